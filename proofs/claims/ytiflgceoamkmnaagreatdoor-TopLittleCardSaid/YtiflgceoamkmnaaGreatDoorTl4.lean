/-
  The statement that the last part names, proved; and all that it stands on that is not in the parts ahead. Conditions: those stated at each.
-/
import Derived.Test.YtiflgceoamkmnaaGreatDoorRows
import Derived.Test.YtiflgceoamkmnaaGreatDoorCards
import Derived.Test.YtiflgceoamkmnaaGreatDoorTie
import Derived.WalkKit
import Derived.ProofKit
import Derived.OpenShut
import Derived.LaidMore
import Derived.Stop.Joined
import Derived.Stop.LaidErr
import Derived.SevenTiedAt
import Derived.Test.YtiflgceoamkmnaaGreatDoorTl3
set_option linter.unusedVariables false
set_option maxRecDepth 100000
namespace Go.Proofs.YtiflgceoamkmnaaGreatDoor
open Go Go.Vc
theorem elRow:ElT Tryz.prog 129 26 1 24:=.of (by kernel_rfl) (by kernel_rfl) (by decide)
def encR (r:TRow Nd):List Value:=[rowV r]
theorem encR_len (r:TRow Nd):(encR r).length=1:=rfl
structure StkR (h:Hp)(a:Option Addr)(n c:Nat)(R:List (TRow Nd)):Prop where
 s:SlP encR h a n R
 c:n≤c
 r:∀ r ∈ R,NS h r.1.1 r.2.length r.1.2 r.2
theorem rev_top {α β:Type}{f:α→β}{R:List α}{z:β}{s:List β}(h:(R.map f).reverse=z :: s):∃ r,R=R.take (R.length - 1)++[r]∧f r=z∧((R.take (R.length - 1)).map f).reverse=s∧1≤R.length∧R[R.length - 1]?=some r:=by
 have h1:R.map f=s.reverse++[z]:=by rw [←List.reverse_reverse (R.map f),h,List.reverse_cons]
 have hlen:R.length=s.length+1:=by have:=congrArg List.length h1;simpa using this
 have hx:R[R.length - 1]?=some (R[R.length - 1]'(by omega)):=List.getElem?_eq_getElem (by omega)
 refine⟨_,?_,?_,?_,by omega,hx⟩
 ·have:=List.take_append_drop (R.length - 1) R
  rw [List.drop_eq_getElem_cons (by omega),show R.length - 1+1=R.length by omega,List.drop_length] at this
  exact this.symm
 ·have:(R.map f)[R.length - 1]?=some z:=by rw [h1,List.getElem?_append_right (by simp;omega)];simp [hlen]
  rw [List.getElem?_map,hx] at this
  simpa using this
 ·rw [List.map_take,h1,List.take_left' (by simp;omega),List.reverse_reverse]
section
variable {a:Option Addr}{m c:Nat}{l:List Nd}{h:Hp}
structure Stp (l:List Nd)(F:List (List Nd)→Nat→Prop):Prop where
 z:F [] 0
 len:∀ s i,F s i→s.length≤i
 stp:∀ s i n,F s i→l[i]?=some n→(arI n.op=0∧F ([n] :: s) (i+1)) ∨
  (arI n.op=1∧∃ z s',s=z :: s'∧∀(a:Option Addr) (m c:Nat) (h:Hp) (R:Value→Hp→Prop),NS h a m c z→(∀ a' n' c' h' y,h.le h'→NS h' a' n' c' y→F (y :: s') (i+1)→R (vsl a' n' c') h')→CallOK Tryz.prog 65 [vi n.op,vsl a m c] h R) ∨
  (arI n.op=2∧∃ z z' s',s=z' :: z :: s'∧∀(a:Option Addr) (m c:Nat) (a2:Option Addr) (m2 c2:Nat) (h:Hp) (R:Value→Hp→Prop),NS h a m c z→NS h a2 m2 c2 z'→(∀ a' n' c' h' y,h.le h'→NS h' a' n' c' y→F (y :: s') (i+1)→R (vsl a' n' c') h')→CallOK Tryz.prog 66 [vi n.op,vsl a m c,vsl a2 m2 c2] h R)
theorem fold_Fold_gen {F0S:List (List Nd)→Nat→Prop}{Z:List Nd→Prop}(S:SlP encN h a m l)(H:Stp l F0S)(hz:∀ s,F0S s l.length→∃ z,s=[z]∧Z z)(hm:l.length≤100000){R:Value→Hp→Prop}
  (hK:∀ a' n' c' h' z,h.le h'→NS h' a' n' c' z→Z z→R (vsl a' n' c') h'):CallOK Tryz.prog 31 [vsl a m c] h R:=by
 refine ok_fold_Fold ?_
 unfold VC_fold_Fold
 obtain rfl:=S.1
 refine⟨fun vs hh=>∃(i:Nat) (a:Option Addr) (c:Nat) (Q:List (TRow Nd)),vs=[vsl a Q.length c,vi i]∧i≤l.length∧h.le hh∧StkR hh a Q.length c Q∧F0S (Q.map Prod.snd).reverse i,fun vs hh=>l.length - (vint vs 1).toNat,
  ⟨0,none,0,[],rfl,Nat.zero_le _,Hp.le_refl h,⟨⟨rfl,.inl rfl⟩,Nat.le_refl _,fun r hr=>by cases hr⟩,H.z⟩,?_⟩
 rintro vs hh ⟨i,a1,c1,Q,rfl,hi,hle,SQ,F⟩
 refine⟨_,_,_,_,rfl,fun g=>?_,fun g=>?_⟩
 ·have hlt:i < l.length:=by have:=of_decide_eq_true g;omega
  have hx:l[i]?=some l[i]:=List.getElem?_eq_getElem hlt
  obtain⟨b,o,ha,hr⟩:=(S.le hle).get encN_len (by decide) hx
  have st:=H.stp _ _ _ F hx
  have fl:=H.len _ _ F
  rw [List.length_reverse,List.length_map] at fl
  generalize l[i]=n at *
  refine⟨b,o,⟨ha,by omega,by omega⟩,_,_,_,_,_,_,hr,expr_Arity_ok ⟨_,rfl,?_⟩⟩
  have hsz:szT Tryz.prog 26=1:=by kernel_rfl
  have hcap:=SQ.c
  -- what is behind a node's own is put there
  have fin:∀(kk:Nat),kk≤Q.length→∀(z:List Nd) (a46:Option Addr) (n46 c46:Nat) (h47:Hp),hh.le h47→NS h47 a46 n46 c46 z→F0S (z :: ((Q.take kk).map Prod.snd).reverse) (i+1) →
    (∃(a48:Option Addr) (n48 c48:Nat),(Rd Tryz.prog (Instr.sliceAt 129 (vsl a1 Q.length c1) none (some (vi kk)) (some (vi kk))) h47 (vsl a48 n48 c48))∧(∀(b49:Nat),h47 b49=none→let h50:Hp:=Hp.set h47 b49 (cellsO [(vsl a46 n46 c46)] 26);(SemOK Tryz.prog (Builtin.append_ #[129,129] 129 #[(vsl a48 n48 c48),(vsl (some (⟨b49,0,none⟩:Addr)) 1 1)]) h50 fun v51 h52=>∃(a53:Option Addr) (n53 c53:Nat),v51=(vsl a53 n53 c53)∧(∃(x55:Int),(IsW x55 ((i:Int)+1))∧((∃(i:Nat) (a:Option Addr) (c:Nat) (Q:List (TRow Nd)),[(vsl a53 n53 c53),(vi x55)]=[vsl a Q.length c,vi i]∧i≤l.length∧h.le h52∧StkR h52 a Q.length c Q∧F0S (Q.map Prod.snd).reverse i)∧l.length - (vint [(vsl a53 n53 c53),(vi x55)] 1).toNat < l.length - (vint [vsl a1 Q.length c1,vi i] 1).toNat))))):=by
   intro kk hkk z a46 n46 c46 h47 l47 SZ FZ
   obtain rfl:=SZ.s.1
   refine⟨_,_,_,rd_slice_hm (e:=26) (by kernel_rfl) (by kernel_rfl) (by omega) (Int.le_refl _) (by omega),fun b49 hb49=>?_⟩
   intro h50
   rw [Int.toNat_natCast]
   have l50:h47.le h50:=Hp.le_set (Hp.le_refl h47) hb49 _
   have SK:=(SQ.s.le (Hp.le_trans l47 l50)).take encR_len hkk
   have hfl:((Q.take kk).flatMap encR).length=kk*1:=by rw [flatMap_length encR_len,←SK.1]
   refine sem_append_full elRow SK.2 hfl (fun hn=>?_) (HasRow.new _ _ [vsl a46 z.length c46] _) (m:=1) rfl (Nat.succ_pos 0) (by omega) (by omega) fun a' c' h' O'=>⟨_,_,_,rfl,_,isW (by unfold InR;omega),⟨i+1,a',c',Q.take kk++[((a46,c46),z)],?_,by omega,?_,⟨?_,?_,?_⟩,?_⟩,by simp [vint];omega⟩
   ·rcases SK.2 with h1|⟨b',o',h1,_⟩
    ·rw [h1] at hfl;simp at hfl;omega
    ·rw [hn] at h1;cases h1
   ·rw [List.length_append,←SK.1];rfl
   ·exact Hp.le_trans (Hp.le_trans (Hp.le_trans hle l47) l50) O'.le
   ·have:(Q.take kk++[((a46,c46),z)]).flatMap encR=(Q.take kk).flatMap encR++[vsl a46 z.length c46]:=by rw [List.flatMap_append];rfl
    rw [←this] at O'
    have:=OwnV.slp encR_len (by decide) O'
    rw [List.length_append,←SK.1]
    exact this
   ·rw [List.length_append,←SK.1]
    exact O'.own.cap
   ·intro r hr
    rcases List.mem_append.1 hr with h1|h1
    ·exact(SQ.r r (List.mem_of_mem_take h1)).le (Hp.le_trans (Hp.le_trans l47 l50) O'.le)
    ·rw [List.mem_singleton] at h1
     subst h1
     exact SZ.le (Hp.le_trans l50 O'.le)
   ·rw [List.map_append,List.reverse_append]
    exact FZ
  have own:∀(kk:Nat),kk≤Q.length→Rd Tryz.prog (Instr.sliceAt 129 (vsl a1 Q.length c1) (some (vi kk)) none none) hh (vsl (cutA a1 kk c1 1) (Q.length - kk) (c1 - kk))∧SlP encR hh (cutA a1 kk c1 1) (Q.length - kk) (Q.drop kk):=by
   intro kk hkk
   have:=rd_slice_l (P:=Tryz.prog) (h:=hh) (t:=129) (e:=26) (by kernel_rfl) (by kernel_rfl) (a:=a1) (n:=Q.length) (c:=c1) (x:=(kk:Int)) (by omega) (by omega)
   rw [hsz,Int.toNat_natCast] at this
   exact⟨this,SQ.s.drop encR_len hkk hcap⟩
  rcases st with ⟨h0,F0⟩|⟨h1,z,s',hs,C1⟩|⟨h2,z,z',s',hs,C2⟩
  ·rw [h0]
   refine⟨(Q.length:Nat),by have:=isW (e:=((Q.length:Nat):Int) - 0) (by unfold InR;omega);rw [Int.sub_zero] at this ⊢;exact this,_,_,_,(own Q.length (Nat.le_refl _)).1,fun _=>?_,fun g=>?_⟩
   ·intro b23 hb23 h24
    refine fin Q.length (Nat.le_refl _) [n] _ _ _ h24 (Hp.le_set (Hp.le_refl hh) hb23 _) ⟨⟨rfl,HasRow.new _ _ (encN n) _⟩,Nat.le_refl _⟩ ?_
    rw [List.take_length]
    exact F0
   ·exfalso
    have:=of_decide_eq_false g
    omega
  ·obtain⟨r,eQ,er,es,hQ1,hr1⟩:=rev_top hs
   rw [h1]
   refine⟨((Q.length - 1:Nat):Int),by have:=isW (e:=((Q.length:Nat):Int) - 1) (by unfold InR;omega);rw [show ((Q.length:Nat):Int) - 1=((Q.length - 1:Nat):Int) by omega] at this ⊢;exact this,_,_,_,(own (Q.length - 1) (by omega)).1,fun g=>?_,fun g=>⟨fun _=>?_,fun g=>?_⟩⟩
   ·exfalso
    have:=of_decide_eq_true g
    omega
   ·have S1:=(own (Q.length - 1) (by omega)).2
    obtain⟨b1,o1,ha1,hc1⟩:=S1.get encR_len (by decide) (i:=0) (x:=r) (by rw [List.getElem?_drop];exact hr1)
    have NR:=SQ.r r (List.mem_of_getElem? hr1)
    refine⟨b1,o1,⟨ha1,by decide,by omega⟩,_,_,_,Hp.row_cell hc1 (i:=0) rfl,?_⟩
    rw [er] at NR ⊢
    refine C1 _ _ _ _ _ NR fun a' n' c' h' y l' SY Y=>⟨_,_,_,rfl,?_⟩
    refine fin (Q.length - 1) (by omega) y _ _ _ _ l' SY ?_
    rw [es]
    exact Y
   ·exfalso
    have:=of_decide_eq_false g
    omega
  ·obtain⟨r',eQ,er',es',hQ1,hr1⟩:=rev_top hs
   obtain⟨r,eQ2,er,es,hQ2,hr2⟩:=rev_top es'
   rw [List.length_take] at eQ2 es hQ2 hr2
   have e2:min (Q.length - 1) Q.length - 1=Q.length - 2:=by omega
   rw [e2] at eQ2 es hr2
   rw [List.take_take,show min (Q.length - 2) (Q.length - 1)=Q.length - 2 by omega] at es
   rw [List.getElem?_take,if_pos (by omega)] at hr2
   rw [h2]
   refine⟨((Q.length - 2:Nat):Int),by have:=isW (e:=((Q.length:Nat):Int) - 2) (by unfold InR;omega);rw [show ((Q.length:Nat):Int) - 2=((Q.length - 2:Nat):Int) by omega] at this ⊢;exact this,_,_,_,(own (Q.length - 2) (by omega)).1,fun g=>?_,fun g=>⟨fun g=>?_,fun g=>?_⟩⟩
   ·exfalso
    have:=of_decide_eq_true g
    omega
   ·exfalso
    have:=of_decide_eq_true g
    omega
   ·have S1:=(own (Q.length - 2) (by omega)).2
    obtain⟨b1,o1,ha1,hc1⟩:=S1.get encR_len (by decide) (i:=0) (x:=r) (by rw [List.getElem?_drop];exact hr2)
    obtain⟨b2,o2,ha2,hc2⟩:=S1.get encR_len (by decide) (i:=1) (x:=r') (by rw [List.getElem?_drop,show Q.length - 2+1=Q.length - 1 by omega];exact hr1)
    have NR:=SQ.r r (List.mem_of_getElem? hr2)
    have NR':=SQ.r r' (List.mem_of_getElem? hr1)
    refine⟨b1,o1,⟨ha1,by decide,by omega⟩,_,_,_,Hp.row_cell hc1 (i:=0) rfl,b2,o2,⟨ha2,by decide,by omega⟩,_,_,_,Hp.row_cell hc2 (i:=0) rfl,?_⟩
    rw [er] at NR ⊢
    rw [er'] at NR' ⊢
    refine C2 _ _ _ _ _ _ _ _ NR NR' fun a' n' c' h' y l' SY Y=>⟨_,_,_,rfl,?_⟩
    refine fin (Q.length - 2) (by omega) y _ _ _ _ l' SY ?_
    rw [es]
    exact Y
 ·have hge:i=l.length:=by have:=of_decide_eq_false g;omega
  subst hge
  obtain⟨z,hz,A⟩:=hz _ F
  obtain⟨r,eQ,er,es,hQ1,hr1⟩:=rev_top hz
  have hQ:Q.length=1:=by have:=congrArg List.length hz;simpa using this
  rw [hQ] at hr1
  obtain⟨b1,o1,ha1,hc1⟩:=SQ.s.get encR_len (by decide) (i:=0) (x:=r) hr1
  have NR:=SQ.r r (List.mem_of_getElem? hr1)
  refine⟨b1,o1,⟨ha1,by decide,by omega⟩,_,_,_,Hp.row_cell hc1 (i:=0) rfl,?_⟩
  rw [er] at NR ⊢
  exact hK _ _ _ _ _ hle NR A
theorem fold_Fold_ok (S:SlP encN h a m l)(O:OkE l)(hm:l.length≤100000){R:Value→Hp→Prop}
  (hK:∀ a' n' c' h' z,h.le h'→NS h' a' n' c' z→Rep (fun ev=>valE ev l) (tAt l (l.length - 1)) l.length z→R (vsl a' n' c') h'):CallOK Tryz.prog 31 [vsl a m c] h R:=by
 refine fold_Fold_gen (F0S:=FStk l) S ⟨.nil,fun s i F=>F.len,fun s i n F hn=>?_⟩ (fun s F=>F.done O) hm hK
 have hi:=F.all
 rcases F.step O hn with h0|⟨h1,z,s',P,T,k,hs,hk,A,F1⟩|⟨h2,z,z',s',P,T,k,Q2,U,j,hs,hk,A,B,F2⟩
 ·exact .inl h0
 ·exact .inr (.inl ⟨h1,z,s',hs,fun a m c h R N hR=>fold_single_ok h1 N A (by omega) fun a' n' c' h' y l' SY Y=>hR _ _ _ _ _ l' SY (F1 y Y)⟩)
 ·exact .inr (.inr ⟨h2,z,z',s',hs,fun a m c a2 m2 c2 h R N N' hR=>fold_double_ok h2 N A (by omega) N' B (by omega) fun a' n' c' h' y l' SY Y=>hR _ _ _ _ _ l' SY (F2 y Y)⟩)
end
structure FoldQ (q qf:Qy):Prop where
 sz:qf.size=q.size
 sl:qf.slide=q.slide
 de:qf.delay=q.delay
 la:qf.late=q.late
 an:qf.aggs.length=q.aggs.length
 ag:∀(i:Nat) (a b:Ag),q.aggs[i]?=some a→qf.aggs[i]?=some b→b.1=a.1∧(a.1=1→b.2=[])∧(a.1≠1→Rep (fun e=>valE e a.2) (tAt a.2 (a.2.length - 1)) a.2.length b.2)
 w0:q.wh=[]→qf.wh=[]
 w1:q.wh≠[]→Rep (fun e=>valE e q.wh) (tAt q.wh (q.wh.length - 1)) q.wh.length qf.wh
 b0:q.by_=[]→qf.by_=[]
 b1:q.by_≠[]→Rep (fun e=>valE e q.by_) (tAt q.by_ (q.by_.length - 1)) q.by_.length qf.by_
theorem FoldQ.wn {q qf:Qy}(F:FoldQ q qf):qf.wh=[]↔q.wh=[]:=by
 constructor
 ·intro h
  refine Decidable.byContradiction fun q'=>?_
  have:=(F.w1 q').pos
  rw [h] at this
  exact absurd this (Nat.lt_irrefl 0)
 ·exact F.w0
theorem FoldQ.bn {q qf:Qy}(F:FoldQ q qf):qf.by_=[]↔q.by_=[]:=by
 constructor
 ·intro h
  refine Decidable.byContradiction fun q'=>?_
  have:=(F.b1 q').pos
  rw [h] at this
  exact absurd this (Nat.lt_irrefl 0)
 ·exact F.b0
theorem evalO_ok {l:List Nd}(O:OkE l)(hl:l.length≤1000000){a:Option Addr}{n c:Nat}{h:Hp}(S:SlP encN h a n l){e:EvL}{R:Value→Hp→Prop}(hK:∀ h',h.le h'→R (vag (encV (valE e l))) h'):CallOK Tryz.prog 45 [vsl a n c,vag (encE e)] h R:=
 expr_Eval_ok S O.wf (by have:=O.pos;omega) (by omega) hK
structure EngM (hi h:Hp)(g:Nat)(cs:List Value)(ar:Option Addr)(cr:Nat)(rd:List Nat)(aw:Option Addr)(wn cw:Nat)(ws:List Value):Prop where
 blk:h g=some (cellsO cs 64)
 gn:hi g=none
 r:OwnV hi h 3 1 ar rd.length cr (rd.map fun n:Nat=>vi n)
 w:OwnV hi h 74 5 aw wn cw ws
 rg:ar≠some ⟨g,0,none⟩
 wg:aw≠some ⟨g,0,none⟩
 rw_:∀ b,ar=some ⟨b,0,none⟩→aw≠some ⟨b,0,none⟩
section
variable {hi h:Hp}{g:Nat}{cs:List Value}{ar:Option Addr}{cr:Nat}{rd:List Nat}{aw:Option Addr}{wn cw:Nat}{ws:List Value}
theorem EngM.le0 (M:EngM hi h g cs ar cr rd aw wn cw ws):hi.le h:=M.r.le
theorem EngM.le {h':Hp}(M:EngM hi h g cs ar cr rd aw wn cw ws)(l:h.le h'):EngM hi h' g cs ar cr rd aw wn cw ws:=
 ⟨l _ _ M.blk,M.gn,M.r.mono l,M.w.mono l,M.rg,M.wg,M.rw_⟩
theorem own_al {h0 h:Hp}{e:TypeId}{sz n c:Nat}{a:Option Addr}{xs:List Value}(O:OwnV h0 h e sz a n c xs){b:Nat}(hb:a=some ⟨b,0,none⟩):h b≠none:=(OwnF.fp e sz a n c xs).al (⟨O.own,rfl⟩:OwnF e sz a n c xs h (fun b=>a=some ⟨b,0,none⟩)) b hb
theorem EngM.rebase (M:EngM hi h g cs ar cr rd aw wn cw ws):∃ hj:Hp,hi.le hj∧EngM hj h g cs ar cr rd aw wn cw ws∧∀ b o,h b=some o→b≠g→ar≠some ⟨b,0,none⟩→aw≠some ⟨b,0,none⟩→hj b=some o:=by
 have e1:∀ b,(b=g∨ar=some ⟨b,0,none⟩∨aw=some ⟨b,0,none⟩)→(fun b=>if b=g∨ar=some ⟨b,0,none⟩∨aw=some ⟨b,0,none⟩ then none else h b:Hp) b=none:=fun b hb=>if_pos hb
 have e2:∀ b,¬(b=g∨ar=some ⟨b,0,none⟩∨aw=some ⟨b,0,none⟩)→(fun b=>if b=g∨ar=some ⟨b,0,none⟩∨aw=some ⟨b,0,none⟩ then none else h b:Hp) b=h b:=fun b hb=>if_neg hb
 generalize (fun b=>if b=g∨ar=some ⟨b,0,none⟩∨aw=some ⟨b,0,none⟩ then none else h b:Hp)=hj at e1 e2
 have lj:Hp.le hj h:=fun b o ho=>by
  by_cases q:b=g∨ar=some ⟨b,0,none⟩∨aw=some ⟨b,0,none⟩
  ·rw [e1 b q] at ho;cases ho
  ·rw [e2 b q] at ho;exact ho
 refine⟨hj,fun b o ho=>?_,⟨M.blk,e1 g (.inl rfl),⟨lj,M.r.own,fun b hb=>e1 b (.inr (.inl hb))⟩,⟨lj,M.w.own,fun b hb=>e1 b (.inr (.inr hb))⟩,M.rg,M.wg,M.rw_⟩,fun b o ho n1 n2 n3=>(e2 b (by
  rintro(q|q|q)
  ·exact n1 q
  ·exact n2 q
  ·exact n3 q)).trans ho⟩
 refine(e2 b ?_).trans (M.le0 b o ho)
 rintro(q|q|q)
 ·rw [q,M.gn] at ho;cases ho
 ·rw [M.r.new b q] at ho;cases ho
 ·rw [M.w.new b q] at ho;cases ho
theorem EngM.rebase_new {h1:Hp}(M:EngM hi h g cs ar cr rd aw wn cw ws)(l:h.le h1):∃ hj:Hp,hi.le hj∧EngM hj h1 g cs ar cr rd aw wn cw ws∧(∀(a:Option Addr) (xs:List Value),HasRow h1 a xs→(∀ b o,a=some ⟨b,o,none⟩→h b=none)→HasRow hj a xs)∧∀ b o,h1 b=some o→h b=none→hj b=some o:=by
 obtain⟨hj,l1,M1,k1⟩:=(M.le l).rebase
 have key:∀ b o,h1 b=some o→h b=none→hj b=some o:=fun b o ho hn=>k1 b o ho (fun q=>by rw [q,M.blk] at hn;cases hn) (fun q=>own_al M.r q hn) (fun q=>own_al M.w q hn)
 refine⟨hj,l1,M1,fun a xs H hn=>HasRow.over H fun b o ob hb ho=>key b ob ho (hn b o hb),key⟩
theorem EngM.put (M:EngM hi h g cs ar cr rd aw wn cw ws){j:Nat}{v:Value}(hj:j < cs.length){K:Hp→Prop}(hK:∀ h',EngM hi h' g (cs.set j v) ar cr rd aw wn cw ws→K h'):h.store g j [v] K:=by
 refine store_cells M.blk (by simp only [List.length_singleton];omega) ?_
 rw [setL_one _ _ _ hj]
 refine hK _ ⟨Hp.set_same _ _ _,M.gn,OwnV.apart M.r (fun b o ho=>?_) (fun b o hb ho=>?_),OwnV.apart M.w (fun b o ho=>?_) (fun b o hb ho=>?_),M.rg,M.wg,M.rw_⟩
 ·exact(Hp.set_other h _ (fun q=>by rw [q,M.gn] at ho;cases ho)).trans (M.le0 b o ho)
 ·exact(Hp.set_other h _ (fun q=>M.rg (by rw [hb,q]))).trans ho
 ·exact(Hp.set_other h _ (fun q=>by rw [q,M.gn] at ho;cases ho)).trans (M.le0 b o ho)
 ·exact(Hp.set_other h _ (fun q=>M.wg (by rw [hb,q]))).trans ho
theorem EngM.read (M:EngM hi h g cs ar cr rd aw wn cw ws){p:Nat}{x:Nat}(hp:p < rd.length):∃ b,ar=some ⟨b,0,none⟩∧h.cell b (0+p*1)=some (vi (rd.getD p 0:Nat))∧∀ K:Hp→Prop,(∀ h',EngM hi h' g cs ar cr (rd.set p x) aw wn cw ws→K h')→h.store b (0+p*1) [vi (x:Int)] K:=by
 have S:SlI h ar rd.length (rd.map fun n:Nat=>(n:Int)):=by
  have:=M.r
  rw [show (rd.map fun n:Nat=>vi n)=(rd.map fun n:Nat=>(n:Int)).map vi by rw [List.map_map];rfl] at this
  exact this.sli
 obtain⟨b,o,ea,hc⟩:=S.get hp
 have ho:=M.r.own.at0 b o ea
 subst ho
 have hg:(rd.map fun n:Nat=>(n:Int)).getD p 0=((rd.getD p 0:Nat):Int):=by
  rw [List.getD_eq_getElem?_getD,List.getD_eq_getElem?_getD,List.getElem?_map,List.getElem?_eq_getElem hp];rfl
 rw [hg] at hc
 refine⟨b,ea,hc,fun K hK=>?_⟩
 have O:OwnV hi h 3 1 ar rd.length cr ((rd.map fun n:Nat=>(n:Int)).map vi):=by rw [List.map_map];exact M.r
 refine O.store_i (x:=(x:Int)) hp ea fun ob O'=>hK _ ?_
 have e:((rd.map fun n:Nat=>(n:Int)).set p (x:Int)).map vi=(rd.set p x).map fun n:Nat=>vi n:=by rw [←List.map_set,List.map_map];rfl
 rw [e] at O'
 have hbg:g≠b:=fun q=>M.rg (by rw [ea,q])
 refine⟨(Hp.set_other h _ hbg).trans M.blk,M.gn,by rw [List.length_set];exact O',OwnV.apart M.w O'.le (fun b' o hb ho=>(Hp.set_other h _ (fun q=>M.rw_ b ea (by rw [hb,q]))).trans ho),M.rg,M.wg,M.rw_⟩
theorem elRowW:ElT Tryz.prog 62 74 5 56:=.of (by kernel_rfl) (by kernel_rfl) (by decide)
theorem EngM.rows (M:EngM hi h g cs ar cr rd aw wn cw ws){m b:Nat}{news:List Value}(hb:h b=none)(hl:news.length=m*5)(h1:∀ u ∈ news,u.oneCell'=true)(hn:wn+m≤100000000){ty:TypeId}{K:Value→Hp→Prop}
  (hK:∀ aw' cw' h',EngM hi h' g cs ar cr rd aw' (wn+m) cw' (ws++news)→K (vsl aw' (wn+m) cw') h') :
  SemOK Tryz.prog (Builtin.append_ #[62,62] ty #[vsl aw wn cw,vsl (some ⟨b,0,none⟩) m m]) (h.set b (cellsO news 74)) K:=by
 have M1:=M.le (Hp.le_set (Hp.le_refl h) hb (cellsO news 74))
 refine OwnV.append elRowW M1.w (HasRow.new _ _ news _) hl h1 (by omega) (by omega) fun a' c' h' O' k1 k2=>hK a' c' h' ?_
 refine⟨k1 g _ M1.blk M.wg,M.gn,OwnV.apart M1.r O'.le (fun b' o hb' ho=>k1 b' o ho (M.rw_ b' hb')),O',M.rg,fun q=>?_,fun b' hb' q=>?_⟩
 ·rcases k2 g q with e|e
  ·exact M.wg (e.trans q)
  ·rw [M1.blk] at e;cases e
 ·rcases k2 b' q with e|e
  ·exact M.rw_ b' hb' (e.trans q)
  ·exact own_al M1.r hb' e
end
def rwRow (b:Bool × PK)(v:Value):List Value:=[vb b.1,vi b.2.1,vi b.2.2.1,vi b.2.2.2,v]
theorem rwRow_len (b:Bool × PK)(v:Value):(rwRow b v).length=5:=rfl
def rowG (w:Rw):(Bool × PK) × List Vl:=((w.1,w.2.1),w.2.2)
def pnT (ks:List Int)(p:Pn):PK × List AcS × Bool:=(p.k,accsOf ks p.rs,p.t)
def engC (a1:Option Addr)(n1 c1:Nat)(a2:Option Addr)(n2 c2:Nat)(a3:Option Addr)(n3 c3:Nat)(qf:Qy)(ak:Option Addr)(nk ck:Nat)(ar:Option Addr)(nr cr:Nat)(ac:Option Addr)(nc cc:Nat)(tb:Option Addr)(tn tc:Nat)(late:Nat)(aw:Option Addr)(wn cw:Nat):List Value:=
 [vsl a1 n1 c1,vsl a2 n2 c2,vsl a3 n3 c3,vi qf.size,vi qf.slide,vi qf.delay,vi qf.late,vsl ak nk ck,vsl ar nr cr,vsl ac nc cc,vsl tb tn tc,vi (late:Nat),vsl aw wn cw]
structure EngI (q qf:Qy)(hi:Hp)(a1:Option Addr)(n1:Nat)(a2:Option Addr)(n2:Nat)(a3:Option Addr)(n3:Nat)(ak:Option Addr)(nk:Nat)(ac:Option Addr)(nc:Nat)(tb:Option Addr)(R:List PR)(RW:List (GRow Vl (Bool × PK)))(st:En):Prop where
 f:FoldQ q qf
 qa:QAt hi qf a1 n1 a2 n2 a3 n3
 k:SlI hi ak nk (kindsQ q)
 c:SlI hi ac nc st.far
 t:Tb hi tb R
 p:R.map prT=st.pn.map (pnT (kindsQ q))
 w:growL RW=st.rows.map rowG
 wi:∀ r ∈ RW,HasRow hi r.2.1.1 (r.2.2.flatMap encV)
theorem EngI.le {q qf:Qy}{hi hj:Hp}{a1:Option Addr}{n1:Nat}{a2:Option Addr}{n2:Nat}{a3:Option Addr}{n3:Nat}{ak:Option Addr}{nk:Nat}{ac:Option Addr}{nc:Nat}{tb:Option Addr}{R:List PR}{RW:List (GRow Vl (Bool × PK))}{st:En}(I:EngI q qf hi a1 n1 a2 n2 a3 n3 ak nk ac nc tb R RW st)(l:hi.le hj):EngI q qf hj a1 n1 a2 n2 a3 n3 ak nk ac nc tb R RW st:=
 ⟨I.f,I.qa.le l,I.k.le l,I.c.le l,I.t.le l,I.p,I.w,fun r hr=>(I.wi r hr).le l⟩
def EngX (q:Qy)(h0 h:Hp)(g:Nat)(st:En):Prop:=
 ∃(qf:Qy) (hi:Hp) (a1:Option Addr) (n1 c1:Nat) (a2:Option Addr) (n2 c2:Nat) (a3:Option Addr) (n3 c3:Nat) (ak:Option Addr) (nk ck:Nat) (ar:Option Addr) (cr:Nat) (ac:Option Addr) (nc cc:Nat) (tb:Option Addr) (tc:Nat) (aw:Option Addr) (cw:Nat) (R:List PR) (RW:List (GRow Vl (Bool × PK))),
  h0.le hi∧EngM hi h g (engC a1 n1 c1 a2 n2 c2 a3 n3 c3 qf ak nk ck ar st.rd.length cr ac nc cc tb R.length tc st.late aw RW.length cw) ar cr st.rd aw RW.length cw (RW.flatMap (growV rwRow))∧EngI q qf hi a1 n1 a2 n2 a3 n3 ak nk ac nc tb R RW st
theorem EngX.le {q:Qy}{h0 h h':Hp}{g:Nat}{st:En}(X:EngX q h0 h g st)(l:h.le h'):EngX q h0 h' g st:=by
 obtain⟨qf,hi,a1,n1,c1,a2,n2,c2,a3,n3,c3,ak,nk,ck,ar,cr,ac,nc,cc,tb,tc,aw,cw,R,RW,l0,M,I⟩:=X
 exact⟨qf,hi,a1,n1,c1,a2,n2,c2,a3,n3,c3,ak,nk,ck,ar,cr,ac,nc,cc,tb,tc,aw,cw,R,RW,l0,M.le l,I⟩
theorem EngX.le0 {q:Qy}{h0 h:Hp}{g:Nat}{st:En}(X:EngX q h0 h g st):h0.le h:=by
 obtain⟨qf,hi,a1,n1,c1,a2,n2,c2,a3,n3,c3,ak,nk,ck,ar,cr,ac,nc,cc,tb,tc,aw,cw,R,RW,l0,M,I⟩:=X
 exact Hp.le_trans l0 M.le0
theorem prT_keys {ks:List Int}{R:List PR}{L:List Pn}(h:R.map prT=L.map (pnT ks)):R.map (·.k)=L.map (·.k):=by
 have:=congrArg (List.map Prod.fst) h
 rw [List.map_map,List.map_map] at this
 exact this
theorem prT_at {ks:List Int}{R:List PR}{L:List Pn}(h:R.map prT=L.map (pnT ks)){i:Nat}{r:PR}(hr:R[i]?=some r):∃ p,L[i]?=some p∧r.k=p.k∧r.acs=accsOf ks p.rs∧r.t=p.t:=by
 have h1:(R.map prT)[i]?=some (prT r):=by rw [List.getElem?_map,hr];rfl
 rw [h,List.getElem?_map,Option.map_eq_some_iff] at h1
 obtain⟨p,hp,e⟩:=h1
 simp only [pnT,prT,Prod.mk.injEq] at e
 exact⟨p,hp,e.1.symm,e.2.1.symm,e.2.2.symm⟩
theorem putP_in {k:PK}{v:List Vl}:∀{l:List Pn} {i:Nat} {p:Pn},l.Pairwise (fun a b=>aheadK a.k b.k)→l[i]?=some p→p.k=k→putP k v l=l.set i ⟨k,p.rs++[v],p.t⟩
 | [],i,p,_,h,_=>by simp at h
 | x :: l,0,p,hs,h,hk=>by
  simp only [List.getElem?_cons_zero,Option.some.injEq] at h
  subst h
  rw [putP,if_neg (by rw [hk];exact aheadK_irr k),if_pos hk,List.set_cons_zero]
 | x :: l,i+1,p,hs,h,hk=>by
  obtain⟨h1,h2⟩:=List.pairwise_cons.1 hs
  simp only [List.getElem?_cons_succ] at h
  have hx:=h1 p (List.mem_of_getElem? h)
  rw [hk] at hx
  rw [putP,if_pos hx,List.set_cons_succ,putP_in h2 h hk]
theorem putP_new {k:PK}{v:List Vl}:∀{l:List Pn} {i:Nat},i≤l.length→(∀ x ∈ l.take i,aheadK x.k k)→(∀ x,l[i]?=some x→¬ aheadK x.k k)→(∀ x ∈ l,x.k≠k)→putP k v l=l.take i++⟨k,[v],false⟩ :: l.drop i
 | [],0,_,_,_,_=>rfl
 | [],i+1,h,_,_,_=>by simp at h
 | x :: l,0,_,_,h,hn=>by
  rw [putP,if_neg (h x rfl),if_neg (hn x (List.mem_cons_self ..))]
  rfl
 | x :: l,i+1,hi,h1,h,hn=>by
  rw [putP,if_pos (h1 x (by simp)),putP_new (by simpa using hi) (fun y hy=>h1 y (by simp [hy])) (fun y hy=>h y (by simpa using hy)) (fun y hy=>hn y (List.mem_cons_of_mem _ hy))]
  rfl
theorem acs_ok {q:Qy}{parts N:Nat}{st:En}(H:EnB q parts N st)(hN:N≤1000000000){R:List PR}(hp:R.map prT=st.pn.map (pnT (kindsQ q))):∀ r ∈ R,r.acs.length=(kindsQ q).length∧(∀ x ∈ r.acs,AcB x)∧-1000≤r.k.1∧r.k.1≤9999:=by
 intro r hr
 obtain⟨i,hi⟩:=List.getElem?_of_mem hr
 obtain⟨p,hp1,e1,e2,e3⟩:=prT_at hp hi
 obtain⟨q1,q2,q3,q4⟩:=H.pa p (List.mem_of_getElem? hp1)
 have hl:∀ r ∈ p.rs,r.length=(kindsQ q).length:=fun r hr=>by rw [(q4 r hr).l,kindsQ_len]
 rw [e1,e2]
 refine⟨?_,accsOf_small hl (fun r hr=>(q4 r hr).v) (by omega),q2,q3⟩
 have:=congrArg List.length (accsOf_kinds hl)
 rw [List.length_map] at this
 exact this
def VC_slices_Equal_api_Value_api_Value (u0:Option Addr)(u1 u2:Nat)(u3:Option Addr)(u4 u5:Nat)(h:Hp)(R:Value→Hp→Prop):Prop:=
 (((decide ((u1:Int)≠(u4:Int)))=true→R (vb false) h)∧((decide ((u1:Int)≠(u4:Int)))=false→(∃(I3:List Value→Hp→Prop) (m4:List Value→Hp→Nat),I3 [vi 0] h∧∀ vs5 h6,I3 vs5 h6→∃ x7,vs5=[vi x7]∧(((decide (x7 < (u1:Int)))=true→(∃ b10 o11,(u0=some ⟨b10,o11,none⟩∧(0:Int)≤x7∧x7 < (u1:Int))∧(∃ x12 x13,(Hp.row h6 b10 (o11+x7.toNat*2) 2=some [vi x12,vi x13])∧(∃ b14 o15,(u3=some ⟨b14,o15,none⟩∧(0:Int)≤x7∧x7 < (u4:Int))∧(∃ x16 x17,(Hp.row h6 b14 (o15+x7.toNat*2) 2=some [vi x16,vi x17])∧(∃ p18,(Rd Tryz.prog ((eqGuard .neq 41 (.tmp 19) (.tmp 23) (vag [vi x12,vi x13]) (vag [vi x16,vi x17]) >>= fun _=>binOp .neq 41 (vag [vi x12,vi x13]) (vag [vi x16,vi x17]))) h6 (vb p18))∧((p18=true→R (vb false) h6)∧(p18=false→(∃ x20,(IsW x20 (x7+1))∧(I3 [vi x20] h6∧m4 [vi x20] h6 < m4 vs5 h6))))))))))∧((decide (x7 < (u1:Int)))=false→R (vb true) h6)))))
theorem ok_slices_Equal_api_Value_api_Value {u0 u1 u2 u3 u4 u5 h R}(H:VC_slices_Equal_api_Value_api_Value u0 u1 u2 u3 u4 u5 h R):CallOK Tryz.prog 102 [vsl u0 u1 u2,vsl u3 u4 u5] h R:=
 call_of (cfg:=⟨[],[(4,([13],[.one (.int .i64)],[]))],[(6,[0,1,2,3,4,5,6,7,8])]⟩) noNG mixed Tryz.func102 [.one (.v (vsl u0 u1 u2)),.one (.v (vsl u3 u4 u5))] (by kernel_rfl) rfl (by kernel_rfl) H
def VC_engine_Engine_change_1 (u0:Int)(u1:Int)(u2:Int)(u3:Option Addr)(u4 u5:Nat)(u6:Bool)(f_0b f_0o:Nat)(f_1b f_1o:Nat)(h:Hp)(R:Value→Hp→Prop):Prop:=
 (∃ x1,(Hp.cell h f_0b f_0o=some (vi x1))∧(∃ x2 x3,((decide (u0=x1))=true→Hp.row h f_1b f_1o 2=some [vi x2,vi x3])∧(∃ p4,((decide (u0=x1))=true→Rd Tryz.prog ((eqGuard .eql 41 (.tmp 11) (.tmp 12) (vag [vi u1,vi u2]) (vag [vi x2,vi x3]) >>= fun _=>binOp .eql 41 (vag [vi u1,vi u2]) (vag [vi x2,vi x3]))) h (vb p4))∧R (vb (bif (decide (u0=x1)) then p4 else false)) h)))
theorem ok_engine_Engine_change_1 {u0 u1 u2 u3 u4 u5 u6 f_0b f_0o f_1b f_1o h R}(H:VC_engine_Engine_change_1 u0 u1 u2 u3 u4 u5 u6 f_0b f_0o f_1b f_1o h R):CallOK Tryz.prog 101 [vag [vi u0,vi u1,vi u2,vsl u3 u4 u5,vb u6],vhp f_0b f_0o,vhp f_1b f_1o] h R:=
 call_of (cfg:=⟨[],[],[]⟩) noNG mixed Tryz.func101 [.ag [.v (vi u0),.v (vi u1),.v (vi u2),.v (vsl u3 u4 u5),.v (vb u6)],.one (.hp f_0b f_0o),.one (.hp f_1b f_1o)] (by kernel_rfl) rfl (by kernel_rfl) H
def VC_engine_Engine_key (u0 u1:Nat)(u2:Int)(u3:Int)(u4:Int)(u5:Int)(u6:Int)(u7:Int)(u8:Int)(h:Hp)(R:Value→Hp→Prop):Prop:=
 (∃ a1 n1 c1,(Hp.cell h u0 (u1+2)=some (vsl a1 n1 c1))∧(((decide ((n1:Int)=0))=true→(CallOK Tryz.prog 120 [] h fun v2 h3=>∃ x4 x5,v2=(vag [vi x4,vi x5])∧R (vag [vi x4,vi x5]) h3))∧((decide ((n1:Int)=0))=false→(∃ a7 n7 c7,(Hp.cell h u0 (u1+2)=some (vsl a7 n7 c7))∧(CallOK Tryz.prog 45 [vsl a7 n7 c7,vag [vi u2,vi u3,vi u4,vi u5,vi u6,vi u7,vi u8]] h fun v8 h9=>∃ x10 x11,v8=(vag [vi x10,vi x11])∧R (vag [vi x10,vi x11]) h9)))))
theorem ok_engine_Engine_key {u0 u1 u2 u3 u4 u5 u6 u7 u8 h R}(H:VC_engine_Engine_key u0 u1 u2 u3 u4 u5 u6 u7 u8 h R):CallOK Tryz.prog 98 [vhp u0 u1,vag [vi u2,vi u3,vi u4,vi u5,vi u6,vi u7,vi u8]] h R:=
 call_of (cfg:=⟨[],[],[(3,[0,1,2,3,4,5,6,7])]⟩) noNG mixed Tryz.func98 [.one (.hp u0 u1),.ag [.v (vi u2),.v (vi u3),.v (vi u4),.v (vi u5),.v (vi u6),.v (vi u7),.v (vi u8)]] (by kernel_rfl) rfl (by kernel_rfl) H
def VC_engine_Engine_vals (u0 u1:Nat)(u2:Int)(u3:Int)(u4:Int)(u5:Int)(u6:Int)(u7:Int)(u8:Int)(h:Hp)(R:Value→Hp→Prop):Prop:=
 (∃ a1 n1 c1,(Hp.cell h u0 u1=some (vsl a1 n1 c1))∧(∃(I3:List Value→Hp→Prop) (m4:List Value→Hp→Nat),I3 [vsl none 0 0,vi 0] h∧∀ vs5 h6,I3 vs5 h6→∃ a7 n7 c7 x8,vs5=[vsl a7 n7 c7,vi x8]∧(((decide (x8 < (n1:Int)))=true→(let J35:Option Addr→Nat→Nat→Hp→Prop:=fun a38 n38 c38 h39=>(∃ x40,(IsW x40 (x8+1))∧(I3 [vsl a38 n38 c38,vi x40] h39∧m4 [vsl a38 n38 c38,vi x40] h39 < m4 vs5 h6));(∃ b11 o12,(a1=some ⟨b11,o12,none⟩∧(0:Int)≤x8∧x8 < (n1:Int))∧(∃ x13 a14 n14 c14,(Hp.row h6 b11 (o12+x8.toNat*2) 2=some [vi x13,vsl a14 n14 c14])∧(((decide (x13=1))=true→(CallOK Tryz.prog 120 [] h6 fun v15 h16=>∃ x17 x18,v15=(vag [vi x17,vi x18])∧(∀ b19,h16 b19=none→let h20:= Hp.set h16 b19 (cellsO [vi x17,vi x18] 41);(SemOK Tryz.prog (Builtin.append_ #[70,70] 70 #[vsl a7 n7 c7,(vsl (some (⟨b19,0,none⟩:Addr)) 1 1)]) h20 fun v21 h22=>∃ a23 n23 c23,v21=(vsl a23 n23 c23)∧(J35 a23 n23 c23 h22)))))∧((decide (x13=1))=false→(CallOK Tryz.prog 45 [vsl a14 n14 c14,vag [vi u2,vi u3,vi u4,vi u5,vi u6,vi u7,vi u8]] h6 fun v25 h26=>∃ x27 x28,v25=(vag [vi x27,vi x28])∧(∀ b29,h26 b29=none→let h30:= Hp.set h26 b29 (cellsO [vi x27,vi x28] 41);(SemOK Tryz.prog (Builtin.append_ #[70,70] 70 #[vsl a7 n7 c7,(vsl (some (⟨b29,0,none⟩:Addr)) 1 1)]) h30 fun v31 h32=>∃ a33 n33 c33,v31=(vsl a33 n33 c33)∧(J35 a33 n33 c33 h32))))))))))∧((decide (x8 < (n1:Int)))=false→R (vsl a7 n7 c7) h6))))
theorem ok_engine_Engine_vals {u0 u1 u2 u3 u4 u5 u6 u7 u8 h R}(H:VC_engine_Engine_vals u0 u1 u2 u3 u4 u5 u6 u7 u8 h R):CallOK Tryz.prog 100 [vhp u0 u1,vag [vi u2,vi u3,vi u4,vi u5,vi u6,vi u7,vi u8]] h R:=
 call_of (cfg:=⟨[],[(3,([5,14],[.one (.slice),.one (.int .i64)],[]))],[]⟩) noNG mixed Tryz.func100 [.one (.hp u0 u1),.ag [.v (vi u2),.v (vi u3),.v (vi u4),.v (vi u5),.v (vi u6),.v (vi u7),.v (vi u8)]] (by kernel_rfl) rfl (by kernel_rfl) H
def VC_engine_Engine_change (u0 u1:Nat)(u2:Int)(u3:Int)(u4:Int)(u5:Int)(u6:Int)(u7:Int)(u8:Int)(u9:Int)(h:Hp)(R:Value→Hp→Prop):Prop:=
 (∀ b1,h b1=none→let h2:= Hp.set h b1 (cellsO [vi u2] 3);(CallOK Tryz.prog 98 [vhp u0 u1,vag [vi u3,vi u4,vi u5,vi u6,vi u7,vi u8,vi u9]] h2 fun v3 h4=>∃ x5 x6,v3=(vag [vi x5,vi x6])∧(∀ b7,h4 b7=none→let h8:= Hp.set h4 b7 (cellsO [vi 0,vi 0] 41);(Hp.store h8 b7 0 [vi x5,vi x6] fun h9=>(∃ a10 n10 c10,(Hp.row h9 u0 (u1+10) 1=some [vsl a10 n10 c10])∧(∃ x11,(Hp.cell h9 b1 0=some (vi x11))∧(∃ x12 x13,(Hp.row h9 b7 0 2=some [vi x12,vi x13])∧(∃ a14 n14 c14,(Hp.cell h9 u0 (u1+7)=some (vsl a14 n14 c14))∧(CallOK Tryz.prog 100 [vhp u0 u1,vag [vi u3,vi u4,vi u5,vi u6,vi u7,vi u8,vi u9]] h9 fun v15 h16=>∃ a17 n17 c17,v15=(vsl a17 n17 c17)∧((Hp.cell h16 u0 (u1+7)=some (vsl a14 n14 c14))∧((Hp.row h16 b7 0 2=some [vi x12,vi x13])∧((Hp.cell h16 b1 0=some (vi x11))∧((Hp.row h16 u0 (u1+10) 1=some [vsl a10 n10 c10])∧(CallOK Tryz.prog 99 [vag [vsl a10 n10 c10],vi x11,vag [vi x12,vi x13],vsl a14 n14 c14,vsl a17 n17 c17] h16 fun v18 h19=>∃ a20 n20 c20 x21 x22 x23 a24 n24 c24 p25 p26,v18=(vtup [vag [vsl a20 n20 c20],vag [vi x21,vi x22,vi x23,vsl a24 n24 c24,vb p25],vb p26])∧(∀ b27,h19 b27=none→let h28:= Hp.set h19 b27 (cellsO [vsl none 0 0] 61);(∀ b29,h28 b29=none→let h30:= Hp.set h28 b29 (cellsO [vi 0,vi 0,vi 0,vsl none 0 0,vb false] 79);(Hp.store h30 b27 0 [vsl a20 n20 c20] fun h31=>(Hp.store h31 b29 0 [vi x21,vi x22,vi x23,vsl a24 n24 c24,vb p25] fun h32=>(∃ a33 n33 c33,(Hp.row h32 b27 0 1=some [vsl a33 n33 c33])∧(Hp.store h32 u0 (u1+10) [vsl a33 n33 c33] fun h34=>(∃ p35,((!p26)=false→Hp.cell h34 b29 (0+4)=some (vb p35))∧(((bif (!p26) then true else(!p35))=true→R (vtup []) h34)∧((bif (!p26) then true else(!p35))=false→(∃ x37 x38 x39 a40 n40 c40 p41,(Hp.row h34 b29 0 5=some [vi x37,vi x38,vi x39,vsl a40 n40 c40,vb p41])∧(CallOK Tryz.prog 50 [vag [vi x37,vi x38,vi x39,vsl a40 n40 c40,vb p41]] h34 fun v42 h43=>∃ x44 x45 x46 a47 n47 c47,v42=(vag [vi x44,vi x45,vi x46,vsl a47 n47 c47])∧(∃ a48 n48 c48,(Hp.cell h43 b27 0=some (vsl a48 n48 c48))∧(CallOK Tryz.prog 73 [vsl a48 n48 c48,(Value.func (.func 101) #[] #[vhp b1 0,vhp b7 0])] h43 fun v49 h50=>∃ x51,v49=(vi x51)∧(∃ a52 n52 c52,(Hp.cell h50 b27 0=some (vsl a52 n52 c52))∧(∃ b53 o54,(a52=some ⟨b53,o54,none⟩∧(0:Int)≤x51∧x51 < (n52:Int))∧(∃ x55 x56 x57 a58 n58 c58 p59,(Hp.row h50 b53 (o54+x51.toNat*5) 5=some [vi x55,vi x56,vi x57,vsl a58 n58 c58,vb p59])∧(CallOK Tryz.prog 50 [vag [vi x55,vi x56,vi x57,vsl a58 n58 c58,vb p59]] h50 fun v60 h61=>∃ x62 x63 x64 a65 n65 c65,v60=(vag [vi x62,vi x63,vi x64,vsl a65 n65 c65])∧(CallOK Tryz.prog 102 [vsl a47 n47 c47,vsl a65 n65 c65] h61 fun v66 h67=>∃ p68,v66=(vb p68)∧(((!p68)=true→(∃ a69 n69 c69,(Hp.cell h67 u0 (u1+12)=some (vsl a69 n69 c69))∧(∀ b70,h67 b70=none→let h71:= Hp.set h67 b70 (cellsO [vb true,vi x44,vi x45,vi x46,vsl a47 n47 c47,vb false,vi x62,vi x63,vi x64,vsl a65 n65 c65] 74);(SemOK Tryz.prog (Builtin.append_ #[62,62] 62 #[vsl a69 n69 c69,(vsl (some (⟨b70,0,none⟩:Addr)) 2 2)]) h71 fun v72 h73=>∃ a74 n74 c74,v72=(vsl a74 n74 c74)∧(Hp.store h73 u0 (u1+12) [vsl a74 n74 c74] fun h75=>R (vtup []) h75)))))∧((!p68)=false→R (vtup []) h67))))))))))))))))))))))))))))))))))
theorem ok_engine_Engine_change {u0 u1 u2 u3 u4 u5 u6 u7 u8 u9 h R}(H:VC_engine_Engine_change u0 u1 u2 u3 u4 u5 u6 u7 u8 u9 h R):CallOK Tryz.prog 47 [vhp u0 u1,vi u2,vag [vi u3,vi u4,vi u5,vi u6,vi u7,vi u8,vi u9]] h R:=
 call_of (cfg:=⟨[8,7,4,6],[],[(2,[0,1,2,3,4,5,6,7,8,9,10,11,12,13,14,15,16,17,18,19,20,21,22]),(9,[0,1,2,3,4,5,6,7,8,9,10,11,12,13])]⟩) noNG mixed Tryz.func47 [.one (.hp u0 u1),.one (.v (vi u2)),.ag [.v (vi u3),.v (vi u4),.v (vi u5),.v (vi u6),.v (vi u7),.v (vi u8),.v (vi u9)]] (by kernel_rfl) rfl (by kernel_rfl) H
def VC_engine_Engine_Step (u0 u1:Nat)(u2:Int)(u3:Int)(u4:Int)(u5:Int)(u6:Int)(u7:Int)(u8:Int)(u9:Int)(h:Hp)(R:Value→Hp→Prop):Prop:=
 (∃ a1 n1 c1,(Hp.row h u0 (u1+9) 1=some [vsl a1 n1 c1])∧(∃ x2,(Hp.cell h u0 (u1+5)=some (vi x2))∧(CallOK Tryz.prog 44 [vag [vsl a1 n1 c1],vi u2,vi x2] h fun v3 h4=>∃ x5 p6,v3=(vtup [vi x5,vb p6])∧(∃ a7 n7 c7,(Hp.cell h4 u0 (u1+1)=some (vsl a7 n7 c7))∧(∃ a8 n8 c8,((decide ((n7:Int)=0))=false→Hp.cell h4 u0 (u1+1)=some (vsl a8 n8 c8))∧(∃(J9:SV→Hp→Prop),((decide ((n7:Int)=0))=false→(CallOK Tryz.prog 45 [vsl a8 n8 c8,vag [vi u3,vi u4,vi u5,vi u6,vi u7,vi u8,vi u9]] h4 fun v10 h11=>∃ x12 x13,v10=(vag [vi x12,vi x13])∧J9 (.t (.ag [.v (vi x12),.v (vi x13)])) h11))∧(¬((decide ((n7:Int)=0))=false)→J9 (.t (.ag [.v (vi 0),.v (vi 0)])) h4)∧∀ h14 x15 x16,J9 (.t (.ag [.v (vi x15),.v (vi x16)])) h14→(∃(J17:SV→Hp→Prop),((decide ((n7:Int)=0))=false→(CallOK Tryz.prog 32 [vb true] h14 fun v18 h19=>∃ x20 x21,v18=(vag [vi x20,vi x21])∧J17 (.t (.ag [.v (vi x20),.v (vi x21)])) h19))∧(¬((decide ((n7:Int)=0))=false)→J17 (.t (.ag [.v (vi 0),.v (vi 0)])) h14)∧∀ h22 x23 x24,J17 (.t (.ag [.v (vi x23),.v (vi x24)])) h22→(∃ p25,((decide ((n7:Int)=0))=false→Rd Tryz.prog ((eqGuard .eql 41 (.tmp 44) (.tmp 45) (vag [vi x15,vi x16]) (vag [vi x23,vi x24]) >>= fun _=>binOp .eql 41 (vag [vi x15,vi x16]) (vag [vi x23,vi x24]))) h22 (vb p25))∧(let J58:Hp→Prop:=fun h59=>(∃ a60 n60 c60,(Hp.cell h59 u0 (u1+8)=some (vsl a60 n60 c60))∧(∃ b61 o62,(a60=some ⟨b61,o62,none⟩∧(0:Int)≤u2∧u2 < (n60:Int))∧(∃ x63,(Hp.cell h59 b61 (o62+u2.toNat*1)=some (vi x63))∧(∃ x64,(IsW x64 (x63+1))∧(∃ b65 o66,(a60=some ⟨b65,o66,none⟩∧(0:Int)≤u2∧u2 < (n60:Int))∧(Hp.store h59 b65 (o66+u2.toNat*1) [vi x64] fun h67=>(∃ a68 n68 c68,(Hp.row h67 u0 (u1+9) 1=some [vsl a68 n68 c68])∧(CallOK Tryz.prog 48 [vag [vsl a68 n68 c68],vi u2,vi u3] h67 fun v69 h70=>∃ a71 n71 c71,v69=(vag [vsl a71 n71 c71])∧(Hp.store h70 u0 (u1+9) [vsl a71 n71 c71] fun h72=>(∃ a73 n73 c73,(Hp.row h72 u0 (u1+9) 1=some [vsl a73 n73 c73])∧(∃ x74,(Hp.cell h72 u0 (u1+5)=some (vi x74))∧(CallOK Tryz.prog 27 [vag [vsl a73 n73 c73],vi x74] h72 fun v75 h76=>∃ x77 p78,v75=(vtup [vi x77,vb p78])∧(((!p78)=true→R (vtup []) h76)∧((!p78)=false→(∃ a80 n80 c80,(Hp.row h76 u0 (u1+10) 1=some [vsl a80 n80 c80])∧(∃ x81,(Hp.cell h76 u0 (u1+3)=some (vi x81))∧(CallOK Tryz.prog 49 [vag [vsl a80 n80 c80],vi x81,vi x77] h76 fun v82 h83=>∃ a84 n84 c84 a85 n85 c85,v82=(vtup [vag [vsl a84 n84 c84],vsl a85 n85 c85])∧(∃(I87:List Value→Hp→Prop) (m88:List Value→Hp→Nat),I87 [vi 0] h83∧∀ vs89 h90,I87 vs89 h90→∃ x91,vs89=[vi x91]∧(((decide (x91 < (n85:Int)))=true→(∃ b94 o95,(a85=some ⟨b94,o95,none⟩∧(0:Int)≤x91∧x91 < (n85:Int))∧(∃ x96 x97 x98 a99 n99 c99 p100,(Hp.row h90 b94 (o95+x91.toNat*5) 5=some [vi x96,vi x97,vi x98,vsl a99 n99 c99,vb p100])∧(∃ a101 n101 c101,(Hp.cell h90 u0 (u1+12)=some (vsl a101 n101 c101))∧(CallOK Tryz.prog 50 [vag [vi x96,vi x97,vi x98,vsl a99 n99 c99,vb p100]] h90 fun v102 h103=>∃ x104 x105 x106 a107 n107 c107,v102=(vag [vi x104,vi x105,vi x106,vsl a107 n107 c107])∧((Hp.cell h103 u0 (u1+12)=some (vsl a101 n101 c101))∧(∀ b108,h103 b108=none→let h109:= Hp.set h103 b108 (cellsO [vb false,vi x104,vi x105,vi x106,vsl a107 n107 c107] 74);(SemOK Tryz.prog (Builtin.append_ #[62,62] 62 #[vsl a101 n101 c101,(vsl (some (⟨b108,0,none⟩:Addr)) 1 1)]) h109 fun v110 h111=>∃ a112 n112 c112,v110=(vsl a112 n112 c112)∧(Hp.store h111 u0 (u1+12) [vsl a112 n112 c112] fun h113=>(∃ x115,(IsW x115 (x91+1))∧(I87 [vi x115] h113∧m88 [vi x115] h113 < m88 vs89 h90)))))))))))∧((decide (x91 < (n85:Int)))=false→(∃ x116,(Hp.cell h90 u0 (u1+3)=some (vi x116))∧(∃ x117,(Hp.cell h90 u0 (u1+6)=some (vi x117))∧(∃ x118,(IsW x118 (x77 - x117))∧(CallOK Tryz.prog 51 [vag [vsl a84 n84 c84],vi x116,vi x118] h90 fun v119 h120=>∃ a121 n121 c121,v119=(vag [vsl a121 n121 c121])∧(Hp.store h120 u0 (u1+10) [vsl a121 n121 c121] fun h122=>R (vtup []) h122)))))))))))))))))))))))));(((bif (decide ((n7:Int)=0)) then true else p25)=true→(∃ x26,(Hp.cell h22 u0 (u1+3)=some (vi x26))∧(∃ x27,(Hp.cell h22 u0 (u1+4)=some (vi x27))∧(CallOK Tryz.prog 46 [vi u3,vi x26,vi x27] h22 fun v28 h29=>∃ a30 n30 c30,v28=(vsl a30 n30 c30)∧(∃(I32:List Value→Hp→Prop) (m33:List Value→Hp→Nat),I32 [vi 0] h29∧∀ vs34 h35,I32 vs34 h35→∃ x36,vs34=[vi x36]∧(((decide (x36 < (n30:Int)))=true→(let J54:Hp→Prop:=fun h55=>(∃ x56,(IsW x56 (x36+1))∧(I32 [vi x56] h55∧m33 [vi x56] h55 < m33 vs34 h35));(∃ b39 o40,(a30=some ⟨b39,o40,none⟩∧(0:Int)≤x36∧x36 < (n30:Int))∧(∃ x41,(Hp.cell h35 b39 (o40+x36.toNat*1)=some (vi x41))∧(∃ x42,(p6=true→Hp.cell h35 u0 (u1+3)=some (vi x42))∧(∃ x43,(p6=true→IsW x43 (x41+x42))∧(∃ x44,(p6=true→Hp.cell h35 u0 (u1+6)=some (vi x44))∧(∃ x45,(p6=true→IsW x45 (x43+x44))∧(((bif p6 then(decide (x45≤x5)) else false)=true→(∃ x46,(Hp.cell h35 u0 (u1+11)=some (vi x46))∧(∃ x47,(IsW x47 (x46+1))∧(Hp.store h35 u0 (u1+11) [vi x47] fun h48=>(J54 h48)))))∧((bif p6 then(decide (x45≤x5)) else false)=false→(CallOK Tryz.prog 47 [vhp u0 u1,vi x41,vag [vi u3,vi u4,vi u5,vi u6,vi u7,vi u8,vi u9]] h35 fun v51 h52=>v51=(vtup [])∧(J54 h52))))))))))))∧((decide (x36 < (n30:Int)))=false→(J58 h35))))))))∧((bif (decide ((n7:Int)=0)) then true else p25)=false→(J58 h22))))))))))))
theorem ok_engine_Engine_Step {u0 u1 u2 u3 u4 u5 u6 u7 u8 u9 h R}(H:VC_engine_Engine_Step u0 u1 u2 u3 u4 u5 u6 u7 u8 u9 h R):CallOK Tryz.prog 17 [vhp u0 u1,vi u2,vag [vi u3,vi u4,vi u5,vi u6,vi u7,vi u8,vi u9]] h R:=
 call_of (cfg:=⟨[],[(4,([62],[.one (.int .i64)],[])),(16,([147],[.one (.int .i64)],[]))],[(1,[0,1,2,3,4,5,6,7,8,9,10,11,12,13,14,15]),(2,[0,1,2,3,4,5,6,7,8,9,10,11,12,13,14,15,16,17]),(3,[0,1,2,3,4,5,6,7,8,9,10,11,14,12,13]),(6,[0,1,2,3,4,5,6,7,8,9,10,11,12,13,14,15,16,17]),(11,[0,1,2,3,4,5,6,7,8,9,10,11]),(12,[0,1,2,3,4,5,6,7,8,9,10,11,12,13,14]),(14,[0,1,2,3,4,5,6,7,8,9,10,11,12,13,14,15,16]),(18,[0,1,2,3,4,5,6,7,8,9,10,11,12]),(20,[0,1,2,3,4,5,6,7,8,9,10,11,12,13,14,15,16,17])]⟩) noNG mixed Tryz.func17 [.one (.hp u0 u1),.one (.v (vi u2)),.ag [.v (vi u3),.v (vi u4),.v (vi u5),.v (vi u6),.v (vi u7),.v (vi u8),.v (vi u9)]] (by kernel_rfl) rfl (by kernel_rfl) H
def VC_engine_New (u0:Option Addr)(u1 u2:Nat)(u3:Option Addr)(u4 u5:Nat)(u6:Option Addr)(u7 u8:Nat)(u9:Int)(u10:Int)(u11:Int)(u12:Int)(u13:Int)(h:Hp)(R:Value→Hp→Prop):Prop:=
 (CallOK Tryz.prog 34 [vag [vsl u0 u1 u2,vsl u3 u4 u5,vsl u6 u7 u8,vi u9,vi u10,vi u11,vi u12]] h fun v1 h2=>∃ e3,v1=(ifv e3)∧(((Option.isSome e3)=true→R (vtup [vp none,ifv e3]) h2)∧((Option.isSome e3)=false→(CallOK Tryz.prog 42 [vi u13] h2 fun v5 h6=>∃ a7 n7 c7 e8,v5=(vtup [vag [vsl a7 n7 c7],ifv e8])∧(((Option.isSome e8)=true→R (vtup [vp none,ifv e8]) h6)∧((Option.isSome e8)=false→(SemOK Tryz.prog (Instr.makeSlice 50 (vi u13) (vi u13)) h6 fun v10 h11=>∃ a12 n12 c12,v10=(vsl a12 n12 c12)∧(∀ b13,h11 b13=none→let h14:= Hp.set h11 b13 (cellsO [vsl u0 u1 u2,vsl u3 u4 u5,vsl u6 u7 u8,vi u9,vi u10,vi u11,vi u12,vsl none 0 0,vsl a12 n12 c12,vsl a7 n7 c7,vsl none 0 0,vi 0,vsl none 0 0] 64);(Hp.store h14 b13 0 [vsl none 0 0] fun h15=>(∃(I17:List Value→Hp→Prop) (m18:List Value→Hp→Nat),I17 [vi 0] h15∧∀ vs19 h20,I17 vs19 h20→∃ x21,vs19=[vi x21]∧(((decide (x21 < (u1:Int)))=true→(∃ b24 o25,(u0=some ⟨b24,o25,none⟩∧(0:Int)≤x21∧x21 < (u1:Int))∧(∃ x26 a27 n27 c27,(Hp.row h20 b24 (o25+x21.toNat*2) 2=some [vi x26,vsl a27 n27 c27])∧(let J33:Option Addr→Nat→Nat→Hp→Prop:=fun a38 n38 c38 h39=>(∃ a40 n40 c40,(Hp.cell h39 b13 0=some (vsl a40 n40 c40))∧(∀ b41,h39 b41=none→let h42:= Hp.set h39 b41 (cellsO [vi x26,vsl a38 n38 c38] 86);(SemOK Tryz.prog (Builtin.append_ #[25,25] 25 #[vsl a40 n40 c40,(vsl (some (⟨b41,0,none⟩:Addr)) 1 1)]) h42 fun v43 h44=>∃ a45 n45 c45,v43=(vsl a45 n45 c45)∧(Hp.store h44 b13 0 [vsl a45 n45 c45] fun h46=>(∃ a47 n47 c47,(Hp.cell h46 b13 (0+7)=some (vsl a47 n47 c47))∧(∀ b48,h46 b48=none→let h49:= Hp.set h46 b48 (cellsO [vi x26] 3);(SemOK Tryz.prog (Builtin.append_ #[50,50] 50 #[vsl a47 n47 c47,(vsl (some (⟨b48,0,none⟩:Addr)) 1 1)]) h49 fun v50 h51=>∃ a52 n52 c52,v50=(vsl a52 n52 c52)∧(Hp.store h51 b13 (0+7) [vsl a52 n52 c52] fun h53=>(∃ x55,(IsW x55 (x21+1))∧(I17 [vi x55] h53∧m18 [vi x55] h53 < m18 vs19 h20))))))))));(((decide (x26≠1))=true→(CallOK Tryz.prog 31 [vsl a27 n27 c27] h20 fun v28 h29=>∃ a30 n30 c30,v28=(vsl a30 n30 c30)∧(J33 a30 n30 c30 h29)))∧((decide (x26≠1))=false→(J33 a27 n27 c27 h20)))))))∧((decide (x21 < (u1:Int)))=false→(let J62:Hp→Prop:=fun h63=>(let J70:Hp→Prop:=fun h71=>R (vtup [vhp b13 0,ifv none]) h71;(((decide ((u7:Int) > 0))=true→(CallOK Tryz.prog 31 [vsl u6 u7 u8] h63 fun v64 h65=>∃ a66 n66 c66,v64=(vsl a66 n66 c66)∧(Hp.store h65 b13 (0+2) [vsl a66 n66 c66] fun h67=>(J70 h67))))∧((decide ((u7:Int) > 0))=false→(J70 h63))));(((decide ((u4:Int) > 0))=true→(CallOK Tryz.prog 31 [vsl u3 u4 u5] h20 fun v56 h57=>∃ a58 n58 c58,v56=(vsl a58 n58 c58)∧(Hp.store h57 b13 (0+1) [vsl a58 n58 c58] fun h59=>(J62 h59))))∧((decide ((u4:Int) > 0))=false→(J62 h20))))))))))))))))
theorem ok_engine_New {u0 u1 u2 u3 u4 u5 u6 u7 u8 u9 u10 u11 u12 u13 h R}(H:VC_engine_New u0 u1 u2 u3 u4 u5 u6 u7 u8 u9 u10 u11 u12 u13 h R):CallOK Tryz.prog 13 [vag [vsl u0 u1 u2,vsl u3 u4 u5,vsl u6 u7 u8,vi u9,vi u10,vi u11,vi u12],vi u13] h R:=
 call_of (cfg:=⟨[29],[(10,([37],[.one (.int .i64)],[]))],[(7,[0,1,3,2,4,5,6]),(14,[0,1,2,3,4,5,6,7,8,9,10,11,12]),(15,[0,1,2,3,4,5,6,7,8,9,10,11])]⟩) noNG mixed Tryz.func13 [.ag [.v (vsl u0 u1 u2),.v (vsl u3 u4 u5),.v (vsl u6 u7 u8),.v (vi u9),.v (vi u10),.v (vi u11),.v (vi u12)],.one (.v (vi u13))] (by kernel_rfl) rfl (by kernel_rfl) H
theorem store_newT {h:Hp}{b:Nat}{xs ys:List Value}{t:TypeId}(hl:ys.length=xs.length){K:Hp→Prop}(hK:K (h.set b (cellsO ys t))):Hp.store (h.set b (cellsO xs t)) b 0 ys K:=by
 refine⟨xs.toArray,t,Hp.set_same _ _ _,by simp [hl],?_⟩
 rw [Hp.set_set]
 have e:setL xs.toArray.toList 0 ys=ys:=by
  unfold setL
  rw [List.take_zero,List.nil_append,List.toList_toArray,Nat.zero_add,List.drop_of_length_le (by omega),List.append_nil]
 rw [e]
 exact hK
section
variable {hi h:Hp}{g:Nat}{cs:List Value}{ar:Option Addr}{cr:Nat}{rd:List Nat}{aw:Option Addr}{wn cw:Nat}{ws:List Value}{R':Value→Hp→Prop}
theorem EngM.frame (M:EngM hi h g cs ar cr rd aw wn cw ws){f:FuncId}{args:List Value}(H:CallOK Tryz.prog f args hi fun v hk=>∀ h2,hk.le h2→EngM hk h2 g cs ar cr rd aw wn cw ws→R' v h2):CallOK Tryz.prog f args h R':=by
 intro w hs
 refine(CallOK.frame M.le0 H w hs).mono ?_
 rintro e w' ⟨v,h2,rfl,s2,F,h1,l1,kp,k⟩
 refine⟨v,h2,rfl,s2,F,k h2 l1 ⟨(kp g _ M.blk M.gn).1,(kp g _ M.blk M.gn).2,OwnV.apart ⟨l1,?_,?_⟩ l1 (fun b o hb ho=>ho),OwnV.apart ⟨l1,?_,?_⟩ l1 (fun b o hb ho=>ho),M.rg,M.wg,M.rw_⟩⟩
 ·exact M.r.own.keep fun b o hb ho=>(kp b o ho (M.r.new b hb)).1
 ·intro b hb
  cases hq:h b with
  | none=>exact absurd hq (own_al M.r hb)
  | some o=>exact(kp b o hq (M.r.new b hb)).2
 ·exact M.w.own.keep fun b o hb ho=>(kp b o ho (M.w.new b hb)).1
 ·intro b hb
  cases hq:h b with
  | none=>exact absurd hq (own_al M.w hb)
  | some o=>exact(kp b o hq (M.w.new b hb)).2
theorem EngM.putK (M:EngM hi h g cs ar cr rd aw wn cw ws){j:Nat}{v:Value}(hj:j < cs.length){K:Hp→Prop}(hK:∀ h',EngM hi h' g (cs.set j v) ar cr rd aw wn cw ws→(∀ b o,b≠g→h b=some o→h' b=some o)→K h'):h.store g j [v] K:=by
 refine store_cells M.blk (by simp only [List.length_singleton];omega) ?_
 have e:=setL_one cs j v hj
 refine hK _ ?_ fun b o hb ho=>(Hp.set_other h _ hb).trans ho
 have key:∀ K2:Hp→Prop,(∀ h',EngM hi h' g (cs.set j v) ar cr rd aw wn cw ws→h'=h.set g (cellsO (cs.set j v) 64)→K2 h')→K2 (h.set g (cellsO (cs.set j v) 64)):=by
  intro K2 hk
  obtain⟨c,e0,q1,q2,q3⟩:=M.put hj (K:=fun h'=>EngM hi h' g (cs.set j v) ar cr rd aw wn cw ws) fun h' m=>m
  rw [M.blk] at q1
  cases q1
  refine hk _ ?_ rfl
  have:setL (cs.toArray).toList j [v]=cs.set j v:=by rw [List.toList_toArray,e]
  rw [this] at q3
  exact q3
 rw [e]
 exact key _ fun h' m _=>m
theorem EngM.pair (M:EngM hi h g cs ar cr rd aw wn cw ws){b b2:Nat}{xs xs' ys ys':List Value}{t t2:TypeId}(hb:h b=none)(hb2:(h.set b (cellsO xs t)) b2=none)(h1:xs'.length=xs.length)(h2:ys'.length=ys.length){K:Hp→Prop}
  (hK:∀ h',EngM hi h' g cs ar cr rd aw wn cw ws→h' b=some (cellsO xs' t)→h' b2=some (cellsO ys' t2)→b≠g→b2≠g→K h'):Hp.store ((h.set b (cellsO xs t)).set b2 (cellsO ys t2)) b 0 xs' fun h31=>Hp.store h31 b2 0 ys' K:=by
 have hne:b2≠b:=fun q=>by subst q;rw [Hp.set_same] at hb2;cases hb2
 have hb2h:h b2=none:=by rw [←Hp.set_other h (cellsO xs t) hne];exact hb2
 have sl:∀(l vs:List Value),vs.length=l.length→setL l 0 vs=vs:=fun l vs hl=>by
  unfold setL
  rw [List.take_zero,List.nil_append,Nat.zero_add,List.drop_of_length_le (by omega),List.append_nil]
 refine store_cells (l:=xs) (t:=t) (by rw [Hp.set_other _ _ hne.symm,Hp.set_same]) (by omega) ?_
 rw [sl xs xs' h1]
 refine store_cells (l:=ys) (t:=t2) (by rw [Hp.set_other _ _ hne,Hp.set_same]) (by omega) ?_
 rw [sl ys ys' h2]
 refine hK _ (M.le fun x o ho=>?_) (by rw [Hp.set_other _ _ hne.symm,Hp.set_same]) (Hp.set_same _ _ _) (fun q=>by rw [q,M.blk] at hb;cases hb) (fun q=>by rw [q,M.blk] at hb2h;cases hb2h)
 have n1:x≠b:=fun q=>by rw [q,hb] at ho;cases ho
 have n2:x≠b2:=fun q=>by rw [q,hb2h] at ho;cases ho
 rw [Hp.set_other _ _ n2,Hp.set_other _ _ n1,Hp.set_other _ _ n2,Hp.set_other _ _ n1]
 exact ho
end
section
variable {h:Hp}{R':Value→Hp→Prop}
theorem equal_Value_ok {l m:List Vl}{a b:Option Addr}{c d:Nat}(S:SlP encV h a l.length l)(S2:SlP encV h b m.length m)(hn:l.length≤1000000)(hK:R' (vb (decide (l=m))) h):CallOK Tryz.prog 102 [vsl a l.length c,vsl b m.length d] h R':=by
 refine ok_slices_Equal_api_Value_api_Value ?_
 unfold VC_slices_Equal_api_Value_api_Value
 refine⟨fun e=>?_,fun e=>?_⟩
 ·have hne:l≠m:=by
   intro q
   subst q
   exact of_decide_eq_true e rfl
  rw [decide_eq_false hne] at hK
  exact hK
 ·have hlen:l.length=m.length:=by
   have:=of_decide_eq_false e
   omega
  refine⟨fun vs hh=>hh=h∧∃ i:Nat,vs=[vi i]∧i≤l.length∧l.take i=m.take i,fun vs hh=>l.length - (vint vs 0).toNat,⟨rfl,0,rfl,Nat.zero_le _,rfl⟩,?_⟩
  rintro vs hh ⟨rfl,i,rfl,hi,ht⟩
  refine⟨i,rfl,fun e=>?_,fun e=>?_⟩
  ·have hlt:i < l.length:=by have:=of_decide_eq_true e;omega
   have hx:l[i]?=some l[i]:=List.getElem?_eq_getElem hlt
   have hy:m[i]?=some (m[i]'(by omega)):=List.getElem?_eq_getElem (by omega)
   obtain⟨b1,o1,e1,r1⟩:=S.get (sz:=2) (fun _=>rfl) (by decide) hx
   obtain⟨b2,o2,e2,r2⟩:=S2.get (sz:=2) (fun _=>rfl) (by decide) hy
   have tk:l.take (i+1)=l.take i++[l[i]]:=List.take_succ_eq_append_getElem hlt
   have tm:m.take (i+1)=m.take i++[m[i]'(by omega)]:=List.take_succ_eq_append_getElem (by omega)
   refine⟨b1,o1,⟨e1,by omega,by omega⟩,_,_,by rw [Int.toNat_natCast];exact r1,b2,o2,⟨e2,by omega,by omega⟩,_,_,(show Hp.row hh b2 (o2+((i:Nat):Int).toNat*2) 2=some (encV (m[i]'(by omega))) by rw [Int.toNat_natCast];exact r2),!decide (l[i]=m[i]'(by omega)),rd_neqV,fun e3=>?_,fun e3=>?_⟩
   ·have hne:l≠m:=by
     intro q
     have h1:l[i]?=m[i]?:=by rw [q]
     rw [hx,hy] at h1
     have h2:=Option.some.inj h1
     rw [decide_eq_true h2] at e3
     cases e3
    rw [decide_eq_false hne] at hK
    exact hK
   ·have h2:l[i]=m[i]'(by omega):=by simpa using e3
    refine⟨_,isW (by unfold InR;omega),⟨rfl,i+1,rfl,by omega,?_⟩,by simp [vint];omega⟩
    rw [tk,tm,ht,h2]
  ·have hge:i=l.length:=by have:=of_decide_eq_false e;omega
   have heq:l=m:=by
    rw [hge,List.take_length,hlen,List.take_length] at ht
    exact ht
   rw [decide_eq_true heq] at hK
   exact hK
end
section
variable {q qf:Qy}{hi h:Hp}{g:Nat}{a1:Option Addr}{n1 c1:Nat}{a2:Option Addr}{n2 c2:Nat}{a3:Option Addr}{n3 c3:Nat}{ak:Option Addr}{nk ck:Nat}{ar:Option Addr}{nr cr:Nat}{ac:Option Addr}{nc cc:Nat}{tb:Option Addr}{tn tc late:Nat}{aw:Option Addr}{wn cw:Nat}{R:List PR}{RW:List (GRow Vl (Bool × PK))}{rd:List Nat}{ws:List Value}{st:En}{e:EvL}{R':Value→Hp→Prop}
theorem engine_key_ok (M:EngM hi h g (engC a1 n1 c1 a2 n2 c2 a3 n3 c3 qf ak nk ck ar nr cr ac nc cc tb tn tc late aw wn cw) ar cr rd aw wn cw ws)(I:EngI q qf hi a1 n1 a2 n2 a3 n3 ak nk ac nc tb R RW st)(B:QOk q)(E:EvOK e)(hK:∀ h',h.le h'→R' (vag (encV (keyQ q e))) h'):CallOK Tryz.prog 98 [vhp g 0,vag (encE e)] h R':=by
 refine ok_engine_Engine_key ?_
 unfold VC_engine_Engine_key
 have hn:=I.qa.b.1
 unfold keyQ at hK
 refine⟨_,_,_,cell_cells M.blk rfl,fun e1=>value_Null_ok ⟨_,_,rfl,?_⟩,fun e1=>⟨_,_,_,cell_cells M.blk rfl,?_⟩⟩
 ·have e1:=of_decide_eq_true e1
  have hb:qf.by_=[]:=List.length_eq_zero_iff.1 (by omega)
  have:=hK h (Hp.le_refl h)
  rw [if_pos (I.f.bn.1 hb)] at this
  exact this
 ·have e1:=of_decide_eq_false e1
  have hb:qf.by_≠[]:=fun e2=>e1 (by rw [hn,e2];rfl)
  have hbq:q.by_≠[]:=fun q'=>hb (I.f.bn.2 q')
  have Rp:=I.f.b1 hbq
  have hlq:=(exprF_ok (B.b hbq)).2
  refine evalO_ok Rp.ok (by have:=Rp.len;omega) (I.qa.b.le M.le0) fun h' l'=>⟨_,_,rfl,?_⟩
  have:=hK h' l'
  rw [if_neg hbq,←Rp.val e E] at this
  exact this
theorem engine_vals_ok (M:EngM hi h g (engC a1 n1 c1 a2 n2 c2 a3 n3 c3 qf ak nk ck ar nr cr ac nc cc tb tn tc late aw wn cw) ar cr rd aw wn cw ws)(I:EngI q qf hi a1 n1 a2 n2 a3 n3 ak nk ac nc tb R RW st)(B:QOk q)(E:EvOK e)(hK:∀ a c h',VecV h h' a c (valsQ q e)→R' (vsl a (valsQ q e).length c) h'):CallOK Tryz.prog 100 [vhp g 0,vag (encE e)] h R':=by
 refine ok_engine_Engine_vals ?_
 unfold VC_engine_Engine_vals
 have hn:=I.qa.g.len
 have han:=I.f.an
 have hn4:=B.n2
 have hvl:(valsQ q e).length=q.aggs.length:=by unfold valsQ;rw [List.length_map]
 refine⟨_,_,_,cell_cells M.blk rfl,fun vs hh=>∃(i:Nat) (a:Option Addr) (c:Nat),vs=[vsl a ((valsQ q e).take i).length c,vi i]∧i≤q.aggs.length∧VecV h hh a c ((valsQ q e).take i),fun vs hh=>q.aggs.length - (vint vs 1).toNat,⟨0,none,0,rfl,Nat.zero_le _,OwnV.nil (Hp.le_refl h) _ _⟩,?_⟩
 rintro vs hh ⟨i,a,c,rfl,hi',V⟩
 refine⟨a,_,c,_,rfl,fun e1=>?_,fun e1=>?_⟩
 ·have hlt:i < q.aggs.length:=by have:=of_decide_eq_true e1;omega
  have hx:q.aggs[i]?=some q.aggs[i]:=List.getElem?_eq_getElem hlt
  have hxf:qf.aggs[i]?=some (qf.aggs[i]'(by omega)):=List.getElem?_eq_getElem (by omega)
  obtain⟨k1,k2,k3⟩:=I.f.ag i _ _ hx hxf
  obtain⟨b,o,a',c',ha,hrow,hS⟩:=(I.qa.g.le (Hp.le_trans M.le0 V.le0)).row aggRw_len (by decide) hxf
  have hvi:(valsQ q e)[i]'(by omega)=if (q.aggs[i]).1=1 then(0,0) else valE e (q.aggs[i]).2:=by unfold valsQ;rw [List.getElem_map]
  have tk:(valsQ q e).take (i+1)=(valsQ q e).take i++[(valsQ q e)[i]'(by omega)]:=List.take_succ_eq_append_getElem (by omega)
  have hal:((valsQ q e).take i).length=i:=by rw [List.length_take];omega
  have hg:=B.g _ (List.getElem_mem hlt)
  intro J35
  have hJ:∀(v:Vl) (h41:Hp),hh.le h41→v=(valsQ q e)[i]'(by omega)→∀ b19,h41 b19=none→SemOK Tryz.prog (Builtin.append_ #[70,70] 70 #[vsl a ((valsQ q e).take i).length c,vsl (some ⟨b19,0,none⟩) 1 1]) (h41.set b19 (cellsO [vi v.1,vi v.2] 41)) fun v21 h22=>∃ a23 n23 c23,v21=vsl a23 n23 c23∧J35 a23 n23 c23 h22:=by
   intro v h41 l41 hv b19 hb19
   refine Vec.app elValP encV_len one_v (V.keep0 l41) (by rw [hal];omega) (by rw [hal];omega) (x:=v) hb19 fun a2' c2' h' V'=>⟨_,_,_,rfl,_,isW (by unfold InR;omega),⟨i+1,a2',c2',?_,by omega,?_⟩,by simp [vint];omega⟩
   ·rw [tk,←hv];rfl
   ·rw [tk,←hv];exact V'
  clear_value J35
  refine⟨b,o,⟨ha,by omega,by omega⟩,_,_,_,_,by rw [Int.toNat_natCast];exact hrow,fun e2=>?_,fun e2=>?_⟩
  ·have e2:=of_decide_eq_true e2
   refine value_Null_ok ⟨_,_,rfl,?_⟩
   intro b19 hb19 h20
   exact hJ (0,0) hh (Hp.le_refl hh) (by rw [hvi,if_pos (k1.symm.trans e2)]) b19 hb19
  ·have e2:=of_decide_eq_false e2
   have hne:(q.aggs[i]).1≠1:=fun q'=>e2 (k1.trans q')
   have Rp:=k3 hne
   have hlq:=(exprF_ok (hg.2.2.1 hne)).2
   refine evalO_ok Rp.ok (by have:=Rp.len;omega) hS fun h26 l26=>⟨_,_,rfl,?_⟩
   intro b29 hb29 h30
   exact hJ (valE e (qf.aggs[i]'(by omega)).2) h26 l26 (by rw [hvi,if_neg hne];exact Rp.val e E) b29 hb29
 ·have hge:i=q.aggs.length:=by have:=of_decide_eq_false e1;omega
  rw [List.take_of_length_le (by omega)] at V ⊢
  exact hK a c hh V
end
theorem engine_change1_ok {r:PR}{K:PK}{b1 b2:Nat}{h:Hp}{R':Value→Hp→Prop}(h1:h.cell b1 0=some (vi K.1))(h2:h.row b2 0 2=some (encV K.2))(hK:R' (vb (decide (r.k=K))) h):CallOK Tryz.prog 101 [vag (encPr r),vhp b1 0,vhp b2 0] h R':=by
 refine ok_engine_Engine_change_1 ?_
 unfold VC_engine_Engine_change_1
 refine⟨_,h1,_,_,fun _=>h2,decide (r.k.2=K.2),fun _=>rd_eqV,?_⟩
 have e:(bif (decide ((r.k.1:Int)=K.1)) then(decide (r.k.2=K.2)) else false)=decide (r.k=K):=by
  rw [cand]
  exact decide_eq_decide.2 (Prod.ext_iff).symm
 show R' (vb (bif (decide ((r.k.1:Int)=K.1)) then(decide (r.k.2=K.2)) else false)) h
 rw [e]
 exact hK
theorem nodup_at {R:List PR}(hs:(R.map (·.k)).Pairwise aheadK){i j:Nat}{x y:PR}(hx:R[i]?=some x)(hy:R[j]?=some y)(e:x.k=y.k):i=j:=by
 obtain⟨hi,ex⟩:=List.getElem?_eq_some_iff.1 hx
 obtain⟨hj,ey⟩:=List.getElem?_eq_some_iff.1 hy
 rcases Nat.lt_trichotomy i j with q|q|q
 ·have:=List.pairwise_iff_getElem.1 hs i j (by simpa using hi) (by simpa using hj) q
  simp only [List.getElem_map,ex,ey,e] at this
  exact absurd this (aheadK_irr _)
 ·exact q
 ·have:=List.pairwise_iff_getElem.1 hs j i (by simpa using hj) (by simpa using hi) q
  simp only [List.getElem_map,ex,ey,e] at this
  exact absurd this (aheadK_irr _)
theorem chgR_no {ks:List Int}{k:PK}{v:List Vl}{p:Pn}(h:¬(p.t=true∧outV ks p.rs≠outV ks (p.rs++[v]))):chgR ks k v (some p)=[]:=if_neg h
theorem chgR_yes {ks:List Int}{k:PK}{v:List Vl}{p:Pn}(h:p.t=true∧outV ks p.rs≠outV ks (p.rs++[v])):chgR ks k v (some p)=[(true,k,outV ks p.rs),(false,k,outV ks (p.rs++[v]))]:=if_pos h
theorem index_Pane_okN {h:Hp}{K':Value→Hp→Prop}{a:Option Addr}{R:List PR}{c n:Nat}(hl:n=R.length){fv:Value}{p:PR→Bool}(S:SlP encPr h a R.length R)(hn:R.length≤1000000)(hf:∀ r ∈ R,∀ K2:Value→Hp→Prop,K2 (vb (p r)) h→InvOK Tryz.prog fv [vag (encPr r)] h K2)
  (hy:∀(i:Nat) (r:PR),R[i]?=some r→p r=true→(∀ x ∈ R.take i,p x=false)→K' (vi i) h) (hno:(∀ r ∈ R,p r=false)→K' (vi (-1)) h):CallOK Tryz.prog 73 [vsl a n c,fv] h K':=by
 subst hl
 exact index_Pane_ok S hn hf hy hno
def chgE (q:Qy)(k:PK)(v:List Vl)(st:En):En:={ st with pn:=putP k v st.pn,rows:=st.rows++chgR (kindsQ q) k v (atP k st.pn) }
set_option maxHeartbeats 2000000 in
theorem engine_change_ok {q:Qy}{h0 h:Hp}{g parts N:Nat}{st:En}{e:EvL}{s:Int}{R':Value→Hp→Prop}(X:EngX q h0 h g st)(B:QOk q)(E:EvOK e)(HB:EnB q parts N st)(hN:N≤800000)
  (hK:∀ h',h0.le h'→EngX q h0 h' g (chgE q (s,keyQ q e) (valsQ q e) st)→R' (vtup []) h'):CallOK Tryz.prog 47 [vhp g 0,vi s,vag (encE e)] h R':=by
 obtain⟨qf,hi,a1,n1,c1,a2,n2,c2,a3,n3,c3,ak,nk,ck,ar,cr,ac,nc,cc,tb,tc,aw,cw,R,RW,l0,M,I⟩:=X
 refine ok_engine_Engine_change ?_
 unfold VC_engine_Engine_change
 have hRl:R.length=st.pn.length:=by have:=congrArg List.length I.p;simpa using this
 have hpl:=HB.pl
 have hkl:=kindsQ_len q
 have hn4:=B.n2
 have hWl:RW.length=st.rows.length:=by have:=congrArg List.length I.w;simpa [growL] using this
 have hwl:=HB.wl
 have hks:(R.map (·.k)).Pairwise aheadK:=by rw [prT_keys I.p];exact sortedP_keys.1 HB.ps
 have hao:=acs_ok HB (by omega) I.p
 have hvl:(valsQ q e).length=(kindsQ q).length:=by unfold valsQ;rw [List.length_map,hkl]
 intro b1 hb1 h2
 have l2:h.le h2:=Hp.le_set (Hp.le_refl h) hb1 _
 have x1:h2 b1=some (cellsO [vi s] 3):=Hp.set_same _ _ _
 clear_value h2
 refine engine_key_ok (M.le l2) I B E fun h4 l4=>⟨_,_,rfl,?_⟩
 intro b7 hb7 h8
 show Hp.store (Hp.set h4 b7 (cellsO [vi 0,vi 0] 41)) b7 0 [vi (keyQ q e).1,vi (keyQ q e).2] _
 refine store_newT (by rfl) ?_
 have l9:h4.le (h4.set b7 (cellsO [vi (keyQ q e).1,vi (keyQ q e).2] 41)):=Hp.le_set (Hp.le_refl _) hb7 _
 have x7:(h4.set b7 (cellsO [vi (keyQ q e).1,vi (keyQ q e).2] 41)) b7=some (cellsO [vi (keyQ q e).1,vi (keyQ q e).2] 41):=Hp.set_same _ _ _
 generalize h4.set b7 (cellsO [vi (keyQ q e).1,vi (keyQ q e).2] 41)=h9 at l9 x7
 have l49:=Hp.le_trans l4 l9
 have l09:=Hp.le_trans l2 l49
 have M9:=M.le l09
 have x1:=l49 _ _ x1
 have hb7h:h b7=none:=Hp.none_of_le (Hp.le_trans l2 l4) hb7
 refine⟨_,_,_,row_cells' M9.blk (Nat.le_of_ble_eq_true rfl),s,cell_cells x1 rfl,_,_,row_cells' x7 (Nat.le_of_ble_eq_true rfl),_,_,_,cell_cells M9.blk rfl,?_⟩
 refine engine_vals_ok M9 I B E fun a17 c17 h16 V16=>⟨_,_,_,rfl,cell_cells (M9.le V16.le0).blk rfl,row_cells' (V16.le0 _ _ x7) (Nat.le_of_ble_eq_true rfl),cell_cells (V16.le0 _ _ x1) rfl,row_cells' (M9.le V16.le0).blk (Nat.le_of_ble_eq_true rfl),?_⟩
 have l016:=Hp.le_trans l09 V16.le0
 obtain⟨hj,lj,Mj,trj,kpj⟩:=M.rebase_new l016
 have x1:=V16.le0 _ _ x1
 have x7:=V16.le0 _ _ x7
 have y1:hj b1=some (cellsO [vi s] 3):=kpj _ _ x1 hb1
 have y7:hj b7=some (cellsO [vi (keyQ q e).1,vi (keyQ q e).2] 41):=kpj _ _ x7 hb7h
 have hV:SlP encV hj a17 (valsQ q e).length (valsQ q e):=⟨rfl,trj _ _ (OwnV.row V16) fun b o hb=>Hp.none_of_le l09 (V16.new b (by rw [hb,OwnS.at0 (OwnV.own V16) b o hb]))⟩
 have Ij:=I.le lj
 refine EngM.frame Mj (Table_Add_ok (k:=(s,keyQ q e)) Ij.t (by omega) hks Ij.k hV hvl (by omega) (fun r hr=>(hao r hr).1) (fun r hr=>(hao r hr).2.1) (valsQ_small B E) ?_ ?_)
 · -- it is there
  intro i r a' c' a2' c2' hk hr hrk lk Tk h19 l19 M19
  refine⟨_,_,_,_,_,_,_,_,_,_,_,rfl,?_⟩
  obtain⟨p,hp,e1,e2,e3⟩:=prT_at I.p hr
  have hpk:p.k=(s,keyQ q e):=by rw [←e1];exact hrk
  have hat:atP (s,keyQ q e) st.pn=some p:=by rw [←hpk];exact atP_mem HB.ps (List.mem_of_getElem? hp)
  have hput:putP (s,keyQ q e) (valsQ q e) st.pn=st.pn.set i ⟨(s,keyQ q e),p.rs++[valsQ q e],p.t⟩:=putP_in HB.ps hp hpk
  have hacs:accP r.acs (valsQ q e)=accsOf (kindsQ q) (p.rs++[valsQ q e]):=by rw [accsOf_snoc,e2]
  have hset:(R.set i ⟨r.k,a2',c2',accP r.acs (valsQ q e),r.t⟩).map prT=(putP (s,keyQ q e) (valsQ q e) st.pn).map (pnT (kindsQ q)):=by
   rw [hput,List.map_set,List.map_set,I.p]
   congr 1
   simp only [prT,pnT]
   rw [hrk,hacs,e3]
  have hRl2:(R.set i ⟨r.k,a2',c2',accP r.acs (valsQ q e),r.t⟩).length=R.length:=List.length_set
  have hil:=(List.getElem?_eq_some_iff.1 hr).1
  intro b27 hb27 h28 b29 hb29 h30
  refine M19.pair hb27 hb29 (by rfl) (by rfl) fun h32 M32 w27 w29 g27 g29=>⟨_,_,_,row_cells' w27 (Nat.le_of_ble_eq_true rfl),?_⟩
  refine M32.putK (j:=10) (Nat.le_of_ble_eq_true rfl) fun h27 M27 k27=>?_
  have w27:=k27 _ _ g27 w27
  have w29:=k27 _ _ g29 w29
  have l027:h0.le h27:=Hp.le_trans l0 (Hp.le_trans lj (Hp.le_trans lk M27.le0))
  have Ik:=Ij.le lk
  -- behind all of it
  have fin:∀(hx h':Hp) (aw':Option Addr) (cw':Nat) (RW':List (GRow Vl (Bool × PK))) (rows':List Rw),hk.le hx→EngM hx h' g (engC a1 n1 c1 a2 n2 c2 a3 n3 c3 qf ak nk ck ar st.rd.length cr ac nc cc a' R.length c' st.late aw' RW'.length cw') ar cr st.rd aw' RW'.length cw' (RW'.flatMap (growV rwRow))→growL RW'=rows'.map rowG→(∀ r ∈ RW',HasRow hx r.2.1.1 (r.2.2.flatMap encV))→rows'=st.rows++chgR (kindsQ q) (s,keyQ q e) (valsQ q e) (some p)→R' (vtup []) h':=by
   intro hx h' aw' cw' RW' rows' lx Mx hw1 hw2 hrows
   refine hK h' (Hp.le_trans l0 (Hp.le_trans lj (Hp.le_trans lk (Hp.le_trans lx Mx.le0)))) ⟨qf,hx,a1,n1,c1,a2,n2,c2,a3,n3,c3,ak,nk,ck,ar,cr,ac,nc,cc,a',c',aw',cw',R.set i ⟨r.k,a2',c2',accP r.acs (valsQ q e),r.t⟩,RW',Hp.le_trans l0 (Hp.le_trans lj (Hp.le_trans lk lx)),?_,⟨I.f,Ik.qa.le lx,Ik.k.le lx,Ik.c.le lx,Tk.le lx,hset,?_,hw2⟩⟩
   ·rw [hRl2];exact Mx
   ·rw [hw1,hrows];simp only [chgE];rw [hat]
  have e4:(bif (!true) then true else(!r.t))=!r.t:=rfl
  refine⟨r.t,fun _=>cell_cells w29 rfl,?_⟩
  rw [e4]
  refine⟨fun e5=>?_,fun e5=>?_⟩
  ·have ht:p.t=false:=by rw [←e3];simpa using e5
   refine fin hk h27 aw cw RW st.rows (Hp.le_refl hk) M27 I.w Ik.wi ?_
   rw [chgR_no (by rw [ht];simp),List.append_nil]
  ·have ht:p.t=true:=by rw [←e3];simpa using e5
   have hrm:=List.mem_of_getElem? hr
   have hacl:=(hao r hrm).1
   have hkj:=Hp.le_trans lk l19
   refine⟨_,_,_,_,_,_,_,row_cells' w29 (Nat.le_of_ble_eq_true rfl),?_⟩
   refine pane_Out_ok (r:=r) ⟨rfl,(Ij.t.i r hrm).le (Hp.le_trans lk M27.le0)⟩ (by omega) fun a34 c34 h30 V30=>⟨_,_,_,_,_,_,rfl,_,_,_,cell_cells (V30.le0 _ _ w27) rfl,?_⟩
   have M30:=M27.le V30.le0
   have z1:=M30.le0 _ _ (lk _ _ y1)
   have z7:=M30.le0 _ _ (lk _ _ y7)
   have S30:=(Tk.le M30.le0).s
   rw [hRl2] at S30
   have hks2:((R.set i ⟨r.k,a2',c2',accP r.acs (valsQ q e),r.t⟩).map (·.k)).Pairwise aheadK:=by
    have:(R.set i ⟨r.k,a2',c2',accP r.acs (valsQ q e),r.t⟩).map (·.k)=R.map (·.k):=by
     rw [List.map_set]
     apply List.ext_getElem?
     intro m
     rw [List.getElem?_set]
     split
     ·rename_i hm;subst hm
      rw [if_pos (by rw [List.length_map];exact hil),List.getElem?_map,hr];rfl
     ·rfl
    rw [this];exact hks
   have hxi:(R.set i ⟨r.k,a2',c2',accP r.acs (valsQ q e),r.t⟩)[i]?=some ⟨r.k,a2',c2',accP r.acs (valsQ q e),r.t⟩:=List.getElem?_set_self hil
   refine index_Pane_okN (R:=R.set i ⟨r.k,a2',c2',accP r.acs (valsQ q e),r.t⟩) hRl2.symm (p:=fun r=>decide (r.k=(s,keyQ q e))) (by rw [hRl2];exact S30) (by rw [hRl2];omega)
    (fun r0 _ K2 hk2=>⟨101,#[],#[vhp b1 0,vhp b7 0],rfl,⟨_,Tryz.func101,by kernel_rfl,rfl⟩,engine_change1_ok (cell_cells z1 rfl) (row_cells' z7 (Nat.le_of_ble_eq_true rfl)) hk2⟩)
    (fun m r2 hr2 hp2 _=>⟨_,rfl,?_⟩) (fun hno=>absurd hrk (of_decide_eq_false (hno ⟨r.k,a2',c2',accP r.acs (valsQ q e),r.t⟩ (List.mem_of_getElem? hxi))))
   have hm:m=i:=nodup_at hks2 hr2 hxi (by rw [of_decide_eq_true hp2,hrk])
   subst hm
   obtain⟨b,o,ea,hrow⟩:=S30.get encPr_len (by decide) hxi
   refine⟨_,_,_,cell_cells (V30.le0 _ _ w27) rfl,b,o,⟨ea,by omega,by omega⟩,_,_,_,_,_,_,_,by rw [Int.toNat_natCast];exact hrow,?_⟩
   have hacl2:=accP_len (acs:=r.acs) (r:=valsQ q e) (by omega)
   refine pane_Out_ok (r:=⟨r.k,a2',c2',accP r.acs (valsQ q e),r.t⟩) ⟨rfl,(Tk.i _ (List.mem_of_getElem? hxi)).le M30.le0⟩ (by simp only;omega) fun a50 c50 h46 V46=>⟨_,_,_,_,_,_,rfl,?_⟩
   have M46:=M30.le V46.le0
   have hml:(r.acs.map gOut).length≤1000000:=by rw [List.length_map];omega
   refine equal_Value_ok ((V30.slp encV_len (by decide)).le V46.le0) (V46.slp encV_len (by decide)) hml ⟨_,rfl,fun e6=>?_,fun e6=>?_⟩
   ·have hne:r.acs.map gOut≠(accP r.acs (valsQ q e)).map gOut:=by
     have e6:(!decide (r.acs.map gOut=(accP r.acs (valsQ q e)).map gOut))=true:=e6
     simpa using e6
    refine⟨_,_,_,cell_cells M46.blk rfl,?_⟩
    intro b55 hb55 h56
    obtain⟨hx,lx,Mx,trx,_⟩:=M27.rebase_new (Hp.le_trans V30.le0 V46.le0)
    have o1:=trx _ _ ((OwnV.row V30).le V46.le0) fun b o hb=>V30.new b (by rw [hb,OwnS.at0 (OwnV.own V30) b o hb])
    have o2:=trx _ _ (OwnV.row V46) fun b o hb=>Hp.none_of_le V30.le0 (V46.new b (by rw [hb,OwnS.at0 (OwnV.own V46) b o hb]))
    refine Mx.rows (m:=2) (news:=[vb true,vi r.k.1,vi r.k.2.1,vi r.k.2.2,vsl a34 (r.acs.map gOut).length c34,vb false,vi r.k.1,vi r.k.2.1,vi r.k.2.2,vsl a50 ((accP r.acs (valsQ q e)).map gOut).length c50]) hb55 rfl (by
     intro u hu
     simp only [List.mem_cons,List.not_mem_nil,or_false] at hu
     rcases hu with rfl|rfl|rfl|rfl|rfl|rfl|rfl|rfl|rfl|rfl<;>rfl) (by omega) fun aw' cw' h58 M58=>⟨_,_,_,rfl,?_⟩
    refine M58.put (j:=12) (Nat.le_of_ble_eq_true rfl) fun h60 M60=>?_
    have:=fin hx h60 aw' cw' (RW++[((true,(s,keyQ q e)),(a34,c34),r.acs.map gOut),((false,(s,keyQ q e)),(a50,c50),(accP r.acs (valsQ q e)).map gOut)]) (st.rows++chgR (kindsQ q) (s,keyQ q e) (valsQ q e) (some p)) lx
    refine this ?_ ?_ ?_ rfl
    ·rw [List.length_append,List.flatMap_append]
     have er:(([((true,(s,keyQ q e)),(a34,c34),r.acs.map gOut),((false,(s,keyQ q e)),(a50,c50),(accP r.acs (valsQ q e)).map gOut)]:List (GRow Vl (Bool × PK))).flatMap (growV rwRow))=[vb true,vi r.k.1,vi r.k.2.1,vi r.k.2.2,vsl a34 (r.acs.map gOut).length c34,vb false,vi r.k.1,vi r.k.2.1,vi r.k.2.2,vsl a50 ((accP r.acs (valsQ q e)).map gOut).length c50]:=by
      rw [hrk];rfl
     rw [er]
     exact M60
    ·have e7:chgR (kindsQ q) (s,keyQ q e) (valsQ q e) (some p)=[(true,(s,keyQ q e),r.acs.map gOut),(false,(s,keyQ q e),(accP r.acs (valsQ q e)).map gOut)]:=by
      have h1:outV (kindsQ q) p.rs=r.acs.map gOut:=by rw [e2];rfl
      have h2:outV (kindsQ q) (p.rs++[valsQ q e])=(accP r.acs (valsQ q e)).map gOut:=by rw [hacs];rfl
      rw [chgR_yes ⟨ht,by rw [h1,h2];exact hne⟩,h1,h2]
     rw [e7,List.map_append,←I.w]
     unfold growL
     rw [List.map_append]
     rfl
    ·intro r' hr'
     rcases List.mem_append.1 hr' with q1|q1
     ·exact(Ik.wi r' q1).le lx
     ·simp only [List.mem_cons,List.not_mem_nil,or_false] at q1
      rcases q1 with rfl|rfl
      ·exact o1
      ·exact o2
   ·have heq:r.acs.map gOut=(accP r.acs (valsQ q e)).map gOut:=by
     have e6:(!decide (r.acs.map gOut=(accP r.acs (valsQ q e)).map gOut))=false:=e6
     simpa using e6
    refine fin hk h46 aw cw RW st.rows (Hp.le_refl hk) M46 I.w Ik.wi ?_
    have h1:outV (kindsQ q) p.rs=r.acs.map gOut:=by rw [e2];rfl
    have h2:outV (kindsQ q) (p.rs++[valsQ q e])=(accP r.acs (valsQ q e)).map gOut:=by rw [hacs];rfl
    rw [chgR_no (fun q1=>q1.2 (by rw [h1,h2];exact heq)),List.append_nil]
 · -- it is new
  intro i a' c' a2' c2' hk hil hah hna hne lk Tk h19 l19 M19
  refine⟨_,_,_,_,_,_,_,_,_,_,_,rfl,?_⟩
  intro b27 hb27 h28 b29 hb29 h30
  refine M19.pair hb27 hb29 (by rfl) (by rfl) fun h32 M32 w27 w29 g27 g29=>⟨_,_,_,row_cells' w27 (Nat.le_of_ble_eq_true rfl),?_⟩
  refine M32.putK (j:=10) (Nat.le_of_ble_eq_true rfl) fun h27 M27 k27=>⟨false,fun q=>absurd q (by decide),fun _=>?_,fun q=>absurd q (by decide)⟩
  have keys:=prT_keys I.p
  have mapm:∀ x ∈ st.pn,∃ r ∈ R,r.k=x.k:=by
   intro x hx
   have:x.k ∈ R.map (·.k):=by rw [keys];exact List.mem_map.2 ⟨x,hx,rfl⟩
   obtain⟨r,hr,e1⟩:=List.mem_map.1 this
   exact⟨r,hr,e1⟩
  have hat:atP (s,keyQ q e) st.pn=none:=by
   unfold atP
   rw [List.find?_eq_none]
   intro x hx q1
   obtain⟨r,hr,e1⟩:=mapm x hx
   exact hne r hr (by rw [e1];exact of_decide_eq_true q1)
  have hput:putP (s,keyQ q e) (valsQ q e) st.pn=st.pn.take i++⟨(s,keyQ q e),[valsQ q e],false⟩ :: st.pn.drop i:=by
   refine putP_new (by omega) (fun x hx=>?_) (fun x hx=>?_) (fun x hx q1=>?_)
   ·have:x.k ∈ (R.take i).map (·.k):=by rw [List.map_take,keys,←List.map_take];exact List.mem_map.2 ⟨x,hx,rfl⟩
    obtain⟨r,hr,e1⟩:=List.mem_map.1 this
    rw [←e1];exact hah r hr
   ·have h1:(R.map (·.k))[i]?=some x.k:=by rw [keys,List.getElem?_map,hx];rfl
    rw [List.getElem?_map,Option.map_eq_some_iff] at h1
    obtain⟨r,hr,e1⟩:=h1
    rw [←e1];exact hna r hr
   ·obtain⟨r,hr,e1⟩:=mapm x hx
    exact hne r hr (e1.trans q1)
  have hRl2:(R.take i++(⟨(s,keyQ q e),a2',c2',accP (acc0 (kindsQ q)) (valsQ q e),false⟩:PR) :: R.drop i).length=R.length+1:=by rw [List.length_append,List.length_cons,List.length_take,List.length_drop];omega
  have Ik:=Ij.le lk
  refine hK h27 (Hp.le_trans l0 (Hp.le_trans lj (Hp.le_trans lk M27.le0))) ⟨qf,hk,a1,n1,c1,a2,n2,c2,a3,n3,c3,ak,nk,ck,ar,cr,ac,nc,cc,a',c',aw,cw,_,RW,Hp.le_trans l0 (Hp.le_trans lj lk),?_,⟨I.f,Ik.qa,Ik.k,Ik.c,Tk,?_,?_,Ik.wi⟩⟩
  ·rw [hRl2];exact M27
  ·simp only [chgE]
   rw [hput,List.map_append,List.map_append,List.map_cons,List.map_cons,List.map_take,List.map_drop,List.map_take,List.map_drop,I.p]
   congr 1
  ·simp only [chgE]
   rw [hat,I.w]
   simp [chgR]
theorem qbig_of {q:Qy}(Q:QOk q):QBig q:=by
 have w:q.wh.length≤40:=by
  by_cases h:q.wh=[]
  ·rw [h];exact Nat.zero_le _
  ·exact(exprF_ok (Q.w h)).2
 have b:q.by_.length≤40:=by
  by_cases h:q.by_=[]
  ·rw [h];exact Nat.zero_le _
  ·exact(exprF_ok (Q.b h)).2
 refine⟨by omega,by omega,fun a ha=>?_,by have:=Q.n2;omega⟩
 by_cases h:a.1=1
 ·rw [(Q.g a ha).2.2.2 h];exact Nat.zero_le _
 ·have:=(exprF_ok ((Q.g a ha).2.2.1 h)).2;omega
theorem qryF_ok {q:Qy}(B:QOk q):qryF q=0:=by
 have h1:=B.n1
 have h2:=B.n2
 have hA:firstF (q.aggs.map aggF)=0:=by
  refine firstF_zero fun x hx=>?_
  obtain⟨a,ha,rfl⟩:=List.mem_map.1 hx
  obtain⟨g1,g2,g3,g4⟩:=B.g a ha
  unfold aggF
  rw [if_neg (by
   rintro(q1|q1|⟨q1,q2⟩)
   ·omega
   ·omega
   ·exact q2 (g4 q1))]
  split
  ·rfl
  ·rename_i h;exact B.ga a ha h
 unfold qryF
 rw [if_neg (by omega),if_neg (by rw [hA];simp)]
 unfold tailF
 refine firstF_zero fun x hx=>?_
 simp only [List.mem_cons,List.not_mem_nil,or_false] at hx
 rcases hx with rfl|rfl|rfl
 ·split
  ·rfl
  ·rename_i h;exact B.wa h
 ·split
  ·rfl
  ·rename_i h;exact B.ba h
 ·have h3:=B.s
  have h4:=B.l
  have h5:=B.d
  have h6:=B.t
  have h7:=B.r
  unfold numsF
  rw [if_neg (by omega),if_neg (by omega)]
def csE (vA v2 v3:Value)(q:Qy)(vK vR vC:Value):List Value:=[vA,v2,v3,vi q.size,vi q.slide,vi q.delay,vi q.late,vK,vR,vC,vsl none 0 0,vi 0,vsl none 0 0]
theorem growL_snocN {α β:Type}(R:List (GRow α β))(r:GRow α β):growL (R++[r])=growL R++[(r.1,r.2.2)]:=by unfold growL;rw [List.map_append];rfl
def AggF (a b:Ag):Prop:=b.1=a.1∧(a.1=1→b.2=[])∧(a.1≠1→Rep (fun e=>valE e a.2) (tAt a.2 (a.2.length - 1)) a.2.length b.2)
theorem elAggN:ElT Tryz.prog 25 86 2 32:=.of (by kernel_rfl) (by kernel_rfl) (by decide)
abbrev owI (a:Option Addr)(n c:Nat)(xs:List Value):Ow:=⟨3,1,a,n,c,xs⟩
def EngO (q:Qy)(h0 h:Hp)(g parts:Nat):Prop:=
 ∃(qf:Qy) (hi:Hp) (a1:Option Addr) (n1 c1:Nat) (a2:Option Addr) (n2 c2:Nat) (a3:Option Addr) (n3 c3:Nat) (ak:Option Addr) (nk ck:Nat) (ar:Option Addr) (cr:Nat) (ac:Option Addr) (cc:Nat),
  h0.le hi∧Owns hi h [owI ac parts cc ((List.replicate parts (-1:Int)).map vi),owI ar parts cr ((List.replicate parts (0:Nat)).map fun n:Nat=>vi n),blkO g 64 (engC a1 n1 c1 a2 n2 c2 a3 n3 c3 qf ak nk ck ar parts cr ac parts cc none 0 0 0 none 0 0)] ∧
   FoldQ q qf∧QAt hi qf a1 n1 a2 n2 a3 n3∧SlI hi ak nk (kindsQ q)
theorem EngX.of_owns {q qf:Qy}{h0 hi h:Hp}{g:Nat}{st:En}{a1:Option Addr}{n1 c1:Nat}{a2:Option Addr}{n2 c2:Nat}{a3:Option Addr}{n3 c3:Nat}{ak:Option Addr}{nk ck:Nat}{ar:Option Addr}{cr:Nat}{ac:Option Addr}{cc:Nat}{tb:Option Addr}{tc:Nat}{aw:Option Addr}{cw:Nat}{R:List PR}{RW:List (GRow Vl (Bool × PK))}(l0:h0.le hi)
  (O:Owns hi h [owI ac st.far.length cc (st.far.map vi),owI ar st.rd.length cr (st.rd.map fun n:Nat=>vi n),blkO g 64 (engC a1 n1 c1 a2 n2 c2 a3 n3 c3 qf ak nk ck ar st.rd.length cr ac st.far.length cc tb R.length tc st.late aw RW.length cw),⟨79,5,tb,R.length,tc,R.flatMap encPr⟩,⟨74,5,aw,RW.length,cw,RW.flatMap (growV rwRow)⟩])
  (F:FoldQ q qf) (Q:QAt hi qf a1 n1 a2 n2 a3 n3) (K:SlI hi ak nk (kindsQ q)) (hR:∀ r ∈ R,HasRow hi r.a (r.acs.flatMap encAc)) (hW:∀ r ∈ RW,HasRow hi r.2.1.1 (r.2.2.flatMap encV)) (eR:R.map prT=st.pn.map (pnT (kindsQ q))) (eW:growL RW=st.rows.map rowG):EngX q h0 h g st:=by
 obtain⟨hj,lj,Oj,kj⟩:=O.rebase (L':=[owI ar st.rd.length cr (st.rd.map fun n:Nat=>vi n),blkO g 64 (engC a1 n1 c1 a2 n2 c2 a3 n3 c3 qf ak nk ck ar st.rd.length cr ac st.far.length cc tb R.length tc st.late aw RW.length cw),⟨74,5,aw,RW.length,cw,RW.flatMap (growV rwRow)⟩]) (by
  refine List.Sublist.cons _ (List.Sublist.cons_cons _ (List.Sublist.cons_cons _ (List.Sublist.cons _ ?_)))
  exact List.Sublist.refl _)
 have keepR:∀(s:Ow) (k:Nat),(k=0∨k=3)→[owI ac st.far.length cc (st.far.map vi),owI ar st.rd.length cr (st.rd.map fun n:Nat=>vi n),blkO g 64 (engC a1 n1 c1 a2 n2 c2 a3 n3 c3 qf ak nk ck ar st.rd.length cr ac st.far.length cc tb R.length tc st.late aw RW.length cw),⟨79,5,tb,R.length,tc,R.flatMap encPr⟩,⟨74,5,aw,RW.length,cw,RW.flatMap (growV rwRow)⟩][k]?=some s→HasRow hj s.a s.xs:=by
  intro s k hk hs
  have hrow:=(O.ownV (List.mem_of_getElem? hs)).row
  refine HasRow.over hrow fun b o ob hb ho=>kj b ob ho fun t ht q1=>?_
  have hb0:o=0:=(O.own s (List.mem_of_getElem? hs)).at0 b o hb
  subst hb0
  simp only [List.mem_cons,List.not_mem_nil,or_false] at ht
  rcases ht with rfl|rfl|rfl
  ·exact O.apart hs (j:=1) rfl (by omega) hb q1
  ·exact O.apart hs (j:=2) rfl (by omega) hb q1
  ·exact O.apart hs (j:=4) rfl (by omega) hb q1
 have hcl:SlI hj ac st.far.length st.far:=⟨rfl,keepR _ 0 (.inl rfl) rfl⟩
 have hT:SlP encPr hj tb R.length R:=⟨rfl,keepR _ 3 (.inr rfl) rfl⟩
 refine⟨qf,hj,a1,n1,c1,a2,n2,c2,a3,n3,c3,ak,nk,ck,ar,cr,ac,st.far.length,cc,tb,tc,aw,cw,R,RW,Hp.le_trans l0 lj,⟨Oj.blk (List.mem_cons_of_mem _ (List.mem_cons_self ..)),Oj.new _ (List.mem_cons_of_mem _ (List.mem_cons_self ..)) g rfl,Oj.ownV (s:=owI ar st.rd.length cr (st.rd.map fun n:Nat=>vi n)) (List.mem_cons_self ..),Oj.ownV (s:=⟨74,5,aw,RW.length,cw,RW.flatMap (growV rwRow)⟩) (by simp),fun q1=>?_,fun q1=>?_,fun b hb q1=>?_⟩,
  ⟨F,Q.le lj,K.le lj,hcl,⟨hT,fun r hr=>(hR r hr).le lj⟩,eR,eW,fun r hr=>(hW r hr).le lj⟩⟩
 ·exact Oj.apart (i:=0) (j:=1) rfl rfl (by decide) (b:=g) q1 rfl
 ·exact Oj.apart (i:=2) (j:=1) rfl rfl (by decide) (b:=g) q1 rfl
 ·exact Oj.apart (i:=0) (j:=2) rfl rfl (by decide) (b:=b) hb q1
set_option maxHeartbeats 1000000 in
theorem engine_NewO_ok {q:Qy}{a1:Option Addr}{n1 c1:Nat}{a2:Option Addr}{n2 c2:Nat}{a3:Option Addr}{n3 c3:Nat}{h:Hp}{p:Int}{R':Value→Hp→Prop}(Q:QAt h q a1 n1 a2 n2 a3 n3)(B:QOk q)
  (hbad:¬(1≤p∧p≤3)→∀ h',h.le h'→R' (vtup [vp none,ifv (some (99,vi 1))]) h')
  (hK:1≤p→p≤3→∀ g h',h.le h'→EngO q h h' g p.toNat→R' (vtup [vhp g 0,ifv none]) h'):CallOK Tryz.prog 13 [qV a1 n1 c1 a2 n2 c2 a3 n3 c3 q,vi p] h R':=by
 refine ok_engine_New ?_
 unfold VC_engine_New
 have hn1:=Q.g.len
 have hn4:=B.n2
 refine query_Check_ok Q (qbig_of B) fun h2 l2=>⟨_,rfl,?_⟩
 rw [errV_some,decide_eq_true (qryF_ok B)]
 refine⟨fun e=>(by cases e),fun _=>?_⟩
 refine clock_New_ok (fun hp=>⟨_,_,_,_,rfl,fun _=>hbad hp h2 l2,fun e=>(by cases e)⟩) fun hp1 hp3 a7 n7 c7 h6 O6=>⟨_,_,_,_,rfl,fun e=>(by cases e),fun _=>?_⟩
 have l6:=Hp.le_trans l2 O6.le
 obtain⟨parts,rfl⟩:∃ n:Nat,p=(n:Int):=⟨p.toNat,by omega⟩
 rw [Int.toNat_natCast] at O6 hK
 refine sem_make elInt (z:=[vi 0]) (by kernel_rfl) (n:=parts) (by omega) (by omega) fun b10 hb10=>⟨_,_,_,rfl,?_⟩
 have erep:(List.replicate parts [vi 0]).flatten=(List.replicate parts (0:Nat)).map fun n:Nat=>vi n:=by
  clear hK hbad O6 hp1 hp3
  induction parts with
  | zero=>rfl
  | succ n ih=>rw [List.replicate_succ,List.flatten_cons,ih,List.replicate_succ,List.map_cons];rfl
 rw [erep]
 have hrl:((List.replicate parts (0:Nat)).map fun n:Nat=>vi n).length=parts*1:=by rw [List.length_map,List.length_replicate,Nat.mul_one]
 have l11:h6.le (h6.set b10 (cellsO ((List.replicate parts (0:Nat)).map fun n:Nat=>vi n) 3)):=Hp.le_set (Hp.le_refl _) hb10 _
 have hn7:parts=n7:=by rw [(O6.sli:SlI h6 a7 n7 (List.replicate parts (-1:Int))).1,List.length_replicate]
 subst hn7
 have OC:=(Owns.nil (Hp.le_refl h2)).push O6.le (s:=owI a7 parts c7 ((List.replicate parts (-1:Int)).map vi)) O6.own (fun b hb=>O6.new b hb)
 have OR:=OC.push l11 (s:=⟨3,1,some ⟨b10,0,none⟩,parts,parts,(List.replicate parts (0:Nat)).map fun n:Nat=>vi n⟩) (OwnS.new h6 b10 3 _ hrl (by simp only [maxLen];omega)) (fun b hb=>by cases hb;exact hb10)
 generalize h6.set b10 (cellsO ((List.replicate parts (0:Nat)).map fun n:Nat=>vi n) 3)=h11 at l11 OR
 intro b13 hb13 h14
 have l14:h11.le h14:=Hp.le_set (Hp.le_refl _) hb13 _
 have OB:=OR.push l14 (s:=blkO b13 64 (csE (vsl a1 n1 c1) (vsl a2 n2 c2) (vsl a3 n3 c3) q (vsl none 0 0) (vsl (some ⟨b10,0,none⟩) parts parts) (vsl a7 parts c7))) (blkO_own (Hp.set_same _ _ _)) (fun b hb=>by cases hb;exact hb13)
 clear_value h14
 have OA:=OB.push (Hp.le_refl h14) (s:=⟨86,2,none,0,0,[]⟩) (OwnS.nil _ _ _) (fun b hb=>by cases hb)
 have OK:=OA.push (Hp.le_refl h14) (s:=⟨3,1,none,0,0,[]⟩) (OwnS.nil _ _ _) (fun b hb=>by cases hb)
 simp only [List.nil_append,List.cons_append] at OK
 refine OK.put (j:=2) rfl (i:=0) (Nat.le_of_ble_eq_true rfl) fun h15 O15 _=>?_
 have Q6:=Q.le l2
 generalize hcs:owI a7 parts c7 ((List.replicate parts (-1:Int)).map vi)=clS at O15
 generalize hrd:(⟨3,1,some ⟨b10,0,none⟩,parts,parts,(List.replicate parts (0:Nat)).map fun n:Nat=>vi n⟩:Ow)=rdS at O15
 refine⟨fun vs hh=>∃(i:Nat) (hi:Hp) (aA:Option Addr) (cA:Nat) (RA:List (GRow Nd Int)) (aK:Option Addr) (cK:Nat),vs=[vi i]∧i≤q.aggs.length∧h2.le hi∧RA.length=i ∧
   Owns hi hh [clS,rdS,blkO b13 64 (csE (vsl aA i cA) (vsl a2 n2 c2) (vsl a3 n3 c3) q (vsl aK i cK) (vsl (some ⟨b10,0,none⟩) parts parts) (vsl a7 parts c7)),⟨86,2,aA,i,cA,RA.flatMap (growV aggRw)⟩,⟨3,1,aK,i,cK,((kindsQ q).take i).map vi⟩] ∧
   (∀ r ∈ RA,HasRow hi r.2.1.1 (r.2.2.flatMap encN))∧∀(j:Nat) (a b:Ag),q.aggs[j]?=some a→(growL RA)[j]?=some b→AggF a b,
  fun vs hh=>q.aggs.length - (vint vs 0).toNat,⟨0,h2,none,0,[],none,0,rfl,Nat.zero_le _,Hp.le_refl h2,rfl,O15,fun r hr=>(by cases hr),fun j a b _ hb=>by simp [growL] at hb⟩,?_⟩
 rintro vs hh ⟨i,hi,aA,cA,RA,aK,cK,rfl,hi',lhi,hRl,O,hin,hag⟩
 refine⟨i,rfl,fun e1=>?_,fun e1=>?_⟩
 ·have hlt:i < q.aggs.length:=by have:=of_decide_eq_true e1;omega
  have hx:q.aggs[i]?=some q.aggs[i]:=List.getElem?_eq_getElem hlt
  have hg:=B.g _ (List.getElem_mem hlt)
  have hkt:(kindsQ q).take (i+1)=(kindsQ q).take i++[(q.aggs[i]).1]:=by
   rw [List.take_succ_eq_append_getElem (by rw [kindsQ_len];exact hlt)]
   congr 2
   unfold kindsQ
   rw [List.getElem_map]
  generalize q.aggs[i]=ag at *
  obtain⟨b,o,a',c',ha,hrow,hS⟩:=((Q6.le lhi).g).row aggRw_len (by decide) hx
  refine⟨b,o,⟨ha,by omega,by omega⟩,ag.1,a',ag.2.length,c',by rw [Int.toNat_natCast];exact Hp.row_le O.le hrow,?_⟩
  intro J33
  have hJ:∀(a38:Option Addr) (n38 c38:Nat) (hk h39:Hp) (z:List Nd),hi.le hk→Owns hk h39 [clS,rdS,blkO b13 64 (csE (vsl aA i cA) (vsl a2 n2 c2) (vsl a3 n3 c3) q (vsl aK i cK) (vsl (some ⟨b10,0,none⟩) parts parts) (vsl a7 parts c7)),⟨86,2,aA,i,cA,RA.flatMap (growV aggRw)⟩,⟨3,1,aK,i,cK,((kindsQ q).take i).map vi⟩]→n38=z.length→HasRow hk a38 (z.flatMap encN)→AggF ag (ag.1,z)→J33 a38 n38 c38 h39:=by
   intro a38 n38 c38 hk h39 z lk Ok hn38 hz hA
   refine⟨_,_,_,cell_cells (Ok.blk (List.mem_cons_of_mem _ (List.mem_cons_of_mem _ (List.mem_cons_self ..)))) rfl,?_⟩
   intro b41 hb41 h42
   refine Ok.app (j:=3) rfl elAggN (tn:=86) (m:=1) (news:=[vi ag.1,vsl a38 n38 c38]) hb41 rfl (by intro u hu;simp at hu;rcases hu with rfl|rfl<;>rfl) (by simp only;omega) (by simp only;omega) fun aA' cA' h44 O44 _=>⟨_,_,_,rfl,?_⟩
   simp only [List.set_cons_succ,List.set_cons_zero] at O44
   refine O44.put (j:=2) rfl (i:=0) (Nat.le_of_ble_eq_true rfl) fun h46 O46 _=>?_
   simp only [List.set_cons_succ,List.set_cons_zero,csE] at O46
   refine⟨_,_,_,cell_cells (O46.blk (List.mem_cons_of_mem _ (List.mem_cons_of_mem _ (List.mem_cons_self ..)))) rfl,?_⟩
   intro b48 hb48 h49
   refine O46.app (j:=4) rfl elInt (tn:=3) (m:=1) (news:=[vi ag.1]) hb48 rfl (by intro u hu;simp at hu;rcases hu with rfl;rfl) (by simp only;omega) (by simp only;omega) fun aK' cK' h51 O51 _=>⟨_,_,_,rfl,?_⟩
   simp only [List.set_cons_succ,List.set_cons_zero] at O51
   refine O51.put (j:=2) rfl (i:=7) (Nat.le_of_ble_eq_true rfl) fun h53 O53 _=>?_
   simp only [List.set_cons_succ,List.set_cons_zero] at O53
   refine⟨_,isW (by unfold InR;omega),⟨i+1,hk,aA',cA',RA++[(ag.1,(a38,c38),z)],aK',cK',by simp,by omega,Hp.le_trans lhi lk,by simp [hRl],?_,?_,?_⟩,by simp [vint];omega⟩
   ·rw [hkt,List.map_append,List.flatMap_append]
    have e3:([(ag.1,(a38,c38),z)]:List (GRow Nd Int)).flatMap (growV aggRw)=[vi ag.1,vsl a38 n38 c38]:=by rw [hn38];rfl
    rw [e3]
    exact O53
   ·intro r hr
    rcases List.mem_append.1 hr with q1|q1
    ·exact(hin r q1).le lk
    ·rw [List.mem_singleton.1 q1];exact hz
   ·intro j a b h1 h2
    have hgl:(growL RA).length=i:=by simp [growL,hRl]
    rw [growL_snocN] at h2
    rcases Nat.lt_or_ge j i with q1|q1
    ·rw [List.getElem?_append_left (by omega)] at h2
     exact hag j a b h1 h2
    ·rw [List.getElem?_append_right (by omega)] at h2
     have hj:j=i:=by
      have:=(List.getElem?_eq_some_iff.1 h2).1
      simp at this
      omega
     subst hj
     rw [hgl,Nat.sub_self] at h2
     cases h2
     rw [hx] at h1
     cases h1
     exact hA
  clear_value J33
  refine⟨fun e2=>?_,fun e2=>?_⟩
  ·have hne:ag.1≠1:=of_decide_eq_true e2
   obtain⟨OE,hlen⟩:=exprF_ok (hg.2.2.1 hne)
   refine O.frame (fold_Fold_ok hS OE (by omega) fun az nz cz hk z lk NSz Rp h29 l29 O29=>⟨_,_,_,rfl,?_⟩)
   exact hJ az nz cz hk h29 z lk O29 NSz.s.1 NSz.s.2 ⟨rfl,fun q1=>absurd q1 hne,fun _=>Rp⟩
  ·have he:ag.1=1:=Decidable.not_not.1 (of_decide_eq_false e2)
   have hz:=hg.2.2.2 he
   refine hJ a' ag.2.length c' hi hh [] (Hp.le_refl hi) O (by rw [hz]) (.inl rfl) ⟨rfl,fun _=>rfl,fun q1=>absurd he q1⟩
 ·have hge:i=q.aggs.length:=by have:=of_decide_eq_false e1;omega
  subst hge
  rw [List.take_of_length_le (by rw [kindsQ_len];exact Nat.le_refl _)] at O
  obtain⟨hj,lj,Oj,kj⟩:=O.rebase (L':=[clS,rdS,blkO b13 64 (csE (vsl aA q.aggs.length cA) (vsl a2 n2 c2) (vsl a3 n3 c3) q (vsl aK q.aggs.length cK) (vsl (some ⟨b10,0,none⟩) parts parts) (vsl a7 parts c7))]) (by simp)
  have keepR:∀(s:Ow) (k:Nat),(k=3∨k=4)→[clS,rdS,blkO b13 64 (csE (vsl aA q.aggs.length cA) (vsl a2 n2 c2) (vsl a3 n3 c3) q (vsl aK q.aggs.length cK) (vsl (some ⟨b10,0,none⟩) parts parts) (vsl a7 parts c7)),⟨86,2,aA,q.aggs.length,cA,RA.flatMap (growV aggRw)⟩,⟨3,1,aK,q.aggs.length,cK,(kindsQ q).map vi⟩][k]?=some s→HasRow hj s.a s.xs:=by
   intro s k hk hs
   have hrow:=(O.ownV (List.mem_of_getElem? hs)).row
   refine HasRow.over hrow fun b o ob hb ho=>kj b ob ho fun t ht q1=>?_
   have hb0:o=0:=(O.own s (List.mem_of_getElem? hs)).at0 b o hb
   subst hb0
   simp only [List.mem_cons,List.not_mem_nil,or_false] at ht
   rcases ht with rfl|rfl|rfl
   ·exact O.apart hs (j:=0) rfl (by omega) hb q1
   ·exact O.apart hs (j:=1) rfl (by omega) hb q1
   ·exact O.apart hs (j:=2) rfl (by omega) hb q1
  have hgA:GTab encN aggRw hj aA q.aggs.length (growL RA):=⟨RA,rfl,by simp [growL,hRl],keepR _ 3 (.inl rfl) rfl,fun r hr=>(hin r hr).le lj⟩
  have hkK:SlI hj aK q.aggs.length (kindsQ q):=⟨by rw [kindsQ_len],keepR _ 4 (.inr rfl) rfl⟩
  have Qj:=Q6.le (Hp.le_trans lhi lj)
  have l0j:h.le hj:=Hp.le_trans l2 (Hp.le_trans lhi lj)
  have hgl:(growL RA).length=q.aggs.length:=by simp [growL,hRl]
  clear O keepR hin kj
  -- all of it is there
  have fin:∀(hk h':Hp) (w2:Option Addr) (m2 d2:Nat) (w3:Option Addr) (m3 d3:Nat) (wh by_:List Nd),hj.le hk→Owns hk h' [clS,rdS,blkO b13 64 (csE (vsl aA q.aggs.length cA) (vsl w2 m2 d2) (vsl w3 m3 d3) q (vsl aK q.aggs.length cK) (vsl (some ⟨b10,0,none⟩) parts parts) (vsl a7 parts c7))]→SlP encN hk w2 m2 wh→SlP encN hk w3 m3 by_→FoldQ q { q with aggs:=growL RA,wh:=wh,by_:=by_ }→R' (vtup [vhp b13 0,ifv none]) h':=by
   intro hk h' w2 m2 d2 w3 m3 d3 wh by_ lk Ok S2 S3 F
   rw [←hrd,←hcs] at Ok
   exact hK hp1 hp3 b13 h' (Hp.le_trans l0j (Hp.le_trans lk Ok.le)) ⟨{ q with aggs:=growL RA,wh:=wh,by_:=by_ },hk,aA,q.aggs.length,cA,w2,m2,d2,w3,m3,d3,aK,q.aggs.length,cK,some ⟨b10,0,none⟩,parts,a7,c7,Hp.le_trans l0j lk,Ok,F,⟨hgA.le lk,S2,S3⟩,hkK.le lk⟩
  have F0:∀ wh by_,(q.wh=[]→wh=[])→(q.wh≠[]→Rep (fun e=>valE e q.wh) (tAt q.wh (q.wh.length - 1)) q.wh.length wh)→(q.by_=[]→by_=[])→(q.by_≠[]→Rep (fun e=>valE e q.by_) (tAt q.by_ (q.by_.length - 1)) q.by_.length by_)→FoldQ q { q with aggs:=growL RA,wh:=wh,by_:=by_ }:=
   fun wh by_ f1 f2 f3 f4=>⟨rfl,rfl,rfl,rfl,hgl,hag,f1,f2,f3,f4⟩
  intro J62
  have hJ62:∀(hk h':Hp) (w2:Option Addr) (m2 d2:Nat) (wh:List Nd),hj.le hk→Owns hk h' [clS,rdS,blkO b13 64 (csE (vsl aA q.aggs.length cA) (vsl w2 m2 d2) (vsl a3 n3 c3) q (vsl aK q.aggs.length cK) (vsl (some ⟨b10,0,none⟩) parts parts) (vsl a7 parts c7))]→SlP encN hk w2 m2 wh→(q.wh=[]→wh=[])→(q.wh≠[]→Rep (fun e=>valE e q.wh) (tAt q.wh (q.wh.length - 1)) q.wh.length wh)→J62 h':=by
   intro hk h' w2 m2 d2 wh lk Ok S2 f1 f2
   have hJ70:∀(hl h'':Hp) (w3:Option Addr) (m3 d3:Nat) (by_:List Nd),hk.le hl→Owns hl h'' [clS,rdS,blkO b13 64 (csE (vsl aA q.aggs.length cA) (vsl w2 m2 d2) (vsl w3 m3 d3) q (vsl aK q.aggs.length cK) (vsl (some ⟨b10,0,none⟩) parts parts) (vsl a7 parts c7))]→SlP encN hl w3 m3 by_→(q.by_=[]→by_=[])→(q.by_≠[]→Rep (fun e=>valE e q.by_) (tAt q.by_ (q.by_.length - 1)) q.by_.length by_)→R' (vtup [vhp b13 0,ifv none]) h'':=
    fun hl h'' w3 m3 d3 by_ ll Ol S3 f3 f4=>fin hl h'' w2 m2 d2 w3 m3 d3 wh by_ (Hp.le_trans lk ll) Ol (S2.le ll) S3 (F0 wh by_ f1 f2 f3 f4)
   refine⟨fun e2=>?_,fun e2=>?_⟩
   ·have hne:q.by_≠[]:=by
     intro q1
     have:=of_decide_eq_true e2
     rw [Q.b.1,q1] at this
     simp at this
    obtain⟨OE,hlen⟩:=exprF_ok (B.b hne)
    refine Ok.frame (fold_Fold_ok (Qj.b.le lk) OE (by omega) fun az nz cz hl z ll NSz Rp h65 l65 O65=>⟨_,_,_,rfl,?_⟩)
    refine O65.put (j:=2) rfl (i:=2) (Nat.le_of_ble_eq_true rfl) fun h67 O67 _=>?_
    exact hJ70 hl h67 az nz cz z ll O67 NSz.s (fun q1=>absurd q1 hne) (fun _=>Rp)
   ·have he:q.by_=[]:=by
     have:=of_decide_eq_false e2
     rw [Q.b.1] at this
     exact List.length_eq_zero_iff.1 (by omega)
    exact hJ70 hk h' a3 n3 c3 q.by_ (Hp.le_refl hk) Ok (Qj.b.le lk) (fun q1=>q1) (fun q1=>absurd he q1)
  clear_value J62
  refine⟨fun e2=>?_,fun e2=>?_⟩
  ·have hne:q.wh≠[]:=by
    intro q1
    have:=of_decide_eq_true e2
    rw [Q.w.1,q1] at this
    simp at this
   obtain⟨OE,hlen⟩:=exprF_ok (B.w hne)
   refine Oj.frame (fold_Fold_ok Qj.w OE (by omega) fun az nz cz hl z ll NSz Rp h57 l57 O57=>⟨_,_,_,rfl,?_⟩)
   refine O57.put (j:=2) rfl (i:=1) (Nat.le_of_ble_eq_true rfl) fun h59 O59 _=>?_
   exact hJ62 hl h59 az nz cz z ll O59 NSz.s (fun q1=>absurd q1 hne) (fun _=>Rp)
  ·have he:q.wh=[]:=by
    have:=of_decide_eq_false e2
    rw [Q.w.1] at this
    exact List.length_eq_zero_iff.1 (by omega)
   exact hJ62 hj hh a2 n2 c2 q.wh (Hp.le_refl hj) Oj Qj.w (fun q1=>q1) (fun q1=>absurd he q1)
theorem EngO.engX {q:Qy}{h0 h:Hp}{g parts:Nat}(X:EngO q h0 h g parts):EngX q h0 h g (newE parts):=by
 obtain⟨qf,hi,a1,n1,c1,a2,n2,c2,a3,n3,c3,ak,nk,ck,ar,cr,ac,cc,l0,O,F,Q,K⟩:=X
 have O1:=O.push (Hp.le_refl h) (s:=⟨79,5,none,0,0,[]⟩) (OwnS.nil _ _ _) (fun b hb=>by cases hb)
 have O2:=O1.push (Hp.le_refl h) (s:=⟨74,5,none,0,0,[]⟩) (OwnS.nil _ _ _) (fun b hb=>by cases hb)
 simp only [List.cons_append,List.nil_append] at O2
 refine EngX.of_owns (R:=[]) (RW:=[]) (tc:=0) (cw:=0) (tb:=none) (aw:=none) (c1:=c1) (c2:=c2) (c3:=c3) (ck:=ck) (ar:=ar) (cr:=cr) (ac:=ac) (cc:=cc) l0 ?_ F Q K (fun r hr=>by cases hr) (fun r hr=>by cases hr) rfl rfl
 simp only [newE,List.length_replicate]
 exact O2
theorem engine_New_ok {q:Qy}{a1:Option Addr}{n1 c1:Nat}{a2:Option Addr}{n2 c2:Nat}{a3:Option Addr}{n3 c3:Nat}{h:Hp}{p:Int}{R':Value→Hp→Prop}(Q:QAt h q a1 n1 a2 n2 a3 n3)(B:QOk q)
  (hbad:¬(1≤p∧p≤3)→∀ h',h.le h'→R' (vtup [vp none,ifv (some (99,vi 1))]) h')
  (hK:1≤p→p≤3→∀ g h',h.le h'→EngX q h h' g (newE p.toNat)→R' (vtup [vhp g 0,ifv none]) h'):CallOK Tryz.prog 13 [qV a1 n1 c1 a2 n2 c2 a3 n3 c3 q,vi p] h R':=
 engine_NewO_ok Q B hbad fun h1 h3 g h' l X=>hK h1 h3 g h' l X.engX
theorem mapT_ind {ks:List Int}{C:List PR→List Pn→Prop}(h0:C [] [])(h1:∀ r R p L,prT r=pnT ks p→R.map prT=L.map (pnT ks)→C R L→C (r :: R) (p :: L)):∀{R:List PR} {L:List Pn},R.map prT=L.map (pnT ks)→C R L
 | [],[],_=>h0
 | [],_ :: _,h=>by simp at h
 | _ :: _,[],h=>by simp at h
 | r :: R,p :: L,h=>by
  simp only [List.map_cons,List.cons.injEq] at h
  exact h1 r R p L h.1 h.2 (mapT_ind h0 h1 h.2)
theorem prT_eq {ks:List Int}{r:PR}{p:Pn}(h:prT r=pnT ks p):r.k=p.k∧r.acs=accsOf ks p.rs∧r.t=p.t:=by
 simp only [prT,pnT,Prod.mk.injEq] at h
 exact h
theorem tell_map {ks:List Int}{size u:Int}{R:List PR}{L:List Pn}(h:R.map prT=L.map (pnT ks)):(R.map (tellPr size u)).map prT=(tellP size u L).map (pnT ks):=by
 refine mapT_ind (C:=fun R L=>(R.map (tellPr size u)).map prT=(tellP size u L).map (pnT ks)) rfl (fun r R p L h1 h2 ih=>?_) h
 obtain⟨e1,e2,e3⟩:=prT_eq h1
 unfold tellP at ih ⊢
 simp only [List.map_cons,ih]
 congr 1
 simp only [prT,pnT,tellPr,duePr,dueP,e1,e2,e3]
theorem drop_map {ks:List Int}{size u:Int}{R:List PR}{L:List Pn}(h:R.map prT=L.map (pnT ks)):(R.filter fun r=>!decide (r.k.1+size≤u)).map prT=(dropP size u L).map (pnT ks):=by
 refine mapT_ind (C:=fun R L=>(R.filter fun r=>!decide (r.k.1+size≤u)).map prT=(dropP size u L).map (pnT ks)) rfl (fun r R p L h1 h2 ih=>?_) h
 obtain⟨e1,e2,e3⟩:=prT_eq h1
 unfold dropP dueP at ih ⊢
 rw [List.filter_cons,List.filter_cons,e1]
 split
 ·rw [List.map_cons,List.map_cons,ih,h1]
 ·exact ih
theorem new_map {ks:List Int}{size u:Int}{R:List PR}{L:List Pn}(h:R.map prT=L.map (pnT ks)):((R.filter (newPr size u)).map toldPr).map (fun r=>(r.k,r.acs))=(newP size u L).map (fun p=>(p.k,accsOf ks p.rs)):=by
 refine mapT_ind (C:=fun R L=>((R.filter (newPr size u)).map toldPr).map (fun r=>(r.k,r.acs))=(newP size u L).map (fun p=>(p.k,accsOf ks p.rs))) rfl (fun r R p L h1 h2 ih=>?_) h
 obtain⟨e1,e2,e3⟩:=prT_eq h1
 unfold newP at ih ⊢
 have hc:newPr size u r=(!p.t&&dueP size u p):=by unfold newPr duePr dueP;rw [e1,e3]
 rw [List.filter_cons,List.filter_cons,hc]
 split
 ·rw [List.map_cons,List.map_cons,List.map_cons,ih]
  simp only [toldPr,e1,e2]
 ·exact ih
def farX (f d:Int):Int:=if f < 0 then 0 else f - d
theorem clock_Part2_ok {a:Option Addr}{n c:Nat}{l:List Int}{p d:Int}{h:Hp}{R:Value→Hp→Prop}(S:SlI h a n l)(hp:0≤p)(hp':p < n)(hr:InR (l.getD p.toNat 0 - d))
  (hK:R (vtup [vi (farX (l.getD p.toNat 0) d),vb (decide (0≤l.getD p.toNat 0))]) h):CallOK Tryz.prog 44 [vag [vsl a n c],vi p,vi d] h R:=by
 refine clock_Part_ok S hp hp' hr ?_
 unfold farX at hK
 split
 ·rename_i h1
  rw [if_pos h1,decide_eq_false (by omega)] at hK
  exact hK
 ·rename_i h1
  rw [if_neg h1,decide_eq_true (by omega)] at hK
  exact hK
set_option maxHeartbeats 4000000 in
theorem engine_Step_ok {q:Qy}{h0 h:Hp}{g parts N p:Nat}{st:En}{e:EvL}{R':Value→Hp→Prop}(X:EngX q h0 h g st)(B:QOk q)(E:EvOK e)(HB:EnB q parts N st)(hN:N≤700000)(hp:p < parts)(hparts:parts≤1000)
  (hK:∀ h',h0.le h'→EngX q h0 h' g (stepE q p e st)→R' (vtup []) h'):CallOK Tryz.prog 17 [vhp g 0,vi p,vag (encE e)] h R':=by
 refine ok_engine_Engine_Step ?_
 unfold VC_engine_Engine_Step
 have hd:=B.d
 have ht:=B.t
 have hs:=B.s
 have hsl:=B.l
 have hEt:=E.t
 have hfl:=HB.fl
 have hrl:=HB.rl
 have X0:=X
 obtain⟨qf,hi,a1,n1,c1,a2,n2,c2,a3,n3,c3,ak,nk,ck,ar,cr,ac,nc,cc,tb,tc,aw,cw,R,RW,l0,M,I⟩:=X
 have hnc:nc=st.far.length:=I.c.1
 have hfp:st.far.getD p 0 ∈ st.far:=by rw [List.getD_eq_getElem?_getD,List.getElem?_eq_getElem (by omega)];exact List.getElem_mem _
 have hfb:=HB.fb _ hfp
 have F:=I.f
 refine⟨_,_,_,row_cells' M.blk (Nat.le_of_ble_eq_true rfl),_,cell_cells M.blk rfl,?_⟩
 refine clock_Part2_ok (p:=(p:Int)) (d:=qf.delay) (I.c.le M.le0) (by omega) (by omega) (by rw [Int.toNat_natCast,F.de];unfold InR;omega) ⟨_,_,rfl,?_⟩
 rw [Int.toNat_natCast,F.de]
 have hn:(decide ((((n2:Nat):Int):Int)=0))=decide (q.wh=[]):=by
  rw [I.qa.w.1]
  refine decide_eq_decide.2 ⟨fun h=>F.wn.1 (List.length_eq_zero_iff.1 (by omega)),fun h=>by rw [F.wn.2 h];rfl⟩
 refine⟨_,_,_,cell_cells M.blk rfl,_,_,_,fun _=>cell_cells M.blk rfl,?_⟩
 rw [hn]
 refine⟨fun x hh=>h.le hh∧(q.wh≠[]→x=.t (.ag [.v (vi (valE e q.wh).1),.v (vi (valE e q.wh).2)])),fun e1=>?_,fun e1=>⟨Hp.le_refl h,fun hw=>absurd (decide_eq_false hw) e1⟩,?_⟩
 ·have hw:q.wh≠[]:=of_decide_eq_false e1
  have Rp:=F.w1 hw
  have hlq:=(exprF_ok (B.w hw)).2
  refine evalO_ok Rp.ok (by have:=Rp.len;omega) (I.qa.w.le M.le0) fun h' l'=>⟨_,_,rfl,l',fun _=>by rw [Rp.val e E]⟩
 rintro h14 x15 x16 ⟨l14,e14⟩
 refine⟨fun x hh=>h.le hh∧(q.wh≠[]→x=.t (.ag [.v (vi (truthV true).1),.v (vi (truthV true).2)])),fun e1=>value_Truth_ok ⟨_,_,rfl,l14,fun _=>rfl⟩,fun e1=>⟨l14,fun hw=>absurd (decide_eq_false hw) e1⟩,?_⟩
 rintro h22 x23 x24 ⟨l22,e22⟩
 refine⟨decide (valE e q.wh=truthV true),fun e1=>?_,?_⟩
 ·have hw:q.wh≠[]:=of_decide_eq_false e1
  have e14:=e14 hw
  have e22:=e22 hw
  cases e14
  cases e22
  exact rd_eqV
 have hask:(bif (decide (q.wh=[])) then true else decide (valE e q.wh=truthV true))=asksQ q e:=by
  unfold asksQ
  cases decide (q.wh=[])<;>rfl
 rw [hask]
 intro J58
 have X22:=X0.le l22
 have hJ:∀ h59,EngX q h0 h59 g (winsE q (st.far.getD p 0) e st)→J58 h59:=by
  intro h59 X59
  have HB2:=winsE_ok B HB E (far:=st.far.getD p 0)
  obtain⟨ws1,ws2⟩:=winsE_same (q:=q) (far:=st.far.getD p 0) (e:=e) (st:=st)
  generalize hst2:winsE q (st.far.getD p 0) e st=st2 at X59 HB2 ws1 ws2
  clear M I X0 X22 l14 e14 l22 e22 hn hask
  obtain⟨qf,hi,a1,n1,c1,a2,n2,c2,a3,n3,c3,ak,nk,ck,ar,cr,ac,nc,cc,tb,tc,aw,cw,R,RW,l0,M,I⟩:=X59
  have F:=I.f
  have hrl2:=HB2.rl
  have hfl2:=HB2.fl
  have hnc:nc=st2.far.length:=I.c.1
  have hRl:R.length=st2.pn.length:=by have:=congrArg List.length I.p;simpa using this
  have hpl:=HB2.pl
  have hwl:=HB2.wl
  have hWl:RW.length=st2.rows.length:=by have:=congrArg List.length I.w;simpa [growL] using this
  have hrm:st2.rd.getD p 0 ∈ st2.rd:=by rw [List.getD_eq_getElem?_getD,List.getElem?_eq_getElem (by omega)];exact List.getElem_mem _
  have hrb:=HB2.rb _ hrm
  have hao:=acs_ok HB2 (by omega) I.p
  obtain⟨bR,eR,hcR,HR⟩:=M.read (p:=p) (x:=st2.rd.getD p 0+1) (by omega)
  have hbd:ar=some ⟨bR,0,none⟩∧(0:Int)≤(p:Int)∧(p:Int) < ((st2.rd.length:Nat):Int):=⟨eR,by omega,by omega⟩
  refine⟨_,_,_,cell_cells M.blk rfl,bR,0,hbd,((st2.rd.getD p 0:Nat):Int),hcR,_,isW (by unfold InR;omega),bR,0,hbd,?_⟩
  have ec:((st2.rd.getD p 0:Nat):Int)+1=((st2.rd.getD p 0+1:Nat):Int):=by omega
  rw [ec]
  refine HR _ fun h67 M67=>?_
  refine⟨_,_,_,row_cells' M67.blk (Nat.le_of_ble_eq_true rfl),?_⟩
  refine clock_See_ok (p:=(p:Int)) (I.c.le M67.le0) (by omega) (by omega) (by omega) fun a71 c71 h70 O70=>⟨_,_,_,rfl,?_⟩
  rw [Int.toNat_natCast] at O70
  obtain⟨hj,lj,Mj,trj,_⟩:=M67.rebase_new O70.le
  have hclk:SlI hj a71 nc (see st2.far p e.1):=⟨by rw [see_length];exact hnc,trj _ _ O70.row fun b o hb=>O70.new b (by rw [hb,OwnS.at0 O70.own b o hb])⟩
  refine Mj.put (j:=9) (Nat.le_of_ble_eq_true rfl) fun h72 M72=>?_
  have I72:EngI q qf hj a1 n1 a2 n2 a3 n3 ak nk a71 nc tb R RW (seenE p e st2):=⟨F,I.qa.le lj,I.k.le lj,hclk,I.t.le lj,I.p,I.w,fun r hr=>(I.wi r hr).le lj⟩
  have hstep:stepE q p e st=endE q (seenE p e st2):=by unfold stepE;rw [hst2]
  rw [hstep] at hK
  have hlr:(st2.rd.set p (st2.rd.getD p 0+1)).length=st2.rd.length:=List.length_set
  refine⟨_,_,_,row_cells' M72.blk (Nat.le_of_ble_eq_true rfl),_,cell_cells M72.blk rfl,?_⟩
  rw [F.de]
  refine clock_All_ok (hclk.le M72.le0) (by omega) (seeAll _ _ _ HB2.fb hEt (by omega)) hd ⟨_,_,rfl,fun e1=>?_,fun e1=>?_⟩
  ·have e2:(farC q.delay (see st2.far p e.1)).2=false:=by simpa using e1
   have hend:endE q (seenE p e st2)=seenE p e st2:=by
    unfold endE
    rw [if_neg]
    show ¬(farC q.delay (see st2.far p e.1)).2=true
    rw [e2];decide
   rw [hend] at hK
   refine hK h72 (Hp.le_trans l0 (Hp.le_trans lj M72.le0)) ⟨qf,hj,a1,n1,c1,a2,n2,c2,a3,n3,c3,ak,nk,ck,ar,cr,a71,nc,c71,tb,tc,aw,cw,R,RW,Hp.le_trans l0 lj,?_,I72⟩
   show EngM hj h72 g (engC a1 n1 c1 a2 n2 c2 a3 n3 c3 qf ak nk ck ar (st2.rd.set p (st2.rd.getD p 0+1)).length cr a71 nc c71 tb R.length tc st2.late aw RW.length cw) ar cr (st2.rd.set p (st2.rd.getD p 0+1)) aw RW.length cw (RW.flatMap (growV rwRow))
   rw [hlr]
   exact M72
  ·have e2:(farC q.delay (see st2.far p e.1)).2=true:=by simpa using e1
   have hend:endE q (seenE p e st2)={ seenE p e st2 with pn:=dropP q.size ((farC q.delay (see st2.far p e.1)).1 - q.late) (tellP q.size (farC q.delay (see st2.far p e.1)).1 st2.pn),rows:=st2.rows++(newP q.size (farC q.delay (see st2.far p e.1)).1 st2.pn).map (rowPn (kindsQ q)) }:=by
    unfold endE
    rw [if_pos (show (farC q.delay (seenE p e st2).far).2=true from e2)]
    rfl
   rw [hend] at hK
   have hub:-1001≤(farC q.delay (see st2.far p e.1)).1∧(farC q.delay (see st2.far p e.1)).1≤9999:=by
    have hsa:=seeAll st2.far p e.1 HB2.fb hEt (by omega)
    unfold farC
    split
    ·simp only
     split
     ·omega
     ·rename_i hne
      have:=hsa _ (minL_mem hne)
      omega
    ·simp only;omega
   generalize (farC q.delay (see st2.far p e.1)).1=u at *
   refine⟨_,_,_,row_cells' M72.blk (Nat.le_of_ble_eq_true rfl),_,cell_cells M72.blk rfl,?_⟩
   rw [F.sz]
   refine EngM.frame M72 (Table_Tell_ok (size:=q.size) (upto:=u) I72.t (by omega) (fun r hr=>by have:=(hao r hr).2.2;unfold InR;omega) fun a84 c84 a85 c85 hk lk Tk TN h83 l83 M83=>⟨_,_,_,_,_,_,rfl,?_⟩)
   have Ik:=I72.le lk
   have hNm:∀ r ∈ (R.filter (newPr q.size u)).map toldPr,r.acs.length≤1000:=by
    intro r hr
    obtain⟨r0,h0',rfl⟩:=List.mem_map.1 hr
    have:=(hao r0 (List.mem_filter.1 h0').1).1
    have h4:=B.n2
    rw [kindsQ_len] at this
    show r0.acs.length≤1000
    omega
   have hNeq:((R.filter (newPr q.size u)).map toldPr).map (fun r=>((false,r.k),r.acs.map gOut))=((newP q.size u st2.pn).map (rowPn (kindsQ q))).map rowG:=by
    have:=congrArg (List.map fun x:PK × List AcS=>(((false,x.1),x.2.map gOut):(Bool × PK) × List Vl)) (new_map (size:=q.size) (u:=u) I.p)
    simp only [List.map_map] at this ⊢
    exact this
   have hNl:((R.filter (newPr q.size u)).map toldPr).length≤R.length:=by rw [List.length_map];exact List.length_filter_le _ _
   generalize (R.filter (newPr q.size u)).map toldPr=NN at *
   refine⟨fun vs hh=>∃(i:Nat) (hx:Hp) (aw':Option Addr) (cw':Nat) (RW':List (GRow Vl (Bool × PK))),vs=[vi i]∧i≤NN.length∧hk.le hx∧EngM hx hh g (engC a1 n1 c1 a2 n2 c2 a3 n3 c3 qf ak nk ck ar st2.rd.length cr a71 nc c71 tb R.length tc st2.late aw' RW'.length cw') ar cr (st2.rd.set p (st2.rd.getD p 0+1)) aw' RW'.length cw' (RW'.flatMap (growV rwRow))∧growL RW'=st2.rows.map rowG++(NN.take i).map (fun r=>((false,r.k),r.acs.map gOut))∧∀ r ∈ RW',HasRow hx r.2.1.1 (r.2.2.flatMap encV),fun vs hh=>NN.length - (vint vs 0).toNat,⟨0,hk,aw,cw,RW,rfl,Nat.zero_le _,Hp.le_refl hk,M83,by rw [I.w];simp,Ik.wi⟩,?_⟩
   rintro vs hh ⟨i,hx,aw',cw',RW',rfl,hi',lx,Mx,hw1,hw2⟩
   have hW':RW'.length=st2.rows.length+i:=by
    have:=congrArg List.length hw1
    simp [growL] at this
    omega
   refine⟨i,rfl,fun e3=>?_,fun e3=>?_⟩
   ·have hlt:i < NN.length:=by have:=of_decide_eq_true e3;omega
    have hxi:NN[i]?=some NN[i]:=List.getElem?_eq_getElem hlt
    have hmem:=List.getElem_mem hlt
    have tk:NN.take (i+1)=NN.take i++[NN[i]]:=List.take_succ_eq_append_getElem hlt
    have lhh:=Hp.le_trans lx Mx.le0
    obtain⟨b,o,ea,hr⟩:=(TN.s.le lhh).get encPr_len (by decide) hxi
    have hri:=(TN.i _ hmem).le lhh
    have hal:=hNm _ hmem
    generalize NN[i]=r at *
    refine⟨b,o,⟨ea,by omega,by omega⟩,_,_,_,_,_,_,_,by rw [Int.toNat_natCast];exact hr,_,_,_,cell_cells Mx.blk rfl,?_⟩
    refine pane_Out_ok (r:=r) ⟨rfl,hri⟩ hal fun a107 c107 h103 V103=>⟨_,_,_,_,_,_,rfl,cell_cells (Mx.le V103.le0).blk rfl,?_⟩
    intro b108 hb108 h109
    obtain⟨hy,ly,My,try_,_⟩:=Mx.rebase_new V103.le0
    have o1:=try_ _ _ (OwnV.row V103) fun b o hb=>V103.new b (by rw [hb,OwnS.at0 (OwnV.own V103) b o hb])
    refine My.rows (m:=1) (news:=[vb false,vi r.k.1,vi r.k.2.1,vi r.k.2.2,vsl a107 (r.acs.map gOut).length c107]) hb108 rfl (by
     intro u hu
     simp only [List.mem_cons,List.not_mem_nil,or_false] at hu
     rcases hu with rfl|rfl|rfl|rfl|rfl<;>rfl) (by omega) fun aw2 cw2 h111 M111=>⟨_,_,_,rfl,?_⟩
    refine M111.put (j:=12) (Nat.le_of_ble_eq_true rfl) fun h113 M113=>⟨_,isW (by unfold InR;omega),⟨i+1,hy,aw2,cw2,RW'++[((false,r.k),(a107,c107),r.acs.map gOut)],rfl,by omega,Hp.le_trans lx ly,?_,?_,?_⟩,by simp [vint];omega⟩
    ·rw [List.length_append,List.flatMap_append]
     exact M113
    ·rw [tk,List.map_append,←List.append_assoc,←hw1]
     unfold growL
     rw [List.map_append]
     rfl
    ·intro r' hr'
     rcases List.mem_append.1 hr' with q1|q1
     ·exact(hw2 r' q1).le ly
     ·rw [List.mem_singleton.1 q1];exact o1
   ·have hge:i=NN.length:=by have:=of_decide_eq_false e3;omega
    subst hge
    rw [List.take_length] at hw1
    refine⟨_,cell_cells Mx.blk rfl,_,cell_cells Mx.blk rfl,_,isW (by rw [F.la];unfold InR;omega),?_⟩
    rw [F.sz,F.la]
    have hml:(R.map (tellPr q.size u)).length=R.length:=List.length_map _
    have drp:=fun(K':Value→Hp→Prop) (hK':∀ a' c' h',hx.le h'→Tb h' a' ((R.map (tellPr q.size u)).filter fun r=>!decide (r.k.1+q.size≤u - q.late))→K' (vag [vsl a' ((R.map (tellPr q.size u)).filter fun r=>!decide (r.k.1+q.size≤u - q.late)).length c']) h')=>
     Table_Drop_ok (h:=hx) (K':=K') (c:=c84) (size:=q.size) (upto:=u - q.late) (Tk.le lx) (by rw [hml];omega) (fun r hr=>by
      obtain⟨r0,h0',rfl⟩:=List.mem_map.1 hr
      have:=(hao r0 h0').2.2
      show InR (r0.k.1+q.size)
      unfold InR;omega) hK'
    rw [hml] at drp
    refine EngM.frame Mx (drp _ fun a121 c121 hz lz Tz h120 l120 M120=>⟨_,_,_,rfl,?_⟩)
    refine M120.put (j:=10) (Nat.le_of_ble_eq_true rfl) fun h122 M122=>?_
    have lall:h0.le hz:=Hp.le_trans l0 (Hp.le_trans lj (Hp.le_trans lk (Hp.le_trans lx lz)))
    have lkz:=Hp.le_trans lx lz
    refine hK h122 (Hp.le_trans lall M122.le0) ⟨qf,hz,a1,n1,c1,a2,n2,c2,a3,n3,c3,ak,nk,ck,ar,cr,a71,nc,c71,a121,c121,aw',cw',(R.map (tellPr q.size u)).filter fun r=>!decide (r.k.1+q.size≤u - q.late),RW',lall,?_,⟨F,Ik.qa.le lkz,Ik.k.le lkz,Ik.c.le lkz,Tz,drop_map (tell_map I.p),?_,fun r hr=>(hw2 r hr).le lz⟩⟩
    ·show EngM hz h122 g (engC a1 n1 c1 a2 n2 c2 a3 n3 c3 qf ak nk ck ar (st2.rd.set p (st2.rd.getD p 0+1)).length cr a71 nc c71 a121 _ c121 st2.late aw' RW'.length cw') ar cr (st2.rd.set p (st2.rd.getD p 0+1)) aw' RW'.length cw' (RW'.flatMap (growV rwRow))
     rw [hlr]
     exact M122
    ·show growL RW'=(st2.rows++(newP q.size u st2.pn).map (rowPn (kindsQ q))).map rowG
     rw [hw1,List.map_append,hNeq]
 clear_value J58
 refine⟨fun e1=>?_,fun e1=>?_⟩
 ·have hw:winsE q (st.far.getD p 0) e st=(startsOf e.1 q.size q.slide).foldl (winE q (st.far.getD p 0) e) st:=by unfold winsE;rw [if_pos e1]
  rw [hw] at hJ
  have M22:=M.le l22
  have cS:∀{qf:Qy},FoldQ q qf→vi qf.size=vi q.size:=fun F=>by rw [F.sz]
  refine⟨_,cell_cells M22.blk rfl,_,cell_cells M22.blk rfl,?_⟩
  rw [F.sz,F.sl]
  refine window_StartsN_ok (by omega) (by omega) (by omega) (by omega) (by omega) (by omega) fun a30 n30 c30 h29 l29 SS hnew=>⟨_,_,_,rfl,?_⟩
  have hsb:=starts_ok B E
  have hsm:=starts_many B (e:=e)
  have hn30:n30=(startsOf e.1 q.size q.slide).length:=SS.1
  generalize startsOf e.1 q.size q.slide=ss at *
  -- the windows' slice is not the engine's
  refine⟨fun vs hh=>∃(k:Nat) (hb:Hp),vs=[vi k]∧k≤ss.length∧h0.le hb∧SlI hb a30 n30 ss∧EngX q hb hh g ((ss.take k).foldl (winE q (st.far.getD p 0) e) st),fun vs hh=>ss.length - (vint vs 0).toNat,?_,?_⟩
  ·obtain⟨hj,lj,Mj,trj,_⟩:=M22.rebase_new l29
   refine⟨0,hj,rfl,Nat.zero_le _,Hp.le_trans l0 lj,⟨SS.1,trj _ _ SS.2 hnew⟩,?_⟩
   rw [List.take_zero]
   exact⟨qf,hj,a1,n1,c1,a2,n2,c2,a3,n3,c3,ak,nk,ck,ar,cr,ac,nc,cc,tb,tc,aw,cw,R,RW,Hp.le_refl hj,Mj,I.le lj⟩
  rintro vs hh ⟨k,hb,rfl,hk,lb,Sb,Xb⟩
  refine⟨k,rfl,fun e2=>?_,fun e2=>?_⟩
  ·have hlt:k < ss.length:=by have:=of_decide_eq_true e2;omega
   obtain⟨b,o,ea,hc⟩:=(Sb.le Xb.le0).get (i:=k) (by omega)
   have hgd:ss.getD k 0=ss[k]:=by rw [List.getD_eq_getElem?_getD,List.getElem?_eq_getElem hlt];rfl
   have tk:ss.take (k+1)=ss.take k++[ss[k]]:=List.take_succ_eq_append_getElem hlt
   have hsk:=hsb _ (List.getElem_mem hlt)
   have HBk:=winsE_fold (far:=st.far.getD p 0) B E (ss.take k) HB (fun s hs=>hsb s (List.mem_of_mem_take hs))
   rw [List.length_take,Nat.min_eq_left hk] at HBk
   rw [hgd] at hc
   generalize ss[k]=s at *
   intro J54
   have hJ2:∀ h',EngX q hb h' g (winE q (st.far.getD p 0) e ((ss.take k).foldl (winE q (st.far.getD p 0) e) st) s)→J54 h':=by
    intro h' X'
    refine⟨_,isW (by unfold InR;omega),⟨k+1,hb,rfl,by omega,lb,Sb,?_⟩,by simp [vint];omega⟩
    rw [tk,List.foldl_append]
    exact X'
   clear_value J54
   generalize (ss.take k).foldl (winE q (st.far.getD p 0) e) st=stk at *
   have Xb0:=Xb
   obtain⟨qf,hi,a1,n1,c1,a2,n2,c2,a3,n3,c3,ak,nk,ck,ar,cr,ac,nc,cc,tb,tc,aw,cw,R,RW,l0,M,I⟩:=Xb
   have F:=I.f
   refine⟨b,o,⟨ea,by omega,by omega⟩,s,by rw [Int.toNat_natCast];exact hc,_,fun _=>cell_cells M.blk rfl,_,fun _=>isW (by rw [F.sz];unfold InR;omega),_,fun _=>cell_cells M.blk rfl,_,fun _=>isW (by rw [F.sz,F.la];unfold InR;omega),?_⟩
   have hl:(bif (decide (0≤st.far.getD p 0)) then(decide ((s+qf.size+qf.late:Int)≤farX (st.far.getD p 0) q.delay)) else false)=lateQ q (st.far.getD p 0) s:=by
    unfold lateQ farX
    rw [F.sz,F.la]
    by_cases h1:0≤st.far.getD p 0
    ·rw [decide_eq_true h1,if_neg (by omega)];rfl
    ·rw [decide_eq_false h1];rfl
   rw [hl]
   refine⟨fun e3=>?_,fun e3=>?_⟩
   ·have hll:=HBk.ll
    refine⟨_,cell_cells M.blk rfl,_,isW (by unfold InR;omega),?_⟩
    refine M.put (j:=11) (Nat.le_of_ble_eq_true rfl) fun h48 M48=>hJ2 h48 ?_
    unfold winE
    rw [if_pos e3]
    exact⟨qf,hi,a1,n1,c1,a2,n2,c2,a3,n3,c3,ak,nk,ck,ar,cr,ac,nc,cc,tb,tc,aw,cw,R,RW,l0,M48,⟨I.f,I.qa,I.k,I.c,I.t,I.p,I.w,I.wi⟩⟩
   ·refine engine_change_ok Xb0 B E HBk (by omega) fun h52 l52 X52=>⟨rfl,hJ2 h52 ?_⟩
    unfold winE
    rw [if_neg (by rw [e3];decide)]
    exact X52
  ·have hge:k=ss.length:=by have:=of_decide_eq_false e2;omega
   rw [hge,List.take_length] at Xb
   refine hJ hh ?_
   obtain⟨qf,hi,a1,n1,c1,a2,n2,c2,a3,n3,c3,ak,nk,ck,ar,cr,ac,nc,cc,tb,tc,aw,cw,R,RW,l0,M,I⟩:=Xb
   exact⟨qf,hi,a1,n1,c1,a2,n2,c2,a3,n3,c3,ak,nk,ck,ar,cr,ac,nc,cc,tb,tc,aw,cw,R,RW,Hp.le_trans lb l0,M,I⟩
 ·have hw:winsE q (st.far.getD p 0) e st=st:=by unfold winsE;rw [if_neg (by rw [e1];decide)]
  rw [hw] at hJ
  exact hJ h22 X22
theorem ints_vi (l:List Nat):(l.map fun n:Nat=>vi n)=(l.map fun n:Nat=>(n:Int)).map vi:=by rw [List.map_map];rfl
theorem EngX.seen {q:Qy}{h0 h:Hp}{g:Nat}{st:En}(X:EngX q h0 h g st):∃(a1:Option Addr) (n1 c1:Nat) (a2:Option Addr) (n2 c2:Nat) (a3:Option Addr) (n3 c3:Nat) (qf:Qy) (ak:Option Addr) (nk ck:Nat) (ar:Option Addr) (cr:Nat) (ac:Option Addr) (cc:Nat) (tb:Option Addr) (tc:Nat) (aw:Option Addr) (cw:Nat) (R:List PR),
  h g=some (cellsO (engC a1 n1 c1 a2 n2 c2 a3 n3 c3 qf ak nk ck ar st.rd.length cr ac st.far.length cc tb R.length tc st.late aw (st.rows.map rowG).length cw) 64)∧SlI h ar st.rd.length (st.rd.map fun n:Nat=>(n:Int))∧SlI h ac st.far.length st.far∧GTab encV rwRow h aw (st.rows.map rowG).length (st.rows.map rowG) ∧
   Tb h tb R∧R.map prT=st.pn.map (pnT (kindsQ q)):=by
 obtain⟨qf,hi,a1,n1,c1,a2,n2,c2,a3,n3,c3,ak,nk,ck,ar,cr,ac,nc,cc,tb,tc,aw,cw,R,RW,l0,M,I⟩:=X
 have hWl:RW.length=(st.rows.map rowG).length:=by have:=congrArg List.length I.w;simpa [growL] using this
 have hnc:nc=st.far.length:=I.c.1
 subst hnc
 refine⟨a1,n1,c1,a2,n2,c2,a3,n3,c3,qf,ak,nk,ck,ar,cr,ac,cc,tb,tc,aw,cw,R,?_,?_,I.c.le M.le0,⟨RW,I.w,rfl,M.w.row,fun r hr=>(I.wi r hr).le M.le0⟩,I.t.le M.le0,I.p⟩
 ·rw [←hWl];exact M.blk
 ·have:=M.r
  rw [ints_vi] at this
  exact this.sli
def dueU (q:Qy)(U:Int × Bool)(k:PK):Bool:=U.2&&decide (k.1+q.size≤U.1)
def goneU (q:Qy)(U:Int × Bool)(k:PK):Bool:=U.2&&decide (k.1+q.size≤U.1 - q.late)
def netS (L:List (PK × List Vl))(w:Rw):Option (List (PK × List Vl)):=
 if w.1=true then(if w.2 ∈ L then some (L.erase w.2) else none) else if ∃ x ∈ L,x.1=w.2.1 then none else some (L++[w.2])
def netR (rows:List Rw):Option (List (PK × List Vl)):=rows.foldlM netS []
theorem netR_app (a b:List Rw):netR (a++b)=(netR a).bind fun L=>b.foldlM netS L:=by
 unfold netR
 rw [List.foldlM_append]
 rfl
def outK (q:Qy)(A:List Ad)(k:PK):PK × List Vl:=(k,outV (kindsQ q) (rowsOf A k))
def outsT (q:Qy)(A:List Ad)(T:PK→Bool):List (PK × List Vl):=((keysS A).filter T).map (outK q A)
structure Mid (q:Qy)(A:List Ad)(U:Int × Bool)(T:PK→Bool)(st:En):Prop where
 pn:st.pn=((keysS A).filter fun k=>!goneU q U k).map fun k=>⟨k,rowsOf A k,T k⟩
 net:∃ L,netR st.rows=some L∧L.Perm (outsT q A T)
 tk:∀ k,T k=true→k ∈ keysS A
 td:∀ k,T k=true→dueU q U k=true
 tg:∀ k,k ∈ keysS A→goneU q U k=true→T k=true
 rk:∀ w ∈ st.rows,w.2.1 ∈ keysS A
theorem putP_map {f:PK→List (List Vl)}{T:PK→Bool}{K:PK}{v:List Vl}:∀{l:List PK},l.Pairwise aheadK→(K ∉ l→f K=[]∧T K=false) →
  putP K v (l.map fun k=>⟨k,f k,T k⟩)=(insK K l).map fun k=>⟨k,f k++(if K=k then [v] else []),T k⟩
 | [],_,h=>by
  obtain⟨h1,h2⟩:=h (by simp)
  simp [putP,insK,h1,h2]
 | x :: l,hs,h=>by
  obtain⟨s1,s2⟩:=List.pairwise_cons.1 hs
  rw [List.map_cons,putP,insK]
  simp only
  by_cases h1:aheadK x K
  ·have hne:K≠x:=fun e=>by subst e;exact aheadK_irr _ h1
   have hq:K ∉ l→K ∉ x :: l:=fun q e=>(List.mem_cons.1 e).elim hne q
   rw [if_pos h1,if_pos h1,List.map_cons,putP_map s2 (fun q=>h (hq q)),if_neg hne,List.append_nil]
  ·by_cases h2:x=K
   ·subst h2
    rw [if_neg h1,if_pos rfl,if_neg h1,if_pos rfl,List.map_cons,if_pos rfl]
    congr 1
    refine List.map_congr_left fun y hy=>?_
    have hne:x≠y:=fun e=>by subst e;exact aheadK_irr _ (s1 _ hy)
    rw [if_neg hne,List.append_nil]
   ·have hb:aheadK K x:=by
     by_cases q1:aheadK K x
     ·exact q1
     ·exact absurd (aheadK_tri h1 q1) h2
    have hni:K ∉ x :: l:=by
     rw [List.mem_cons]
     rintro(e|e)
     ·exact h2 e.symm
     ·exact aheadK_irr _ (aheadK_trans hb (s1 _ e))
    obtain⟨e1,e2⟩:=h hni
    rw [if_neg h1,if_neg h2,if_neg h1,if_neg h2,List.map_cons,List.map_cons,if_pos rfl,e1,e2,if_neg (fun e=>h2 e.symm),List.append_nil,List.nil_append]
    congr 2
    refine List.map_congr_left fun y hy=>?_
    have hne:K≠y:=fun e=>by subst e;exact hni (List.mem_cons_of_mem _ hy)
    rw [if_neg hne,List.append_nil]
theorem atP_map {f:PK→List (List Vl)}{T:PK→Bool}{K:PK}:∀{l:List PK},atP K (l.map fun k=>(⟨k,f k,T k⟩:Pn))=if K ∈ l then some ⟨K,f K,T K⟩ else none
 | []=>rfl
 | x :: l=>by
  have ih:=atP_map (f:=f) (T:=T) (K:=K) (l:=l)
  unfold atP at ih ⊢
  rw [List.map_cons,List.find?_cons]
  by_cases h:x=K
  ·subst h
   simp
  ·rw [decide_eq_false h,ih]
   simp only [List.mem_cons]
   by_cases h2:K ∈ l
   ·rw [if_pos h2,if_pos (.inr h2)]
   ·rw [if_neg h2,if_neg]
    rintro(e|e)
    ·exact h e.symm
    ·exact h2 e
theorem filter_sorted {l:List PK}(h:l.Pairwise aheadK)(P:PK→Bool):(l.filter P).Pairwise aheadK:=h.sublist List.filter_sublist
theorem insK_filter {l:List PK}(h:l.Pairwise aheadK){P:PK→Bool}{K:PK}(hP:P K=true):(insK K l).filter P=insK K (l.filter P):=
 sorted_ext (filter_sorted (insK_sorted K h) P) (insK_sorted K (filter_sorted h P)) fun k=>by
  rw [List.mem_filter,insK_mem,insK_mem,List.mem_filter]
  constructor
  ·rintro⟨h1|h1,h2⟩
   ·exact .inl h1
   ·exact .inr ⟨h1,h2⟩
  ·rintro(h1|⟨h1,h2⟩)
   ·subst h1;exact⟨.inl rfl,hP⟩
   ·exact⟨.inr h1,h2⟩
theorem insK_filterF {l:List PK}(h:l.Pairwise aheadK){P:PK→Bool}{K:PK}(hP:P K=false):(insK K l).filter P=l.filter P:=
 sorted_ext (filter_sorted (insK_sorted K h) P) (filter_sorted h P) fun k=>by
  rw [List.mem_filter,insK_mem,List.mem_filter]
  constructor
  ·rintro⟨h1|h1,h2⟩
   ·subst h1;rw [hP] at h2;cases h2
   ·exact⟨h1,h2⟩
  ·rintro⟨h1,h2⟩
   exact⟨.inr h1,h2⟩
theorem insK_in {l:List PK}(h:l.Pairwise aheadK){K:PK}(hK:K ∈ l):insK K l=l:=
 sorted_ext (insK_sorted K h) h fun k=>by
  rw [insK_mem]
  constructor
  ·rintro(h1|h1)
   ·subst h1;exact hK
   ·exact h1
  ·exact .inr
theorem erase_map {f g:PK→List Vl}{K:PK}(hne:∀ k,k≠K→f k=g k):∀{l:List PK},l.Nodup→K ∈ l→((l.map fun k=>(k,f k)).erase (K,f K)++[(K,g K)]).Perm (l.map fun k=>(k,g k))
 | [],_,h=>(by cases h)
 | x :: l,hd,h=>by
  obtain⟨d1,d2⟩:=List.nodup_cons.1 hd
  rw [List.map_cons,List.map_cons]
  by_cases e:x=K
  ·subst e
   rw [List.erase_cons_head]
   have e2:(l.map fun k=>(k,f k))=l.map fun k=>(k,g k):=List.map_congr_left fun k hk=>by rw [hne k (fun e=>d1 (by rw [←e];exact hk))]
   rw [e2]
   exact List.perm_append_singleton ..
  ·rw [List.erase_cons_tail (by simp [e]),List.cons_append,hne x e]
   refine List.Perm.cons _ (erase_map hne d2 ?_)
   rcases List.mem_cons.1 h with q|q
   ·exact absurd q.symm e
   ·exact q
theorem outsT_nodup (q:Qy)(A:List Ad)(T:PK→Bool):((outsT q A T).map (·.1)).Nodup:=by
 unfold outsT
 rw [List.map_map]
 have:((fun x:PK × List Vl=>x.1) ∘ outK q A)=id:=rfl
 rw [this,List.map_id]
 exact sorted_nodup (filter_sorted (keysS_sorted A) T)
theorem chgR_key {ks:List Int}{K:PK}{v:List Vl}{o:Option Pn}:∀ w ∈ chgR ks K v o,w.2.1=K:=by
 intro w hw
 unfold chgR at hw
 split at hw
 ·split at hw
  ·simp only [List.mem_cons,List.not_mem_nil,or_false] at hw
   rcases hw with rfl|rfl<;>rfl
  ·cases hw
 ·cases hw
theorem Mid.put {q:Qy}{A:List Ad}{U:Int × Bool}{T:PK→Bool}{st:En}(M:Mid q A U T st){K:PK}{v:List Vl}(hK:goneU q U K=false) :
  Mid q (A++[(K,v)]) U T { st with pn:=putP K v st.pn,rows:=st.rows++chgR (kindsQ q) K v (atP K st.pn) }:=by
 have hs:=keysS_sorted A
 have hfs:=filter_sorted hs fun k=>!goneU q U k
 have hks:keysS (A++[(K,v)])=insK K (keysS A):=keysS_snoc A (K,v)
 have hin:∀ k,k ∈ keysS A→k ∈ keysS (A++[(K,v)]):=fun k hk=>by rw [hks,insK_mem];exact .inr hk
 have hni:K ∉ (keysS A).filter (fun k=>!goneU q U k)→K ∉ keysS A:=fun h h2=>h (List.mem_filter.2 ⟨h2,by rw [hK];rfl⟩)
 refine⟨?_,?_,fun k hk=>hin k (M.tk k hk),M.td,fun k hk hg=>?_,fun w hw=>?_⟩
 ·show putP K v st.pn=_
  rw [M.pn,putP_map hfs (fun h=>?_),hks,insK_filter hs (by rw [hK];rfl)]
  ·refine List.map_congr_left fun k _=>?_
   rw [rowsOf_snoc]
  ·refine⟨rowsOf_new fun h2=>hni h ((keys_perm A).mem_iff.2 h2),?_⟩
   cases hT:T K with
   | false=>rfl
   | true=>exact absurd (M.tk K hT) (hni h)
 ·obtain⟨L,hL,hp⟩:=M.net
  have hro:∀ k,k≠K→rowsOf (A++[(K,v)]) k=rowsOf A k:=fun k hk=>by rw [rowsOf_snoc,if_neg (fun e=>hk e.symm),List.append_nil]
  rw [M.pn,atP_map]
  rcases Bool.eq_false_or_eq_true (T K) with hT|hT
  rotate_left
  ·refine⟨L,?_,?_⟩
   ·have:chgR (kindsQ q) K v (if K ∈ (keysS A).filter (fun k=>!goneU q U k) then some ⟨K,rowsOf A K,T K⟩ else none)=[]:=by
     split
     ·unfold chgR
      rw [hT]
      exact if_neg (by simp)
     ·rfl
    show netR (st.rows++_)=_
    rw [this,List.append_nil]
    exact hL
   ·have e:outsT q (A++[(K,v)]) T=outsT q A T:=by
     unfold outsT
     rw [hks,insK_filterF hs hT]
     refine List.map_congr_left fun k hk=>?_
     unfold outK
     rw [hro k (fun e=>by rw [e] at hk;have:=(List.mem_filter.1 hk).2;rw [hT] at this;cases this)]
    rw [e]
    exact hp
  ·have hkin:=M.tk K hT
   rw [if_pos (List.mem_filter.2 ⟨hkin,by rw [hK];rfl⟩)]
   have ek:keysS (A++[(K,v)])=keysS A:=by rw [hks,insK_in hs hkin]
   have er:rowsOf (A++[(K,v)]) K=rowsOf A K++[v]:=by rw [rowsOf_snoc,if_pos rfl]
   unfold chgR
   simp only
   by_cases hc:outV (kindsQ q) (rowsOf A K)=outV (kindsQ q) (rowsOf A K++[v])
   ·rw [if_neg (fun h=>h.2 hc),List.append_nil]
    refine⟨L,hL,?_⟩
    have e:outsT q (A++[(K,v)]) T=outsT q A T:=by
     unfold outsT
     rw [ek]
     refine List.map_congr_left fun k hk=>?_
     unfold outK
     by_cases e:k=K
     ·rw [e,er,hc]
     ·rw [hro k e]
    rw [e]
    exact hp
   ·rw [if_pos ⟨hT,hc⟩]
    have hfm:K ∈ (keysS A).filter T:=List.mem_filter.2 ⟨hkin,hT⟩
    have hmem:outK q A K ∈ outsT q A T:=List.mem_map.2 ⟨K,hfm,rfl⟩
    have hmL:outK q A K ∈ L:=hp.mem_iff.2 hmem
    have hnd:(L.map (·.1)).Nodup:=(hp.map (·.1)).nodup_iff.2 (outsT_nodup q A T)
    have hndL:L.Nodup:=List.Pairwise.of_map (fun x:PK × List Vl=>x.1) (fun a b h e=>h (by rw [e])) hnd
    have hno:¬ ∃ x ∈ L.erase (outK q A K),x.1=K:=by
     rintro⟨x,hx,ex⟩
     have hx2:=List.mem_of_mem_erase hx
     obtain⟨k,_,ek2⟩:=List.mem_map.1 (hp.mem_iff.1 hx2)
     have:k=K:=by rw [←ex,←ek2];rfl
     rw [this] at ek2
     rw [←ek2] at hx
     exact(List.Nodup.not_mem_erase hndL) hx
    refine⟨L.erase (outK q A K)++[(K,outV (kindsQ q) (rowsOf A K++[v]))],?_,?_⟩
    ·show netR (st.rows++_)=_
     rw [netR_app,hL]
     show ([(true,outK q A K),(false,K,outV (kindsQ q) (rowsOf A K++[v]))]:List Rw).foldlM netS L=_
     simp only [List.foldlM_cons,List.foldlM_nil]
     have e1:netS L (true,outK q A K)=some (L.erase (outK q A K)):=by
      unfold netS
      rw [if_pos rfl,if_pos hmL]
     have e2:netS (L.erase (outK q A K)) (false,K,outV (kindsQ q) (rowsOf A K++[v]))=some (L.erase (outK q A K)++[(K,outV (kindsQ q) (rowsOf A K++[v]))]):=by
      unfold netS
      rw [if_neg (by simp),if_neg hno]
     rw [e1]
     show (netS (L.erase (outK q A K)) _).bind _=_
     rw [e2]
     rfl
    ·refine((hp.erase _).append_right _).trans ?_
     have:=erase_map (f:=fun k=>outV (kindsQ q) (rowsOf A k)) (g:=fun k=>outV (kindsQ q) (rowsOf (A++[(K,v)]) k)) (K:=K) (fun k hk=>by rw [hro k hk]) (sorted_nodup (filter_sorted hs T)) hfm
     rw [er] at this
     unfold outsT
     rw [ek]
     exact this
 ·rw [hks,insK_mem] at hk
  rcases hk with rfl|hk
  ·rw [hK] at hg;cases hg
  ·exact M.tg k hk hg
 ·rcases List.mem_append.1 hw with h1|h1
  ·exact hin _ (M.rk w h1)
  ·rw [chgR_key w h1,hks,insK_mem]
   exact .inl rfl
theorem not_gone {q:Qy}{U:Int × Bool}{far s:Int}{v:Vl}(hU:U.2=true→0≤far∧U.1≤far - q.delay)(hl:lateQ q far s=false):goneU q U (s,v)=false:=by
 unfold goneU
 cases h:U.2 with
 | false=>rfl
 | true=>
  obtain⟨h1,h2⟩:=hU h
  unfold lateQ at hl
  rw [decide_eq_true h1,Bool.true_and] at hl
  have:=of_decide_eq_false hl
  simp only [Bool.true_and]
  exact decide_eq_false (by omega)
theorem Mid.wins {q:Qy}{A:List Ad}{U:Int × Bool}{T:PK→Bool}{st:En}(M:Mid q A U T st){far:Int}{e:EvL}(hU:U.2=true→0≤far∧U.1≤far - q.delay)(ss:List Int) :
  Mid q (A++addS q far e ss) U T (ss.foldl (winE q far e) st)∧(ss.foldl (winE q far e) st).late=st.late+lateS q far ss∧∃ more,(ss.foldl (winE q far e) st).rows=st.rows++more∧∀ w ∈ more,goneU q U w.2.1=false:=by
 induction ss using snocInd with
 | h0=>exact⟨by simpa [addS] using M,by simp [lateS],[],by simp,by simp⟩
 | h1 ss s ih=>
  obtain⟨i1,i2,more,i3,i4⟩:=ih
  rw [List.foldl_append,addS_snoc,lateS_snoc]
  simp only [List.foldl_cons,List.foldl_nil]
  generalize ss.foldl (winE q far e) st=s1 at *
  unfold winE
  rcases Bool.eq_false_or_eq_true (lateQ q far s) with hl|hl
  ·rw [if_pos hl,if_pos hl,if_pos hl,List.append_nil]
   exact⟨⟨i1.pn,i1.net,i1.tk,i1.td,i1.tg,i1.rk⟩,by simp only;omega,more,i3,i4⟩
  ·rw [if_neg (by rw [hl];decide),if_neg (by rw [hl];decide),if_neg (by rw [hl];decide),←List.append_assoc]
   have hg:goneU q U (s,keyQ q e)=false:=not_gone hU hl
   refine⟨i1.put hg,by simp only;omega,more++chgR (kindsQ q) (s,keyQ q e) (valsQ q e) (atP (s,keyQ q e) s1.pn),by simp only;rw [i3,List.append_assoc],fun w hw=>?_⟩
   rcases List.mem_append.1 hw with h|h
   ·exact i4 w h
   ·rw [chgR_key w h];exact hg
theorem fold_new {f:PK→List Vl}:∀{ks:List PK} {L:List (PK × List Vl)},ks.Nodup→(∀ k ∈ ks,∀ x ∈ L,x.1≠k)→(ks.map fun k=>((false,k,f k):Rw)).foldlM netS L=some (L++ks.map fun k=>(k,f k))
 | [],L,_,_=>by simp
 | k :: ks,L,hd,hn=>by
  obtain⟨d1,d2⟩:=List.nodup_cons.1 hd
  rw [List.map_cons,List.foldlM_cons]
  have e:netS L (false,k,f k)=some (L++[(k,f k)]):=by
   unfold netS
   rw [if_neg (by simp),if_neg]
   rintro⟨x,hx,ex⟩
   exact hn k (List.mem_cons_self ..) x hx ex
  rw [e]
  show (ks.map fun k=>((false,k,f k):Rw)).foldlM netS (L++[(k,f k)])=_
  rw [fold_new d2 (fun k' hk' x hx=>?_),List.map_cons,List.append_assoc]
  ·rfl
  ·rcases List.mem_append.1 hx with h|h
   ·exact hn k' (List.mem_cons_of_mem _ hk') x h
   ·rw [List.mem_singleton.1 h]
    intro e
    exact d1 (by rw [show k=k' from e];exact hk')
theorem filter_two {P Q R:PK→Bool}:∀{l:List PK},(∀ k ∈ l,R k=(P k||Q k))→(∀ k ∈ l,P k=true→Q k=false)→(l.filter P++l.filter Q).Perm (l.filter R)
 | [],_,_=>List.Perm.nil
 | x :: l,h,h2=>by
  have ih:=filter_two (fun k hk=>h k (List.mem_cons_of_mem _ hk)) (fun k hk=>h2 k (List.mem_cons_of_mem _ hk))
  have e:=h x (List.mem_cons_self ..)
  have e2:=h2 x (List.mem_cons_self ..)
  cases hp:P x with
  | true=>
   rw [hp] at e
   rw [List.filter_cons_of_pos hp,List.filter_cons_of_neg (by rw [e2 hp];decide),List.filter_cons_of_pos (by rw [e];rfl),List.cons_append]
   exact ih.cons _
  | false=>
   cases hq:Q x with
   | true=>
    rw [hp,hq] at e
    rw [List.filter_cons_of_neg (by rw [hp];decide),List.filter_cons_of_pos hq,List.filter_cons_of_pos (by rw [e];rfl)]
    exact List.perm_middle.trans (ih.cons _)
   | false=>
    rw [hp,hq] at e
    rw [List.filter_cons_of_neg (by rw [hp];decide),List.filter_cons_of_neg (by rw [hq];decide),List.filter_cons_of_neg (by rw [e];decide)]
    exact ih
def toldK (q:Qy)(A:List Ad)(U:Int × Bool)(k:PK):Bool:=decide (k ∈ keysS A)&&dueU q U k
theorem Mid.ends {q:Qy}{A:List Ad}{U U':Int × Bool}{T:PK→Bool}{st:En}(M:Mid q A U T st)(hl:0≤q.late)(hU:U.2=true→U'.2=true∧U.1≤U'.1)(hf:farC q.delay st.far=U') :
  Mid q A U' (toldK q A U') (endE q st)∧∃ more,(endE q st).rows=st.rows++more∧∀ w ∈ more,goneU q U w.2.1=false:=by
 unfold endE
 rw [hf]
 cases h':U'.2 with
 | false=>
  have hu:U.2=false:=by
   cases h:U.2 with
   | false=>rfl
   | true=>have:=(hU h).1;rw [h'] at this;cases this
  have hT:T=toldK q A U':=by
   funext k
   unfold toldK dueU
   rw [h',Bool.false_and,Bool.and_false]
   cases h:T k with
   | false=>rfl
   | true=>have:=M.td k h;unfold dueU at this;rw [hu] at this;cases this
  have hg:(fun k=>!goneU q U k)=fun k=>!goneU q U' k:=by
   funext k
   unfold goneU
   rw [hu,h'];rfl
  rw [if_neg (by decide),←hT]
  refine⟨⟨by rw [←hg];exact M.pn,M.net,M.tk,fun k hk=>?_,fun k hk hk2=>?_,M.rk⟩,[],by simp,by simp⟩
  ·have:=M.td k hk;unfold dueU at this;rw [hu] at this;cases this
  ·unfold goneU at hk2;rw [h'] at hk2;cases hk2
 | true=>
  rw [if_pos rfl]
  have hdm:∀ k,dueU q U k=true→dueU q U' k=true:=by
   intro k hk
   unfold dueU at *
   rw [h',Bool.true_and]
   rw [Bool.and_eq_true] at hk
   have h2:=(hU hk.1).2
   have:=of_decide_eq_true hk.2
   exact decide_eq_true (by omega)
  have hgm:∀ k,goneU q U k=true→goneU q U' k=true:=by
   intro k hk
   unfold goneU at *
   rw [h',Bool.true_and]
   rw [Bool.and_eq_true] at hk
   have h2:=(hU hk.1).2
   have:=of_decide_eq_true hk.2
   exact decide_eq_true (by omega)
  have hgd:∀ k,goneU q U' k=true→dueU q U' k=true:=by
   intro k hk
   unfold goneU at hk
   unfold dueU
   rw [Bool.and_eq_true] at hk
   have:=of_decide_eq_true hk.2
   rw [hk.1,Bool.true_and]
   exact decide_eq_true (by omega)
  have hdue:∀(k:PK) (rs:List (List Vl)) (t:Bool),dueP q.size U'.1 ⟨k,rs,t⟩=dueU q U' k:=by
   intro k rs t
   unfold dueP dueU
   rw [h'];rfl
  have hnew:newP q.size U'.1 st.pn=((keysS A).filter fun k=>!T k&&dueU q U' k).map fun k=>⟨k,rowsOf A k,T k⟩:=by
   unfold newP
   rw [M.pn,List.filter_map,List.filter_filter]
   congr 1
   refine List.filter_congr fun k hk=>?_
   show ((!T k&&dueP q.size U'.1 ⟨k,rowsOf A k,T k⟩)&&!goneU q U k)=_
   rw [hdue]
   cases hg:goneU q U k with
   | false=>simp
   | true=>rw [M.tg k hk hg];rfl
  have hrows:(newP q.size U'.1 st.pn).map (rowPn (kindsQ q))=((keysS A).filter fun k=>!T k&&dueU q U' k).map fun k=>((false,k,outV (kindsQ q) (rowsOf A k)):Rw):=by
   rw [hnew,List.map_map];rfl
  refine⟨⟨?_,?_,fun k hk=>?_,fun k hk=>?_,fun k hk hg=>?_,fun w hw=>?_⟩,_,rfl,fun w hw=>?_⟩
  ·show dropP q.size (U'.1 - q.late) (tellP q.size U'.1 st.pn)=_
   unfold dropP tellP
   rw [M.pn,List.map_map,List.filter_map,List.filter_filter]
   have e:((keysS A).filter fun k=>((fun p=>!dueP q.size (U'.1 - q.late) p) ∘ ((fun p:Pn=>(⟨p.k,p.rs,p.t||dueP q.size U'.1 p⟩:Pn)) ∘ fun k=>⟨k,rowsOf A k,T k⟩)) k&&!goneU q U k)=(keysS A).filter fun k=>!goneU q U' k:=by
    refine List.filter_congr fun k hk=>?_
    have e1:dueP q.size (U'.1 - q.late) ⟨k,rowsOf A k,T k||dueP q.size U'.1 ⟨k,rowsOf A k,T k⟩⟩=goneU q U' k:=by
     unfold dueP goneU
     rw [h'];rfl
    show (!dueP q.size (U'.1 - q.late) ⟨k,rowsOf A k,T k||dueP q.size U'.1 ⟨k,rowsOf A k,T k⟩⟩&&!goneU q U k)=_
    rw [e1]
    cases hg:goneU q U k with
    | false=>simp
    | true=>rw [hgm k hg];rfl
   rw [e]
   refine List.map_congr_left fun k hk=>?_
   have hk:=(List.mem_filter.1 hk).1
   show (⟨k,rowsOf A k,T k||dueP q.size U'.1 ⟨k,rowsOf A k,T k⟩⟩:Pn)=⟨k,rowsOf A k,toldK q A U' k⟩
   rw [hdue]
   unfold toldK
   rw [decide_eq_true hk,Bool.true_and]
   cases hT:T k with
   | false=>rfl
   | true=>rw [hdm k (M.td k hT)];rfl
  ·obtain⟨L,hL,hp⟩:=M.net
   refine⟨L++((keysS A).filter fun k=>!T k&&dueU q U' k).map (outK q A),?_,?_⟩
   ·show netR (st.rows++(newP q.size U'.1 st.pn).map (rowPn (kindsQ q)))=_
    rw [hrows,netR_app,hL]
    refine fold_new (sorted_nodup (filter_sorted (keysS_sorted A) _)) fun k hk x hx e=>?_
    obtain⟨k',hk',e2⟩:=List.mem_map.1 (hp.mem_iff.1 hx)
    have hT:=(List.mem_filter.1 hk').2
    have hk2:=(List.mem_filter.1 hk).2
    have:k'=k:=by rw [←e,←e2];rfl
    rw [this] at hT
    rw [hT] at hk2
    cases hk2
   ·refine(hp.append_right _).trans ?_
    unfold outsT
    rw [←List.map_append]
    refine(filter_two (fun k hk=>?_) fun k hk h=>?_).map _
    ·unfold toldK
     rw [decide_eq_true hk,Bool.true_and]
     cases hT:T k with
     | false=>rfl
     | true=>rw [hdm k (M.td k hT)];rfl
    ·rw [h];rfl
  ·unfold toldK at hk
   rw [Bool.and_eq_true] at hk
   exact of_decide_eq_true hk.1
  ·unfold toldK at hk
   rw [Bool.and_eq_true] at hk
   exact hk.2
  ·unfold toldK
   rw [decide_eq_true hk,Bool.true_and]
   exact hgd k hg
  ·rcases List.mem_append.1 hw with h1|h1
   ·exact M.rk w h1
   ·rw [hrows] at h1
    obtain⟨k,hk,rfl⟩:=List.mem_map.1 h1
    exact(List.mem_filter.1 hk).1
  ·rw [hrows] at hw
   obtain⟨k,hk,rfl⟩:=List.mem_map.1 hw
   obtain⟨hk1,hk2⟩:=List.mem_filter.1 hk
   cases hg:goneU q U k with
   | false=>rfl
   | true=>rw [M.tg k hk1 hg] at hk2;cases hk2
theorem farC_le {d:Int}{l:List Int}{x:Int}(h:(farC d l).2=true)(hx:x ∈ l):0≤x∧(farC d l).1≤x - d:=by
 unfold farC at *
 split at h
 ·rename_i h1
  rw [if_pos h1,if_neg (fun e=>by rw [e] at hx;cases hx)]
  have:=minL_le hx
  exact⟨h1 x hx,by simp only;omega⟩
 ·cases h
theorem farC_mono {d:Int}{l:List Int}{p:Nat}{t:Int}(hp:p < l.length)(h:(farC d l).2=true):(farC d (see l p t)).2=true∧(farC d l).1≤(farC d (see l p t)).1:=by
 have hlp:l.getD p 0 ∈ l:=by rw [List.getD_eq_getElem?_getD,List.getElem?_eq_getElem hp];exact List.getElem_mem _
 have key:∀ x ∈ see l p t,0≤x∧(farC d l).1≤x - d:=by
  intro x hx
  unfold see at hx
  rcases List.mem_or_eq_of_mem_set hx with h1|h1
  ·exact farC_le h h1
  ·have:=farC_le h hlp
   have h2:=Int.le_max_left (l.getD p 0) t
   rw [←h1] at h2
   omega
 have hne:see l p t≠[]:=fun e=>by have:=see_length l p t;rw [e] at this;simp at this;omega
 have e:farC d (see l p t)=(minL (see l p t) - d,true):=by
  rw [show farC d (see l p t)=if ∀ x ∈ see l p t,0≤x then(if see l p t=[] then 0 else minL (see l p t) - d,true) else(0,false) from rfl,if_pos fun x hx=>(key x hx).1,if_neg hne]
 rw [e]
 exact⟨rfl,(key _ (minL_mem hne)).2⟩
structure EnI (q:Qy)(ps:List (List EvL))(st:En):Prop where
 rd:st.rd=ps.map List.length
 far:st.far=ps.map farL
 late:st.late=lateA q ps
 mid:∃ A,A.Perm (addA q ps)∧Mid q A (farC q.delay st.far) (toldK q A (farC q.delay st.far)) st
theorem EnI.new (q:Qy)(k:Nat):EnI q (List.replicate k []) (newE k):=by
 have h0:addA q (List.replicate k [])=[]:=by
  unfold addA
  rw [List.flatMap_replicate]
  simp [addP]
 refine⟨by simp [newE],by simp [newE,farL],?_,[],by rw [h0],⟨rfl,⟨[],rfl,by simp [outsT,keysS]⟩,fun k hk=>?_,fun k hk=>?_,fun k hk=>(by cases hk),fun w hw=>(by cases hw)⟩⟩
 ·show 0=_
  unfold lateA
  rw [List.map_replicate]
  simp [lateP]
 ·unfold toldK at hk
  simp [keysS] at hk
 ·unfold toldK at hk
  simp [keysS] at hk
def readP (ps:List (List EvL))(p:Nat)(e:EvL):List (List EvL):=ps.set p (ps.getD p []++[e])
theorem readP_split {ps:List (List EvL)}{p:Nat}(hp:p < ps.length)(e:EvL):∃ a l b,ps=a++l :: b∧readP ps p e=a++(l++[e]) :: b∧ps.getD p []=l:=by
 refine⟨ps.take p,ps[p],ps.drop (p+1),?_,?_,?_⟩
 ·rw [←List.drop_eq_getElem_cons hp,List.take_append_drop]
 ·unfold readP
  rw [List.set_eq_take_append_cons_drop,if_pos hp,List.getD_eq_getElem?_getD,List.getElem?_eq_getElem hp];rfl
 ·rw [List.getD_eq_getElem?_getD,List.getElem?_eq_getElem hp];rfl
theorem addA_read {q:Qy}{ps:List (List EvL)}{p:Nat}(hp:p < ps.length)(e:EvL):(addA q ps++addE q (farL (ps.getD p [])) e).Perm (addA q (readP ps p e)):=by
 obtain⟨a,l,b,h1,h2,h3⟩:=readP_split hp e
 rw [h2,h3,h1]
 unfold addA
 rw [List.flatMap_append,List.flatMap_cons,List.flatMap_append,List.flatMap_cons,addP_snoc]
 rw [List.append_assoc,List.append_assoc,List.append_assoc]
 refine List.Perm.append_left _ (List.Perm.append_left _ ?_)
 exact List.perm_append_comm
theorem lateA_read {q:Qy}{ps:List (List EvL)}{p:Nat}(hp:p < ps.length)(e:EvL):lateA q (readP ps p e)=lateA q ps+lateE q (farL (ps.getD p [])) e:=by
 obtain⟨a,l,b,h1,h2,h3⟩:=readP_split hp e
 rw [h2,h3,h1]
 unfold lateA
 rw [List.map_append,List.map_cons,List.map_append,List.map_cons,lateP_snoc,List.sum_append,List.sum_append,List.sum_cons,List.sum_cons]
 show _+(_+lateE q (farL l) e+_)=_
 omega
theorem EnI.step {q:Qy}{ps:List (List EvL)}{st:En}(I:EnI q ps st)(B:QOk q){p:Nat}(hp:p < ps.length)(e:EvL) :
  EnI q (readP ps p e) (stepE q p e st)∧∃ more,(stepE q p e st).rows=st.rows++more∧∀ w ∈ more,goneU q (farC q.delay st.far) w.2.1=false:=by
 obtain⟨A,hA,M⟩:=I.mid
 have hfl:p < st.far.length:=by rw [I.far,List.length_map];exact hp
 have hfm:st.far.getD p 0 ∈ st.far:=by rw [List.getD_eq_getElem?_getD,List.getElem?_eq_getElem hfl];exact List.getElem_mem _
 have hfp:st.far.getD p 0=farL (ps.getD p []):=by
  rw [I.far,List.getD_eq_getElem?_getD,List.getD_eq_getElem?_getD,List.getElem?_map,List.getElem?_eq_getElem hp];rfl
 have hU:(farC q.delay st.far).2=true→0≤st.far.getD p 0∧(farC q.delay st.far).1≤st.far.getD p 0 - q.delay:=fun h=>farC_le h hfm
 have W:Mid q (A++addE q (st.far.getD p 0) e) (farC q.delay st.far) (toldK q A (farC q.delay st.far)) (winsE q (st.far.getD p 0) e st)∧(winsE q (st.far.getD p 0) e st).late=st.late+lateE q (st.far.getD p 0) e∧∃ more,(winsE q (st.far.getD p 0) e st).rows=st.rows++more∧∀ w ∈ more,goneU q (farC q.delay st.far) w.2.1=false:=by
  unfold winsE addE lateE
  split
  ·exact M.wins hU _
  ·exact⟨by simpa using M,by simp,[],by simp,by simp⟩
 obtain⟨W1,W2,m1,W3,W4⟩:=W
 obtain⟨s1,s2⟩:=winsE_same (q:=q) (far:=st.far.getD p 0) (e:=e) (st:=st)
 have hfar2:see st.far p e.1=(readP ps p e).map farL:=by
  unfold readP see
  rw [List.map_set,←I.far,hfp]
  congr 1
  unfold farL
  rw [List.foldl_append];rfl
 have M2:Mid q (A++addE q (st.far.getD p 0) e) (farC q.delay st.far) (toldK q A (farC q.delay st.far)) (seenE p e (winsE q (st.far.getD p 0) e st)):=⟨W1.pn,W1.net,W1.tk,W1.td,W1.tg,W1.rk⟩
 have hsf:(seenE p e (winsE q (st.far.getD p 0) e st)).far=see st.far p e.1:=by unfold seenE;rw [s2]
 have hse:∀ s:En,(endE q s).rd=s.rd∧(endE q s).far=s.far∧(endE q s).late=s.late:=fun s=>by unfold endE;split<;>exact⟨rfl,rfl,rfl⟩
 obtain⟨E1,m2,E2,E3⟩:=M2.ends B.t.1 (U':=farC q.delay (see st.far p e.1)) (farC_mono hfl) (by rw [hsf])
 obtain⟨k1,k2,k3⟩:=hse (seenE p e (winsE q (st.far.getD p 0) e st))
 refine⟨⟨?_,?_,?_,A++addE q (st.far.getD p 0) e,?_,?_⟩,m1++m2,?_,fun w hw=>?_⟩
 ·show (endE q _).rd=_
  rw [k1]
  show (winsE q (st.far.getD p 0) e st).rd.set p ((winsE q (st.far.getD p 0) e st).rd.getD p 0+1)=_
  unfold readP
  rw [s1,List.map_set,←I.rd,List.length_append]
  have:st.rd.getD p 0=(ps.getD p []).length:=by
   rw [I.rd,List.getD_eq_getElem?_getD,List.getD_eq_getElem?_getD,List.getElem?_map,List.getElem?_eq_getElem hp];rfl
  rw [this];rfl
 ·show (endE q _).far=_
  rw [k2,hsf,hfar2]
 ·show (endE q _).late=_
  rw [k3]
  show (winsE q (st.far.getD p 0) e st).late=_
  rw [W2,I.late,hfp,lateA_read hp]
 ·rw [hfp]
  exact(hA.append_right _).trans (addA_read hp e)
 ·have e9:(stepE q p e st).far=see st.far p e.1:=k2.trans hsf
  rw [e9]
  exact E1
 ·show (endE q _).rows=_
  rw [E2]
  show (winsE q (st.far.getD p 0) e st).rows++m2=_
  rw [W3,List.append_assoc]
 ·rcases List.mem_append.1 hw with h|h
  ·exact W4 w h
  ·exact E3 w h
theorem EnI.panes {q:Qy}{ps:List (List EvL)}{st:En}(I:EnI q ps st):∀ p ∈ st.pn,goneU q (farC q.delay st.far) p.k=false∧p.t=dueU q (farC q.delay st.far) p.k:=by
 obtain⟨A,hA,M⟩:=I.mid
 intro p hp
 rw [M.pn] at hp
 obtain⟨k,hk,rfl⟩:=List.mem_map.1 hp
 obtain⟨h1,h2⟩:=List.mem_filter.1 hk
 refine⟨by simpa using h2,?_⟩
 show toldK q A _ k=_
 unfold toldK
 rw [decide_eq_true h1,Bool.true_and]
open Go.Txt
theorem store_new {h:Hp}{b:Nat}{xs ys:List Value}{t:TypeId}(hl:ys.length=xs.length){K:Hp→Prop}(hK:K (h.set b (cellsO ys t))):Hp.store (h.set b (cellsO xs t)) b 0 ys K:=by
 refine⟨xs.toArray,t,Hp.set_same _ _ _,by simp [hl],?_⟩
 rw [Hp.set_set]
 have e:setL xs.toArray.toList 0 ys=ys:=by
  unfold setL
  rw [List.take_zero,List.nil_append,List.toList_toArray,Nat.zero_add,List.drop_of_length_le (by omega),List.append_nil]
 rw [e]
 exact hK
theorem cell_le {h h':Hp}(l:h.le h'){b i:Nat}{v:Value}(hc:h.cell b i=some v):h'.cell b i=some v:=by
 unfold Hp.cell at hc ⊢
 cases hb:h b with
 | none=>rw [hb] at hc;cases hc
 | some o=>rw [l b o hb];rw [hb] at hc;exact hc
end Go.Proofs.YtiflgceoamkmnaaGreatDoor
namespace Go.Proofs.YtiflgceoamkmnaaGreatDoor
open Go Go.Vc
def VC_source_Check (u0:Int)(u1:Int)(u2:Int)(u3:Int)(u4:Int)(u5:Int)(u6:Int)(h:Hp)(R:Value→Hp→Prop):Prop:=
 (((bif (decide (u0 < 0)) then true else(decide (u0 > 9999)))=true→R (ifv (some (99,(vi 1)))) h)∧((bif (decide (u0 < 0)) then true else(decide (u0 > 9999)))=false→(∀ b2,h b2=none→let h3:= Hp.set h b2 (cellsO [vi u1,vi u2,vi u3,vi u4,vi u5,vi u6] 41);(∃(I5:List Value→Hp→Prop) (m6:List Value→Hp→Nat),I5 [vi 0] h3∧∀ vs7 h8,I5 vs7 h8→∃ x9,vs7=[vi x9]∧(((decide (x9 < ((3:Nat):Int)))=true→(∃ b12 o13,((some (⟨b2,0,none⟩:Addr))=some ⟨b12,o13,none⟩∧(0:Int)≤x9∧x9 < ((3:Nat):Int))∧(∃ x14 x15,(Hp.row h8 b12 (o13+x9.toNat*2) 2=some [vi x14,vi x15])∧(CallOK Tryz.prog 117 [vag [vi x14,vi x15]] h8 fun v16 h17=>∃ e18,v16=(ifv e18)∧(((Option.isSome e18)=true→R (ifv e18) h17)∧((Option.isSome e18)=false→(((decide (x14=2))=true→R (ifv (some (99,(vi 3)))) h17)∧((decide (x14=2))=false→(((bif (decide (x15 < (-1000))) then true else(decide (x15 > 1000)))=true→R (ifv (some (99,(vi 1)))) h17)∧((bif (decide (x15 < (-1000))) then true else(decide (x15 > 1000)))=false→(∃ x22,(IsW x22 (x9+1))∧(I5 [vi x22] h17∧m6 [vi x22] h17 < m6 vs7 h8))))))))))))∧((decide (x9 < ((3:Nat):Int)))=false→R (ifv none) h8))))))
theorem ok_source_Check {u0 u1 u2 u3 u4 u5 u6 h R}(H:VC_source_Check u0 u1 u2 u3 u4 u5 u6 h R):CallOK Tryz.prog 67 [vag [vi u0,vi u1,vi u2,vi u3,vi u4,vi u5,vi u6]] h R:=
 call_of (cfg:=⟨[],[(4,([23],[.one (.int .i64)],[]))],[]⟩) noNG mixed Tryz.func67 [.ag [.v (vi u0),.v (vi u1),.v (vi u2),.v (vi u3),.v (vi u4),.v (vi u5),.v (vi u6)]] (by kernel_rfl) rfl (by kernel_rfl) H
theorem source_Check_ok {e:EvL}{h:Hp}{R:Value→Hp→Prop}(hK:∀ h',h.le h'→R (ifv (errV (chkE e))) h'):CallOK Tryz.prog 67 [vag (encE e)] h R:=by
 refine ok_source_Check ?_
 unfold VC_source_Check
 refine⟨fun q=>?_,fun q=>?_⟩
 ·have:chkE e=1:=by unfold chkE;rw [if_pos (by simp [Bool.cond_eq_ite] at q;omega)]
  rw [this] at hK;exact hK h (Hp.le_refl h)
 have e1:chkE e=chkL [e.2.1,e.2.2.1,e.2.2.2]:=by unfold chkE;rw [if_neg (by simp [Bool.cond_eq_ite] at q;omega)]
 rw [e1] at hK
 clear e1 q
 intro b2 hb2 h3
 have l3:h.le h3:=Hp.le_set (Hp.le_refl h) hb2 _
 have S:SlP encV h3 (some ⟨b2,0,none⟩) 3 [e.2.1,e.2.2.1,e.2.2.2]:=⟨rfl,HasRow.new _ _ [vi e.2.1.1,vi e.2.1.2,vi e.2.2.1.1,vi e.2.2.1.2,vi e.2.2.2.1,vi e.2.2.2.2] _⟩
 clear_value h3
 have hl:[e.2.1,e.2.2.1,e.2.2.2].length=3:=rfl
 generalize [e.2.1,e.2.2.1,e.2.2.2]=l at *
 refine⟨fun vs hh=>hh=h3∧∃ i:Nat,vs=[vi i]∧i≤3∧chkL l=chkL (l.drop i),fun vs hh=>3 - (vint vs 0).toNat,⟨rfl,0,rfl,by decide,rfl⟩,?_⟩
 rintro vs hh ⟨rfl,i,rfl,hi,hc⟩
 refine⟨i,rfl,fun q=>?_,fun q=>?_⟩
 ·have hlt:i < 3:=by have:=of_decide_eq_true q;omega
  have hx:l[i]?=some (l[i]'(by omega)):=List.getElem?_eq_getElem (by omega)
  rw [drop_get (by omega:i < l.length),chkL] at hc
  obtain⟨b,o,ha,hr⟩:=S.get encV_len (by decide) hx
  generalize l[i]'(by omega)=v at *
  have A:(some ⟨b2,0,none⟩:Option Addr)=some ⟨b,o,none⟩∧(0:Int)≤i∧(i:Int) < (3:Nat):=⟨ha,by omega,by omega⟩
  refine⟨b,o,A,_,_,hr,value_Check_ok (v:=v) ⟨_,rfl,fun q2=>?_,fun q2=>⟨fun q3=>?_,fun q3=>⟨fun q4=>?_,fun q4=>?_⟩⟩⟩⟩
  ·rw [errV_some] at q2
   have hg:¬ goodV v:=fun hg=>by simp [hg] at q2
   have:chkV v=3:=by unfold chkV;rw [if_pos (.inl hg)]
   rw [this,if_neg (by decide)] at hc
   rw [if_neg hg]
   rw [hc] at hK;exact hK hh l3
  ·have:chkV v=3:=by unfold chkV;rw [if_pos (.inr (of_decide_eq_true q3))]
   rw [this,if_neg (by decide)] at hc
   rw [hc] at hK;exact hK hh l3
  ·rw [errV_some] at q2
   have hg:goodV v:=by
    by_cases hg:goodV v
    ·exact hg
    ·simp [hg] at q2
   have h2:¬ v.1=2:=of_decide_eq_false q3
   have:chkV v=1:=by unfold chkV;rw [if_neg (by simp [hg,h2]),if_pos (by simp [Bool.cond_eq_ite] at q4;omega)]
   rw [this,if_neg (by decide)] at hc
   rw [hc] at hK;exact hK hh l3
  ·rw [errV_some] at q2
   have hg:goodV v:=by
    by_cases hg:goodV v
    ·exact hg
    ·simp [hg] at q2
   have h2:¬ v.1=2:=of_decide_eq_false q3
   have:chkV v=0:=by unfold chkV;rw [if_neg (by simp [hg,h2]),if_neg (by simp [Bool.cond_eq_ite] at q4;omega)]
   rw [this,if_pos rfl] at hc
   exact⟨_,isW (by unfold InR;omega),⟨rfl,i+1,rfl,by omega,hc⟩,by simp [vint];omega⟩
 ·have hge:i=3:=by have:=of_decide_eq_false q;omega
  subst hge
  rw [List.drop_eq_nil_of_le (by omega)] at hc
  rw [hc] at hK;exact hK hh l3
section
variable {h:Hp}{F:Nat→Prop}{g:Nat}{L:List (List EvL)}
end
def VC_top_light (u0:Option Addr)(u1 u2:Nat)(h:Hp)(R:Value→Hp→Prop):Prop:=
 (((decide ((u1:Int) > 3))=true→R (vb false) h)∧((decide ((u1:Int) > 3))=false→(∃(I3:List Value→Hp→Prop) (m4:List Value→Hp→Nat),I3 [vi 0] h∧∀ vs5 h6,I3 vs5 h6→∃ x7,vs5=[vi x7]∧(((decide (x7 < (u1:Int)))=true→(∃ b10 o11,(u0=some ⟨b10,o11,none⟩∧(0:Int)≤x7∧x7 < (u1:Int))∧(∃ a12 n12 c12,(Hp.cell h6 b10 (o11+x7.toNat*1)=some (vsl a12 n12 c12))∧(((decide ((n12:Int) > 40))=true→R (vb false) h6)∧((decide ((n12:Int) > 40))=false→(∃(I15:List Value→Hp→Prop) (m16:List Value→Hp→Nat),I15 [vi 0] h6∧∀ vs17 h18,I15 vs17 h18→∃ x19,vs17=[vi x19]∧(∃ b20 o21,(u0=some ⟨b20,o21,none⟩∧(0:Int)≤x7∧x7 < (u1:Int))∧(∃ a22 n22 c22,(Hp.cell h18 b20 (o21+x7.toNat*1)=some (vsl a22 n22 c22))∧(((decide (x19 < (n22:Int)))=true→(∃ b25 o26,(u0=some ⟨b25,o26,none⟩∧(0:Int)≤x7∧x7 < (u1:Int))∧(∃ a27 n27 c27,(Hp.cell h18 b25 (o26+x7.toNat*1)=some (vsl a27 n27 c27))∧(∃ b28 o29,(a27=some ⟨b28,o29,none⟩∧(0:Int)≤x19∧x19 < (n27:Int))∧(∃ x30 x31 x32 x33 x34 x35 x36,(Hp.row h18 b28 (o29+x19.toNat*7) 7=some [vi x30,vi x31,vi x32,vi x33,vi x34,vi x35,vi x36])∧(CallOK Tryz.prog 67 [vag [vi x30,vi x31,vi x32,vi x33,vi x34,vi x35,vi x36]] h18 fun v37 h38=>∃ e39,v37=(ifv e39)∧(((Option.isSome e39)=true→R (vb false) h38)∧((Option.isSome e39)=false→(∃ x41,(IsW x41 (x19+1))∧(I15 [vi x41] h38∧m16 [vi x41] h38 < m16 vs17 h18))))))))))∧((decide (x19 < (n22:Int)))=false→(∃ x42,(IsW x42 (x7+1))∧(I3 [vi x42] h18∧m4 [vi x42] h18 < m4 vs5 h6))))))))))))∧((decide (x7 < (u1:Int)))=false→R (vb true) h6)))))
theorem ok_top_light {u0 u1 u2 h R}(H:VC_top_light u0 u1 u2 h R):CallOK Tryz.prog 33 [vsl u0 u1 u2] h R:=
 call_of (cfg:=⟨[],[(9,([4],[.one (.int .i64)],[])),(4,([3],[.one (.int .i64)],[]))],[]⟩) noNG mixed Tryz.func33 [.one (.v (vsl u0 u1 u2))] (by kernel_rfl) rfl (by kernel_rfl) H
section
variable {h:Hp}{R':Value→Hp→Prop}
theorem top_light_ok {ps:List (List EvL)}{pa:Option Addr}{pn pc:Nat}(TP:TabC encE h pa pn ps)(hK:∀ p h',h.le h'→(p=true→ps.length≤3∧∀ x ∈ ps,x.length≤40∧∀ e ∈ x,EvOK e)→R' (vb p) h'):CallOK Tryz.prog 33 [vsl pa pn pc] h R':=by
 refine ok_top_light ?_
 unfold VC_top_light
 have hpn:pn=ps.length:=TP.r.choose_spec.2.1
 refine⟨fun e=>hK false h (Hp.le_refl h) (fun q=>by cases q),fun e=>?_⟩
 have h3:ps.length≤3:=by have:=of_decide_eq_false e;omega
 refine⟨fun vs hh=>∃ i:Nat,vs=[vi i]∧i≤ps.length∧h.le hh∧∀ x ∈ ps.take i,x.length≤40∧∀ e ∈ x,EvOK e,fun vs hh=>ps.length - (vint vs 0).toNat,⟨0,rfl,Nat.zero_le _,Hp.le_refl h,by simp⟩,?_⟩
 rintro vs hh ⟨i,rfl,hi,lh,hz⟩
 refine⟨i,rfl,fun e1=>?_,fun e1=>?_⟩
 ·have hlt:i < ps.length:=by have:=of_decide_eq_true e1;omega
  have hx:ps[i]?=some ps[i]:=List.getElem?_eq_getElem hlt
  have tk:ps.take (i+1)=ps.take i++[ps[i]]:=List.take_succ_eq_append_getElem hlt
  generalize ps[i]=part at *
  obtain⟨b,o,a',c',ea,hcl,SP,_⟩:=TP.cell hx
  have hb1:pa=some ⟨b,o,none⟩∧(0:Int)≤i∧(i:Int) < ((pn:Nat):Int):=⟨ea,by omega,by omega⟩
  refine⟨b,o,hb1,a',part.length,c',by rw [Int.toNat_natCast];exact cell_le lh hcl,fun e2=>hK false hh lh (fun q=>by cases q),fun e2=>?_⟩
  have h40:part.length≤40:=by have:=of_decide_eq_false e2;omega
  refine⟨fun vs hh'=>∃ j:Nat,vs=[vi j]∧j≤part.length∧hh.le hh'∧∀ e ∈ part.take j,EvOK e,fun vs hh=>part.length - (vint vs 0).toNat,⟨0,rfl,Nat.zero_le _,Hp.le_refl _,by simp⟩,?_⟩
  rintro vs hh3 ⟨j,rfl,hj,lh3,hc3⟩
  have lh3':=Hp.le_trans lh lh3
  have hc1:=cell_le lh3' hcl
  refine⟨j,rfl,b,o,hb1,a',part.length,c',by rw [Int.toNat_natCast];exact hc1,fun e3=>?_,fun e3=>?_⟩
  ·have hltj:j < part.length:=by have:=of_decide_eq_true e3;omega
   have hxj:part[j]?=some part[j]:=List.getElem?_eq_getElem hltj
   have tkj:part.take (j+1)=part.take j++[part[j]]:=List.take_succ_eq_append_getElem hltj
   obtain⟨b2,o2,ea2,hr2⟩:=(SP.le lh3').get (sz:=7) (fun _=>rfl) (by decide) hxj
   generalize part[j]=ev at *
   refine⟨b,o,hb1,a',part.length,c',by rw [Int.toNat_natCast];exact hc1,b2,o2,⟨ea2,by omega,by omega⟩,_,_,_,_,_,_,_,by rw [Int.toNat_natCast];exact hr2,?_⟩
   refine source_Check_ok (e:=ev) fun h54 l54=>⟨_,rfl,fun e4=>hK false h54 (Hp.le_trans lh3' l54) (fun q=>by cases q),fun e4=>?_⟩
   rw [errV_some] at e4
   have hev:chkE ev=0:=by simpa using e4
   refine⟨_,isW (by unfold InR;omega),⟨j+1,rfl,by omega,Hp.le_trans lh3 l54,fun e he=>?_⟩,by simp [vint];omega⟩
   rw [tkj] at he
   rcases List.mem_append.1 he with h1|h1
   ·exact hc3 e h1
   ·rw [List.mem_singleton.1 h1];exact chkE_ok hev
  ·have hge:j=part.length:=by have:=of_decide_eq_false e3;omega
   rw [hge,List.take_length] at hc3
   refine⟨_,isW (by unfold InR;omega),⟨i+1,rfl,by omega,lh3',fun x hx=>?_⟩,by simp [vint];omega⟩
   rw [tk] at hx
   rcases List.mem_append.1 hx with h1|h1
   ·exact hz x h1
   ·rw [List.mem_singleton.1 h1];exact⟨h40,hc3⟩
 ·have hge:i=ps.length:=by have:=of_decide_eq_false e1;omega
  rw [hge,List.take_length] at hz
  exact hK true hh lh fun _=>⟨h3,hz⟩
end
open Go.Txt
theorem slb_lit (h:Hp)(b:Nat)(l:List Wd)(hl:l.length≤maxLen):SlB (h.set b (cellsO (l.flatMap encB) 9)) (some ⟨b,0,none⟩) l.length l:=⟨rfl,(OwnS.new h b 9 (sz:=1) (n:=l.length) (l.flatMap encB) (by induction l with
 | nil=>rfl
 | cons w l ih=>have:=ih (by simp at hl;omega);simp [encB] at this ⊢;omega) hl).row⟩
theorem number_range {s:RS}{most:Int}(hm:0≤most):0≤(s.number most).1∧(s.number most).1≤most:=by
 unfold RS.number
 split
 ·exact⟨Int.le_refl _,hm⟩
 ·split
  ·exact⟨Int.le_refl _,hm⟩
  ·rename_i h
   exact⟨by omega,(natF_low hm).2⟩
theorem joinP_le (op:Int)(x y:List Nd)(s:RS):(joinP op x y s).1.length≤40:=by
 unfold joinP
 split
 ·simp
 ·rw [joinL_length];omega
theorem read_const {w:Wd}(h:w ∈ constW):(readV w).1=constV w:=by
 have h2:w=wNull∨w=wTrue∨w=wFalse:=by simpa [constW] using h
 rcases h2 with rfl|rfl|rfl<;>rfl
theorem reader_atom_ok {P:Ps}{n:Nat}(F:Reads 84 P n)(kp:KP P n):Reads 209 (atomP P) (n+1):=by
 intro h0 h g s D E S R hK
 refine ok_query_reader_atom ?_
 unfold VC_query_reader_atom
 intro b1 hb1 h2
 have hl:h.le h2:=Hp.le_set (Hp.le_refl h) hb1 _
 have hb:=S.big
 have tk:=@taken s ([wOpen]++constW++fieldW)
 have sp:=s.is_spec ([wOpen]++constW++fieldW)
 have gi:=goes_is S.good ([wOpen]++constW++fieldW)
 have nr:=@number_range
 unfold atomP at hK
 simp only at hK
 refine reader_is_ok (D.le hl) (l:=[wOpen]++constW++fieldW) (slb_lit h b1 ([wOpen]++constW++fieldW) (by decide)) (by decide) (by omega) fun h4 D4 M4=>⟨_,rfl,?_⟩
 have M04:Mut (At g) h (At g) h4:=(Mut.of_le hl).trans M4
 generalize s.is ([wOpen]++constW++fieldW)=A at *
 obtain⟨w,s1⟩:=A
 simp -zeta only at hK D4 tk sp gi ⊢
 have hS1:=S.goes gi
 have E4:=E.mut M04
 refine⟨_,rd_eqBs (b:=wOpen),fun e=>?_,fun e1=>?_⟩
 ·have ew:w=wOpen:=of_decide_eq_true e
  have tk:=tk (by rw [ew];decide)
  rw [if_pos ew] at hK
  have d1:=S.d1
  have hdp:=gi.deep
  have Sn:SOk n s1:=⟨hS1.good,by have:=S.len;omega,hS1.big,hS1.d0,hS1.d1⟩
  have kd:=keeps_down kp (Goes.refl hS1.good) (Nat.le_of_lt Sn.len)
  refine reader_down_ok ⟨_,Tryz.func84,by kernel_rfl,by kernel_rfl⟩ F kp D4 E4 Sn (by omega) fun a c h8 D8 N8 M8=>⟨_,_,_,rfl,?_⟩
  refine reader_must_ok D8 (by have:=kd.len;have:=hS1.big;omega) fun h11 D11 M11=>⟨rfl,?_⟩
  exact hK a c h11 D11 ((N8.base (M04.up D4.al)).mut D.al M11) ((M04.trans M8).trans M11)
 have e1:¬ w=wOpen:=of_decide_eq_false e1
 rw [if_neg e1] at hK
 have hwc:w ∈ constW↔w=wNull∨w=wTrue∨w=wFalse:=by simp [constW]
 refine⟨_,rd_eqBs (b:=wNull),?_⟩
 intro J18
 have yes:w ∈ constW→J18 true:=by
  intro hw
  rw [if_pos hw] at hK
  have hwl:w.length≤1000000:=by
   have:w=wNull∨w=wTrue∨w=wFalse:=hwc.1 hw
   rcases this with rfl|rfl|rfl<;>decide
  refine⟨fun _=>?_,fun e=>by cases e⟩
  refine value_Parse_ok hwl E4.now.p E4.now.e ⟨_,_,_,rfl,?_⟩
  rw [read_const hw]
  refine query_leaf_ok ⟨1,0,0,0,constV w⟩ fun a c h26 N26 _ l26=>⟨_,_,_,rfl,?_⟩
  exact hK a c h26 (D4.le l26) (N26.base (M04.up D4.al)) (M04.trans (Mut.of_le l26))
 have no:¬ w ∈ constW→J18 false:=by
  intro hw
  rw [if_neg hw] at hK
  refine⟨fun e=>by (cases e),fun _=>⟨_,rd_eqBs (b:=[]),fun e=>?_,fun e=>?_⟩⟩
  ·rw [if_pos (of_decide_eq_true e)] at hK
   have nr1:=nr (s:=s1) (most:=1000000000) (by decide)
   refine reader_number_ok D4 E4 (by have:=hS1.big;omega) (by decide) (by decide) fun h30 D30 M30=>⟨_,rfl,value_Number_ok ⟨_,_,rfl,?_⟩⟩
   have en:numV (s1.number 1000000000).1=(1,(s1.number 1000000000).1):=by unfold numV;rw [if_neg (by omega)]
   rw [en]
   refine query_leaf_ok ⟨1,0,0,0,(1,(s1.number 1000000000).1)⟩ fun a c h37 N37 _ l37=>⟨_,_,_,rfl,?_⟩
   exact hK a c h37 (D30.le l37) (N37.base ((M04.trans M30).up D30.al)) ((M04.trans M30).trans (Mut.of_le l37))
  ·have e3:=of_decide_eq_false e
   rw [if_neg e3] at hK
   have hm:w ∈ fieldW:=by
    rcases sp with ⟨q,_⟩|⟨w',r,_,hm,q,_⟩
    ·exact absurd q e3
    ·rw [←q] at hm
     rcases List.mem_append.1 hm with h4|h4
     ·rcases List.mem_append.1 h4 with h5|h5
      ·exact absurd (by simpa using h5) e1
      ·exact absurd h5 hw
     ·exact h4
   obtain⟨fa,fc,hf,hfs⟩:=E4.now.f
   refine⟨_,_,_,hf,slices_Index_ok hfs (by decide) ⟨_,rfl,?_⟩⟩
   rw [if_pos hm]
   refine query_leaf_ok ⟨2,0,0,fieldW.idxOf w,(0,0)⟩ fun a c h44 N44 _ l44=>⟨_,_,_,rfl,?_⟩
   exact hK a c h44 (D4.le l44) (N44.base (M04.up D4.al)) (M04.trans (Mut.of_le l44))
 clear_value J18
 refine⟨fun e=>?_,fun e2=>⟨_,rd_eqBs (b:=wTrue),fun e=>?_,fun e3=>⟨_,rd_eqBs (b:=wFalse),?_⟩⟩⟩
 ·rw [e];exact yes (hwc.2 (.inl (of_decide_eq_true e)))
 ·rw [e];exact yes (hwc.2 (.inr (.inl (of_decide_eq_true e))))
 ·have e2:=of_decide_eq_false e2
  have e3:=of_decide_eq_false e3
  by_cases hf:w=wFalse
  ·rw [decide_eq_true hf];exact yes (hwc.2 (.inr (.inr hf)))
  ·rw [decide_eq_false hf]
   refine no fun h=>?_
   rcases hwc.1 h with h|h|h
   ·exact e2 h
   ·exact e3 h
   ·exact hf h
theorem reader_unary_ok {U A:Ps}{n:Nat}(F:Reads 207 U n)(ku:KP U n)(FA:Reads 209 A (n+1)):Reads 207 (unaryP U A) (n+1):=by
 intro h0 h g s D E S R hK
 refine ok_query_reader_unary ?_
 unfold VC_query_reader_unary
 intro b1 hb1 h2
 have hl:h.le h2:=Hp.le_set (Hp.le_refl h) hb1 _
 have hb:=S.big
 have tk:=@taken s [wMinus]
 have gi:=goes_is S.good [wMinus]
 unfold unaryP at hK
 have hi:=@RS.is_spec s [wMinus]
 refine reader_is_ok (D.le hl) (slb_one h b1 wMinus) (by decide) (by omega) fun h4 D4 M4=>⟨_,rfl,?_⟩
 have M04:Mut (At g) h (At g) h4:=(Mut.of_le hl).trans M4
 generalize s.is [wMinus]=B at *
 obtain⟨w,s1⟩:=B
 simp -zeta only at hK D4 tk gi hi ⊢
 have hS1:=S.goes gi
 have E4:=E.mut M04
 refine⟨_,rd_eqBs (b:=[]),fun e=>?_,fun e=>?_⟩
 ·have ew:=of_decide_eq_true e
  rw [if_pos ew] at hK
  have es:s1=s:=by
   rcases hi with ⟨_,q⟩|⟨w',r,_,hm,q,_⟩
   ·exact q
   ·rw [ew] at q;rw [←q] at hm;exact absurd hm (by decide)
  subst es
  exact FA D4 E4 hS1 fun a c h8 D8 N8 M8=>⟨_,_,_,rfl,hK a c h8 D8 (N8.base (M04.up D4.al)) (M04.trans M8)⟩
 ·have ew:=of_decide_eq_false e
  rw [if_neg ew] at hK
  have tk:=tk ew
  have d1:=S.d1
  have hdp:=gi.deep
  have Sn:SOk n s1:=⟨hS1.good,by have:=S.len;omega,hS1.big,hS1.d0,hS1.d1⟩
  have kd:=keeps_down ku (Goes.refl hS1.good) (Nat.le_of_lt Sn.len)
  refine reader_down_ok ⟨_,Tryz.func207,by kernel_rfl,by kernel_rfl⟩ F ku D4 E4 Sn (by omega) fun a c h8 D8 N8 M8=>⟨_,_,_,rfl,?_⟩
  refine reader_join_ok D8 N8.s (nd_nil h8 h8).s wf_nil (by have:=kd.le;omega) (by simp) fun a c h15 D15 N15 M15=>⟨_,_,_,rfl,?_⟩
  exact hK a c h15 D15 (N15.base ((M04.trans M8).up D8.al)) ((M04.trans M8).trans M15)
theorem reader_not_ok {U A:Ps}{n:Nat}(F:Reads 166 U n)(ku:KP U n)(FA:Reads 186 A (n+1)):Reads 166 (notP U A) (n+1):=by
 intro h0 h g s D E S R hK
 refine ok_query_reader_not ?_
 unfold VC_query_reader_not
 intro b1 hb1 h2
 have hl:h.le h2:=Hp.le_set (Hp.le_refl h) hb1 _
 have hb:=S.big
 have tk:=@taken s [wNot]
 have gi:=goes_is S.good [wNot]
 unfold notP at hK
 have hi:=@RS.is_spec s [wNot]
 refine reader_is_ok (D.le hl) (slb_one h b1 wNot) (by decide) (by omega) fun h4 D4 M4=>⟨_,rfl,?_⟩
 have M04:Mut (At g) h (At g) h4:=(Mut.of_le hl).trans M4
 generalize s.is [wNot]=B at *
 obtain⟨w,s1⟩:=B
 simp -zeta only at hK D4 tk gi hi ⊢
 have hS1:=S.goes gi
 have E4:=E.mut M04
 refine⟨_,rd_eqBs (b:=[]),fun e=>?_,fun e=>?_⟩
 ·have ew:=of_decide_eq_true e
  rw [if_pos ew] at hK
  have es:s1=s:=by
   rcases hi with ⟨_,q⟩|⟨w',r,_,hm,q,_⟩
   ·exact q
   ·rw [ew] at q;rw [←q] at hm;exact absurd hm (by decide)
  subst es
  exact FA D4 E4 hS1 fun a c h8 D8 N8 M8=>⟨_,_,_,rfl,hK a c h8 D8 (N8.base (M04.up D4.al)) (M04.trans M8)⟩
 ·have ew:=of_decide_eq_false e
  rw [if_neg ew] at hK
  have tk:=tk ew
  have d1:=S.d1
  have hdp:=gi.deep
  have Sn:SOk n s1:=⟨hS1.good,by have:=S.len;omega,hS1.big,hS1.d0,hS1.d1⟩
  have kd:=keeps_down ku (Goes.refl hS1.good) (Nat.le_of_lt Sn.len)
  refine reader_down_ok ⟨_,Tryz.func166,by kernel_rfl,by kernel_rfl⟩ F ku D4 E4 Sn (by omega) fun a c h8 D8 N8 M8=>⟨_,_,_,rfl,?_⟩
  refine reader_join_ok D8 N8.s (nd_nil h8 h8).s wf_nil (by have:=kd.le;omega) (by simp) fun a c h15 D15 N15 M15=>⟨_,_,_,rfl,?_⟩
  exact hK a c h15 D15 (N15.base ((M04.trans M8).up D8.al)) ((M04.trans M8).trans M15)
theorem reader_compare_ok {P:Ps}{n:Nat}(F:Reads 197 P n)(kp:KP P n):Reads 186 (cmpP P) n:=by
 intro h0 h g s D E S R hK
 refine ok_query_reader_compare ?_
 unfold VC_query_reader_compare
 have k:=kp s S.good (Nat.le_of_lt S.len)
 unfold cmpP at hK
 simp only at hK
 refine F D E S fun a3 c3 h2 D2 N2 M2=>⟨_,_,_,rfl,?_⟩
 intro b4 hb4 h5
 have l5:h2.le h5:=Hp.le_set (Hp.le_refl h2) hb4 _
 have S2:=S.goes k.goes
 have G0:=k.goes
 have k0:=k.le
 generalize P s=X at *
 obtain⟨x,s0⟩:=X
 simp only at hK D2 N2 S2 G0 k0
 have gi:=goes_is S2.good [wLt,wGt,wLe,wGe,wEq,wNe,wIs]
 refine reader_is_ok (D2.le l5) (slb_lit h2 b4 [wLt,wGt,wLe,wGe,wEq,wNe,wIs] (by decide)) (by decide) (by have:=S2.big;omega) fun h7 D7 M7=>⟨_,rfl,?_⟩
 have M57:Mut (At g) h2 (At g) h7:=(Mut.of_le l5).trans M7
 have M07:Mut (At g) h (At g) h7:=M2.trans M57
 have N7:=N2.mut D.al M57
 generalize s0.is [wLt,wGt,wLe,wGe,wEq,wNe,wIs]=B at *
 obtain⟨w,s1⟩:=B
 simp -zeta only at hK D7 gi ⊢
 have S7:=S2.goes gi
 have k2:=kp s1 S7.good (Nat.le_of_lt S7.len)
 have kw:=k2.wf
 have kl:=k2.le
 have E7:=E.mut M07
 have sumK:∀{R2:Value→Hp→Prop},(∀ a c h',RdAt h0 h' g (P s1).2→NdAt h7 h' a (P s1).1.length (P s1).1→Mut (At g) h7 (At g) h'→R2 (vsl a (P s1).1.length c) h')→CallOK Tryz.prog 197 [vhp g 0] h7 R2:=fun H=>F D7 E7 S7 H
 have kx:=k.wf
 intro J78
 generalize P s1=Y at *
 obtain⟨y,s2⟩:=Y
 simp -zeta only at hK sumK kw kl ⊢
 refine⟨_,rd_eqBs (b:=wLt),fun e=>?_,fun e1=>⟨_,rd_eqBs (b:=wGt),fun e=>?_,fun e2=>⟨_,rd_eqBs (b:=wLe),fun e=>?_,fun e3=>⟨_,rd_eqBs (b:=wGe),fun e=>?_,fun e4=>⟨_,rd_eqBs (b:=wEq),fun e=>?_,fun e5=>⟨_,rd_eqBs (b:=wNe),fun e=>?_,fun e6=>⟨_,rd_eqBs (b:=wIs),fun e=>?_,fun e7=>?_⟩⟩⟩⟩⟩⟩⟩
 ·rw [if_pos (of_decide_eq_true e)] at hK
  exact sumK fun a c h11 D11 N11 M11=>⟨_,_,_,rfl,reader_join_ok D11 (N7.mut D.al M11).s N11.s kw (by omega) (by omega) fun a c h14 D14 N14 M14=>⟨_,_,_,rfl,hK a c h14 D14 (N14.base ((M07.trans M11).up D11.al)) ((M07.trans M11).trans M14)⟩⟩
 ·rw [if_neg (of_decide_eq_false e1),if_pos (of_decide_eq_true e)] at hK
  exact sumK fun a c h11 D11 N11 M11=>⟨_,_,_,rfl,reader_join_ok D11 N11.s (N7.mut D.al M11).s kx (by omega) (by omega) fun a c h14 D14 N14 M14=>⟨_,_,_,rfl,hK a c h14 D14 (N14.base ((M07.trans M11).up D11.al)) ((M07.trans M11).trans M14)⟩⟩
 ·rw [if_neg (of_decide_eq_false e1),if_neg (of_decide_eq_false e2),if_pos (of_decide_eq_true e)] at hK
  have jl:=joinP_le 11 y x s2
  exact sumK fun a c h11 D11 N11 M11=>⟨_,_,_,rfl,reader_join_ok D11 N11.s (N7.mut D.al M11).s kx (by omega) (by omega) fun a c h14 D14 N14 M14=>⟨_,_,_,rfl,reader_join_ok D14 N14.s (nd_nil h14 h14).s wf_nil (by omega) (by simp) fun a c h17 D17 N17 M17=>⟨_,_,_,rfl,hK a c h17 D17 (N17.base (((M07.trans M11).trans M14).up D14.al)) (((M07.trans M11).trans M14).trans M17)⟩⟩⟩
 ·rw [if_neg (of_decide_eq_false e1),if_neg (of_decide_eq_false e2),if_neg (of_decide_eq_false e3),if_pos (of_decide_eq_true e)] at hK
  have jl:=joinP_le 11 x y s2
  exact sumK fun a c h11 D11 N11 M11=>⟨_,_,_,rfl,reader_join_ok D11 (N7.mut D.al M11).s N11.s kw (by omega) (by omega) fun a c h14 D14 N14 M14=>⟨_,_,_,rfl,reader_join_ok D14 N14.s (nd_nil h14 h14).s wf_nil (by omega) (by simp) fun a c h17 D17 N17 M17=>⟨_,_,_,rfl,hK a c h17 D17 (N17.base (((M07.trans M11).trans M14).up D14.al)) (((M07.trans M11).trans M14).trans M17)⟩⟩⟩
 ·rw [if_neg (of_decide_eq_false e1),if_neg (of_decide_eq_false e2),if_neg (of_decide_eq_false e3),if_neg (of_decide_eq_false e4),if_pos (of_decide_eq_true e)] at hK
  exact sumK fun a c h11 D11 N11 M11=>⟨_,_,_,rfl,reader_join_ok D11 (N7.mut D.al M11).s N11.s kw (by omega) (by omega) fun a c h14 D14 N14 M14=>⟨_,_,_,rfl,hK a c h14 D14 (N14.base ((M07.trans M11).up D11.al)) ((M07.trans M11).trans M14)⟩⟩
 ·rw [if_neg (of_decide_eq_false e1),if_neg (of_decide_eq_false e2),if_neg (of_decide_eq_false e3),if_neg (of_decide_eq_false e4),if_neg (of_decide_eq_false e5),if_pos (of_decide_eq_true e)] at hK
  have jl:=joinP_le 12 x y s2
  exact sumK fun a c h11 D11 N11 M11=>⟨_,_,_,rfl,reader_join_ok D11 (N7.mut D.al M11).s N11.s kw (by omega) (by omega) fun a c h14 D14 N14 M14=>⟨_,_,_,rfl,reader_join_ok D14 N14.s (nd_nil h14 h14).s wf_nil (by omega) (by simp) fun a c h17 D17 N17 M17=>⟨_,_,_,rfl,hK a c h17 D17 (N17.base (((M07.trans M11).trans M14).up D14.al)) (((M07.trans M11).trans M14).trans M17)⟩⟩⟩
 ·rw [if_neg (of_decide_eq_false e1),if_neg (of_decide_eq_false e2),if_neg (of_decide_eq_false e3),if_neg (of_decide_eq_false e4),if_neg (of_decide_eq_false e5),if_neg (of_decide_eq_false e6),if_pos (of_decide_eq_true e)] at hK
  intro b61 hb61 h62
  have l62:h7.le h62:=Hp.le_set (Hp.le_refl h7) hb61 _
  have g3:=goes_is S7.good [wNot]
  refine reader_is_ok (D7.le l62) (slb_one h7 b61 wNot) (by decide) (by have:=S7.big;omega) fun h64 D64 M64=>⟨_,rfl,?_⟩
  have M64':Mut (At g) h7 (At g) h64:=(Mut.of_le l62).trans M64
  have S8:=S7.goes g3
  generalize s1.is [wNot]=C at *
  obtain⟨v,s3⟩:=C
  simp -zeta only at hK D64 S8 ⊢
  refine reader_must_ok D64 (by have:=S8.big;omega) fun h67 D67 M67=>⟨rfl,?_⟩
  have M67':=M64'.trans M67
  refine reader_join_ok D67 (N7.mut D.al M67').s (nd_nil h67 h67).s wf_nil (by omega) (by simp) fun a c h69 D69 N69 M69=>⟨_,_,_,rfl,?_⟩
  have jl:=joinP_le 5 x [] (s3.must wNull)
  refine⟨_,rd_neBs (b:=[]),fun q=>?_,fun q=>?_⟩
  ·have q:v≠[]:=by simpa using q
   rw [if_pos q] at hK
   exact reader_join_ok D69 N69.s (nd_nil h69 h69).s wf_nil (Nat.le_trans jl (by decide)) (by simp) fun a c h73 D73 N73 M73=>⟨_,_,_,rfl,hK a c h73 D73 (N73.base (((M07.trans M67').trans M69).up D69.al)) (((M07.trans M67').trans M69).trans M73)⟩
  ·have q:¬ v≠[]:=by simpa using q
   rw [if_neg q] at hK
   exact hK a c h69 D69 (N69.base ((M07.trans M67').up D67.al)) ((M07.trans M67').trans M69)
 ·rw [if_neg (of_decide_eq_false e1),if_neg (of_decide_eq_false e2),if_neg (of_decide_eq_false e3),if_neg (of_decide_eq_false e4),if_neg (of_decide_eq_false e5),if_neg (of_decide_eq_false e6),if_neg (of_decide_eq_false e7)] at hK
  exact hK _ _ h7 D7 N7 M07
def wordsN (h:Hp)(g:Nat):Nat:=match h.cell g 0 with|some (.slice _ n _)=>n|_=>0
theorem RdAt.wn {h0 h:Hp}{g:Nat}{s:RS}(D:RdAt h0 h g s):wordsN h g=s.ws.length:=by
 obtain⟨a,c,e⟩:=D.c0
 unfold wordsN
 rw [e]
theorem reader_row_ok {f:FuncId}{P:Ps}{n:Nat}(B:Bodied f)(F:Reads f P n)(kp:KP P n){ops:List (Wd × Int)}(ho:∀ q ∈ ops,Opr q.2)(hne:∀ q ∈ ops,q.1≠[])(hol:ops.length≤100){h0 h:Hp}{g:Nat}{s:RS}(D:RdAt h0 h g s)(E:EnvQ h0 h g)(S:SOk n s){y:Value}{wa:Option Addr}{wn wc:Nat}(W:ElAt encB h g wa wn (ops.map (·.1)))
  (hop:∀ h',Mut (At g) h (At g) h'→∀ w ∈ ops.map (·.1),Rd Tryz.prog (Instr.lookup 199 y (vs (bs w)) false) h' (vi (opOf ops w)))
  {R:Value→Hp→Prop} (hK:∀ a c h',RdAt h0 h' g (rowP P ops s).2→NdAt h h' a (rowP P ops s).1.length (rowP P ops s).1→Mut (At g) h (At g) h'→R (vsl a (rowP P ops s).1.length c) h'):CallOK Tryz.prog 131 [vhp g 0,.func (.func f) #[vhp g 0] #[],y,vsl wa wn wc] h R:=by
 refine ok_query_reader_row ?_
 unfold VC_query_reader_row
 have k:=kp s S.good (Nat.le_of_lt S.len)
 have Sx:=S.goes k.goes
 have kx:=k.wf
 have kl:=k.le
 have kp1:=k.pos
 unfold rowP at hK
 have hwn:wn=ops.length:=by have:=W.s.1;simpa using this
 refine inv_of B (F D E S fun a3 c3 h2 D2 N2 M2=>⟨_,_,_,rfl,?_⟩)
 generalize P s=X at *
 obtain⟨x0,s0⟩:=X
 simp -zeta only at hK D2 N2 Sx kx kl kp1 ⊢
 intro J26
 refine⟨fun vs' hh=>∃(k:Nat) (x:List Nd) (t:RS) (a:Option Addr) (c:Nat),vs'=[vsl a x.length c]∧RdAt h0 hh g t∧NdAt h hh a x.length x∧Mut (At g) h (At g) hh∧SOk n t∧1≤x.length∧x.length≤40∧WfL x∧t.ws.length < k∧rowL P ops k x t=rowL P ops (s0.ws.length+1) x0 s0,fun _ hh=>wordsN hh g,⟨_,x0,s0,a3,c3,rfl,D2,N2,M2,Sx,kp1,kl,kx,Nat.lt_succ_self _,rfl⟩,?_⟩
 rintro vs' hh ⟨k,x,t,a,c,rfl,Dt,Nt,Mt,St,hx1,hx,Wx,hk,hrow⟩
 obtain⟨k,rfl⟩:∃ j,k=j+1:=⟨k - 1,by omega⟩
 rw [rowL] at hrow
 refine⟨_,_,_,rfl,_,Dt.c2,fun e=>?_,fun e=>?_⟩
 ·have f0:¬ t.f≠0:=by rw [errV_none] at e;simpa using e
  rw [if_neg f0] at hrow
  have gi:=goes_is St.good (ops.map (·.1))
  have gm:=@is_mem t (ops.map (·.1))
  have tk:=@taken t (ops.map (·.1))
  have hDt:=Dt.wn
  refine reader_is_ok Dt (W.mut Mt).s (by omega) (by have:=St.big;omega) fun h14 D14 M14=>⟨_,rfl,?_⟩
  have M014:=Mt.trans M14
  simp only at hrow
  generalize t.is (ops.map (·.1))=A at *
  obtain⟨w,s1⟩:=A
  simp -zeta only at hrow D14 gi gm tk ⊢
  have S1:=St.goes gi
  refine⟨_,rd_eqBs (b:=[]),fun e=>?_,fun e=>?_⟩
  ·rw [if_pos (of_decide_eq_true e)] at hrow
   rw [←hrow] at hK
   exact hK _ _ h14 D14 (Nt.mut D.al M14) M014
  ·have ew:=of_decide_eq_false e
   rw [if_neg ew] at hrow
   have hop':=opOf_opr ho (gm ew)
   have kn:=kp s1 S1.good (Nat.le_of_lt S1.len)
   have tk:=tk ew
   refine⟨_,hop h14 M014 w (gm ew),inv_of B (F D14 (E.mut M014) S1 fun a22 c22 h21 D21 N21 M21=>⟨_,_,_,rfl,hop h21 (M014.trans M21) w (gm ew),?_⟩)⟩
   generalize opOf ops w=op at *
   have kj:Keeps (joinP op x (P s1).1 (P s1).2) t:=keeps_join hop' (gi.trans kn.goes) Wx kn.wf hx1 (fun _=>kn.pos)
   have kn1:=kn.wf
   have kn2:=kn.le
   have kn3:=kn.len
   have kj2:(joinP op x (P s1).1 (P s1).2).2.ws.length≤(P s1).2.ws.length:=by
    unfold joinP
    split
    ·exact Nat.zero_le _
    ·exact Nat.le_refl _
   generalize P s1=Y at *
   obtain⟨y1,s2⟩:=Y
   simp -zeta only at hrow D21 N21 kj kn1 kn2 kn3 kj2 ⊢
   refine reader_join_ok D21 ((Nt.mut D.al M14).mut D.al M21).s N21.s kn1 (by omega) (by omega) fun a25 c25 h24 D24 N24 M24=>⟨_,_,_,rfl,⟨k,_,_,a25,c25,rfl,D24,N24.base ((M014.trans M21).up D21.al),(M014.trans M21).trans M24,St.goes kj.goes,kj.pos,kj.le,kj.wf,by omega,hrow⟩,?_⟩
   have h24n:=D24.wn
   show wordsN h24 g < wordsN hh g
   omega
 ·have f0:t.f≠0:=by rw [errV_none] at e;simpa using e
  rw [if_pos f0] at hrow
  rw [←hrow] at hK
  exact hK _ _ hh Dt Nt Mt
theorem rd_mapS {h:Hp}{b:Nat}{es:Array MapEntry}{clock:Nat}(hb:h b=some (.map es clock)){w:Wd}{x:Int}{i:Nat}(hf:Instr.findNow .string (vs (bs w)) es.toList 0=some (some (i,vi x))):Rd Tryz.prog (Instr.lookup 199 (.map (some b)) (vs (bs w)) false) h (vi x):=
 rd_lookup (k:=9) (e:=3) (d:=.string) (by kernel_rfl) (by kernel_rfl) hb trivial hf
theorem sem_mapS {h:Hp}{b:Nat}{es:Array MapEntry}{clock:Nat}(hb:h b=some (.map es clock)){w:Wd}{x:Int}(hf:Instr.findNow .string (vs (bs w)) es.toList 0=some none){K:Hp→Prop}(hK:K (h.set b (.map (es.push { key:=vs (bs w),val:=vi x,born:=clock }) (clock+1)))):SemOKu Tryz.prog (Instr.mapUpdate 199 (.map (some b)) (vs (bs w)) (vi x)) h K:=
 sem_mapNew (k:=9) (e:=3) (d:=.string) (key:=vs (bs w)) (by kernel_rfl) (by kernel_rfl) hb trivial hf hK
theorem reader_one_ok {f:FuncId}{P:Ps}{n:Nat}(B:Bodied f)(F:Reads f P n)(kp:KP P n){w:Wd}{op:Int}(ho:Opr op)(hw:w≠[]){h0 h:Hp}{g:Nat}{s:RS}(D:RdAt h0 h g s)(E:EnvQ h0 h g)(S:SOk n s){R:Value→Hp→Prop}(hK:∀ a c h',RdAt h0 h' g (rowP P [(w,op)] s).2→NdAt h h' a (rowP P [(w,op)] s).1.length (rowP P [(w,op)] s).1→Mut (At g) h (At g) h'→R (vsl a (rowP P [(w,op)] s).1.length c) h') :
  SemOK Tryz.prog (Instr.makeMap 199 none) h fun v1 h2=>∃(y3:Value),v1=y3∧(SemOKu Tryz.prog (Instr.mapUpdate 199 y3 (vs (bs w)) (vi op)) h2 fun h4=>(∀(b5:Nat),h4 b5=none→let h6:Hp:=Hp.set h4 b5 (cellsO [(vs (bs w))] 9);(CallOK Tryz.prog 131 [(vhp g 0),(Value.func (.func f) #[(vhp g 0)] #[]),y3,(vsl (some (⟨b5,0,none⟩:Addr)) 1 1)] h6 fun v7 h8=>∃(a9:Option Addr) (n9 c9:Nat),v7=(vsl a9 n9 c9)∧R (vsl a9 n9 c9) h8))):=by
 refine sem_makeMap fun b hb=>⟨_,rfl,?_⟩
 refine sem_mapS (Hp.set_same _ _ _) rfl ?_
 intro b5 hb5 h6
 have hbg:b≠g:=fun e=>by rw [e] at hb;exact D.al hb
 have l1:h.le (h.set b (.map #[] 0)):=Hp.le_set (Hp.le_refl h) hb _
 rw [Hp.set_set] at hb5
 have l2:h.le h6:=by
  have:h6=(h.set b (.map (#[].push { key:=vs (bs w),val:=vi op,born:=0 }) (0+1))).set b5 (cellsO [vs (bs w)] 9):=by
   show ((h.set b _).set b _).set b5 _=_
   rw [Hp.set_set]
  rw [this]
  exact Hp.le_trans (Hp.le_set (Hp.le_refl h) hb _) (Hp.le_set (Hp.le_refl _) hb5 _)
 have hb6:h6 b=some (.map (#[].push { key:=vs (bs w),val:=vi op,born:=0 }) (0+1)):=by
  have hne:b≠b5:=fun e=>by rw [e,Hp.set_same] at hb5;cases hb5
  show (((h.set b _).set b _).set b5 _) b=_
  rw [Hp.set_other _ _ hne,Hp.set_same]
 have D6:=D.le l2
 have hb5g:b5≠g:=fun e=>by
  subst e
  have:(h.set b (.map (#[].push { key:=vs (bs w),val:=vi op,born:=0 }) (0+1))) b5≠none:=by rw [Hp.set_other _ _ hbg.symm];exact D.al
  exact this hb5
 refine reader_row_ok B F kp (ops:=[(w,op)]) (by simpa using ho) (by simpa using hw) (by simp) D6 (E.mut (Mut.of_le l2)) S ⟨slb_one _ b5 w,fun b' o e=>by cases e;exact hb5g⟩ (fun h' M w' hw'=>?_) fun a c h' D' N' M'=>⟨_,_,_,rfl,?_⟩
 ·have e:w'=w:=by simpa using hw'
  subst e
  have ho:opOf [(w',op)] w'=op:=by simp [opOf]
  rw [ho]
  have hm:h' b=_:=M.keep b _ (fun e=>hbg e) hb6
  refine rd_mapS hm (i:=0) ?_
  show Instr.findNow .string (vs (bs w')) [{ key:=vs (bs w'),val:=vi op,born:=0 }] 0=_
  simp [Instr.findNow,Instr.sameNow,(Go.MapKept.bytes_beq (bs w') (bs w')).2 rfl]
 ·exact hK a c h' D' (N'.base (le_up l2)) ((Mut.of_le l2).trans M')
theorem reader_product_ok {P:Ps}{n:Nat}(F:Reads 207 P n)(kp:KP P n):Reads 203 (rowP P [(wStar,8)]) n:=by
 intro h0 h g s D E S R hK
 refine ok_query_reader_product ?_
 unfold VC_query_reader_product
 exact reader_one_ok ⟨_,Tryz.func207,by kernel_rfl,by kernel_rfl⟩ F kp (by decide) (by decide) D E S hK
theorem reader_and_ok {P:Ps}{n:Nat}(F:Reads 166 P n)(kp:KP P n):Reads 132 (rowP P [(wAnd,9)]) n:=by
 intro h0 h g s D E S R hK
 refine ok_query_reader_and ?_
 unfold VC_query_reader_and
 exact reader_one_ok ⟨_,Tryz.func166,by kernel_rfl,by kernel_rfl⟩ F kp (by decide) (by decide) D E S hK
theorem reader_or_ok {P:Ps}{n:Nat}(F:Reads 132 P n)(kp:KP P n):Reads 84 (rowP P [(wOr,10)]) n:=by
 intro h0 h g s D E S R hK
 refine ok_query_reader_or ?_
 unfold VC_query_reader_or
 exact reader_one_ok ⟨_,Tryz.func132,by kernel_rfl,by kernel_rfl⟩ F kp (by decide) (by decide) D E S hK
theorem reader_sum_ok {P:Ps}{n:Nat}(F:Reads 203 P n)(kp:KP P n):Reads 197 (rowP P [(wPlus,6),(wMinus,7)]) n:=by
 intro h0 h g s D E S R hK
 refine ok_query_reader_sum ?_
 unfold VC_query_reader_sum
 refine sem_makeMap fun b hb=>⟨_,rfl,?_⟩
 refine sem_mapS (w:=wPlus) (Hp.set_same _ _ _) rfl ?_
 refine sem_mapS (w:=wMinus) (Hp.set_same _ _ _) rfl ?_
 rw [Hp.set_set,Hp.set_set]
 generalize hM:Obj.map _ _=ob
 intro b5 hb5 h6
 have hbg:b≠g:=fun e=>by rw [e] at hb;exact D.al hb
 have l2:h.le h6:=Hp.le_trans (Hp.le_set (Hp.le_refl h) hb _) (Hp.le_set (Hp.le_refl _) hb5 _)
 have hb6:h6 b=some ob:=by
  have hne:b≠b5:=fun e=>by rw [e,Hp.set_same] at hb5;cases hb5
  show ((h.set b _).set b5 _) b=_
  rw [Hp.set_other _ _ hne,Hp.set_same]
 have D6:=D.le l2
 have hb5g:b5≠g:=fun e=>by
  subst e
  have:(h.set b ob) b5≠none:=by rw [Hp.set_other _ _ hbg.symm];exact D.al
  exact this hb5
 refine reader_row_ok ⟨_,Tryz.func203,by kernel_rfl,by kernel_rfl⟩ F kp (ops:=[(wPlus,6),(wMinus,7)]) (by decide) (by decide) (by simp) D6 (E.mut (Mut.of_le l2)) S ⟨slb_lit _ b5 [wPlus,wMinus] (by decide),fun b' o e=>by cases e;exact hb5g⟩ (fun h' M w' hw'=>?_) fun a c h' D' N' M'=>⟨_,_,_,rfl,?_⟩
 ·have hm:h' b=some ob:=M.keep b _ (fun e=>hbg e) hb6
  rw [←hM] at hm
  have e:w'=wPlus∨w'=wMinus:=by simpa using hw'
  rcases e with rfl|rfl
  ·exact rd_mapS hm (i:=0) rfl
  ·exact rd_mapS hm (i:=1) rfl
 ·exact hK a c h' D' (N'.base (le_up l2)) ((Mut.of_le l2).trans M')
theorem reads_step {t:Three}{n:Nat}(h:KP t.o n∧KP t.n n∧KP t.u n)(H:Reads 84 t.o n∧Reads 166 t.n n∧Reads 207 t.u n):Reads 84 (orS t) (n+1)∧Reads 166 (notS t) (n+1)∧Reads 207 (unS t) (n+1):=by
 obtain⟨k1,k2,k3,k4,k5,k6,k7⟩:=keeps_S h
 have h1:Reads 207 (unS t) (n+1):=reader_unary_ok H.2.2 h.2.2 (reader_atom_ok H.1 h.1)
 have h2:Reads 203 (prodS t) (n+1):=reader_product_ok h1 k3
 have h3:Reads 197 (sumS t) (n+1):=reader_sum_ok h2 k4
 have h4:Reads 186 (cmpS t) (n+1):=reader_compare_ok h3 k5
 have h5:Reads 166 (notS t) (n+1):=reader_not_ok H.2.1 h.2.1 h4
 have h6:Reads 132 (andS t) (n+1):=reader_and_ok h5 k2
 exact⟨reader_or_ok h6 k7,h5,h1⟩
theorem reads_none (f:FuncId)(P:Ps):Reads f P 0:=by
 intro h0 h g s D E S R hK
 exact absurd S.len (Nat.not_lt_zero _)
theorem reads_all (n:Nat):Reads 84 (allP n).o n∧Reads 166 (allP n).n n∧Reads 207 (allP n).u n:=by
 induction n with
 | zero=>exact⟨reads_none _ _,reads_none _ _,reads_none _ _⟩
 | succ n ih=>rw [allP_succ];exact reads_step (keeps_all n) ih
theorem is_one {s:RS}{w:Wd}(hw:w≠[])(h:(s.is [w]).1=[]):(s.is [w]).2=s:=by
 rcases s.is_spec [w] with ⟨_,q⟩|⟨w',r,_,hm,q,_⟩
 ·exact q
 ·rw [h] at q
  rw [←q] at hm
  exact absurd (List.mem_singleton.1 hm).symm hw
theorem reader_optional_ok {n:Nat}{h0 h:Hp}{g:Nat}{s:RS}(D:RdAt h0 h g s)(E:EnvQ h0 h g)(S:SOk n s){w:Wd}(hw:w≠[]){d:Int}{R:Value→Hp→Prop}(hK:∀ h',RdAt h0 h' g (optN w d s).2→Mut (At g) h (At g) h'→R (vi (optN w d s).1) h'):CallOK Tryz.prog 86 [vhp g 0,vs (bs w),vi d] h R:=by
 refine ok_query_reader_optional ?_
 unfold VC_query_reader_optional
 intro b1 hb1 h2
 have hl:h.le h2:=Hp.le_set (Hp.le_refl h) hb1 _
 have hb:=S.big
 have io:=@is_one s w hw
 have gi:=goes_is S.good [w]
 unfold optN at hK
 refine reader_is_ok (D.le hl) (slb_one h b1 w) (by decide) (by omega) fun h4 D4 M4=>⟨_,rfl,?_⟩
 have M04:Mut (At g) h (At g) h4:=(Mut.of_le hl).trans M4
 refine⟨_,rd_eqBs (b:=[]),fun e=>?_,fun e=>?_⟩
 ·have e:=of_decide_eq_true e
  rw [if_pos e] at hK
  rw [io e] at D4
  exact hK h4 D4 M04
 ·have e:=of_decide_eq_false e
  rw [if_neg e] at hK
  exact reader_number_ok D4 (E.mut M04) (by have:=gi.len;omega) (by decide) (by decide) fun h9 D9 M9=>⟨_,rfl,hK h9 D9 (M04.trans M9)⟩
theorem idx_aggs {w:Wd}(h:w ∈ [[],wCount,wSum,wMin,wMax]):w ∈ aggsW∧(aggsW.idxOf w:Int)=aggKind w:=by
 have h2:w=[]∨w=wCount∨w=wSum∨w=wMin∨w=wMax:=by simpa using h
 rcases h2 with rfl|rfl|rfl|rfl|rfl<;>exact⟨by decide,by decide⟩
theorem reader_agg_ok {P:Ps}{n:Nat}(F:Reads 84 P n)(kp:KP P n){h0 h:Hp}{g:Nat}{s:RS}(D:RdAt h0 h g s)(E:EnvQ h0 h g)(S:SOk n s){R:Value→Hp→Prop}(hK:∀ a c h',RdAt h0 h' g (aggP P s).2→NdAt h h' a (aggP P s).1.2.length (aggP P s).1.2→Mut (At g) h (At g) h'→R (vag [vi (aggP P s).1.1,vsl a (aggP P s).1.2.length c]) h'):CallOK Tryz.prog 82 [vhp g 0] h R:=by
 refine ok_query_reader_agg ?_
 unfold VC_query_reader_agg
 intro b1 hb1 h2
 have hl:h.le h2:=Hp.le_set (Hp.le_refl h) hb1 _
 have hb:=S.big
 have gi:=goes_is S.good [wCount,wSum,wMin,wMax]
 have gm:=@is_mem s [wCount,wSum,wMin,wMax]
 unfold aggP at hK
 simp only at hK
 refine reader_is_ok (D.le hl) (slb_lit h b1 [wCount,wSum,wMin,wMax] (by decide)) (by decide) (by omega) fun h4 D4 M4=>⟨_,rfl,?_⟩
 have M04:Mut (At g) h (At g) h4:=(Mut.of_le hl).trans M4
 generalize s.is [wCount,wSum,wMin,wMax]=B at *
 obtain⟨w,s1⟩:=B
 simp -zeta only at hK D4 gi gm ⊢
 have S1:=S.goes gi
 have hwm:w ∈ [[],wCount,wSum,wMin,wMax]:=by
  by_cases e:w=[]
  ·rw [e];simp
  ·exact List.mem_cons_of_mem _ (gm e)
 obtain⟨hwa,hwi⟩:=idx_aggs hwm
 refine⟨_,rd_eqBs (b:=[]),?_⟩
 intro J11
 have hJ:∀(h12:Hp) (t:RS),t=(if w=[] then s1.fail 4 else s1)→RdAt h0 h12 g t→Mut (At g) h (At g) h12→Goes t s→J11 h12:=by
  intro h12 t ht D12 M12 Gt
  rw [←ht] at hK
  clear ht
  have St:=S.goes Gt
  refine reader_must_ok D12 (by have:=St.big;omega) fun h14 D14 M14=>⟨rfl,?_⟩
  have M014:=M12.trans M14
  have E14:=E.mut M014
  have G2:=Gt.trans (goes_must Gt.ok wOpen)
  obtain⟨qa,qc,hq,hqs⟩:=E14.now.a
  refine⟨_,_,_,hq,slices_Index_ok hqs (by decide) ⟨_,rfl,?_⟩⟩
  rw [if_pos hwa,hwi]
  have D14:RdAt h0 h14 g (t.must wOpen):=D14
  generalize t.must wOpen=s2 at *
  have S2:=S.goes G2
  intro J56
  have fin:∀(k:Int) (a:Option Addr) (c:Nat) (h66:Hp) (l:List Nd) (u:RS),RdAt h0 h66 g u→NdAt h h66 a l.length l→Mut (At g) h (At g) h66→SOk n u→(∀ a c h',RdAt h0 h' g (u.must wClose)→NdAt h h' a l.length l→Mut (At g) h (At g) h'→R (vag [vi k,vsl a l.length c]) h')→J56 k a l.length c h66:=by
   intro k a c h66 l u D66 N66 M66 Su hR
   exact reader_must_ok D66 (by have:=Su.big;omega) fun h68 D68 M68=>⟨rfl,hR a c h68 D68 (N66.mut D.al M68) (M66.trans M68)⟩
  clear_value J56
  have orK:∀{h26:Hp} (k:Int),RdAt h0 h26 g s2→Mut (At g) h (At g) h26→(∀ a c h',RdAt h0 h' g ((P s2).2.must wClose)→NdAt h h' a (P s2).1.length (P s2).1→Mut (At g) h (At g) h'→R (vag [vi k,vsl a (P s2).1.length c]) h')→CallOK Tryz.prog 84 [vhp g 0] h26 fun v31 h32=>∃(a33:Option Addr) (n33 c33:Nat),v31=vsl a33 n33 c33∧J56 k a33 n33 c33 h32:=by
   intro h26 k D26 M26 hR
   have k2:=kp s2 S2.good (Nat.le_of_lt S2.len)
   exact F D26 (E.mut M26) S2 fun a c h' D' N' M'=>⟨_,_,_,rfl,fin k a c h' _ _ D' (N'.base (M26.up D26.al)) (M26.trans M') (S2.goes k2.goes) hR⟩
  refine⟨_,rd_eqBs (b:=wCount),fun e=>?_,fun e=>?_⟩
  ·have ew:w=wCount:=of_decide_eq_true e
   have hk1:aggKind w=1:=by rw [ew];rfl
   intro b20 hb20 h21
   have l21:h14.le h21:=Hp.le_set (Hp.le_refl h14) hb20 _
   have M21:=M014.trans (Mut.of_le l21)
   have gi2:=goes_is S2.good [wStar]
   have io:=@is_one s2 wStar (by decide)
   refine⟨fun x hh=>x=.t (.one (.v (vs (bs (s2.is [wStar]).1))))∧RdAt h0 hh g (s2.is [wStar]).2∧Mut (At g) h (At g) hh,fun _=>reader_is_ok (D14.le l21) (slb_one h14 b20 wStar) (by decide) (by have:=S2.big;omega) fun h24 D24 M24=>⟨_,rfl,rfl,D24,M21.trans M24⟩,fun q=>absurd e q,?_⟩
   rintro h26 s27 ⟨e27,D26,M26⟩
   cases e27
   generalize s2.is [wStar]=C at *
   obtain⟨v,s3⟩:=C
   simp only at hK D26 gi2 io ⊢
   refine⟨_,fun _=>rd_neBs (b:=[]),fun q=>?_,fun q=>?_⟩
   ·have q2:v≠[]:=by simpa [ew] using q
    rw [if_pos ⟨ew,q2⟩] at hK
    rw [hk1]
    exact fin 1 none 0 h26 [] s3 D26 (nd_nil _ _) M26 (S2.goes gi2) hK
   ·have q2:v=[]:=by simpa [ew] using q
    rw [if_neg (by rintro⟨_,h⟩;exact h q2),if_pos ew] at hK
    rw [io q2] at D26
    refine⟨_,rd_eqBs (b:=wCount),fun q3=>orK 2 D26 M26 hK,fun q3=>absurd ew (of_decide_eq_false q3)⟩
  ·have e0:¬ w=wCount:=fun h=>e (decide_eq_true h)
   rw [if_neg (by rintro⟨h,_⟩;exact e0 h),if_neg e0] at hK
   refine⟨fun x hh=>x=.t (.one (.v (vs ⟨#[]⟩)))∧hh=h14,fun q=>absurd q e,fun _=>⟨rfl,rfl⟩,?_⟩
   rintro h43 s44 ⟨e43,rfl⟩
   cases e43
   refine⟨false,fun q=>absurd q e,fun q=>by simp at q,fun _=>?_⟩
   refine⟨_,rd_eqBs (b:=wCount),fun q3=>absurd (of_decide_eq_true q3) e0,fun q3=>orK (aggKind w) D14 M014 hK⟩
 clear_value J11
 refine⟨fun e=>?_,fun e=>?_⟩
 ·have e:=of_decide_eq_true e
  exact reader_fail_ok D4 (by decide) fun h8 D8 M8=>⟨rfl,hJ h8 _ (by rw [if_pos e]) D8 (M04.trans M8) (gi.trans (goes_fail _ _))⟩
 ·have e:=of_decide_eq_false e
  exact hJ h4 _ (by rw [if_neg e]) D4 M04 gi
theorem elAgg:ElT Tryz.prog 25 86 2 32:=.of (by kernel_rfl) (by kernel_rfl) (by decide)
abbrev AggB (G:Nat→Prop):=GTabB encN aggRw 2 86 G
theorem RdAt.keep {h0 h h':Hp}{g:Nat}{s:RS}(D:RdAt h0 h g s)(hb:h' g=h g)(l:h0.le h'):RdAt h0 h' g s:=by
 obtain⟨a,c,hb',hS,hc⟩:=D.b
 exact⟨⟨a,c,hb.trans hb',hS,hc⟩,l,D.n,D.w⟩
theorem agg_app {h0 hB h1:Hp}{g:Nat}{a:Option Addr}{c:Nat}{L:List Ag}{s:RS}(B:AggB (At g) h0 h1 a c L)(D:RdAt h0 h1 g s)(hBg:hB g≠none)(hBa:∀ b,a=some ⟨b,0,none⟩→hB b≠none){k:Int}{a2:Option Addr}{c2:Nat}{l:List Nd}(N:NdAt hB h1 a2 l.length l)(hL:L.length≤1000)
  {b:Nat} (hb:h1 b=none) {K:Value→Hp→Prop} (hK:∀ a' c' h',AggB (At g) h0 h' a' c' (L++[(k,l)])→RdAt h0 h' g s→K (vsl a' (L.length+1) c') h') :
  SemOK Tryz.prog (Builtin.append_ #[25,25] 25 #[vsl a L.length c,vsl (some ⟨b,0,none⟩) 1 1]) (h1.set b (cellsO [vi k,vsl a2 l.length c2] 86)) K:=by
 refine B.app (x:=k) (c2:=c2) elAgg (Hp.le_refl h1) (fun b' e=>by rw [show b'=g from e];exact hBg) hBa N.s.2 N.nw ?_ rfl (fun b' e=>by rw [show b'=g from e];exact D.al) (by omega) (by omega) hb fun a' c' h' B' hk=>hK a' c' h' B' ?_
 ·intro u hu
  have:u=vi k∨u=vsl a2 l.length c2:=by simpa [aggRw] using hu
  rcases this with rfl|rfl<;>rfl
 ·obtain⟨o,ho⟩:∃ o,h1 g=some o:=by
   cases e:h1 g with
   | none=>exact absurd e D.al
   | some o=>exact⟨o,rfl⟩
  exact D.keep ((hk g o ho (B.ne rfl)).trans ho.symm) B'.le0
theorem noQ_at (h:Hp):QAt h noQ none 0 none 0 none 0:=⟨⟨[],rfl,rfl,.inl rfl,fun r hr=>by cases hr⟩,⟨rfl,.inl rfl⟩,⟨rfl,.inl rfl⟩⟩
set_option maxHeartbeats 1000000 in
theorem query_Parse_ok {l:List UInt8}{h:Hp}(T:TabQ h){R:Value→Hp→Prop}(hK:∀ a1 n1 c1 a2 n2 c2 a3 n3 c3 h',h.le h'→QAt h' (parseQ l).1 a1 n1 a2 n2 a3 n3→R (vtup [qV a1 n1 c1 a2 n2 c2 a3 n3 c3 (parseQ l).1,ifv (errV (parseQ l).2)]) h'):CallOK Tryz.prog 40 [vs (bs l)] h R:=by
 refine ok_query_Parse ?_
 unfold VC_query_Parse
 refine lexer_Words_ok fun wa wn wc h2 O=>⟨_,_,_,_,rfl,?_⟩
 have lw:=wordsL_words l
 have l02:=O.le
 unfold parseQ at hK
 generalize wordsL l=WW at *
 obtain⟨W,fw⟩:=WW
 simp only at hK lw O
 show (Option.isSome (errV fw)=true→R (vtup [qV none 0 0 none 0 0 none 0 0 noQ,ifv (errV fw)]) h2)∧(Option.isSome (errV fw)=false→_)
 rw [errV_some]
 refine⟨fun e=>?_,fun e=>?_⟩
 ·have e2:fw≠0:=by simpa using e
  rw [if_pos e2] at hK
  exact hK none 0 0 none 0 0 none 0 0 h2 l02 (noQ_at h2)
 have e2:¬ fw≠0:=by simpa using e
 rw [if_neg e2] at hK
 clear e e2
 have hS:=O.slp encB_len (by decide)
 obtain rfl:=hS.1
 intro b6 hb6 h7
 have l7:h2.le h7:=Hp.le_set (Hp.le_refl h2) hb6 _
 have D7:RdAt h2 h7 b6 ⟨W,0,0⟩:=⟨⟨wa,wc,Hp.set_same _ _ _,hS,O.own.cap⟩,l7,hb6,fun x hx=>Nat.le_trans (lw.2 x hx) (by decide)⟩
 have E7:EnvQ h2 h7 b6:=⟨T.le l02,l7,hb6⟩
 have F:Reads 84 (allP (W.length+1)).o (W.length+1):=(reads_all (W.length+1)).1
 have kp:=(keeps_all (W.length+1)).1
 have g0:(⟨W,0,0⟩:RS).good:=fun h=>absurd rfl h
 have S7:SOk (W.length+1) ⟨W,0,0⟩:=⟨g0,Nat.lt_succ_self _,by show W.length≤1000;omega,Int.le_refl _,by show (0:Int)+(W.length:Int)≤1000000;omega⟩
 have hAll:=allA_ok W
 unfold parseW at hK
 rw [readQ_eq] at hK
 unfold allA firstA at hK hAll
 generalize (allP (W.length+1)).o=o at *
 have G1:=goes_must g0 wSelect
 refine reader_must_ok D7 (by show W.length≤1000000;omega) fun h9 D9 M9=>⟨rfl,?_⟩
 have D9:RdAt h2 h9 b6 ((⟨W,0,0⟩:RS).must wSelect):=D9
 generalize (⟨W,0,0⟩:RS).must wSelect=s1 at *
 have S9:=S7.goes G1
 have G2:=goes_agg kp S9.good (Nat.le_of_lt S9.len)
 have hs1:s1.ws.length≤80:=Nat.le_trans G1.len lw.1
 refine reader_agg_ok F kp D9 (E7.mut M9) S9 fun a13 c13 h11 D11 N11 M11=>⟨_,_,_,_,rfl,?_⟩
 generalize aggP o s1=A at *
 obtain⟨⟨k1,l1⟩,s2⟩:=A
 simp -zeta only at hK D11 N11 G2 hAll ⊢
 have S11:=S9.goes G2.1
 have l11:h2.le h11:=D11.l
 intro b14 hb14 h15
 refine agg_app (L:=[]) (a:=none) (c:=0) (hB:=h9) (k:=k1) (GTabB.nil l11) D11 D9.al (fun b e=>by cases e) N11 (by decide) hb14 fun a18 c18 h17 B17 D17=>⟨_,_,_,rfl,?_⟩
 intro J48
 -- the rest, behind what is gathered
 have hRest:∀(L:List Ag) (t:RS) (a:Option Addr) (c:Nat) (hE:Hp),AggB (At b6) h2 hE a c L→RdAt h2 hE b6 t→SOk (W.length+1) t→aggsP o (s2.ws.length+1) [(k1,l1)] s2=(L,t)→L.length≤1000→J48 a L.length c none 0 0 none 0 0 hE:=by
  intro L t a c hE BE DE SE hL hLn
  rw [hL] at hK hAll
  simp only at hK hAll
  have EE:EnvQ h2 hE b6:=⟨E7.t,DE.l,hb6⟩
  have hgE:=DE.al
  have hG2:∀ b,At b6 b→h2 b=none:=fun b e=>by rw [show b=b6 from e];exact hb6
  have G3:=goes_must SE.good wFrom
  refine reader_must_ok DE (by have:=SE.big;omega) fun h261 D261 M261=>⟨rfl,?_⟩
  have D261:RdAt h2 h261 b6 (t.must wFrom):=D261
  have S261:=SE.goes G3
  have G4:=G3.trans (goes_must G3.ok wEvents)
  refine reader_must_ok D261 (by have:=S261.big;omega) fun h263 D263 M263=>⟨rfl,?_⟩
  have D263:RdAt h2 h263 b6 ((t.must wFrom).must wEvents):=D263
  have ME:=M261.trans M263
  have S263:=SE.goes G4
  unfold restQ at hK
  generalize (t.must wFrom).must wEvents=t2 at *
  clear G3 D261 S261
  intro b264 hb264 h265
  have l265:h263.le h265:=Hp.le_set (Hp.le_refl h263) hb264 _
  have gi:=goes_is S263.good [wWhere]
  have io:=@is_one t2 wWhere (by decide)
  refine reader_is_ok (D263.le l265) (slb_one h263 b264 wWhere) (by decide) (by have:=S263.big;omega) fun h267 D267 M267=>⟨_,rfl,_,rd_neBs (b:=[]),?_⟩
  have D267:RdAt h2 h267 b6 (t2.is [wWhere]).2:=D267
  have M267':=(ME.trans (Mut.of_le l265)).trans M267
  intro J275
  have h275:∀(wh:List Nd) (aw:Option Addr) (cw:Nat) (u:RS) (h315:Hp),optP wWhere o t2=(wh,u)→RdAt h2 h315 b6 u→SOk (W.length+1) u→NdAt hE h315 aw wh.length wh→NdsOK wh→Mut (At b6) hE (At b6) h315→J275 aw wh.length cw h315:=by
   intro wh aw cw u h315 hw D315 S315 N315 Kw M315
   rw [hw] at hK
   simp only at hK
   unfold byQ at hK
   intro b316 hb316 h317
   have l317:h315.le h317:=Hp.le_set (Hp.le_refl h315) hb316 _
   have gi:=goes_is S315.good [wGroup]
   have io:=@is_one u wGroup (by decide)
   refine reader_is_ok (D315.le l317) (slb_one h315 b316 wGroup) (by decide) (by have:=S315.big;omega) fun h319 D319 M319=>⟨_,rfl,_,rd_neBs (b:=[]),?_⟩
   have D319:RdAt h2 h319 b6 (u.is [wGroup]).2:=D319
   have M319':=(M315.trans (Mut.of_le l317)).trans M319
   intro J329
   have h329:∀(by_:List Nd) (ab:Option Addr) (cb:Nat) (v:RS) (h354:Hp),optP wGroup (fun s=>o (s.must wBy)) u=(by_,v)→RdAt h2 h354 b6 v→SOk (W.length+1) v→NdAt hE h354 aw wh.length wh→NdAt hE h354 ab by_.length by_→NdsOK by_→Mut (At b6) hE (At b6) h354→J329 ab by_.length cb h354:=by
    intro by_ ab cb v h354 hv D354 S354 Nw N354 Kb M354
    rw [hv] at hK
    simp only at hK
    unfold endQ at hK
    simp only at hK
    have Ga:=goes_must S354.good wWindow
    refine reader_must_ok D354 (by have:=S354.big;omega) fun h356 D356 M356=>⟨rfl,?_⟩
    have D356:RdAt h2 h356 b6 (v.must wWindow):=D356
    have Sa:=S354.goes Ga
    generalize v.must wWindow=v1 at *
    have Gb:=goes_number Sa.good 1000
    refine reader_number_ok D356 (EE.mut (M354.trans M356)) (by have:=Sa.big;omega) (by decide) (by decide) fun h358 D358 M358=>⟨_,rfl,?_⟩
    have Sb:=Sa.goes Gb
    generalize v1.number 1000=Z at *
    obtain⟨z,v2⟩:=Z
    simp -zeta only at hK D358 Sb ⊢
    have Gc:=goes_optN Sb.good wSlide z
    refine reader_optional_ok (w:=wSlide) D358 (EE.mut ((M354.trans M356).trans M358)) Sb (by decide) fun h361 D361 M361=>⟨_,rfl,?_⟩
    have Sc:=Sb.goes Gc
    generalize optN wSlide z v2=Z at *
    obtain⟨sl,v3⟩:=Z
    simp -zeta only at hK D361 Sc ⊢
    have Gd:=goes_optN Sc.good wDelay 0
    refine reader_optional_ok (w:=wDelay) D361 (EE.mut (((M354.trans M356).trans M358).trans M361)) Sc (by decide) fun h364 D364 M364=>⟨_,rfl,?_⟩
    have Sd:=Sc.goes Gd
    generalize optN wDelay 0 v3=Z at *
    obtain⟨d,v4⟩:=Z
    simp -zeta only at hK D364 Sd ⊢
    have Ge:=goes_optN Sd.good wLate 0
    refine reader_optional_ok (w:=wLate) D364 (EE.mut ((((M354.trans M356).trans M358).trans M361).trans M364)) Sd (by decide) fun h367 D367 M367=>⟨_,rfl,?_⟩
    have Se:=Sd.goes Ge
    generalize optN wLate 0 v4=Z at *
    obtain⟨lt,v5⟩:=Z
    simp -zeta only at hK D367 Se ⊢
    have M367':=((((M354.trans M356).trans M358).trans M361).trans M364).trans M367
    have M36:=((((M356).trans M358).trans M361).trans M364).trans M367
    obtain⟨qa,qc,hq⟩:=D367.c0
    refine⟨_,D367.c2,_,_,_,fun _=>hq,?_⟩
    intro J374
    have h374:∀(h375:Hp) (y:RS),y.f=(if v5.f=0∧v5.ws≠[] then v5.fail 4 else v5).f→RdAt h2 h375 b6 y→Mut (At b6) h367 (At b6) h375→J374 h375:=by
     intro h375 y hy D375 M375
     rw [←hy] at hK
     have M375':=M367'.trans M375
     have BE2:AggB (At b6) h2 h375 a c L:=BE.keep hG2 M375'.keep
     have Nw2:=Nw.mut hgE (M36.trans M375)
     have N2:=N354.mut hgE (M36.trans M375)
     have QE:QAt h375 ⟨L,wh,by_,z,sl,d,lt⟩ a L.length aw wh.length ab by_.length:=⟨BE2.tab,Nw2.s,N2.s⟩
     refine⟨_,D375.c2,?_⟩
     intro J383
     have h383:∀(h384:Hp) (f:Int),h384.cell b6 (0+2)=some (ifv (errV f))→h.le h384→(f≠0→∀ h',h.le h'→R (vtup [qV none 0 0 none 0 0 none 0 0 noQ,ifv (errV f)]) h')→(f=0→R (vtup [qV a L.length c aw wh.length cw ab by_.length cb ⟨L,wh,by_,z,sl,d,lt⟩,ifv none]) h384)→J383 h384:=by
      intro h384 f hc lh hb hg
      refine⟨_,hc,fun e=>⟨_,hc,hc,?_⟩,fun e=>?_⟩
      ·rw [errV_some] at e
       exact hb (by simpa using e) h384 lh
      ·rw [errV_some] at e
       exact hg (by simpa using e)
     clear_value J383
     refine⟨fun e=>?_,fun e=>?_⟩
     ·rw [errV_none] at e
      have e:y.f=0:=of_decide_eq_true e
      rw [e,if_neg (fun h=>h rfl)] at hK
      have hbig:QBig ⟨L,wh,by_,z,sl,d,lt⟩:=⟨Nat.le_trans Kw.1 (by decide),Nat.le_trans Kb.1 (by decide),fun x hx=>Nat.le_trans (hAll x hx).1 (by decide),by show L.length≤1000000;omega⟩
      refine query_Check_ok (q:=⟨L,wh,by_,z,sl,d,lt⟩) (c1:=c) (c2:=cw) (c3:=cb) QE hbig fun h378 l378=>⟨errV (qryF ⟨L,wh,by_,z,sl,d,lt⟩),rfl,?_⟩
      refine(D375.le l378).put2 fun h380 D380 M380=>?_
      have lh:h.le h380:=Hp.le_trans l02 D380.l
      refine h383 h380 _ D380.c2 lh (fun hf h' l'=>?_) fun hf=>?_
      ·rw [if_pos hf] at hK
       exact hK none 0 0 none 0 0 none 0 0 h' l' (noQ_at h')
      ·rw [if_neg (fun h=>h hf)] at hK
       have M2:=(Mut.of_le l378).trans M380
       exact hK _ _ c _ _ cw _ _ cb h380 lh ⟨(BE2.keep hG2 M2.keep).tab,(Nw2.mut hgE M2).s,(N2.mut hgE M2).s⟩
     ·rw [errV_none] at e
      have e:y.f≠0:=of_decide_eq_false e
      rw [if_pos e] at hK
      refine h383 h375 y.f D375.c2 (Hp.le_trans l02 D375.l) (fun hf h' l'=>?_) fun hf=>absurd hf e
      exact hK none 0 0 none 0 0 none 0 0 h' l' (noQ_at h')
    clear_value J374
    have hcond:(bif Option.isNone (errV v5.f) then decide (((v5.ws.length:Nat):Int) > 0) else false)=decide (v5.f=0∧v5.ws≠[]):=by
     rw [errV_none,cand]
     refine decide_eq_decide.2 ?_
     rw [ne_eq,nil_len]
     constructor
     ·rintro⟨h1,h2⟩;exact⟨h1,by omega⟩
     ·rintro⟨h1,h2⟩;exact⟨h1,by omega⟩
    rw [hcond]
    refine⟨fun e=>?_,fun e=>?_⟩
    ·have e:=of_decide_eq_true e
     refine(D367.put2 (f:=4) fun h371 D371 M371=>h374 h371 _ ?_ D371 M371)
     rw [if_pos e]
     unfold RS.fail
     rw [if_pos e.1]
    ·have e:=of_decide_eq_false e
     exact h374 h367 v5 (by rw [if_neg e]) D367 (Mut.of_le (Hp.le_refl _))
   clear_value J329
   have Nw:=(N315.mut hgE ((Mut.of_le l317).trans M319))
   refine⟨fun e=>?_,fun e=>?_⟩
   ·have e:(u.is [wGroup]).1≠[]:=by simpa using e
    have hop:optP wGroup (fun s=>o (s.must wBy)) u=o ((u.is [wGroup]).2.must wBy):=by unfold optP;rw [if_neg e]
    rw [hop] at h329
    have Su:=S315.goes gi
    have Gy:=goes_must Su.good wBy
    refine reader_must_ok D319 (by have:=Su.big;omega) fun h323 D323 M323=>⟨rfl,?_⟩
    have D323:RdAt h2 h323 b6 ((u.is [wGroup]).2.must wBy):=D323
    have S323:=Su.goes Gy
    have k2:=kp _ S323.good (Nat.le_of_lt S323.len)
    have M323':=M319'.trans M323
    refine F D323 (EE.mut M323') S323 fun a c h325 D325 N325 M325=>⟨_,_,_,rfl,?_⟩
    exact h329 _ _ _ _ h325 rfl D325 (S323.goes k2.goes) ((Nw.mut hgE M323).mut hgE M325) (N325.base (M323'.up D323.al)) k2.nds (M323'.trans M325)
   ·have e:(u.is [wGroup]).1=[]:=by simpa using e
    have hop:optP wGroup (fun s=>o (s.must wBy)) u=([],u):=by unfold optP;rw [if_pos e]
    rw [io e] at D319
    exact h329 [] none 0 u h319 hop D319 S315 Nw (nd_nil _ _) nds_nil M319'
  clear_value J275
  refine⟨fun e=>?_,fun e=>?_⟩
  ·have e:(t2.is [wWhere]).1≠[]:=by simpa using e
   have hop:optP wWhere o t2=o (t2.is [wWhere]).2:=by unfold optP;rw [if_neg e]
   rw [hop] at h275
   have Su:=S263.goes gi
   have k2:=kp _ Su.good (Nat.le_of_lt Su.len)
   refine F D267 (EE.mut M267') Su fun a c h271 D271 N271 M271=>⟨_,_,_,rfl,?_⟩
   exact h275 _ _ _ _ h271 rfl D271 (Su.goes k2.goes) (N271.base (M267'.up D267.al)) k2.nds (M267'.trans M271)
  ·have e:(t2.is [wWhere]).1=[]:=by simpa using e
   have hop:optP wWhere o t2=([],t2):=by unfold optP;rw [if_pos e]
   rw [io e] at D267
   exact h275 [] none 0 t2 h267 hop D267 S263 (nd_nil _ _) nds_nil M267'
 clear_value J48
 -- what is gathered, one behind the other
 refine⟨fun vs' hh=>∃(k:Nat) (L:List Ag) (t:RS) (a:Option Addr) (c:Nat),vs'=[vsl a L.length c,vsl none 0 0,vsl none 0 0,vi 0,vi 0,vi 0,vi 0]∧AggB (At b6) h2 hh a c L∧RdAt h2 hh b6 t∧SOk (W.length+1) t∧t.ws.length < k∧aggsP o (s2.ws.length+1) [(k1,l1)] s2=aggsP o k L t∧L.length+t.ws.length≤100,fun _ hh=>wordsN hh b6,⟨_,[(k1,l1)],s2,a18,c18,rfl,B17,D17,S11,Nat.lt_succ_self _,rfl,?_⟩,?_⟩
 ·have:=G2.1.len
  show 1+s2.ws.length≤100
  omega
 rintro vs' hh ⟨k,L,t,a,c,rfl,B,D,S,hk,hrow,hL⟩
 obtain⟨k,rfl⟩:∃ j,k=j+1:=⟨k - 1,by omega⟩
 have hst:aggsP o (k+1) L t=if (t.is [wComma]).1=[] then(L,t) else aggsP o k (L++[(aggP o (t.is [wComma]).2).1]) (aggP o (t.is [wComma]).2).2:=rfl
 rw [hst] at hrow
 clear hst
 refine⟨_,_,_,_,_,_,_,_,_,_,_,_,_,rfl,?_⟩
 intro b31 hb31 h32
 have l32:hh.le h32:=Hp.le_set (Hp.le_refl hh) hb31 _
 have gi:=goes_is S.good [wComma]
 have io:=@is_one t wComma (by decide)
 have tk:=@taken t [wComma]
 have hG2:∀ b,At b6 b→h2 b=none:=fun b e=>by rw [show b=b6 from e];exact hb6
 have hwn:=D.wn
 refine reader_is_ok (D.le l32) (slb_one hh b31 wComma) (by decide) (by have:=S.big;omega) fun h34 D34 M34=>⟨_,rfl,_,rd_neBs (b:=[]),fun e=>?_,fun e=>?_⟩
 ·have e:(t.is [wComma]).1≠[]:=by simpa using e
  rw [if_neg e] at hrow
  have tk:=tk e
  have D34:RdAt h2 h34 b6 (t.is [wComma]).2:=D34
  have B34:=(B.grow l32).keep hG2 M34.keep
  have St:=S.goes gi
  have Ga:=goes_agg kp St.good (Nat.le_of_lt St.len)
  have E34:EnvQ h2 h34 b6:=⟨E7.t,D34.l,hb6⟩
  refine reader_agg_ok F kp D34 E34 St fun a42 c42 h40 D40 N40 M40=>⟨_,_,_,_,rfl,?_⟩
  generalize aggP o (t.is [wComma]).2=A at *
  obtain⟨⟨k2,l2⟩,t2⟩:=A
  simp -zeta only at hrow D40 N40 Ga ⊢
  have B40:=B34.keep hG2 M40.keep
  intro b43 hb43 h44
  have hlen:=Ga.1.len
  refine agg_app (hB:=h34) (k:=k2) B40 D40 D34.al (fun b e=>B34.al e) N40 (by omega) hb43 fun a47 c47 h46 B46 D46=>⟨_,_,_,rfl,⟨k,L++[(k2,l2)],t2,a47,c47,by simp,B46,D46,St.goes Ga.1,by omega,hrow,by simp;omega⟩,?_⟩
  have h46n:=D46.wn
  show wordsN h46 b6 < wordsN hh b6
  omega
 ·have e:(t.is [wComma]).1=[]:=by simpa using e
  rw [if_pos e] at hrow
  rw [io e] at D34
  exact hRest L t a c h34 ((B.grow l32).keep hG2 M34.keep) D34 S hrow (by omega)
end Go.Proofs.YtiflgceoamkmnaaGreatDoor
namespace Go.Proofs.YtiflgceoamkmnaaGreatDoor
open Go Go.Vc
def VC_top_works  (h:Hp)(R:Value→Hp→Prop):Prop:=
 (CallOK Tryz.prog 40 [(vs ⟨#[115,101,108,101,99,116,32,99,111,117,110,116,40,42,41,32,102,114,111,109,32,101,118,101,110,116,115,32,119,105,110,100,111,119,32,49,48]⟩)] h fun v1 h2=>∃ a3 n3 c3 a4 n4 c4 a5 n5 c5 x6 x7 x8 x9 e10,v1=(vtup [vag [vsl a3 n3 c3,vsl a4 n4 c4,vsl a5 n5 c5,vi x6,vi x7,vi x8,vi x9],ifv e10])∧(((Option.isSome e10)=true→R (vb false) h2)∧((Option.isSome e10)=false→(CallOK Tryz.prog 13 [vag [vsl a3 n3 c3,vsl a4 n4 c4,vsl a5 n5 c5,vi x6,vi x7,vi x8,vi x9],vi 1] h2 fun v12 h13=>∃ q14 e15,v12=(vtup [vp q14,ifv e15])∧(∃ p16,((Option.isSome e15)=false→Rd Tryz.prog ((eqGuard .eql 31 (.tmp 18) (.const (vp none)) (vp q14) (vp none) >>= fun _=>binOp .eql 31 (vp q14) (vp none))) h13 (vb p16))∧(((bif (Option.isSome e15) then true else p16)=true→R (vb false) h13)∧((bif (Option.isSome e15) then true else p16)=false→(CallOK Tryz.prog 17 [vp q14,vi 0,vag [vi 3,vi 0,vi 0,vi 0,vi 0,vi 0,vi 0]] h13 fun v18 h19=>v18=(vtup [])∧(CallOK Tryz.prog 17 [vp q14,vi 0,vag [vi 12,vi 0,vi 0,vi 0,vi 0,vi 0,vi 0]] h19 fun v20 h21=>v20=(vtup [])∧(∃ b22 o23,(q14=some ⟨b22,o23,none⟩)∧(∃ a24 n24 c24,(Hp.cell h21 b22 (o23+12)=some (vsl a24 n24 c24))∧(∃ b25 o26,((decide ((n24:Int)=1))=true→q14=some ⟨b25,o26,none⟩)∧(∃ a27 n27 c27,((decide ((n24:Int)=1))=true→Hp.cell h21 b25 (o26+12)=some (vsl a27 n27 c27))∧(∃ b28 o29,((decide ((n24:Int)=1))=true→(a27=some ⟨b28,o29,none⟩∧(0:Int)≤0∧0 < (n27:Int)))∧(∃ a30 n30 c30,((decide ((n24:Int)=1))=true→Hp.cell h21 b28 (((o29+(0:Int).toNat*5)+1)+3)=some (vsl a30 n30 c30))∧(∃ b31 o32,((decide ((n24:Int)=1))=true→(a30=some ⟨b31,o32,none⟩∧(0:Int)≤0∧0 < (n30:Int)))∧(∃ x33,((decide ((n24:Int)=1))=true→Hp.cell h21 b31 ((o32+(0:Int).toNat*2)+1)=some (vi x33))∧R (vb (bif (decide ((n24:Int)=1)) then(decide (x33=1)) else false)) h21)))))))))))))))))
theorem ok_top_works {h R}(H:VC_top_works  h R):CallOK Tryz.prog 20 [] h R:=
 call_of (cfg:=⟨[],[],[]⟩) noNG mixed Tryz.func20 [] (by kernel_rfl) rfl (by kernel_rfl) H
def VC_top_few (u0:Option Addr)(u1 u2:Nat)(u3:Option Addr)(u4 u5:Nat)(h:Hp)(R:Value→Hp→Prop):Prop:=
 (∃(J1:SV→Hp→Prop),((decide ((u1:Int) > 0))=true→(CallOK Tryz.prog 33 [vsl u0 u1 u2] h fun v2 h3=>∃ p4,v2=(vb p4)∧J1 (.t (.one (.v (vb p4)))) h3))∧(¬((decide ((u1:Int) > 0))=true)→J1 (.t (.one (.v (vb false)))) h)∧∀ h5 p6,J1 (.t (.one (.v (vb p6)))) h5→R (vb (bif (bif (decide ((u1:Int) > 0)) then p6 else false) then(decide ((u4:Int)≤200)) else false)) h5)
theorem ok_top_few {u0 u1 u2 u3 u4 u5 h R}(H:VC_top_few u0 u1 u2 u3 u4 u5 h R):CallOK Tryz.prog 22 [vsl u0 u1 u2,vsl u3 u4 u5] h R:=
 call_of (cfg:=⟨[],[],[]⟩) noNG mixed Tryz.func22 [.one (.v (vsl u0 u1 u2)),.one (.v (vsl u3 u4 u5))] (by kernel_rfl) rfl (by kernel_rfl) H
def VC_top_run (u0:Option Addr)(u1 u2:Nat)(u3:Option Addr)(u4 u5:Nat)(u6:Option Addr)(u7 u8:Nat)(u9:Int)(u10:Int)(u11:Int)(u12:Int)(u13:Option Addr)(u14 u15:Nat)(u16:Option Addr)(u17 u18:Nat)(u19:Value)(h:Hp)(R:Value→Hp→Prop):Prop:=
 (CallOK Tryz.prog 13 [vag [vsl u0 u1 u2,vsl u3 u4 u5,vsl u6 u7 u8,vi u9,vi u10,vi u11,vi u12],(vi (u14:Int))] h fun v1 h2=>∃ q3 e4,v1=(vtup [vp q3,ifv e4])∧(((Option.isSome e4)=true→R (vtup [vp none,vb false]) h2)∧((Option.isSome e4)=false→(∃(I7:List Value→Hp→Prop) (m8:List Value→Hp→Nat),I7 [vi 0] h2∧∀ vs9 h10,I7 vs9 h10→∃ x11,vs9=[vi x11]∧(((decide (x11 < (u17:Int)))=true→(let J53:Hp→Prop:=fun h54=>(∃ x55,(IsW x55 (x11+1))∧(I7 [vi x55] h54∧m8 [vi x55] h54 < m8 vs9 h10));(∃ b14 o15,(u16=some ⟨b14,o15,none⟩∧(0:Int)≤x11∧x11 < (u17:Int))∧(∃ x16,(Hp.cell h10 b14 (o15+x11.toNat*1)=some (vi x16))∧(∃ x17,(Rd Tryz.prog (binOp .and 3 (vi x16) (vi 1023)) h10 (vi x17))∧(((u14:Int)≠0)∧(∃ b18 o19,(q3=some ⟨b18,o19,none⟩)∧(∃ a20 n20 c20,(Hp.cell h10 b18 (o19+8)=some (vsl a20 n20 c20))∧(∃ b21 o22,(a20=some ⟨b21,o22,none⟩∧(0:Int)≤(Int.tmod x17 (u14:Int))∧(Int.tmod x17 (u14:Int)) < (n20:Int))∧(∃ x23,(Hp.cell h10 b21 (o22+(Int.tmod x17 (u14:Int)).toNat*1)=some (vi x23))∧(∃ b24 o25,(u13=some ⟨b24,o25,none⟩∧(0:Int)≤(Int.tmod x17 (u14:Int))∧(Int.tmod x17 (u14:Int)) < (u14:Int))∧(∃ a26 n26 c26,(Hp.cell h10 b24 (o25+(Int.tmod x17 (u14:Int)).toNat*1)=some (vsl a26 n26 c26))∧(((decide (x23=(n26:Int)))=true→(J53 h10))∧((decide (x23=(n26:Int)))=false→(∃ b29 o30,(u13=some ⟨b29,o30,none⟩∧(0:Int)≤(Int.tmod x17 (u14:Int))∧(Int.tmod x17 (u14:Int)) < (u14:Int))∧(∃ a31 n31 c31,(Hp.cell h10 b29 (o30+(Int.tmod x17 (u14:Int)).toNat*1)=some (vsl a31 n31 c31))∧(∃ b32 o33,(q3=some ⟨b32,o33,none⟩)∧(∃ a34 n34 c34,(Hp.cell h10 b32 (o33+8)=some (vsl a34 n34 c34))∧(∃ b35 o36,(a34=some ⟨b35,o36,none⟩∧(0:Int)≤(Int.tmod x17 (u14:Int))∧(Int.tmod x17 (u14:Int)) < (n34:Int))∧(∃ x37,(Hp.cell h10 b35 (o36+(Int.tmod x17 (u14:Int)).toNat*1)=some (vi x37))∧(∃ b38 o39,(a31=some ⟨b38,o39,none⟩∧(0:Int)≤x37∧x37 < (n31:Int))∧(∃ x40 x41 x42 x43 x44 x45 x46,(Hp.row h10 b38 (o39+x37.toNat*7) 7=some [vi x40,vi x41,vi x42,vi x43,vi x44,vi x45,vi x46])∧(CallOK Tryz.prog 17 [vp q3,(vi (Int.tmod x17 (u14:Int))),vag [vi x40,vi x41,vi x42,vi x43,vi x44,vi x45,vi x46]] h10 fun v47 h48=>v47=(vtup [])∧(InvOK Tryz.prog u19 [vp q3] h48 fun v49 h50=>∃ p51,v49=(vb p51)∧(((!p51)=true→R (vtup [vp none,vb false]) h50)∧((!p51)=false→(J53 h50)))))))))))))))))))))))))))∧((decide (x11 < (u17:Int)))=false→R (vtup [vp q3,vb true]) h10))))))
theorem ok_top_run {u0 u1 u2 u3 u4 u5 u6 u7 u8 u9 u10 u11 u12 u13 u14 u15 u16 u17 u18 u19 h R}(H:VC_top_run u0 u1 u2 u3 u4 u5 u6 u7 u8 u9 u10 u11 u12 u13 u14 u15 u16 u17 u18 u19 h R):CallOK Tryz.prog 23 [vag [vsl u0 u1 u2,vsl u3 u4 u5,vsl u6 u7 u8,vi u9,vi u10,vi u11,vi u12],vsl u13 u14 u15,vsl u16 u17 u18,u19] h R:=
 call_of (cfg:=⟨[],[(5,([12],[.one (.int .i64)],[]))],[(8,[0,1,2,3,4,5,6,7,8,9,10,11,12]),(9,[0,1,2,3,4,5,6,7,8,9,10,11,12,13,14,15])]⟩) noNG mixed Tryz.func23 [.ag [.v (vsl u0 u1 u2),.v (vsl u3 u4 u5),.v (vsl u6 u7 u8),.v (vi u9),.v (vi u10),.v (vi u11),.v (vi u12)],.one (.v (vsl u13 u14 u15)),.one (.v (vsl u16 u17 u18)),.one (.v u19)] (by kernel_rfl) rfl (by kernel_rfl) H
def VC_top_TopLittle (u0:ByteArray)(u1:Option Addr)(u2 u3:Nat)(u4:Option Addr)(u5 u6:Nat)(h:Hp)(R:Value→Hp→Prop):Prop:=
 (CallOK Tryz.prog 20 [] h fun v1 h2=>∃ p3,v1=(vb p3)∧(((!p3)=true→R (vb false) h2)∧((!p3)=false→(CallOK Tryz.prog 21 [vs u0] h2 fun v5 h6=>∃ a7 n7 c7 a8 n8 c8 a9 n9 c9 x10 x11 x12 x13 p14,v5=(vtup [vag [vsl a7 n7 c7,vsl a8 n8 c8,vsl a9 n9 c9,vi x10,vi x11,vi x12,vi x13],vb p14])∧(∀ b15,h6 b15=none→let h16:= Hp.set h6 b15 (cellsO [vsl none 0 0,vsl none 0 0,vsl none 0 0,vi 0,vi 0,vi 0,vi 0] 28);(Hp.store h16 b15 0 [vsl a7 n7 c7,vsl a8 n8 c8,vsl a9 n9 c9,vi x10,vi x11,vi x12,vi x13] fun h17=>(∃(J18:SV→Hp→Prop),((!p14)=false→(CallOK Tryz.prog 22 [vsl u1 u2 u3,vsl u4 u5 u6] h17 fun v19 h20=>∃ p21,v19=(vb p21)∧J18 (.t (.one (.v (vb p21)))) h20))∧(¬((!p14)=false)→J18 (.t (.one (.v (vb false)))) h17)∧∀ h22 p23,J18 (.t (.one (.v (vb p23)))) h22→(((bif (!p14) then true else(!p23))=true→R (vb true) h22)∧((bif (!p14) then true else(!p23))=false→(∃ a25 n25 c25 a26 n26 c26 a27 n27 c27 x28 x29 x30 x31,(Hp.row h22 b15 0 7=some [vsl a25 n25 c25,vsl a26 n26 c26,vsl a27 n27 c27,vi x28,vi x29,vi x30,vi x31])∧(CallOK Tryz.prog 23 [vag [vsl a25 n25 c25,vsl a26 n26 c26,vsl a27 n27 c27,vi x28,vi x29,vi x30,vi x31],vsl u1 u2 u3,vsl u4 u5 u6,(Value.func (.func 30) #[] #[vhp b15 0])] h22 fun v32 h33=>∃ q34 p35,v32=(vtup [vp q34,vb p35])∧R (vb p35) h33)))))))))))
theorem ok_top_TopLittle {u0 u1 u2 u3 u4 u5 u6 h R}(H:VC_top_TopLittle u0 u1 u2 u3 u4 u5 u6 h R):CallOK Tryz.prog 7 [vs u0,vsl u1 u2 u3,vsl u4 u5 u6] h R:=
 call_of (cfg:=⟨[8],[],[]⟩) noNG mixed Tryz.func7 [.one (.v (vs u0)),.one (.v (vsl u1 u2 u3)),.one (.v (vsl u4 u5 u6))] (by kernel_rfl) rfl (by kernel_rfl) H
def VC_top_TopLittle_1 (u0 u1:Nat)(f_0b f_0o:Nat)(h:Hp)(R:Value→Hp→Prop):Prop:=
 (∃ a1 n1 c1,(Hp.row h u0 (u1+9) 1=some [vsl a1 n1 c1])∧(∃ x2,(Hp.cell h f_0b (f_0o+5)=some (vi x2))∧(CallOK Tryz.prog 27 [vag [vsl a1 n1 c1],vi x2] h fun v3 h4=>∃ x5 p6,v3=(vtup [vi x5,vb p6])∧(∃(I8:List Value→Hp→Prop) (m9:List Value→Hp→Nat),I8 [vi 0] h4∧∀ vs10 h11,I8 vs10 h11→∃ x12,vs10=[vi x12]∧(∃ a13 n13 c13,(Hp.cell h11 u0 (u1+10)=some (vsl a13 n13 c13))∧(((decide (x12 < (n13:Int)))=true→(∃ a16 n16 c16,(p6=true→Hp.cell h11 u0 (u1+10)=some (vsl a16 n16 c16))∧(∃ b17 o18,(p6=true→(a16=some ⟨b17,o18,none⟩∧(0:Int)≤x12∧x12 < (n16:Int)))∧(∃ x19,(p6=true→Hp.cell h11 b17 (o18+x12.toNat*5)=some (vi x19))∧(∃ x20,(p6=true→Hp.cell h11 f_0b (f_0o+3)=some (vi x20))∧(∃ x21,(p6=true→IsW x21 (x19+x20))∧(∃ x22,(p6=true→Hp.cell h11 f_0b (f_0o+6)=some (vi x22))∧(∃ x23,(p6=true→IsW x23 (x21+x22))∧(∃ a24 n24 c24,((bif p6 then(decide (x23≤x5)) else false)=false→Hp.cell h11 u0 (u1+10)=some (vsl a24 n24 c24))∧(∃ b25 o26,((bif p6 then(decide (x23≤x5)) else false)=false→(a24=some ⟨b25,o26,none⟩∧(0:Int)≤x12∧x12 < (n24:Int)))∧(∃ p27,((bif p6 then(decide (x23≤x5)) else false)=false→Hp.cell h11 b25 ((o26+x12.toNat*5)+4)=some (vb p27))∧(∃ a28 n28 c28,(((bif p6 then(decide (x23≤x5)) else false)=false∧p6=true)→Hp.cell h11 u0 (u1+10)=some (vsl a28 n28 c28))∧(∃ b29 o30,(((bif p6 then(decide (x23≤x5)) else false)=false∧p6=true)→(a28=some ⟨b29,o30,none⟩∧(0:Int)≤x12∧x12 < (n28:Int)))∧(∃ x31,(((bif p6 then(decide (x23≤x5)) else false)=false∧p6=true)→Hp.cell h11 b29 (o30+x12.toNat*5)=some (vi x31))∧(∃ x32,(((bif p6 then(decide (x23≤x5)) else false)=false∧p6=true)→Hp.cell h11 f_0b (f_0o+3)=some (vi x32))∧(∃ x33,(((bif p6 then(decide (x23≤x5)) else false)=false∧p6=true)→IsW x33 (x31+x32))∧(∃ p34,((bif p6 then(decide (x23≤x5)) else false)=false→Rd Tryz.prog ((eqGuard .neq 4 (.tmp 56) (.tmp 73) (vb p27) (vb (bif p6 then(decide (x33≤x5)) else false)) >>= fun _=>binOp .neq 4 (vb p27) (vb (bif p6 then(decide (x33≤x5)) else false)))) h11 (vb p34))∧(((bif (bif p6 then(decide (x23≤x5)) else false) then true else p34)=true→R (vb false) h11)∧((bif (bif p6 then(decide (x23≤x5)) else false) then true else p34)=false→(∃ x36,(IsW x36 (x12+1))∧(I8 [vi x36] h11∧m9 [vi x36] h11 < m9 vs10 h11)))))))))))))))))))))∧((decide (x12 < (n13:Int)))=false→R (vb true) h11)))))))
theorem ok_top_TopLittle_1 {u0 u1 f_0b f_0o h R}(H:VC_top_TopLittle_1 u0 u1 f_0b f_0o h R):CallOK Tryz.prog 30 [vhp u0 u1,vhp f_0b f_0o] h R:=
 call_of (cfg:=⟨[],[(3,([6],[.one (.int .i64)],[]))],[(1,[0,1,2,3,4,5,6,7,8,9,10,11]),(5,[0,1,2,3,4,5,6,7,8,9,10,11,12,13,14,15,16,17,18,19,20,21,22,23,24,25,26,27,28,29,30,31,32,33,34,35,36,37,38,39,40,41,42,43,44,45,46,47,48])]⟩) noNG mixed Tryz.func30 [.one (.hp u0 u1),.one (.hp f_0b f_0o)] (by kernel_rfl) rfl (by kernel_rfl) H
open Go.Txt
def pt (n:Nat)(t:Int):Nat:=(Int.tmod (t % 1024) (n:Int)).toNat
theorem pt_ok {n:Nat}(hn:1≤n)(t:Int):Int.tmod (t % 1024) (n:Int)=(pt n t:Int)∧pt n t < n:=by
 have h1:0≤t % 1024:=Int.emod_nonneg _ (by decide)
 unfold pt
 obtain⟨y,hy⟩:=Int.eq_ofNat_of_zero_le h1
 rw [hy,←Int.ofNat_tmod]
 exact⟨rfl,Nat.mod_lt _ hn⟩
def preO (ps:List (List EvL))(cs:List Nat):List (List EvL):=List.zipWith (fun l c=>l.take c) ps cs
def turnC (ps:List (List EvL))(cs:List Nat)(t:Int):List Nat:=
 if cs.getD (pt ps.length t) 0=(ps.getD (pt ps.length t) []).length then cs else cs.set (pt ps.length t) (cs.getD (pt ps.length t) 0+1)
structure RunS (q:Qy)(ps:List (List EvL))(cs:List Nat)(st:En):Prop where
 cl:cs.length=ps.length
 cb:∀ p,p < ps.length→cs.getD p 0≤(ps.getD p []).length
 rd:st.rd=cs
 en:EnI q (preO ps cs) st
theorem preO_len {ps:List (List EvL)}{cs:List Nat}(h:cs.length=ps.length):(preO ps cs).length=ps.length:=by
 unfold preO
 rw [List.length_zipWith];omega
theorem preO_at {ps:List (List EvL)}{cs:List Nat}(h:cs.length=ps.length){p:Nat}(hp:p < ps.length):(preO ps cs).getD p []=(ps.getD p []).take (cs.getD p 0):=by
 unfold preO
 have e1:ps.getD p []=ps[p]:=by rw [List.getD_eq_getElem?_getD,List.getElem?_eq_getElem hp];rfl
 have e2:cs.getD p 0=cs[p]'(by omega):=by rw [List.getD_eq_getElem?_getD,List.getElem?_eq_getElem (by omega)];rfl
 rw [e1,e2,List.getD_eq_getElem?_getD,List.getElem?_zipWith,List.getElem?_eq_getElem hp,List.getElem?_eq_getElem (by omega)]
 rfl
theorem preO_read {ps:List (List EvL)}{cs:List Nat}(h:cs.length=ps.length){p:Nat}(hp:p < ps.length){e:EvL}(he:(ps.getD p [])[cs.getD p 0]?=some e):preO ps (cs.set p (cs.getD p 0+1))=readP (preO ps cs) p e:=by
 obtain⟨hlt,ee⟩:=List.getElem?_eq_some_iff.1 he
 have e1:(ps.getD p []).take (cs.getD p 0+1)=(ps.getD p []).take (cs.getD p 0)++[e]:=by rw [List.take_succ_eq_append_getElem hlt,ee]
 unfold readP
 rw [preO_at h hp,←e1]
 unfold preO
 apply List.ext_getElem?
 intro i
 rw [List.getElem?_zipWith,List.getElem?_set,List.getElem?_set,List.length_zipWith,List.getElem?_zipWith]
 by_cases q:p=i
 ·subst q
  have e2:ps.getD p []=ps[p]:=by rw [List.getD_eq_getElem?_getD,List.getElem?_eq_getElem hp];rfl
  rw [if_pos rfl,if_pos rfl,if_pos (by omega),if_pos (by omega),List.getElem?_eq_getElem hp,e2]
 ·rw [if_neg q,if_neg q]
theorem RunS.step {q:Qy}{ps:List (List EvL)}{cs:List Nat}{st:En}(X:RunS q ps cs st)(B:QOk q){p:Nat}(hp:p < ps.length){e:EvL}(he:(ps.getD p [])[cs.getD p 0]?=some e) :
  RunS q ps (cs.set p (cs.getD p 0+1)) (stepE q p e st)∧∃ more,(stepE q p e st).rows=st.rows++more∧∀ w ∈ more,goneU q (farC q.delay st.far) w.2.1=false:=by
 obtain⟨hlt,ee⟩:=List.getElem?_eq_some_iff.1 he
 obtain⟨I,M⟩:=X.en.step B (p:=p) (by rw [preO_len X.cl];exact hp) e
 have hcp:p < cs.length:=by rw [X.cl];exact hp
 refine⟨⟨by rw [List.length_set];exact X.cl,fun p' hp'=>?_,?_,by rw [preO_read X.cl hp he];exact I⟩,M⟩
 ·by_cases q1:p=p'
  ·subst q1
   rw [List.getD_eq_getElem?_getD,List.getElem?_set_self hcp]
   exact hlt
  ·rw [List.getD_eq_getElem?_getD,List.getElem?_set_ne q1,←List.getD_eq_getElem?_getD]
   exact X.cb p' hp'
 ·have hse:∀ s:En,(endE q s).rd=s.rd:=fun s=>by unfold endE;split<;>rfl
  unfold stepE
  rw [hse]
  unfold seenE
  rw [(winsE_same).1,X.rd]
theorem RunS.new (q:Qy)(ps:List (List EvL)):RunS q ps (List.replicate ps.length 0) (newE ps.length):=by
 refine⟨List.length_replicate ..,fun p hp=>?_,rfl,?_⟩
 ·rw [List.getD_eq_getElem?_getD,List.getElem?_replicate,if_pos hp]
  exact Nat.zero_le _
 ·have:preO ps (List.replicate ps.length 0)=List.replicate ps.length []:=by
   unfold preO
   apply List.ext_getElem?
   intro i
   rw [List.getElem?_zipWith,List.getElem?_replicate,List.getElem?_replicate]
   by_cases h:i < ps.length
   ·rw [if_pos h,if_pos h,List.getElem?_eq_getElem h];rfl
   ·rw [if_neg h,if_neg h,List.getElem?_eq_none (by omega)]
  rw [this]
  exact EnI.new q ps.length
section
variable {h:Hp}{R':Value→Hp→Prop}
theorem top_few_ok {ps:List (List EvL)}{pa:Option Addr}{pn pc:Nat}{ta:Option Addr}{tn tc:Nat}(TP:TabC encE h pa pn ps)
  (hK:∀ p h',h.le h'→(p=true→1≤ps.length∧ps.length≤3∧tn≤200∧∀ x ∈ ps,x.length≤40∧∀ e ∈ x,EvOK e)→R' (vb p) h'):CallOK Tryz.prog 22 [vsl pa pn pc,vsl ta tn tc] h R':=by
 refine ok_top_few ?_
 unfold VC_top_few
 have hpn:pn=ps.length:=TP.r.choose_spec.2.1
 refine⟨fun x hh=>h.le hh∧∃ p:Bool,x=.t (.one (.v (vb p)))∧(p=true→ps.length≤3∧∀ x ∈ ps,x.length≤40∧∀ e ∈ x,EvOK e),fun _=>top_light_ok TP fun p h' l hp=>⟨_,rfl,l,p,rfl,hp⟩,fun _=>⟨Hp.le_refl h,false,rfl,fun q=>by cases q⟩,?_⟩
 rintro h5 p6 ⟨l5,p,e,hp⟩
 cases e
 refine hK _ h5 l5 fun q=>?_
 cases h1:decide ((((pn:Nat):Int):Int) > 0) with
 | false=>rw [h1] at q;cases q
 | true=>
  cases h2:p6 with
  | false=>rw [h1,h2] at q;cases q
  | true=>
   rw [h1,h2] at q
   have:=of_decide_eq_true h1
   have q3:=of_decide_eq_true (show decide ((((tn:Nat):Int):Int)≤200)=true from q)
   obtain⟨k1,k2⟩:=hp h2
   exact⟨by omega,k1,by omega,k2⟩
theorem top_runI_ok {I:En→Prop}{q:Qy}{a1:Option Addr}{n1 c1:Nat}{a2:Option Addr}{n2 c2:Nat}{a3:Option Addr}{n3 c3:Nat}{ps:List (List EvL)}{pa:Option Addr}{pc:Nat}{ts:List Int}{ta:Option Addr}{tn tc:Nat}{fv:Value}(Q:QAt h q a1 n1 a2 n2 a3 n3)(B:QOk q)(TP:TabC encE h pa ps.length ps)
  (h1:1≤ps.length) (h3:ps.length≤3) (hE:∀ x ∈ ps,x.length≤40∧∀ e ∈ x,EvOK e) (ST:SlI h ta tn ts) (ht:tn≤200)
  (I0:I (newE ps.length)) (hI:∀ st p e N,EnB q ps.length N st→I st→p < ps.length→EvOK e→I (stepE q p e st))
  (hf:∀ g hh st cs N,EngX q h hh g st→RunS q ps cs st→EnB q ps.length N st→N≤300000→InvOK Tryz.prog fv [vhp g 0] hh fun v h'=>v=vb true∧hh.le h')
  (hK:∀ g h' st N,EngX q h h' g st→RunS q ps (ts.foldl (turnC ps) (List.replicate ps.length 0)) st→EnB q ps.length N st→N≤300000→I st→R' (vtup [vhp g 0,vb true]) h') :
  CallOK Tryz.prog 23 [qV a1 n1 c1 a2 n2 c2 a3 n3 c3 q,vsl pa ps.length pc,vsl ta tn tc,fv] h R':=by
 refine ok_top_run ?_
 unfold VC_top_run
 have htl:=ST.1
 refine engine_New_ok Q B (fun hbad=>absurd ⟨by omega,by omega⟩ hbad) fun _ _ g h2 l2 X=>⟨some ⟨g,0,none⟩,none,rfl,fun e=>(by cases e),fun _=>?_⟩
 rw [Int.toNat_natCast] at X
 refine⟨fun vs hh=>∃(i:Nat) (st:En),vs=[vi i]∧i≤tn∧EngX q h hh g st∧RunS q ps ((ts.take i).foldl (turnC ps) (List.replicate ps.length 0)) st∧EnB q ps.length (1001*i) st∧I st,fun vs hh=>tn - (vint vs 0).toNat,⟨0,_,rfl,Nat.zero_le _,X,RunS.new q ps,newE_ok q _,I0⟩,?_⟩
 clear X l2
 rintro vs hh ⟨i,st,rfl,hi,X,RS,HB,HI⟩
 refine⟨i,rfl,fun e=>?_,fun e=>?_⟩
 ·have hlt:i < ts.length:=by have:=of_decide_eq_true e;omega
  have hx:ts[i]?=some ts[i]:=List.getElem?_eq_getElem hlt
  have tk:ts.take (i+1)=ts.take i++[ts[i]]:=List.take_succ_eq_append_getElem hlt
  have hgd:ts.getD i 0=ts[i]:=by rw [List.getD_eq_getElem?_getD,hx];rfl
  obtain⟨b,o,ea,hc⟩:=(ST.le X.le0).get (i:=i) (by omega)
  rw [hgd] at hc
  generalize ts[i]=t at *
  generalize hcs:(ts.take i).foldl (turnC ps) (List.replicate ps.length 0)=cs at RS
  obtain⟨ep,hp⟩:=pt_ok h1 t
  generalize hpt:pt ps.length t=p at ep hp
  have hcp:p < cs.length:=by rw [RS.cl];exact hp
  have hxp:ps[p]?=some (ps.getD p []):=by rw [List.getD_eq_getElem?_getD,List.getElem?_eq_getElem hp];rfl
  obtain⟨hE1,hE2⟩:=hE _ (List.mem_of_getElem? hxp)
  have hcb:=RS.cb p hp
  intro J53
  have hJ:∀ h' st',EngX q h h' g st'→RunS q ps (turnC ps cs t) st'→EnB q ps.length (1001*(i+1)) st'→I st'→J53 h':=by
   intro h' st' q1 q2 q3 q5
   refine⟨_,isW (by unfold InR;omega),⟨i+1,st',rfl,by omega,q1,?_,q3,q5⟩,by simp [vint];omega⟩
   rw [tk,List.foldl_append,hcs]
   exact q2
  clear_value J53
  obtain⟨b1,m1,d1,b2,m2,d2,b3,m3,d3,qf,ak,nk,ck,ar,cr,ac,cc,tb,tc',aw,cw,RP,k1,s1,s2,g1,_⟩:=X.seen
  obtain⟨bp,op,ap,cp,eap,hcp2,SP,_⟩:=(TP.le X.le0).cell hxp
  have hxr:(st.rd.map fun n:Nat=>(n:Int)).getD p 0=((cs.getD p 0:Nat):Int):=by
   rw [RS.rd,List.getD_eq_getElem?_getD,List.getD_eq_getElem?_getD,List.getElem?_map,List.getElem?_eq_getElem hcp];rfl
  have hrl:st.rd.length=ps.length:=by rw [RS.rd];exact RS.cl
  obtain⟨br,or_,ear,hcr⟩:=s1.get (i:=p) (by omega)
  rw [hxr] at hcr
  have hbr:ar=some ⟨br,or_,none⟩∧(0:Int)≤(p:Int)∧(p:Int) < ((st.rd.length:Nat):Int):=⟨ear,by omega,by omega⟩
  have hbp:pa=some ⟨bp,op,none⟩∧(0:Int)≤(p:Int)∧(p:Int) < ((ps.length:Nat):Int):=⟨eap,by omega,by omega⟩
  refine⟨b,o,⟨ea,by omega,by omega⟩,t,by rw [Int.toNat_natCast];exact hc,_,rd_and1023,by omega,g,0,rfl,_,_,_,cell_cells k1 rfl,?_⟩
  rw [ep]
  refine⟨br,or_,hbr,_,by rw [Int.toNat_natCast];exact hcr,bp,op,hbp,_,_,_,by rw [Int.toNat_natCast];exact hcp2,fun e1=>?_,fun e1=>?_⟩
  ·have:cs.getD p 0=(ps.getD p []).length:=by have:=of_decide_eq_true e1;omega
   refine hJ hh st X ?_ (HB.mono (by omega)) HI
   unfold turnC
   rw [hpt,if_pos this]
   exact RS
  ·have hlt2:cs.getD p 0 < (ps.getD p []).length:=by have:=of_decide_eq_false e1;omega
   have hev:(ps.getD p [])[cs.getD p 0]?=some (ps.getD p [])[cs.getD p 0]:=List.getElem?_eq_getElem hlt2
   have hEe:=hE2 _ (List.getElem_mem hlt2)
   have htc:turnC ps cs t=cs.set p (cs.getD p 0+1):=by
    unfold turnC
    rw [hpt,if_neg (by omega)]
   rw [htc] at hJ
   generalize (ps.getD p [])[cs.getD p 0]=ev at hev hEe
   obtain⟨b4,o4,e4,hr4⟩:=SP.get (sz:=7) (fun _=>rfl) (by decide) hev
   refine⟨bp,op,hbp,_,_,_,by rw [Int.toNat_natCast];exact hcp2,g,0,rfl,_,_,_,cell_cells k1 rfl,br,or_,hbr,_,by rw [Int.toNat_natCast];exact hcr,b4,o4,⟨e4,by omega,by omega⟩,_,_,_,_,_,_,_,by rw [Int.toNat_natCast];exact hr4,?_⟩
   obtain⟨RS2,_⟩:=RS.step B hp hev
   have HB2:=stepE_ok B HB hp hEe
   refine engine_Step_ok X B hEe HB (by omega) hp (by omega) fun h48 l48 X2=>⟨rfl,?_⟩
   have F:=hf g h48 _ _ _ X2 RS2 HB2 (by omega)
   obtain⟨f,pre,post,q1,q2,q3⟩:=F
   refine⟨f,pre,post,q1,q2,CallOK.mono q3 ?_⟩
   rintro v h50 ⟨rfl,l50⟩
   exact⟨_,rfl,fun e=>(by cases e),fun _=>hJ h50 _ (X2.le l50) RS2 (HB2.mono (by omega)) (hI _ _ _ _ HB HI hp hEe)⟩
 ·have hge:i=tn:=by have:=of_decide_eq_false e;omega
  rw [hge,htl,List.take_length] at RS
  exact hK g hh st _ X RS HB (by omega) HI
theorem top_run_ok {q:Qy}{a1:Option Addr}{n1 c1:Nat}{a2:Option Addr}{n2 c2:Nat}{a3:Option Addr}{n3 c3:Nat}{ps:List (List EvL)}{pa:Option Addr}{pc:Nat}{ts:List Int}{ta:Option Addr}{tn tc:Nat}{fv:Value}(Q:QAt h q a1 n1 a2 n2 a3 n3)(B:QOk q)(TP:TabC encE h pa ps.length ps)
  (h1:1≤ps.length) (h3:ps.length≤3) (hE:∀ x ∈ ps,x.length≤40∧∀ e ∈ x,EvOK e) (ST:SlI h ta tn ts) (ht:tn≤200)
  (hf:∀ g hh st cs N,EngX q h hh g st→RunS q ps cs st→EnB q ps.length N st→N≤300000→InvOK Tryz.prog fv [vhp g 0] hh fun v h'=>v=vb true∧hh.le h')
  (hK:∀ g h' st N,EngX q h h' g st→RunS q ps (ts.foldl (turnC ps) (List.replicate ps.length 0)) st→EnB q ps.length N st→N≤300000→R' (vtup [vhp g 0,vb true]) h') :
  CallOK Tryz.prog 23 [qV a1 n1 c1 a2 n2 c2 a3 n3 c3 q,vsl pa ps.length pc,vsl ta tn tc,fv] h R':=
 top_runI_ok (I:=fun _=>True) Q B TP h1 h3 hE ST ht trivial (fun _ _ _ _ _ _ _ _=>trivial) hf fun g h' st N a b c d _=>hK g h' st N a b c d
end
def PosL (l:List Nd):Prop:=∀ n ∈ l,0≤n.v.2
def PP (P:Ps):Prop:=∀ s,PosL (P s).1
theorem pos_one {n:Nd}(h:0≤n.v.2):PosL [n]:=fun m hm=>by rw [List.mem_singleton.1 hm];exact h
theorem pos_join {op:Int}{x y:List Nd}(hx:PosL x)(hy:PosL y):PosL (joinL op x y):=by
 intro n hn
 unfold joinL at hn
 rcases List.mem_append.1 hn with h|h
 ·rcases List.mem_append.1 h with h|h
  ·exact hx n h
  ·obtain⟨m,hm,rfl⟩:=List.mem_map.1 h
   exact hy m hm
 ·rw [List.mem_singleton.1 h]
  exact Int.le_refl _
theorem pos_joinP {op:Int}{x y:List Nd}{s:RS}(hx:PosL x)(hy:PosL y):PosL (joinP op x y s).1:=by
 unfold joinP
 split
 ·exact pos_one (by decide)
 ·exact pos_join hx hy
theorem pos_nil:PosL []:=fun n h=>by cases h
theorem number_pos (s:RS)(m:Int):0≤(s.number m).1:=by
 unfold RS.number
 split
 ·exact Int.le_refl _
 ·split
  ·exact Int.le_refl _
  ·rename_i h;simp only;omega
theorem pp_down {P:Ps}(h:PP P):PP (downP P):=by
 intro s
 unfold downP
 exact h _
theorem pp_atom {o:Ps}(h:PP o):PP (atomP o):=by
 intro s
 unfold atomP
 simp only
 split
 ·exact pp_down h _
 ·split
  ·refine pos_one ?_
   simp only
   unfold constV
   split
   ·decide
   ·simp only
    split<;>decide
  ·split
   ·exact pos_one (number_pos _ _)
   ·exact pos_one (Int.le_refl _)
theorem pp_unary {u a:Ps}(hu:PP u)(ha:PP a):PP (unaryP u a):=by
 intro s
 unfold unaryP
 split
 ·exact ha s
 ·exact pos_joinP (pp_down hu _) pos_nil
theorem pp_not {u a:Ps}(hu:PP u)(ha:PP a):PP (notP u a):=by
 intro s
 unfold notP
 split
 ·exact ha s
 ·exact pos_joinP (pp_down hu _) pos_nil
theorem pp_rowL {P:Ps}(h:PP P){ops:List (Wd × Int)}:∀(k:Nat) (x:List Nd) (s:RS),PosL x→PosL (rowL P ops k x s).1
 | 0,x,s,hx=>hx
 | k+1,x,s,hx=>by
  rw [rowL]
  split
  ·exact hx
  ·simp only
   split
   ·exact hx
   ·exact pp_rowL h k _ _ (pos_joinP hx (h _))
theorem pp_row {P:Ps}(h:PP P){ops:List (Wd × Int)}:PP (rowP P ops):=fun s=>pp_rowL h _ _ _ (h s)
theorem pp_cmp {P:Ps}(h:PP P):PP (cmpP P):=by
 intro s
 unfold cmpP
 simp only
 split
 ·exact pos_joinP (h _) (h _)
 ·split
  ·exact pos_joinP (h _) (h _)
  ·split
   ·exact pos_joinP (pos_joinP (h _) (h _)) pos_nil
   ·split
    ·exact pos_joinP (pos_joinP (h _) (h _)) pos_nil
    ·split
     ·exact pos_joinP (h _) (h _)
     ·split
      ·exact pos_joinP (pos_joinP (h _) (h _)) pos_nil
      ·split
       ·split
        ·exact pos_joinP (pos_joinP (h _) pos_nil) pos_nil
        ·exact pos_joinP (h _) pos_nil
       ·exact h _
theorem pp_S {t:Three}(ho:PP t.o)(hn:PP t.n)(hu:PP t.u):PP (orS t)∧PP (notS t)∧PP (unS t):=by
 have h1:PP (unS t):=pp_unary hu (pp_atom ho)
 have h3:PP (sumS t):=pp_row (pp_row h1)
 have h5:PP (notS t):=pp_not hn (pp_cmp h3)
 exact⟨pp_row (pp_row h5),h5,h1⟩
theorem pp_noP:PP noP:=fun s=>pos_one (by decide)
theorem pp_all (n:Nat):PP (allP n).o∧PP (allP n).n∧PP (allP n).u:=by
 induction n with
 | zero=>exact⟨pp_noP,pp_noP,pp_noP⟩
 | succ n ih=>
  rw [allP_succ]
  exact pp_S ih.1 ih.2.1 ih.2.2
structure PosQ (q:Qy):Prop where
 g:∀ a ∈ q.aggs,PosL a.2
 w:PosL q.wh
 b:PosL q.by_
theorem pos_ite {c:Prop}[Decidable c]{x y:Ag × RS}(hx:PosL x.1.2)(hy:PosL y.1.2):PosL (if c then x else y).1.2:=by
 split
 ·exact hx
 ·exact hy
theorem pp_agg {o:Ps}(h:PP o)(s:RS):PosL (aggP o s).1.2:=by
 unfold aggP
 exact pos_ite pos_nil (h _)
theorem pp_aggs {o:Ps}(h:PP o):∀(k:Nat) (l:List Ag) (s:RS),(∀ a ∈ l,PosL a.2)→∀ a ∈ (aggsP o k l s).1,PosL a.2
 | 0,l,s,hl=>hl
 | k+1,l,s,hl=>by
  rw [aggsP]
  split
  ·exact hl
  ·refine pp_aggs h k _ _ fun a ha=>?_
   rcases List.mem_append.1 ha with h1|h1
   ·exact hl a h1
   ·rw [List.mem_singleton.1 h1];exact pp_agg h _
theorem pp_opt {P:Ps}(h:PP P){w:Wd}{s:RS}:PosL (optP w P s).1:=by
 unfold optP
 split
 ·exact pos_nil
 ·exact h _
theorem posQ_read (ws:List Wd):PosQ (readQ ws).1:=by
 have ho:=(pp_all (ws.length+1)).1
 rw [readQ_eq]
 generalize (allP (ws.length+1)).o=o at ho ⊢
 refine⟨pp_aggs ho _ _ _ fun a ha=>?_,pp_opt ho,pp_opt (fun s=>ho _)⟩
 rw [List.mem_singleton.1 ha];exact pp_agg ho _
theorem posQ_parse {s:List UInt8}(h:(parseQ s).2=0):QOk (parseQ s).1∧PosQ (parseQ s).1:=by
 unfold parseQ at h ⊢
 split at h
 ·rename_i h1;exact absurd h h1
 ·rename_i h1
  rw [if_neg h1]
  unfold parseW at h ⊢
  split at h
  ·rename_i h2;exact absurd h h2
  ·rename_i h2
   rw [if_neg h2]
   split at h
   ·rename_i h3;exact absurd h h3
   ·rename_i h3
    rw [if_neg h3]
    exact⟨qok_of (Decidable.not_not.1 h3),posQ_read _⟩
end Go.Proofs.YtiflgceoamkmnaaGreatDoor
namespace Go.Proofs.YtiflgceoamkmnaaGreatDoor
open Go Go.Vc
def VC_top_asked (u0:ByteArray)(h:Hp)(R:Value→Hp→Prop):Prop:=
 (((decide ((((ByteArray.size u0:Nat):Int):Int) > 400))=true→R (vtup [vag [vsl none 0 0,vsl none 0 0,vsl none 0 0,vi 0,vi 0,vi 0,vi 0],vb false]) h)∧((decide ((((ByteArray.size u0:Nat):Int):Int) > 400))=false→(CallOK Tryz.prog 40 [vs u0] h fun v2 h3=>∃ a4 n4 c4 a5 n5 c5 a6 n6 c6 x7 x8 x9 x10 e11,v2=(vtup [vag [vsl a4 n4 c4,vsl a5 n5 c5,vsl a6 n6 c6,vi x7,vi x8,vi x9,vi x10],ifv e11])∧R (vtup [vag [vsl a4 n4 c4,vsl a5 n5 c5,vsl a6 n6 c6,vi x7,vi x8,vi x9,vi x10],(vb (Option.isNone e11))]) h3)))
theorem ok_top_asked {u0 h R}(H:VC_top_asked u0 h R):CallOK Tryz.prog 21 [vs u0] h R:=
 call_of (cfg:=⟨[],[],[(4,[0,1,2,3,4])]⟩) noNG mixed Tryz.func21 [.one (.v (vs u0))] (by kernel_rfl) rfl (by kernel_rfl) H
open Go.Txt
theorem top_asked_ok {s:Wd}{h:Hp}(T:TabQ h){R:Value→Hp→Prop}(bad:∀ a1 n1 c1 a2 n2 c2 a3 n3 c3 x4 x5 x6 x7 h',h.le h'→R (vtup [vag [vsl a1 n1 c1,vsl a2 n2 c2,vsl a3 n3 c3,vi x4,vi x5,vi x6,vi x7],vb false]) h')
  (hK:(parseQ s).2=0→QOk (parseQ s).1→∀ a1 n1 c1 a2 n2 c2 a3 n3 c3 h',h.le h'→QAt h' (parseQ s).1 a1 n1 a2 n2 a3 n3→R (vtup [qV a1 n1 c1 a2 n2 c2 a3 n3 c3 (parseQ s).1,vb true]) h'):CallOK Tryz.prog 21 [vs (bs s)] h R:=by
 refine ok_top_asked ?_
 unfold VC_top_asked
 refine⟨fun e=>bad _ _ _ _ _ _ _ _ _ _ _ _ _ h (Hp.le_refl _),fun _=>?_⟩
 refine query_Parse_ok T fun a1 n1 c1 a2 n2 c2 a3 n3 c3 h' l' Q=>⟨_,_,_,_,_,_,_,_,_,_,_,_,_,_,rfl,?_⟩
 rw [errV_none]
 by_cases hf:(parseQ s).2=0
 ·rw [decide_eq_true hf]
  exact hK hf (posQ_parse hf).1 a1 n1 c1 a2 n2 c2 a3 n3 c3 h' l' Q
 ·rw [decide_eq_false hf]
  exact bad _ _ _ _ _ _ _ _ _ _ _ _ _ h' l'
open Go.RowKit
abbrev encI1 (x:Int):List Value:=[vi x]
def tWk:Wd:=[115,101,108,101,99,116,32,99,111,117,110,116,40,42,41,32,102,114,111,109,32,101,118,101,110,116,115,32,119,105,110,100,111,119,32,49,48]
def evW (t:Int):EvL:=(t,(0,0),(0,0),(0,0))
theorem tWk_read:(parseQ tWk).2=0∧(stepE (parseQ tWk).1 0 (evW 12) (stepE (parseQ tWk).1 0 (evW 3) (newE 1))).rows=[(false,(0,(0,0)),[(1,1)])]:=by decide +kernel
theorem top_works_ok {h:Hp}(T:TabQ h){R:Value→Hp→Prop}(hK:∀ h',h.le h'→R (vb true) h'):CallOK Tryz.prog 20 [] h R:=by
 refine ok_top_works ?_
 unfold VC_top_works
 obtain⟨e0,e1⟩:=tWk_read
 have Qk:=(posQ_parse e0).1
 refine query_Parse_ok (l:=tWk) T fun a1 n1 c1 a2 n2 c2 a3 n3 c3 h2 l2 Q=>⟨_,_,_,_,_,_,_,_,_,_,_,_,_,_,rfl,?_⟩
 rw [errV_some,decide_eq_true e0]
 refine⟨fun e=>(by cases e),fun _=>?_⟩
 generalize (parseQ tWk).1=q at *
 refine engine_New_ok Q Qk (fun e=>absurd ⟨by decide,by decide⟩ e) fun _ _ g h13 l13 X=>⟨some ⟨g,0,none⟩,none,rfl,_,fun _=>rd_eqNilP (e:=64) (by kernel_rfl),fun e=>(by cases e),fun _=>?_⟩
 have hB:=newE_ok q 1
 have E1:EvOK (evW 3):=chkE_ok (by decide)
 have E2:EvOK (evW 12):=chkE_ok (by decide)
 have hB1:=stepE_ok Qk hB (p:=0) (by decide) E1
 refine engine_Step_ok (p:=0) (e:=evW 3) X Qk E1 hB (by decide) (by decide) (by decide) fun h19 l19 X1=>⟨rfl,?_⟩
 refine engine_Step_ok (p:=0) (e:=evW 12) X1 Qk E2 hB1 (by decide) (by decide) (by decide) fun h21 l21 X2=>⟨rfl,?_⟩
 obtain⟨a1,n1,c1,a2,n2,c2,a3,n3,c3,qf,ak,nk,ck,ar,cr,ac,cc,tb,tc,aw,cw,RP,k1,s1,s2,g1,_⟩:=X2.seen
 rw [show (newE (1:Int).toNat)=newE 1 from rfl] at *
 rw [e1] at k1 g1
 obtain⟨b,o,a',c',ea,hr,hS⟩:=g1.row rwRow_len (by decide) (j:=0) (x:=(false,(0,(0,0)))) (l:=[(1,1)]) rfl
 obtain⟨b2,o2,ea2,hr2⟩:=hS.get (sz:=2) (fun _=>rfl) (by decide) (i:=0) (x:=(1,1)) rfl
 refine⟨g,0,rfl,_,_,_,cell_cells k1 rfl,g,0,fun _=>rfl,_,_,_,fun _=>cell_cells k1 rfl,b,o,fun _=>⟨ea,by decide,by decide⟩,a',_,c',fun _=>Hp.row_cell hr (i:=4) rfl,b2,o2,fun _=>⟨ea2,by decide,by decide⟩,1,fun _=>Hp.row_cell hr2 (i:=1) rfl,?_⟩
 exact hK h21 (Hp.le_trans l2 l21)
theorem tabc_of3 {α:Type}{enc:α→List Value}{h:Hp}{a:Option Addr}{n:Nat}{R:List (TRow α)}(S:SlP (fun r=>[rowV r]) h a n R)(hr:∀ r ∈ R,HasRow h r.1.1 (r.2.flatMap enc)∧r.2.length≤r.1.2):TabC enc h a n (R.map Prod.snd):=by
 have e:(R.flatMap fun r=>[rowV r])=R.map rowV:=by
  clear S hr
  induction R with
  | nil=>rfl
  | cons r R ih=>rw [List.flatMap_cons,ih];rfl
 refine⟨R,rfl,by rw [S.1];simp,?_,fun j r hj=>hr r (List.mem_of_getElem? hj)⟩
 have:=S.2
 rw [e] at this
 exact this
theorem little_ok {q:Qy}(B:QOk q){ps:List (List EvL)}{cs:List Nat}{h0 h:Hp}{g b N parts:Nat}{st:En}{t:TypeId}{v1 v2 v3:Value}(X:EngX q h0 h g st)(RS:RunS q ps cs st)(HB:EnB q parts N st)(hN:N≤300000)(hp:parts≤3)(hb:h b=some (cellsO [v1,v2,v3,vi q.size,vi q.slide,vi q.delay,vi q.late] t)) :
  CallOK Tryz.prog 30 [vhp g 0,vhp b 0] h fun v h'=>v=vb true∧h.le h':=by
 refine ok_top_TopLittle_1 ?_
 unfold VC_top_TopLittle_1
 obtain⟨a1,n1,c1,a2,n2,c2,a3,n3,c3,qf,ak,nk,ck,ar,cr,ac,cc,tb,tc,aw,cw,R,k1,s1,s2,g1,T,hR⟩:=X.seen
 have hfl:=HB.fl
 have hpl:=HB.pl
 have hs:=B.s
 have ht:=B.t
 have hpn:=RS.en.panes
 have hRl:R.length=st.pn.length:=by have:=congrArg List.length hR;simpa using this
 refine⟨_,_,_,row_cells' k1 (Nat.le_of_ble_eq_true rfl),_,cell_cells hb rfl,?_⟩
 refine clock_All_ok s2 (by omega) HB.fb B.d ⟨_,_,rfl,?_⟩
 generalize farC q.delay st.far=U at hpn
 refine⟨fun vs hh=>hh=h∧∃ i:Nat,vs=[vi i]∧i≤R.length,fun vs hh=>R.length - (vint vs 0).toNat,⟨rfl,0,rfl,Nat.zero_le _⟩,?_⟩
 rintro vs hh ⟨rfl,i,rfl,hi⟩
 refine⟨i,rfl,_,_,_,cell_cells k1 rfl,fun e=>?_,fun _=>⟨rfl,Hp.le_refl _⟩⟩
 have hlt:i < R.length:=by have:=of_decide_eq_true e;omega
 have hx:R[i]?=some R[i]:=List.getElem?_eq_getElem hlt
 have hm:prT R[i] ∈ st.pn.map (pnT (kindsQ q)):=by rw [←hR];exact List.mem_map.2 ⟨_,List.getElem_mem hlt,rfl⟩
 generalize R[i]=r at *
 obtain⟨p,hpm,ep⟩:=List.mem_map.1 hm
 obtain⟨e1,_,e3⟩:=prT_eq ep.symm
 obtain⟨q1,q2⟩:=hpn p hpm
 obtain⟨_,q3,q4,_⟩:=HB.pa p hpm
 rw [←e1] at q1 q2 q3 q4
 obtain⟨bt,ot,et,hrow⟩:=T.s.get encPr_len (by decide) hx
 have hbt:tb=some ⟨bt,ot,none⟩∧(0:Int)≤(i:Int)∧(i:Int) < ((R.length:Nat):Int):=⟨et,by omega,by omega⟩
 have hst:hh.cell bt (ot+((i:Nat):Int).toNat*5)=some (vi r.k.1):=by rw [Int.toNat_natCast];exact Hp.row_cell hrow (i:=0) rfl
 have hto:hh.cell bt (ot+((i:Nat):Int).toNat*5+4)=some (vb r.t):=by rw [Int.toNat_natCast];exact Hp.row_cell hrow (i:=4) rfl
 have hg:(bif U.2 then(decide ((r.k.1+q.size+q.late:Int)≤U.1)) else false)=false:=by
  unfold goneU at q1
  cases h2:U.2 with
  | false=>rfl
  | true=>
   rw [h2,Bool.true_and] at q1
   have:=of_decide_eq_false q1
   exact decide_eq_false (by omega)
 have hd:(bif U.2 then(decide ((r.k.1+q.size:Int)≤U.1)) else false)=r.t:=by
  rw [e3,q2]
  unfold dueU
  cases U.2<;>rfl
 refine⟨_,_,_,fun _=>cell_cells k1 rfl,bt,ot,fun _=>hbt,_,fun _=>hst,_,fun _=>cell_cells hb rfl,_,fun _=>isW (by unfold InR;omega),_,fun _=>cell_cells hb rfl,_,fun _=>isW (by unfold InR;omega),_,_,_,fun _=>cell_cells k1 rfl,bt,ot,fun _=>hbt,r.t,fun _=>hto,_,_,_,fun _=>cell_cells k1 rfl,bt,ot,fun _=>hbt,_,fun _=>hst,_,fun _=>cell_cells hb rfl,_,fun _=>isW (by unfold InR;omega),r.t != r.t,fun _=>?_,?_⟩
 ·rw [hd]
  exact rd_neB (by kernel_rfl)
 ·rw [hg]
  refine⟨fun e9=>?_,fun _=>⟨_,isW (by unfold InR;omega),⟨rfl,i+1,rfl,by omega⟩,by simp [vint];omega⟩⟩
  simp at e9
theorem law_TopLittle_ok {s:Wd}{ps:List (List EvL)}{pa:Option Addr}{pn pc:Nat}{ts:List Int}{ta:Option Addr}{tn tc:Nat}{h:Hp}(TP:TabC encE h pa pn ps)(ST:SlI h ta tn ts)(T:TabQ h):CallOK Tryz.prog 7 [vs (bs s),vsl pa pn pc,vsl ta tn tc] h fun v h'=>v=vb true∧h.le h':=by
 refine ok_top_TopLittle ?_
 unfold VC_top_TopLittle
 have hpn:pn=ps.length:=TP.r.choose_spec.2.1
 subst hpn
 refine top_works_ok T fun h2 l2=>⟨_,rfl,fun e=>(by cases e),fun _=>?_⟩
 refine top_asked_ok (T.le l2) (fun a1 n1 c1 a2 n2 c2 a3 n3 c3 x4 x5 x6 x7 h' l'=>⟨_,_,_,_,_,_,_,_,_,_,_,_,_,_,rfl,?_⟩) ?_
 ·intro b15 hb15 h16
  refine store_new (by rfl) ?_
  have l17:=Hp.le_set (Hp.le_trans l2 l') hb15 (cellsO [vsl a1 n1 c1,vsl a2 n2 c2,vsl a3 n3 c3,vi x4,vi x5,vi x6,vi x7] 28)
  exact⟨fun x hh=>h.le hh,fun e=>(by cases e),fun _=>l17,fun h19 p20 l19=>⟨fun _=>⟨rfl,l19⟩,fun e=>(by cases e)⟩⟩
 intro hf B a7 n7 c7 a8 n8 c8 a9 n9 c9 h6 l6 Q
 have l06:=Hp.le_trans l2 l6
 refine⟨_,_,_,_,_,_,_,_,_,_,_,_,_,_,rfl,?_⟩
 intro b15 hb15 h16
 refine store_new (by rfl) ?_
 have l17:=Hp.le_set (Hp.le_refl h6) hb15 (cellsO [vsl a7 n7 c7,vsl a8 n8 c8,vsl a9 n9 c9,vi (parseQ s).1.size,vi (parseQ s).1.slide,vi (parseQ s).1.delay,vi (parseQ s).1.late] 28)
 have k17:(h6.set b15 (cellsO [vsl a7 n7 c7,vsl a8 n8 c8,vsl a9 n9 c9,vi (parseQ s).1.size,vi (parseQ s).1.slide,vi (parseQ s).1.delay,vi (parseQ s).1.late] 28)) b15=some _:=Hp.set_same _ _ _
 generalize (h6.set b15 (cellsO [vsl a7 n7 c7,vsl a8 n8 c8,vsl a9 n9 c9,vi (parseQ s).1.size,vi (parseQ s).1.slide,vi (parseQ s).1.delay,vi (parseQ s).1.late] 28))=h17 at l17 k17 ⊢
 have l017:=Hp.le_trans l06 l17
 refine⟨fun x hh=>h17.le hh∧∃ p,x=.t (.one (.v (vb p)))∧(p=true→1≤ps.length∧ps.length≤3∧tn≤200∧∀ x ∈ ps,x.length≤40∧∀ e ∈ x,EvOK e),fun _=>top_few_ok (TP.le l017) fun p h' l' hp=>⟨_,rfl,l',p,rfl,hp⟩,fun e=>absurd rfl e,?_⟩
 rintro h22 p23 ⟨l22,p,e,hp⟩
 cases e
 have l022:=Hp.le_trans l017 l22
 refine⟨fun _=>⟨rfl,l022⟩,fun e=>?_⟩
 have hpt:p23=true:=by cases p23 with|true=>rfl|false=>cases e
 obtain⟨h1,h3,ht,hE⟩:=hp hpt
 have k22:=l22 _ _ k17
 refine⟨_,_,_,_,_,_,_,_,_,_,_,_,_,row_cells' k22 (Nat.le_of_ble_eq_true rfl),?_⟩
 refine top_run_ok (Q.le (Hp.le_trans l17 l22)) B (TP.le l022) h1 h3 hE (ST.le l022) ht (fun g hh st cs N X RS HB hN=>?_) fun g h' st N X RS HB hN=>⟨_,_,rfl,rfl,Hp.le_trans l022 X.le0⟩
 exact⟨30,#[],#[vhp b15 0],rfl,⟨_,Tryz.func30,by kernel_rfl,rfl⟩,little_ok B X RS HB hN h3 (X.le0 _ _ k22)⟩
end Go.Proofs.YtiflgceoamkmnaaGreatDoor
namespace Go.Proofs.YtiflgceoamkmnaaGreatDoor.topLittle
open Go.ChangeShapes Go.WideShapes Go.ChangeAt Go.RowKit Go.Vc
theorem own:ownKnob Tryz.prog.godebug=none:=by kernel_rfl
theorem open0 {H:Type}{enc:TypeId × Value→H}{W:World}{cs:List Value}(L:LeafL Tryz.prog enc W (fun _=>True) (flatIds Tryz.prog 4 43) cs):∃(x0:Int) (x1:Int) (x2:Int) (x3:Int) (x4:Int) (x5:Int) (x6:Int),cs=encE (x0,(x1,x2),(x3,x4),(x5,x6))∧InR x0∧InR x1∧InR x2∧InR x3∧InR x4∧InR x5∧InR x6:=by
 have e:flatIds Tryz.prog 4 43=[3,3,3,3,3,3,3]:=by kernel_rfl
 rw [e] at L
 match cs,L with
 | [v0,v1,v2,v3,v4,v5,v6],L=>
  obtain⟨x0,h0,g0⟩:=leaf_i64 Tryz.underlying3 (L.1)
  cases h0
  obtain⟨x1,h1,g1⟩:=leaf_i64 Tryz.underlying3 (L.2.1)
  cases h1
  obtain⟨x2,h2,g2⟩:=leaf_i64 Tryz.underlying3 (L.2.2.1)
  cases h2
  obtain⟨x3,h3,g3⟩:=leaf_i64 Tryz.underlying3 (L.2.2.2.1)
  cases h3
  obtain⟨x4,h4,g4⟩:=leaf_i64 Tryz.underlying3 (L.2.2.2.2.1)
  cases h4
  obtain⟨x5,h5,g5⟩:=leaf_i64 Tryz.underlying3 (L.2.2.2.2.2.1)
  cases h5
  obtain⟨x6,h6,g6⟩:=leaf_i64 Tryz.underlying3 (L.2.2.2.2.2.2.1)
  cases h6
  exact⟨x0,x1,x2,x3,x4,x5,x6,rfl,g0,g1,g2,g3,g4,g5,g6⟩
theorem open1 {H:Type}{enc:TypeId × Value→H}{W:World}{cs:List Value}(L:LeafL Tryz.prog enc W (fun _=>True) (flatIds Tryz.prog 4 3) cs):∃(x0:Int),cs=encI1 x0∧InR x0:=by
 have e:flatIds Tryz.prog 4 3=[3]:=by kernel_rfl
 rw [e] at L
 match cs,L with
 | [v0],L=>
  obtain⟨x0,h0,g0⟩:=leaf_i64 Tryz.underlying3 (L.1)
  cases h0
  exact⟨x0,rfl,g0⟩
abbrev lay:=Rows.topLittleRow.laid
theorem tabs {W:World}(hL:laidMetH Tryz.prog lay W):TabP (hpOf W):=by
 rw [MakeChecks.laidMetH_plain _ _ _ (by kernel_rfl)] at hL
 have h3:laidMet Tryz.prog (("internal/strconv.uint64pow10",Lib.tabData .u64 Lib.pow10Tab) :: lay.drop 3) W:=hL.tail.tail
 have hT:=Lib.tabIs_of_head (g:=5) (n:=20) (by kernel_rfl) (t:=274) (by kernel_rfl) (e:=223) (by kernel_rfl) (by kernel_rfl) (by kernel_rfl) (by kernel_rfl) h3
 intro w hs
 exact var_sub hT hs
theorem star: "*"++ "errors.errorString"= "*errors.errorString":=by decide
theorem rowE (u:TypeId)(h:Tryz.prog.typeName? 3 u=some "*errors.errorString"):u=263:=
 typeName_ptr_named (nm:= "errors.errorString") (by rw [star];kernel_rfl) (by kernel_rfl) (by decide) u (by rw [star];exact h)
theorem errs {W:World}(hL:laidMetH Tryz.prog lay W):TabE (hpOf W):=by
 rw [MakeChecks.laidMetH_plain _ _ _ (by kernel_rfl)] at hL
 have h4:laidMet Tryz.prog (("strconv.ErrRange",_) :: ("strconv.ErrSyntax",_) :: lay.drop 5) W:=hL.tail.tail.tail
 obtain⟨a0,s0,hv0,_⟩:=laid_sentinel (g:=2) (ti:=33) h4 (by kernel_rfl) (by kernel_rfl) Tryz.underlying33 rowE Tryz.underlying263 Tryz.underlying265 rfl rfl Tryz.underlying9 (by kernel_rfl) (by kernel_rfl)
 obtain⟨a1,s1,hv1,_⟩:=laid_sentinel (g:=1) (ti:=33) h4.tail (by kernel_rfl) (by kernel_rfl) Tryz.underlying33 rowE Tryz.underlying263 Tryz.underlying265 rfl rfl Tryz.underlying9 (by kernel_rfl) (by kernel_rfl)
 exact⟨⟨_,_,fun w hs=>vars_sub hv1 hs⟩,⟨_,_,fun w hs=>vars_sub hv0 hs⟩⟩
theorem names {W:World}(hL:laidMetH Tryz.prog lay W):TabQ (hpOf W):=by
 have T:=tabs hL
 have E:=errs hL
 rw [MakeChecks.laidMetH_plain _ _ _ (by kernel_rfl)] at hL
 have h6:laidMet Tryz.prog (("penstock/query.fields",_) :: ("penstock/query.aggs",_) :: lay.drop 7) W:=hL.tail.tail.tail.tail.tail
 exact⟨T,E,laid_texts (texts:=fieldW) (g:=4) (t:=145) (e:=9) h6 (by kernel_rfl) (by kernel_rfl) (by kernel_rfl) (by kernel_rfl) (by kernel_rfl) (by decide),laid_texts (texts:=aggsW) (g:=0) (t:=145) (e:=9) h6.tail (by kernel_rfl) (by kernel_rfl) (by kernel_rfl) (by kernel_rfl) (by kernel_rfl) (by decide)⟩
theorem door_met (os:Os)(args:Array Value):laidMetH Tryz.prog lay ((World.doorLaid Tryz.prog 400 os).forCall (fun _ _=>0) ⟨#[],args,[]⟩).memory:=
 laidMetH_of_parts3 (fuel:=8) (laidMet_of_run' 8 (by kernel_rfl) (by kernel_rfl)) (by kernel_rfl) (by kernel_rfl)
set_option maxRecDepth 100000 in
theorem lifted (os:Os)(started:os.Started)(H:Type)(enc:TypeId × Value→H) :
  ReturnsInHanded {} Tryz.checked os 7 .any (fun w args=>(Rows.topLittleSpec.pre enc Tryz.prog Tryz.f7 Rows.topLittleRow.domain false w args∧laidMetH Tryz.prog lay w)∧sizedMet enc Tryz.prog Tryz.f7 (OpenSpec.ofChange Rows.topLittleSpec) false w args) (Rows.topLittleSpec.post enc Tryz.prog Tryz.f7 false true false false):=by
 refine returnsInHanded_of_change_and (C:=Tryz.checked) (X:=fun w _=>laidMetH Tryz.prog lay w) (fun _ _ _ hh h=>h.of_heap hh) own started (by kernel_rfl) Tryz.func7
  (ChangeSpec.witness_shaped (enc:=enc) (C:=Tryz.checked) (os:=os) (X:=fun w _=>laidMetH Tryz.prog lay w) false (World.doorLaid Tryz.prog 400 os) #[.string ⟨#[]⟩,.slice none 0 0,.slice none 0 0] 8 rfl (World.shaped_of_RefB (by kernel_rfl) (by kernel_rfl)) (by kernel_rfl) (by kernel_rfl) (by kernel_rfl) (door_met os _)) ?_
 intro W base args ds gs before hval0 hW hcnd _ hL _
 have T:=tabs hL
 have E:=errs hL
 have TQ:=names hL
 have hval:∀(j:Nat) t v,Tryz.f7.params[j]?=some t→args[j]?=some v→Value.okWide Tryz.prog W .any base t v:=hval0
 have hW':=hW
 obtain⟨p,q,hA0,hV,rfl,hfz,hnd⟩:=hW
 have hA:DataW.TrodAll enc Tryz.prog W 0 (fun _=>true) true Tryz.f7.params.toList args.toList ds p:=hA0
 rw [Tryz.params7] at hA hval
 obtain⟨v0,vs0,d0,ds0,p0,q0,hargs,rfl,rfl,h0,r0⟩:=trodAll_cons hA
 obtain⟨v1,vs1,d1,ds1,p1,q1,rfl,rfl,rfl,h1,r1⟩:=trodAll_cons r0
 obtain⟨v2,vs2,d2,ds2,p2,q2,rfl,rfl,rfl,h2,r2⟩:=trodAll_cons r1
 obtain⟨rfl,rfl,rfl⟩:=trodAll_nil r2
 obtain rfl:args=#[v0,v1,v2]:=by cases args;simp_all
 obtain⟨rfl,rfl⟩:=trodVars_none hV
 obtain⟨s0,rfl⟩:=okWide_string Tryz.underlying9 (hval 0 9 v0 rfl rfl)
 obtain⟨b0,e0,_,z0⟩:=leaf_string smTrue Tryz.underlying9 (leafC_of (Sm:=fun _=>True) h0 trivial)
 cases e0
 obtain⟨w1,w2,w3,rfl⟩:=okWide_slice (e:=69) (by kernel_rfl) (hval 1 49 v1 rfl rfl)
 obtain⟨p1,n1,c1,R1,e1,S1,hc1,hm1,_,g1⟩:=leaf_slice (enc:=fun r=>[rowV r]) (sz:=1) (good:=fun r:TRow _=>HasRow (hpOf W) r.1.1 (r.2.flatMap encE)∧r.2.length≤r.1.2∧r.1.2≤maxLen∧∀ y ∈ r.2,True) smTrue (e:=69) (by kernel_rfl) (by kernel_rfl) (by decide) (fun _=>rfl)
  (fun cs L=>by
   obtain⟨a,n,c,l,e,S,hc,hm,_,hg⟩:=leaf_slice (enc:=encE) (sz:=7) (good:=fun y=>True) smTrue (e:=43) (by kernel_rfl) (by kernel_rfl) (by decide) (fun _=>rfl) (fun cs L=>by
    have hf:=leaf_flat smTrue 4 (by kernel_rfl) L
    obtain⟨x0,x1,x2,x3,x4,x5,x6,hy,hg⟩:=open0 hf
    exact⟨(x0,(x1,x2),(x3,x4),(x5,x6)),hy,trivial⟩) L
   cases e
   obtain rfl:=S.1
   exact⟨((a,c),l),rfl,S.2,hc,hm,hg⟩) (leafC_of (Sm:=fun _=>True) h1 trivial)
 cases e1
 obtain⟨w1,w2,w3,rfl⟩:=okWide_slice (e:=3) (by kernel_rfl) (hval 2 50 v2 rfl rfl)
 obtain⟨p2,n2,c2,l2,e2,S2,hc2,hm2,_,g2⟩:=leaf_slice (enc:=encI1) (sz:=1) (good:=fun y=>True) smTrue (e:=3) (by kernel_rfl) (by kernel_rfl) (by decide) (fun _=>rfl)
  (fun cs L=>by
   have hf:=leaf_flat smTrue 4 (by kernel_rfl) L
   obtain⟨x0,hy,hg⟩:=open1 hf
   exact⟨x0,hy,trivial⟩) (leafC_of (Sm:=fun _=>True) h2 trivial)
 cases e2
 refine(calls_law (law_TopLittle_ok (s:=s0.data.toList) (tabc_of3 S1 (fun r hr=>⟨(g1 r hr).1,(g1 r hr).2.1⟩)) (SlI.of_slp S2) TQ)).mono fun e W' ⟨he,hg⟩=>?_
 subst he
 exact⟨_,rfl,law_post big hW' hg (by kernel_rfl) (tb:=4) (by kernel_rfl) (by kernel_rfl) rfl⟩
theorem over:Rows.topLittleRow.holds Tryz.pinned (OpenSpec.ofChange Rows.topLittleSpec):=
 OpenClaim.holds_of_wide 7 Tryz.f7 rfl rfl rfl rfl rfl rfl rfl ⟨rfl,rfl,rfl,rfl,rfl⟩ rfl rfl rfl rfl rfl (by kernel_rfl) Tryz.func7 (by kernel_rfl)
  (of_decide_eq_true (by kernel_rfl)) (by unfold Func.isWrapper;first|(rw [if_pos (by decide +kernel)];kernel_rfl)|(rw [if_neg (by decide +kernel)];exact⟨rfl,rfl⟩))
  (fun os started H enc _=>lifted os started H enc)
theorem proved:Rows.TopLittleCardSaid:=
 Claim7.holds_tied_plain_at .later [] _ true _ true
  over (fun _ h=>by cases h) (by kernel_rfl) (fun _ h=>by cases h) topLittle_row_tie rfl ⟨rfl,rfl⟩ (by kernel_rfl) rfl
  (fun f fn hf hfn=>by
   obtain rfl:f=7:=Option.some.inj ((show Tryz.prog.funcNamed "penstock/penstocktop.TopLittle"=some 7 by kernel_rfl).symm.trans hf) |>.symm
   obtain rfl:fn=Tryz.f7:=(Option.some.inj (Tryz.func7.symm.trans hfn)).symm
   exact⟨by kernel_rfl,fun j t ht=>by
    rw [Tryz.params7] at ht
    have hm:t ∈ [9,49,50]:=by simpa using Array.mem_of_getElem? ht
    have hall:([9,49,50].all fun u=>!Tryz.prog.wantsStandIn u)=true:=by kernel_rfl
    exact(show Tryz.prog.wantsStandIn t=false by simpa using List.all_eq_true.1 hall t hm)⟩)
  (by kernel_rfl)
end Go.Proofs.YtiflgceoamkmnaaGreatDoor.topLittle
