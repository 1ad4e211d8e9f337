/-
  Laws and contracts on which the statement's proof stands, part 3. Conditions: those stated at each.
-/
import Derived.Lib.Join
import Derived.WalkKit
import Derived.WalkLawsBesides
import Derived.RangeFuncNested
import Derived.RangeFuncLeaves
import Derived.Orders
import Derived.Test.YtiflgceoamkmnaaGreatDoorProg
import Derived.Sort.Grow
import Derived.Shelf.SlSortCmp.NoneTotal
import Derived.Test.YtiflgceoamkmnaaGreatDoorTo2
set_option linter.unusedVariables false
set_option maxRecDepth 100000
namespace Go.Proofs.YtiflgceoamkmnaaGreatDoor
open Go Go.Vc
abbrev NdVec:=Vec encN 6 83
theorem cloneN_ok {a:Option Addr}{n c:Nat}{l:List Nd}{h:Hp}{R:Value→Hp→Prop}(S:SlP encN h a n l)(hn:n≤1000000)(hK:∀ a' c' h',NdVec h h' a' c' l→R (vsl a' l.length c') h') :
  CallOK Tryz.prog 150 [vsl a n c] h R:=by
 refine ok_slices_Clone_api_Node_api_Node ?_
 unfold VC_slices_Clone_api_Node_api_Node
 have hl:=S.1
 subst hl
 have hfl:(l.flatMap encN).length=l.length*6:=by rw [flatMap_length encN_len]
 refine⟨_,rd_eqNilS (e:=83) (by kernel_rfl),fun e=>?_,fun e=>?_⟩
 ·have h0:l.flatMap encN=[]:=by
   rcases S.2 with h1|⟨b,o,ha,_⟩
   ·exact h1
   ·rw [ha] at e;cases e
  rw [h0] at hfl
  have hn0:l=[]:=List.eq_nil_of_length_eq_zero (by simp at hfl;omega)
  subst hn0
  exact hK none 0 h (OwnV.nil (Hp.le_refl h) _ _)
 ·intro b3 hb3 h4
  have O0:OwnV h h4 83 6 (some ⟨b3,0,none⟩) 0 0 []:=OwnV.mk_new (Hp.le_refl h) hb3 _ [] rfl (by simp [maxLen])
  refine OwnV.append elNd O0 (S.le (Hp.le_set (Hp.le_refl h) hb3 _)).2 hfl (one_nds l) (by omega) (by omega) fun a' c' h' O' _ _=>⟨_,_,_,rfl,?_⟩
  rw [Nat.zero_add,List.nil_append] at *
  exact hK a' c' h' O'
inductive Pend (l:List Nd)(f:Nat):Nat→Nat→Prop where
 | nil:Pend l f f 0
 | cons {g e k:Nat}:Blk l g e→Pend l f g k→Pend l f e (k+1)
theorem Pend.open {l:List Nd}{f g i k:Nat}{n:Nd}(B:Blk l g (i+1))(Q:Pend l f g k)(hn:l[i]?=some n):Pend l f i (k+(arI n.op).toNat):=by
 cases B with
 | leaf h ha=>
  rw [hn] at h
  cases h
  rw [ha]
  exact Q
 | one B h ha _=>
  rw [hn] at h
  cases h
  rw [ha]
  exact .cons B Q
 | two B B' h ha _ _=>
  rw [hn] at h
  cases h
  rw [ha]
  exact .cons B' (.cons B Q)
section
variable {a:Option Addr}{m c:Nat}{l:List Nd}{h:Hp}
theorem expr_Cut_ok (S:SlP encN h a m l)(hcap:m≤c)(W:WfL l)(hm:l.length≤1000000){f:Nat}{e:Nat}(B:Blk l f (e+1)){i0:Int}(hi0:i0=e){R:Value→Hp→Prop}(hK:∀ a' c' h',NdVec h h' a' c' (cutL l f (e+1))→R (vsl a' (cutL l f (e+1)).length c') h') :
  CallOK Tryz.prog 114 [vsl a m c,vi i0] h R:=by
 subst hi0
 refine ok_expr_Cut ?_
 unfold VC_expr_Cut
 have hlt:=B.lt
 obtain rfl:=S.1
 have opAt:∀{i:Nat},i < l.length→∀{hh:Hp},h.le hh→∃ n b o,l[i]?=some n∧a=some ⟨b,o,none⟩∧hh.cell b (o+i*6)=some (vi n.op):=by
  intro i hi hh hl
  have hx:l[i]?=some l[i]:=List.getElem?_eq_getElem hi
  obtain⟨b,o,ha,hr⟩:=(S.le hl).get encN_len (by decide) hx
  exact⟨_,b,o,hx,ha,Hp.row_cell hr (i:=0) rfl⟩
 obtain⟨n,b,o,hn,ha,hc⟩:=opAt (i:=e) (by omega) (Hp.le_refl h)
 have wn:=W _ _ hn
 refine⟨b,o,⟨ha,by omega,by omega⟩,_,hc,expr_Arity_ok ⟨_,rfl,?_⟩⟩
 have Q0:=Pend.open B .nil hn
 rw [Nat.zero_add] at Q0
 refine⟨fun vs hh=>hh=h∧∃ from' need:Nat,vs=[vi from',vi need]∧from'≤e∧need≤2*(e+1 - from')∧Pend l f from' need,fun vs hh=>(vint vs 0).toNat,⟨rfl,e,(arI n.op).toNat,by rw [show (((arI n.op).toNat:Nat):Int)=arI n.op by have:=wn.a;omega],Nat.le_refl _,by rcases arI_range wn.a with h|h|h<;>omega,Q0⟩,?_⟩
 rintro vs hh ⟨rfl,from',need,rfl,hfe,hnd,Q⟩
 refine⟨from',need,rfl,fun g=>?_,fun g=>?_⟩
 ·have g:=of_decide_eq_true g
  cases Q with
  | nil=>exact absurd g (by decide)
  | @cons g' _ k B' Q'=>
   have hlt':=B'.lt
   obtain⟨i,rfl⟩:∃ i,from'=i+1:=⟨from' - 1,by omega⟩
   obtain⟨n',b',o',hn',ha',hc'⟩:=opAt (i:=i) (by omega) (Hp.le_refl hh)
   have wn':=W _ _ hn'
   have Q2:=Pend.open B' Q' hn'
   have hI:IsW ((i:Nat):Int) (((i+1:Nat):Int) - 1):=by
    have:=isW (e:=(((i+1:Nat):Int) - 1)) (by unfold InR;omega)
    rw [show (((i+1:Nat):Int) - 1)=(i:Int) by omega] at this ⊢
    exact this
   have r2:=arI_range wn'.a
   refine⟨i,hI,b',o',⟨ha',by omega,by omega⟩,_,hc',expr_Arity_ok ⟨_,rfl,_,isW (by unfold InR;omega),_,isW (by unfold InR;omega),⟨rfl,i,k+(arI n'.op).toNat,?_,by omega,by omega,Q2⟩,by simp [vint]⟩⟩
   rw [show ((k+(arI n'.op).toNat:Nat):Int)=((k+1:Nat):Int)+(arI n'.op - 1) by have:=wn'.a;omega]
 have g:=of_decide_eq_false g
 have h0:need=0:=by omega
 subst h0
 cases Q
 refine⟨_,isW (by unfold InR;omega),_,_,_,rd_slice_lh (e:=83) (by kernel_rfl) (by kernel_rfl) (by omega) (by omega) (by omega),?_⟩
 have hsz:szT Tryz.prog 83=6:=by kernel_rfl
 rw [hsz,show ((e:Int)+1).toNat=e+1 by omega,Int.toNat_natCast]
 have Sseg:SlP encN hh (cutA a f c 6) (e+1 - f) (seg l f (e+1)):=(S.drop encN_len (i:=f) (c:=c) (by omega) hcap).take encN_len (by omega)
 have hsl:(seg l f (e+1)).length=e+1 - f:=Sseg.1.symm
 have sget:∀{i:Nat} {n:Nd},(seg l f (e+1))[i]?=some n→l[f+i]?=some n:=by
  intro i n hi
  unfold seg at hi
  rw [List.getElem?_take] at hi
  split at hi
  ·rw [List.getElem?_drop] at hi;exact hi
  ·cases hi
 have ecut:cutL l f (e+1)=(seg l f (e+1)).map (shN (-(f:Int))):=rfl
 rw [ecut] at hK
 generalize seg l f (e+1)=s at *
 refine cloneN_ok Sseg (by omega) fun a29 c29 h28 V28=>⟨_,_,_,rfl,?_⟩
 refine⟨fun vs h'=>∃(i:Nat) (outs:List Nd),vs=[vi i]∧i≤s.length∧outs.length=s.length∧outs.take i=(s.take i).map (shN (-(f:Int)))∧outs.drop i=s.drop i∧NdVec hh h' a29 c29 outs,fun vs hh=>s.length - (vint vs 0).toNat,⟨0,s,rfl,Nat.zero_le _,rfl,rfl,rfl,V28⟩,?_⟩
 rintro vs h34 ⟨i,outs,rfl,hi,hlo,ht,hd,V⟩
 refine⟨i,rfl,fun g=>?_,fun g=>?_⟩
 ·have hlt2:i < s.length:=by have:=of_decide_eq_true g;omega
  have hx:s[i]?=some s[i]:=List.getElem?_eq_getElem hlt2
  have hox:outs[i]?=some s[i]:=by
   have:=congrArg List.head? hd
   rw [List.head?_drop,List.head?_drop,hx] at this
   exact this
  have wn2:=W _ _ (sget hx)
  have hset:(outs.set i (shN (-(f:Int)) s[i])).take (i+1)=(s.take (i+1)).map (shN (-(f:Int))):=by
   rw [List.take_succ_eq_append_getElem (by rw [List.length_set];omega),List.take_set_of_le (Nat.le_refl _),List.getElem_set_self,ht,List.take_succ_eq_append_getElem hlt2,List.map_append]
   rfl
  have hset2:∀ n',(outs.set i n').drop (i+1)=s.drop (i+1):=by
   intro n'
   have:(outs.drop i).drop 1=(s.drop i).drop 1:=by rw [hd]
   rw [List.drop_drop,List.drop_drop] at this
   rw [List.drop_set_of_lt (Nat.lt_succ_self i)]
   exact this
  generalize s[i]=y at *
  intro J70
  have hJ:∀ h',NdVec hh h' a29 c29 (outs.set i (shN (-(f:Int)) y))→J70 h':=by
   intro h' V'
   exact⟨_,isW (by unfold InR;omega),⟨i+1,_,rfl,by omega,by rw [List.length_set];exact hlo,hset,hset2 _,V'⟩,by simp [vint];omega⟩
  clear_value J70
  have acc:∀{h':Hp} {outs':List Nd} {z:Nd},NdVec hh h' a29 c29 outs'→outs'[i]?=some z→outs'.length=s.length→∃ b o,(a29=some ⟨b,o,none⟩∧(0:Int)≤i∧(i:Int) < (s.length:Nat))∧h'.row b (o+(i:Int).toNat*6) 6=some (encN z):=by
   intro h' outs' z V' hz hl'
   obtain⟨b,o,ha,hr⟩:=(V'.slp encN_len (by decide)).get encN_len (by decide) hz
   exact⟨b,o,⟨ha,by omega,by omega⟩,hr⟩
  obtain⟨b1,o1,A1,r1⟩:=acc V hox hlo
  refine⟨b1,o1,A1,_,Hp.row_cell r1 (i:=0) rfl,expr_Arity_ok ⟨_,rfl,?_⟩⟩
  intro J53
  have hJ53:∀ h' (z:Nd),z={ y with x:=(shN (-(f:Int)) y).x }→NdVec hh h' a29 c29 (outs.set i z)→J53 h':=by
   rintro h' z hz V'
   have hz1:(outs.set i z)[i]?=some z:=List.getElem?_set_self (by omega)
   obtain⟨b2,o2,A2,r2⟩:=acc V' hz1 (by rw [List.length_set];exact hlo)
   have eop:z.op=y.op:=by rw [hz]
   have ey:z.y=y.y:=by rw [hz]
   refine⟨b2,o2,A2,_,Hp.row_cell r2 (i:=0) rfl,expr_Arity_ok ⟨_,rfl,fun g=>?_,fun g=>?_⟩⟩
   ·have g:=of_decide_eq_true g
    rw [eop] at g
    have hy:=wn2.y (by omega)
    have hfin:({ z with y:=y.y - f }:Nd)=shN (-(f:Int)) y:=by
     rw [hz]
     unfold shN
     simp only
     rw [if_pos (show 1 < arI y.op by omega)]
     rfl
    obtain⟨b3,o3,ha3,hp⟩:=V'.put encN_len (x':={ z with y:=y.y - f }) (k:=2) (vs:=[vi (y.y - f)]) hz1 (Nat.succ_pos 0) (show 2+1≤6 by decide) rfl
    refine⟨b2,o2,A2,_,Hp.row_cell r2 (i:=2) rfl,_,isW (by rw [ey];unfold InR;omega),b3,o3,⟨ha3,A2.2⟩,?_⟩
    rw [ey]
    refine hp _ fun h67 V67=>hJ h67 ?_
    rw [List.set_set,hfin] at V67
    exact V67
   ·have g:=of_decide_eq_false g
    rw [eop] at g
    have hfin:z=shN (-(f:Int)) y:=by
     rw [hz]
     unfold shN
     simp only
     rw [if_neg (show ¬ 1 < arI y.op by omega)]
    rw [hfin] at V'
    exact hJ h' V'
  clear_value J53
  refine⟨fun g=>?_,fun g=>?_⟩
  ·have g:=of_decide_eq_true g
   have hX:=wn2.x (by omega)
   obtain⟨b3,o3,ha3,hp⟩:=V.put encN_len (x':={ y with x:=y.x - f }) (k:=1) (vs:=[vi (y.x - f)]) hox (Nat.succ_pos 0) (show 1+1≤6 by decide) rfl
   refine⟨b1,o1,A1,_,Hp.row_cell r1 (i:=1) rfl,_,isW (by unfold InR;omega),b3,o3,⟨ha3,A1.2⟩,?_⟩
   refine hp _ fun h50 V50=>hJ53 h50 _ ?_ V50
   unfold shN
   simp only
   rw [if_pos (show 0 < arI y.op by omega)]
   rfl
  ·have g:=of_decide_eq_false g
   refine hJ53 h34 y ?_ ?_
   ·unfold shN
    simp only
    rw [if_neg (show ¬ 0 < arI y.op by omega)]
   ·have:outs.set i y=outs:=by
     refine List.ext_getElem? fun k=>?_
     rw [List.getElem?_set]
     split
     ·rename_i h1;subst h1;rw [if_pos (by omega),hox]
     ·rfl
    rw [this]
    exact V
 ·have hge:i=s.length:=by have:=of_decide_eq_false g;omega
  subst hge
  rw [List.take_of_length_le (by omega),List.take_of_length_le (Nat.le_refl _)] at ht
  rw [ht] at V
  have:=hK a29 c29 h34 V
  rw [List.length_map] at this
  exact this
theorem expr_Join_ok {op:Int}{a2:Option Addr}{m2 c2:Nat}{l2:List Nd}(S:SlP encN h a m l)(S2:SlP encN h a2 m2 l2)(W2:WfL l2)(hm:l.length≤1000000)(hm2:l2.length≤1000000){R:Value→Hp→Prop}
  (hK:∀ a' c' h',NdVec h h' a' c' (joinL op l l2)→R (vsl a' (joinL op l l2).length c') h'):CallOK Tryz.prog 112 [vi op,vsl a m c,vsl a2 m2 c2] h R:=by
 refine ok_expr_Join ?_
 unfold VC_expr_Join
 obtain rfl:=S.1
 obtain rfl:=S2.1
 refine cloneN_ok S hm fun a3 c3 h2 V2=>⟨_,_,_,rfl,_,isW (by unfold InR;omega),?_⟩
 refine⟨fun vs hh=>∃(i:Nat) (a:Option Addr) (c:Nat),vs=[vsl a (l++(l2.take i).map (shN l.length)).length c,vi i]∧i≤l2.length∧NdVec h hh a c (l++(l2.take i).map (shN l.length)),fun vs hh=>l2.length - (vint vs 1).toNat,
  ⟨0,a3,c3,by simp,Nat.zero_le _,by simpa using V2⟩,?_⟩
 rintro vs hh ⟨i,a4,c4,rfl,hi,V⟩
 have hlen:(l++(l2.take i).map (shN l.length)).length=l.length+i:=by simp;omega
 refine⟨_,_,_,_,rfl,fun g=>?_,fun g=>?_⟩
 ·have hlt:i < l2.length:=by have:=of_decide_eq_true g;omega
  have hx:l2[i]?=some l2[i]:=List.getElem?_eq_getElem hlt
  have wn:=W2 _ _ hx
  obtain⟨b,o,ha,hr⟩:=(S2.le V.le0).get encN_len (by decide) hx
  have tk:(l2.take (i+1)).map (shN l.length)=(l2.take i).map (shN l.length)++[shN l.length l2[i]]:=by
   rw [List.take_succ_eq_append_getElem hlt,List.map_append];rfl
  generalize l2[i]=y at *
  refine⟨b,o,⟨ha,by omega,by omega⟩,_,_,_,_,_,_,hr,expr_Arity_ok ⟨_,rfl,?_⟩⟩
  intro J28
  have fin:∀(x' y':Int),x'=(shN (l.length:Int) y).x→y'=(shN (l.length:Int) y).y→∀(b49:Nat),hh b49=none→SemOK Tryz.prog (Builtin.append_ #[26,26] 26 #[(vsl a4 (l++(l2.take i).map (shN l.length)).length c4),(vsl (some (⟨b49,0,none⟩:Addr)) 1 1)]) (Hp.set hh b49 (cellsO [(vi y.op),(vi x'),(vi y'),(vi y.n),(vi y.v.1),(vi y.v.2)] 83)) fun v51 h52=>∃(a53:Option Addr) (n53 c53:Nat),v51=(vsl a53 n53 c53)∧(∃(x55:Int),(IsW x55 ((i:Int)+1))∧((∃(i':Nat) (a:Option Addr) (c:Nat),[vsl a53 n53 c53,vi x55]=[vsl a (l++(l2.take i').map (shN l.length)).length c,vi i']∧i'≤l2.length∧NdVec h h52 a c (l++(l2.take i').map (shN l.length)))∧l2.length - (vint [vsl a53 n53 c53,vi x55] 1).toNat < l2.length - (vint [vsl a4 (l++(l2.take i).map (shN l.length)).length c4,vi i] 1).toNat)):=by
   rintro x' y' rfl rfl b49 hb49
   refine V.app (x:=shN (l.length:Int) y) elNd encN_len one_encN (by omega) (by omega) hb49 fun a' c' h' V'=>⟨_,_,_,rfl,_,isW (by unfold InR;omega),⟨i+1,a',c',?_,by omega,?_⟩,by simp [vint];omega⟩
   ·rw [tk,←List.append_assoc];rfl
   ·rw [tk,←List.append_assoc];exact V'
  have hJ:∀ x',x'=(shN (l.length:Int) y).x→J28 x':=by
   intro x' hx'
   refine expr_Arity_ok ⟨_,rfl,?_⟩
   intro J45
   refine⟨fun g=>?_,fun g=>?_⟩
   ·have g:=of_decide_eq_true g
    have hy:=wn.y (by omega)
    refine⟨_,isW (by unfold InR;omega),fin _ _ hx' ?_⟩
    unfold shN
    simp only
    rw [if_pos (show 1 < arI y.op by omega)]
   ·have g:=of_decide_eq_false g
    refine fin _ _ hx' ?_
    unfold shN
    simp only
    rw [if_neg (show ¬ 1 < arI y.op by omega)]
  clear_value J28
  refine⟨fun g=>?_,fun g=>?_⟩
  ·have g:=of_decide_eq_true g
   have hX:=wn.x (by omega)
   refine⟨_,isW (by unfold InR;omega),hJ _ ?_⟩
   unfold shN
   simp only
   rw [if_pos (show 0 < arI y.op by omega)]
  ·have g:=of_decide_eq_false g
   refine hJ _ ?_
   unfold shN
   simp only
   rw [if_neg (show ¬ 0 < arI y.op by omega)]
 ·have hge:i=l2.length:=by have:=of_decide_eq_false g;omega
  subst hge
  rw [List.take_of_length_le (Nat.le_refl _)] at V hlen ⊢
  refine expr_Arity_ok ⟨_,rfl,?_⟩
  intro J62
  have hJ:∀ y',y'=(if 1 < arI op then((l.length+l2.length:Nat):Int) - 1 else 0)→J62 y':=by
   rintro y' rfl b66 hb66
   intro h67
   exact V.app (x:=⟨op,(l.length:Int) - 1,if 1 < arI op then((l.length+l2.length:Nat):Int) - 1 else 0,0,(0,0)⟩) elNd encN_len one_encN (by omega) (by omega) hb66 fun a' c' h' V'=>⟨_,_,_,rfl,hK a' c' h' V'⟩
  clear_value J62
  refine⟨fun g=>?_,fun g=>?_⟩
  ·have g:=of_decide_eq_true g
   refine⟨_,isW (by unfold InR;omega),hJ _ ?_⟩
   rw [if_pos (show 1 < arI op by omega),hlen]
  ·have g:=of_decide_eq_false g
   refine hJ _ ?_
   rw [if_neg (show ¬ 1 < arI op by omega)]
end
open Go.Txt
structure RdAt (h0 h:Hp)(g:Nat)(s:RS):Prop where
 b:∃ a c,h g=some (cellsO [vsl a s.ws.length c,vi s.deep,ifv (errV s.f)] 150)∧SlB h0 a s.ws.length s.ws∧s.ws.length≤c
 l:h0.le h
 n:h0 g=none
 w:∀ x ∈ s.ws,x.length≤1000000
theorem le_put {h0 h:Hp}{g:Nat}(l:h0.le h)(hg:h0 g=none)(o:Obj):h0.le (h.set g o):=fun b p hb=>by
 rw [Hp.set_other _ _ (fun e=>by rw [e,hg] at hb;cases hb)]
 exact l b p hb
theorem slices_Index_ok {a:Option Addr}{n c:Nat}{l:List Wd}{w:Wd}{h:Hp}(S:SlB h a n l)(hn:n≤1000000){R:Value→Hp→Prop}(hK:R (vi (if w ∈ l then(l.idxOf w:Int) else -1)) h):CallOK Tryz.prog 129 [vsl a n c,vs (bs w)] h R:=by
 refine ok_slices_Index_string_string ?_
 unfold VC_slices_Index_string_string
 have hl:=S.1
 refine⟨fun v hh=>hh=h∧∃ i:Nat,v=[vi i]∧i≤n∧w ∉ l.take i,fun v _=>n - (vint v 0).toNat,⟨rfl,0,rfl,Nat.zero_le _,by simp⟩,?_⟩
 rintro v hh ⟨rfl,i,rfl,hi,hno⟩
 refine⟨i,rfl,fun e=>?_,fun e=>?_⟩
 ·have hlt:i < n:=by have:=of_decide_eq_true e;omega
  obtain⟨b,o,ha,hc⟩:=SlP.get1 S hlt
  refine⟨b,o,⟨ha,by omega,by omega⟩,_,hc,_,rd_eqBs,fun e2=>?_,fun e2=>?_⟩
  ·have e3:=of_decide_eq_true e2
   have hx:l.getD i []=l[i]'(by omega):=by rw [List.getD_eq_getElem?_getD,List.getElem?_eq_getElem (by omega)];rfl
   rw [hx] at e3
   have hm:w ∈ l:=by rw [e3];exact List.getElem_mem _
   have hidx:l.idxOf w=i:=by
    have hsp:l=l.take i++l[i]'(by omega) :: l.drop (i+1):=by rw [←List.drop_eq_getElem_cons,List.take_append_drop]
    rw [hsp,List.idxOf_append,if_neg hno,←e3,List.idxOf_cons_self,List.length_take]
    omega
   rw [if_pos hm,hidx] at hK
   exact hK
  ·have e3:=of_decide_eq_false e2
   have hx:l.getD i []=l[i]'(by omega):=by rw [List.getD_eq_getElem?_getD,List.getElem?_eq_getElem (by omega)];rfl
   rw [hx] at e3
   refine⟨_,isW (by unfold InR;omega),⟨rfl,i+1,rfl,by omega,?_⟩,?_⟩
   ·rw [List.take_succ_eq_append_getElem (by omega)]
    intro hm
    rcases List.mem_append.1 hm with h1|h1
    ·exact hno h1
    ·exact e3 (by simpa using h1)
   ·show n - ((i:Int)+1).toNat < n - (i:Int).toNat
    omega
 ·have hge:i=n:=by have:=of_decide_eq_false e;omega
  rw [hge,List.take_of_length_le (by omega)] at hno
  rw [if_neg hno] at hK
  exact hK
theorem slices_Contains_ok {a:Option Addr}{n c:Nat}{l:List Wd}{w:Wd}{h:Hp}(S:SlB h a n l)(hn:n≤1000000){R:Value→Hp→Prop}(hK:R (vb (decide (w ∈ l))) h):CallOK Tryz.prog 130 [vsl a n c,vs (bs w)] h R:=by
 refine ok_slices_Contains_string_string ?_
 unfold VC_slices_Contains_string_string
 refine slices_Index_ok S hn ⟨_,rfl,?_⟩
 have:decide ((if w ∈ l then(l.idxOf w:Int) else -1)≥0)=decide (w ∈ l):=by
  by_cases hm:w ∈ l
  ·simp [hm]
  ·simp [hm]
 rw [this]
 exact hK
def At (g:Nat):Nat→Prop:=fun b=>b=g
theorem mut_set (h:Hp)(g:Nat)(o:Obj):Mut (At g) h (At g) (h.set g o):=⟨fun b o2 hb ho=>by rw [Hp.set_other _ _ (fun e=>hb e)];exact ho,fun b hb=>.inl hb⟩
theorem rd_block {h:Hp}{g:Nat}{x y z:Value}{T:TypeId}(hb:h g=some (cellsO [x,y,z] T)):h.cell g 0=some x∧h.cell g (0+1)=some y∧h.cell g (0+2)=some z:=⟨cell_cells hb rfl,cell_cells hb rfl,cell_cells hb rfl⟩
theorem rd_put0 {h:Hp}{g:Nat}{x y z x':Value}{T:TypeId}(hb:h g=some (cellsO [x,y,z] T)){K:Hp→Prop}(hK:K (h.set g (cellsO [x',y,z] T))):h.store g 0 [x'] K:=store_cells hb (by simp) hK
theorem rd_put1 {h:Hp}{g:Nat}{x y z y':Value}{T:TypeId}(hb:h g=some (cellsO [x,y,z] T)){K:Hp→Prop}(hK:K (h.set g (cellsO [x,y',z] T))):h.store g (0+1) [y'] K:=store_cells hb (by simp) hK
theorem rd_put2 {h:Hp}{g:Nat}{x y z z':Value}{T:TypeId}(hb:h g=some (cellsO [x,y,z] T)){K:Hp→Prop}(hK:K (h.set g (cellsO [x,y,z'] T))):h.store g (0+2) [z'] K:=store_cells hb (by simp) hK
theorem slb_nil (h:Hp):SlB h none 0 []:=⟨rfl,(OwnS.nil h 9 1).row⟩
theorem reader_fail_ok {h0 h:Hp}{g:Nat}{s:RS}(D:RdAt h0 h g s){f:Int}(hf:f≠0){R:Value→Hp→Prop}(hK:∀ h',RdAt h0 h' g (s.fail f)→Mut (At g) h (At g) h'→R (vtup []) h'):CallOK Tryz.prog 128 [vhp g 0,ifv (some (99,vi f))] h R:=by
 obtain⟨a,c,hb,hS,hc⟩:=D.b
 refine ok_query_reader_fail ?_
 unfold VC_query_reader_fail
 refine⟨_,(rd_block hb).2.2,?_⟩
 intro J5
 refine⟨fun e=>?_,fun e=>?_⟩
 ·have e0:s.f=0:=by unfold errV at e;split at e<;>simp_all
  refine rd_put2 hb (rd_put0 (Hp.set_same _ _ _) ?_)
  refine hK _ ⟨⟨none,0,?_,slb_nil _,Nat.le_refl _⟩,le_put (le_put D.l D.n _) D.n _,D.n,fun x hx=>by cases hx⟩ ((mut_set _ _ _).trans (mut_set _ _ _))
  rw [Hp.set_same]
  show _=some (cellsO [vsl none 0 0,vi s.deep,ifv (errV (if s.f=0 then f else s.f))] 150)
  rw [if_pos e0]
  unfold errV
  rw [if_neg hf]
 ·have e0:s.f≠0:=by intro e1;rw [e1] at e;cases e
  refine rd_put0 hb ?_
  refine hK _ ⟨⟨none,0,?_,slb_nil _,Nat.le_refl _⟩,le_put D.l D.n _,D.n,fun x hx=>by cases hx⟩ (mut_set _ _ _)
  rw [Hp.set_same]
  show _=some (cellsO [vsl none 0 0,vi s.deep,ifv (errV (if s.f=0 then f else s.f))] 150)
  rw [if_neg e0]
theorem reader_is_ok {h0 h:Hp}{g:Nat}{s:RS}(D:RdAt h0 h g s){wa:Option Addr}{wn wc:Nat}{l:List Wd}(S:SlB h wa wn l)(hwn:wn≤1000)(hwl:s.ws.length≤1000000){R:Value→Hp→Prop}(hK:∀ h',RdAt h0 h' g (s.is l).2→Mut (At g) h (At g) h'→R (vs (bs (s.is l).1)) h'):CallOK Tryz.prog 83 [vhp g 0,vsl wa wn wc] h R:=by
 obtain⟨a,c,hb,hS,hc⟩:=D.b
 refine ok_query_reader_is ?_
 unfold VC_query_reader_is
 obtain⟨ws,dp,f⟩:=s
 simp only at hb hS hc hwl
 have hcell:=(rd_block hb).1
 cases ws with
 | nil=>
  refine⟨_,_,_,hcell,none,0,0,fun e=>by simp at e,0,0,fun e=>by simp at e,⟨#[]⟩,fun e=>by simp at e,fun v hh=>hh=h∧v=.t (.one (.v (vb false))),fun e=>by simp at e,fun _=>⟨rfl,rfl⟩,?_⟩
  rintro h10 p11 ⟨rfl,e⟩
  cases e
  refine⟨fun _=>hK _ D (Mut.of_le (Hp.le_refl _)),fun e=>by simp at e⟩
 | cons w r=>
  obtain⟨b,o,ha,hc0⟩:=SlP.get1 (SlP.le D.l hS) (i:=0) (by simp)
  have hc1:h.cell b (o+(0:Int).toNat*1)=some (vs (bs w)):=hc0
  refine⟨_,_,_,hcell,_,_,_,fun _=>hcell,b,o,fun _=>⟨ha,by decide,by simp⟩,_,fun _=>hc1,fun v hh=>hh=h∧v=.t (.one (.v (vb (decide (w ∈ l))))),fun _=>slices_Contains_ok S (by omega) ⟨_,rfl,rfl,rfl⟩,fun e=>absurd (by simp;omega) e,?_⟩
  rintro h10 p11 ⟨rfl,e⟩
  cases e
  refine⟨fun e=>?_,fun e=>?_⟩
  ·have hno:w ∉ l:=by
    intro hm
    simp [hm] at e
    omega
   have h1:(⟨w :: r,dp,f⟩:RS).is l=([],⟨w :: r,dp,f⟩):=by unfold RS.is;simp only;rw [if_neg hno]
   rw [h1] at hK
   exact hK _ D (Mut.of_le (Hp.le_refl _))
  ·have hm:w ∈ l:=by
    rcases Decidable.em (w ∈ l) with hm|hm
    ·exact hm
    ·simp [hm] at e
   have h1:(⟨w :: r,dp,f⟩:RS).is l=(w,⟨r,dp,f⟩):=by unfold RS.is;simp only;rw [if_pos hm]
   rw [h1] at hK
   have hsz:szT Tryz.prog 9=1:=by kernel_rfl
   have hr:=rd_slice_l (P:=Tryz.prog) (h:=h10) (t:=145) (e:=9) (by kernel_rfl) (by kernel_rfl) (a:=a) (n:=(w :: r).length) (c:=c) (x:=1) (by decide) (by simp;omega)
   rw [hsz] at hr
   refine⟨_,_,_,hcell,b,o,⟨ha,by decide,by simp⟩,_,hc1,_,_,_,hcell,_,_,_,hr,rd_put0 hb ?_⟩
   have hS2:=SlP.drop encB_len hS (i:=1) (by simp) hc
   exact hK _ ⟨⟨_,_,Hp.set_same _ _ _,⟨rfl,hS2.2⟩,by simp at hc ⊢;omega⟩,le_put D.l D.n _,D.n,fun x hx=>D.w x (List.mem_cons_of_mem _ hx)⟩ (mut_set _ _ _)
theorem RdAt.le {h0 h h':Hp}{g:Nat}{s:RS}(D:RdAt h0 h g s)(l:h.le h'):RdAt h0 h' g s:=by
 obtain⟨a,c,hb,hS,hc⟩:=D.b
 exact⟨⟨a,c,l g _ hb,hS,hc⟩,Hp.le_trans D.l l,D.n,D.w⟩
theorem slb_one (h:Hp)(b:Nat)(w:Wd):SlB (h.set b (cellsO [vs (bs w)] 9)) (some ⟨b,0,none⟩) 1 [w]:=⟨rfl,(OwnS.new h b 9 (sz:=1) (n:=1) [vs (bs w)] rfl (by decide)).row⟩
theorem reader_must_ok {h0 h:Hp}{g:Nat}{s:RS}(D:RdAt h0 h g s)(hwl:s.ws.length≤1000000){w:Wd}{R:Value→Hp→Prop}(hK:∀ h',RdAt h0 h' g (s.must w)→Mut (At g) h (At g) h'→R (vtup []) h'):CallOK Tryz.prog 81 [vhp g 0,vs (bs w)] h R:=by
 refine ok_query_reader_must ?_
 unfold VC_query_reader_must
 intro b1 hb1 h2
 have hl:h.le h2:=Hp.le_set (Hp.le_refl h) hb1 _
 unfold RS.must at hK
 refine reader_is_ok (D.le hl) (slb_one h b1 w) (by decide) hwl fun h4 D4 M4=>⟨_,rfl,_,rd_eqBs (b:=[]),fun e=>?_,fun e=>?_⟩
 ·rw [if_pos (of_decide_eq_true e)] at hK
  exact reader_fail_ok D4 (by decide) fun h5 D5 M5=>⟨rfl,hK h5 D5 (((Mut.of_le hl).trans M4).trans M5)⟩
 ·rw [if_neg (of_decide_eq_false e)] at hK
  exact hK h4 D4 ((Mut.of_le hl).trans M4)
structure NdAt (hB h:Hp)(a:Option Addr)(n:Nat)(l:List Nd):Prop where
 s:SlP encN h a n l
 nw:∀ b o,a=some ⟨b,o,none⟩→hB b=none
theorem NdAt.base {hB hC h:Hp}{a:Option Addr}{n:Nat}{l:List Nd}(N:NdAt hC h a n l)(hh:∀ b,hC b=none→hB b=none):NdAt hB h a n l:=⟨N.s,fun b o e=>hh b (N.nw b o e)⟩
theorem NdAt.mut {hB h h':Hp}{g:Nat}{a:Option Addr}{n:Nat}{l:List Nd}(N:NdAt hB h a n l)(hg:hB g≠none)(M:Mut (At g) h (At g) h'):NdAt hB h' a n l:=by
 have ne:∀ b o,a=some ⟨b,o,none⟩→b≠g:=fun b o e q=>hg (by rw [←q];exact N.nw b o e)
 refine⟨⟨N.s.1,(HasRow.del N.s.2 ne).le fun b o hb=>?_⟩,N.nw⟩
 by_cases e:b=g
 ·subst e;simp [Hp.del] at hb
 ·refine M.keep b o (fun h=>e h) ?_
  simpa [Hp.del,e] using hb
theorem nd_nil (hB h:Hp):NdAt hB h none 0 []:=⟨⟨rfl,(OwnS.nil h 83 6).row⟩,fun b o e=>by cases e⟩
theorem _root_.Go.Vc.Mut.up {h h':Hp}{g:Nat}(M:Mut (At g) h (At g) h')(hg:h' g≠none):∀ b,h' b=none→h b=none:=by
 intro b hb
 cases e:h b with
 | none=>rfl
 | some o=>
  by_cases q:b=g
  ·subst q;exact absurd hb hg
  ·rw [M.keep b o (fun h=>q h) e] at hb;cases hb
theorem le_up {h h':Hp}(l:h.le h'):∀ b,h' b=none→h b=none:=fun b hb=>Hp.none_of_le l hb
theorem query_leaf_ok {h:Hp}(n:Nd){R:Value→Hp→Prop}(hK:∀ a c h',NdAt h h' a 1 [n]→1≤c→h.le h'→R (vsl a 1 c) h'):CallOK Tryz.prog 185 [vag (encN n)] h R:=by
 refine ok_query_leaf ?_
 unfold VC_query_leaf
 intro b1 hb1 h2
 refine hK _ _ _ ⟨⟨rfl,(OwnS.new h b1 83 (sz:=6) (n:=1) (encN n) rfl (by decide)).row⟩,fun b o e=>?_⟩ (by decide) (Hp.le_set (Hp.le_refl h) hb1 _)
 cases e
 exact hb1
theorem RdAt.al {h0 h:Hp}{g:Nat}{s:RS}(D:RdAt h0 h g s):h g≠none:=by
 obtain⟨a,c,hb,_⟩:=D.b
 rw [hb];simp
theorem reader_join_ok {h0 h:Hp}{g:Nat}{s:RS}(D:RdAt h0 h g s){op:Int}{ax ay:Option Addr}{nx ny cx cy:Nat}{x y:List Nd}(X:SlP encN h ax nx x)(Y:SlP encN h ay ny y)(Wy:WfL y)(hx:x.length≤1000)(hy:y.length≤1000){R:Value→Hp→Prop}
  (hK:∀ a c h',RdAt h0 h' g (joinP op x y s).2→NdAt h h' a (joinP op x y s).1.length (joinP op x y s).1→Mut (At g) h (At g) h'→R (vsl a (joinP op x y s).1.length c) h'):CallOK Tryz.prog 165 [vhp g 0,vi op,vsl ax nx cx,vsl ay ny cy] h R:=by
 refine ok_query_reader_join ?_
 unfold VC_query_reader_join
 have hnx:=X.1
 have hny:=Y.1
 unfold joinP at hK
 refine⟨_,isW (by unfold InR;omega),fun e=>?_,fun e=>?_⟩
 ·have e2:=of_decide_eq_true e
  rw [if_pos (by omega)] at hK
  refine reader_fail_ok D (by decide) fun h3 D3 M3=>⟨rfl,query_leaf_ok leafN fun a c h5 N5 _ l5=>⟨_,_,_,rfl,?_⟩⟩
  exact hK a c h5 (D3.le l5) (N5.base (M3.up D3.al)) (M3.trans (Mut.of_le l5))
 ·have e2:=of_decide_eq_false e
  rw [if_neg (by omega)] at hK
  refine expr_Join_ok X Y Wy (by omega) (by omega) fun a' c' h' V=>⟨_,_,_,rfl,?_⟩
  refine hK a' c' h' (D.le V.le0) ⟨V.slp encN_len (by decide),fun b o e=>?_⟩ (Mut.of_le V.le0)
  obtain rfl:=(OwnV.own V).at0 b o e
  exact OwnV.new V b e
end Go.Proofs.YtiflgceoamkmnaaGreatDoor
namespace Go.Txt
open Go.Lib
theorem parse_inv:∀(l:List UInt8) (a u:Nat),parseUint10 a l=.ok u→(∀ c ∈ l,isD c)∧u=valF a l
 | [],a,u,h=>by
  rw [parseUint10] at h
  injection h with h
  exact⟨by simp,h.symm⟩
 | c :: l,a,u,h=>by
  rw [parseUint10] at h
  split at h
  ·rename_i hc
   split at h
   ·cases h
   ·split at h
    ·cases h
    ·obtain⟨h1,h2⟩:=parse_inv l _ u h
     refine⟨fun x hx=>?_,?_⟩
     ·rcases List.mem_cons.1 hx with rfl|hx
      ·exact hc
      ·exact h1 x hx
     ·rw [h2,Nat.mul_comm];rfl
  ·cases h
theorem natF_go {l:List UInt8}(hl:l≠[])(most:Int):natF l most false=natGo most 0 l:=by
 unfold natF
 rw [if_neg]
 rintro(h|⟨h,_⟩)
 ·exact hl h
 ·cases h
theorem natF_eq {l:List UInt8}(hl:l≠[]){most:Int}(hm:0≤most):natF l most false=if (∀ c ∈ l,isD c)∧(valF 0 l:Int)≤most then(valF 0 l:Int) else -1:=by
 rw [natF_go hl]
 exact natGo_spec most l 0 hm
theorem natF_low {l:List UInt8}{most:Int}(hm:0≤most):-1≤natF l most false∧natF l most false≤most:=by
 by_cases hl:l=[]
 ·subst hl;unfold natF;simp;omega
 ·rw [natF_eq hl hm]
  split<;>omega
theorem atoi_digits {c:UInt8}{r:List UInt8}(hc:isD c){v:Int}(h:atoiAll (c :: r)=.ok v):(∀ x ∈ c :: r,isD x)∧v=valF 0 (c :: r):=by
 have hc':=hc
 unfold isD at hc'
 unfold atoiAll at h
 simp only at h
 rw [if_neg (by omega)] at h
 unfold parseMag at h
 rw [if_neg (by simp)] at h
 cases hp:parseUint10 0 (c :: r) with
 | ok u=>
  rw [hp] at h
  simp only at h
  rw [if_neg (show ¬(c.toNat=45∧9223372036854775808 < u) by omega),if_neg (show ¬ c.toNat=45 by omega)] at h
  split at h
  ·cases h
  ·injection h with h
   obtain⟨h1,h2⟩:=parse_inv _ _ _ hp
   exact⟨h1,by rw [←h,h2]⟩
 | range=>rw [hp] at h;cases h
 | _=>rw [hp] at h;cases h
theorem atoi_of_digits {l:List UInt8}(hl:l≠[])(hd:∀ x ∈ l,isD x)(hv:valF 0 l≤1000000000000):atoiAll l=.ok (valF 0 l):=by
 match l,hl with
 | c :: r,hl=>
  have hc:=hd c (List.mem_cons_self ..)
  unfold isD at hc
  have hp:=parse_spec (c :: r) 0 hd (by omega)
  unfold atoiAll
  simp only
  rw [if_neg (by omega)]
  unfold parseMag
  rw [if_neg (by simp),hp]
  simp only
  rw [if_neg (by omega),if_neg (by omega),if_neg (by omega)]
theorem atoi_nat {c:UInt8}{r:List UInt8}{v:Int}(h:atoiAll (c :: r)=.ok v){most:Int}(hm:0≤most):natF (c :: r) most false=if isD c∧v≤most then v else -1:=by
 by_cases hc:isD c
 ·obtain⟨h1,h2⟩:=atoi_digits hc h
  rw [natF_eq (by simp) hm,h2]
  by_cases h3:(valF 0 (c :: r):Int)≤most
  ·rw [if_pos ⟨h1,h3⟩,if_pos ⟨hc,h3⟩]
  ·rw [if_neg (fun e=>h3 e.2),if_neg (fun e=>h3 e.2)]
 ·rw [natF_eq (by simp) hm,if_neg (fun e=>hc (e.1 c (List.mem_cons_self ..))),if_neg (fun e=>hc e.1)]
theorem atoi_none {l:List UInt8}(h:∀ v,atoiAll l≠.ok v){most:Int}(hm:0≤most)(hm2:most≤1000000000000):natF l most false=-1:=by
 by_cases hl:l=[]
 ·subst hl;unfold natF;simp
 ·rw [natF_eq hl hm]
  by_cases h3:(∀ c ∈ l,isD c)∧(valF 0 l:Int)≤most
  ·exact absurd (atoi_of_digits hl h3.1 (by omega)) (h _)
  ·rw [if_neg h3]
end Go.Txt
namespace Go.Proofs.YtiflgceoamkmnaaGreatDoor
open Go Go.Vc Go.Txt
def aggsW:List Wd:=[[],wCount,wCount,wSum,wMin,wMax]
structure TabQ (h:Hp):Prop where
 p:TabP h
 e:TabE h
 f:∃ a c,Hp.cell h 4 0=some (vsl a 4 c)∧SlB h a 4 fieldW
 a:∃ a c,Hp.cell h 0 0=some (vsl a 6 c)∧SlB h a 6 aggsW
theorem TabQ.le {h h':Hp}(T:TabQ h)(l:h.le h'):TabQ h':=by
 obtain⟨p,e,⟨a,c,h1,h2⟩,b,d,h3,h4⟩:=T
 exact⟨p.le l,e.le l,⟨a,c,Hp.cell_le l h1,SlP.le l h2⟩,b,d,Hp.cell_le l h3,SlP.le l h4⟩
structure EnvQ (h0 h:Hp)(g:Nat):Prop where
 t:TabQ h0
 l:h0.le h
 n:h0 g=none
theorem EnvQ.mut {h0 h h':Hp}{g:Nat}(E:EnvQ h0 h g)(M:Mut (At g) h (At g) h'):EnvQ h0 h' g:=
 ⟨E.t,fun b o hb=>M.keep b o (fun e=>by rw [show b=g from e,E.n] at hb;cases hb) (E.l b o hb),E.n⟩
theorem EnvQ.now {h0 h:Hp}{g:Nat}(E:EnvQ h0 h g):TabQ h:=E.t.le E.l
structure ElAt {α:Type}(enc:α→List Value)(h:Hp)(g:Nat)(a:Option Addr)(n:Nat)(l:List α):Prop where
 s:SlP enc h a n l
 ne:∀ b o,a=some ⟨b,o,none⟩→b≠g
theorem ElAt.mut {α:Type}{enc:α→List Value}{h h':Hp}{g:Nat}{a:Option Addr}{n:Nat}{l:List α}(N:ElAt enc h g a n l)(M:Mut (At g) h (At g) h'):ElAt enc h' g a n l:=by
 refine⟨⟨N.s.1,(HasRow.del N.s.2 N.ne).le fun b o hb=>?_⟩,N.ne⟩
 by_cases e:b=g
 ·subst e;simp [Hp.del] at hb
 ·refine M.keep b o (fun h=>e h) ?_
  simpa [Hp.del,e] using hb
theorem RdAt.c0 {h0 h:Hp}{g:Nat}{s:RS}(D:RdAt h0 h g s):∃ a c,h.cell g 0=some (vsl a s.ws.length c):=by
 obtain⟨a,c,hb,_⟩:=D.b
 exact⟨a,c,(rd_block hb).1⟩
theorem RdAt.c1 {h0 h:Hp}{g:Nat}{s:RS}(D:RdAt h0 h g s):h.cell g (0+1)=some (vi s.deep):=by
 obtain⟨a,c,hb,_⟩:=D.b
 exact(rd_block hb).2.1
theorem RdAt.c2 {h0 h:Hp}{g:Nat}{s:RS}(D:RdAt h0 h g s):h.cell g (0+2)=some (ifv (errV s.f)):=by
 obtain⟨a,c,hb,_⟩:=D.b
 exact(rd_block hb).2.2
theorem RdAt.put1 {h0 h:Hp}{g:Nat}{s:RS}(D:RdAt h0 h g s){d:Int}{K:Hp→Prop}(hK:∀ h',RdAt h0 h' g ⟨s.ws,d,s.f⟩→Mut (At g) h (At g) h'→K h'):h.store g (0+1) [vi d] K:=by
 obtain⟨a,c,hb,hS,hc⟩:=D.b
 exact rd_put1 hb (hK _ ⟨⟨a,c,Hp.set_same _ _ _,hS,hc⟩,le_put D.l D.n _,D.n,D.w⟩ (mut_set _ _ _))
theorem RdAt.put2 {h0 h:Hp}{g:Nat}{s:RS}(D:RdAt h0 h g s){f:Int}{K:Hp→Prop}(hK:∀ h',RdAt h0 h' g ⟨s.ws,s.deep,f⟩→Mut (At g) h (At g) h'→K h'):h.store g (0+2) [ifv (errV f)] K:=by
 obtain⟨a,c,hb,hS,hc⟩:=D.b
 exact rd_put2 hb (hK _ ⟨⟨a,c,Hp.set_same _ _ _,hS,hc⟩,le_put D.l D.n _,D.n,D.w⟩ (mut_set _ _ _))
theorem isD_le {c:UInt8}:(decide (((c.toNat:Nat):Int) < 48)=false∧decide (((c.toNat:Nat):Int) > 57)=false)↔isD c:=by
 unfold isD
 constructor
 ·rintro⟨h1,h2⟩
  have h1:=of_decide_eq_false h1
  have h2:=of_decide_eq_false h2
  omega
 ·intro h
  exact⟨decide_eq_false (by omega),decide_eq_false (by omega)⟩
theorem reader_number_ok {h0 h:Hp}{g:Nat}{s:RS}(D:RdAt h0 h g s)(E:EnvQ h0 h g)(hl:s.ws.length≤1000000){most:Int}(hm:0≤most)(hm2:most≤1000000000000){R:Value→Hp→Prop}(hK:∀ h',RdAt h0 h' g (s.number most).2→Mut (At g) h (At g) h'→R (vi (s.number most).1) h'):CallOK Tryz.prog 85 [vhp g 0,vi most] h R:=by
 have hfail:(s.number most)=(0,s.fail 4)→CallOK Tryz.prog 128 [vhp g 0,ifv (some (99,vi 4))] h fun v2 h3=>v2=vtup []∧R (vi 0) h3:=by
  intro e
  rw [e] at hK
  exact reader_fail_ok D (by decide) fun h' D' M=>⟨rfl,hK h' D' M⟩
 obtain⟨a,c,hb,hS,hc⟩:=D.b
 refine ok_query_reader_number ?_
 unfold VC_query_reader_number
 have hcell:=(rd_block hb).1
 have hw:=D.w
 obtain⟨ws,dp,f⟩:=s
 simp only at hb hS hc hcell hw hl
 refine⟨_,_,_,hcell,fun e=>?_,fun e=>?_⟩
 ·have:ws=[]:=by
   have:=of_decide_eq_true e
   exact List.length_eq_zero_iff.1 (by omega)
  subst this
  exact hfail rfl
 cases ws with
 | nil=>simp at e
 | cons w r=>
  obtain⟨b,o,ha,hc0⟩:=SlP.get1 (SlP.le D.l hS) (i:=0) (by simp)
  have hc1:h.cell b (o+(0:Int).toNat*1)=some (vs (bs w)):=hc0
  have hlen:(0:Int) < (((w :: r).length:Nat):Int):=by simp
  have hwl:=hw w (List.mem_cons_self ..)
  refine⟨_,_,_,hcell,b,o,⟨ha,by decide,hlen⟩,_,hc1,?_⟩
  refine strconv_Atoi_ok hwl E.now.e (fun v hv=>?_) fun hn x e=>?_
  ·match w,hv with
   | [],hv=>exact absurd hv (by simp [Lib.atoiAll])
   | c0 :: cs,hv=>
   have hx:Rd Tryz.prog (Instr.index 9 (vs (bs (c0 :: cs))) (vi 0)) h (vk .u8 (c0.toNat:Nat)):=rd_idx (by kernel_rfl) (l:=c0 :: cs) (i:=0) (by decide) (by simp)
   refine⟨_,_,rfl,_,_,_,fun _=>hcell,b,o,fun _=>⟨ha,by decide,hlen⟩,_,fun _=>hc1,_,fun _=>hx,_,_,_,fun _=>hcell,b,o,fun _=>⟨ha,by decide,hlen⟩,_,fun _=>hc1,_,fun _=>hx,?_⟩
   have hnat:=atoi_nat hv hm
   have hnum:(⟨(c0 :: cs) :: r,dp,f⟩:RS).number most=if natF (c0 :: cs) most false < 0 then(0,(⟨(c0 :: cs) :: r,dp,f⟩:RS).fail 4) else(natF (c0 :: cs) most false,⟨r,dp,f⟩):=rfl
   have hcond:(bif (bif (bif (Option.isSome (none:Option (TypeId × Value))) then true else(decide (((c0.toNat:Nat):Int) < 48))) then true else(decide (((c0.toNat:Nat):Int) > 57))) then true else(decide ((v:Int) > most)))=!decide (isD c0∧v≤most):=by
    have hi:=@isD_le c0
    rw [show (decide (v > most))=!decide (v≤most) by rw [cnot];exact decide_eq_decide.2 (by omega)]
    cases h1:decide (((c0.toNat:Nat):Int) < 48)<;>cases h2:decide (((c0.toNat:Nat):Int) > 57)<;>simp only [h1,h2] at hi<;>simp at hi<;>simp [hi]
   rw [hcond]
   refine⟨fun e=>?_,fun e=>?_⟩
   ·have e2:¬(isD c0∧v≤most):=by rw [cnot] at e;exact of_decide_eq_true e
    rw [if_neg e2] at hnat
    rw [hnat,if_pos (by decide)] at hnum
    exact hfail hnum
   ·have e2:isD c0∧v≤most:=by rw [cnot] at e;exact Decidable.not_not.1 (of_decide_eq_false e)
    rw [if_pos e2] at hnat
    obtain⟨_,hv2⟩:=atoi_digits e2.1 hv
    rw [hnat,if_neg (by omega)] at hnum
    rw [hnum] at hK
    have hsz:szT Tryz.prog 9=1:=by kernel_rfl
    have hr:=rd_slice_l (P:=Tryz.prog) (h:=h) (t:=145) (e:=9) (by kernel_rfl) (by kernel_rfl) (a:=a) (n:=((c0 :: cs) :: r).length) (c:=c) (x:=1) (by decide) (by simp;omega)
    rw [hsz] at hr
    refine⟨_,_,_,hcell,_,_,_,hr,rd_put0 hb ?_⟩
    have hS2:=SlP.drop encB_len hS (i:=1) (by simp) hc
    exact hK _ ⟨⟨_,_,Hp.set_same _ _ _,⟨rfl,hS2.2⟩,by simp at hc ⊢;omega⟩,le_put D.l D.n _,D.n,fun x hx=>hw x (List.mem_cons_of_mem _ hx)⟩ (mut_set _ _ _)
  ·have no:∀{p:Prop},Option.isSome (some e)=false→p:=fun q=>by cases q
   refine⟨x,some e,rfl,none,0,0,no,0,0,no,⟨#[]⟩,no,0,no,none,0,0,(fun q=>by cases q),0,0,(fun q=>by cases q),⟨#[]⟩,(fun q=>by cases q),0,(fun q=>by cases q),(fun _=>?_),(fun q=>by cases q)⟩
   have hnat:=atoi_none hn hm hm2
   refine hfail ?_
   show (if natF w most false < 0 then(0,(⟨w :: r,dp,f⟩:RS).fail 4) else(natF w most false,⟨r,dp,f⟩))=_
   rw [hnat,if_pos (by decide)]
structure SOk (n:Nat)(s:RS):Prop where
 good:s.good
 len:s.ws.length < n
 big:s.ws.length≤1000
 d0:0≤s.deep
 d1:s.deep+s.ws.length≤1000000
theorem SOk.goes {n:Nat}{s t:RS}(S:SOk n s)(G:Goes t s):SOk n t:=by
 have h1:=G.len
 have h2:=G.deep
 have:=S.len
 have:=S.big
 have:=S.d0
 have:=S.d1
 exact⟨G.ok,by omega,by omega,by omega,by omega⟩
def Reads (f:FuncId)(P:Ps)(n:Nat):Prop:=∀{h0 h:Hp} {g:Nat} {s:RS},RdAt h0 h g s→EnvQ h0 h g→SOk n s→∀{R:Value→Hp→Prop},(∀ a c h',RdAt h0 h' g (P s).2→NdAt h h' a (P s).1.length (P s).1→Mut (At g) h (At g) h'→R (vsl a (P s).1.length c) h')→CallOK Tryz.prog f [vhp g 0] h R
def Bodied (f:FuncId):Prop:=∃ fn,Tryz.prog.funcs[f]?=some fn∧(fn.name == "runtime.NumGoroutine")=false∧fn.body.isNone=false
theorem inv_of {f:FuncId}(B:Bodied f){g:Nat}{h:Hp}{K:Value→Hp→Prop}(H:CallOK Tryz.prog f [vhp g 0] h K):InvOK Tryz.prog (.func (.func f) #[vhp g 0] #[]) [] h K:=⟨f,_,_,rfl,B,H⟩
theorem reader_down_ok {f:FuncId}{P:Ps}{n:Nat}(B:Bodied f)(F:Reads f P n)(kp:KP P n){h0 h:Hp}{g:Nat}{s:RS}(D:RdAt h0 h g s)(E:EnvQ h0 h g)(S:SOk n s)(hd:s.deep+s.ws.length < 1000000){R:Value→Hp→Prop}(hK:∀ a c h',RdAt h0 h' g (downP P s).2→NdAt h h' a (downP P s).1.length (downP P s).1→Mut (At g) h (At g) h'→R (vsl a (downP P s).1.length c) h'):CallOK Tryz.prog 187 [vhp g 0,.func (.func f) #[vhp g 0] #[]] h R:=by
 refine ok_query_reader_down ?_
 unfold VC_query_reader_down
 have d0:=S.d0
 refine⟨_,D.c1,_,isW (by unfold InR;omega),D.put1 fun h3 D3 M3=>⟨_,D3.c1,?_⟩⟩
 intro J9
 have key:∀(h10:Hp) (u:RS),RdAt h0 h10 g u→Mut (At g) h (At g) h10→SOk n u→downP P s=((P u).1,⟨(P u).2.ws,(P u).2.deep - 1,(P u).2.f⟩)→J9 h10:=by
  intro h10 u D10 M10 Su hP
  rw [hP] at hK
  have k:=kp u Su.good (Nat.le_of_lt Su.len)
  have hdp:=k.deep
  have du:=Su.d0
  have du1:=Su.d1
  have hg:=D.al
  refine inv_of B (F D10 (E.mut M10) Su fun a c h' D' N' M'=>⟨_,_,_,rfl,_,D'.c1,_,isW (by unfold InR;omega),D'.put1 fun h4 D4 M4=>?_⟩)
  exact hK a c h4 D4 ((N'.base (M10.up D10.al)).mut hg M4) ((M10.trans M').trans M4)
 clear_value J9
 refine⟨fun e=>?_,fun e=>?_⟩
 ·have e2:s.deep+1 > 12:=of_decide_eq_true e
  refine reader_fail_ok D3 (by decide) fun h4 D4 M4=>⟨rfl,key h4 _ D4 (M3.trans M4) ⟨RS.fail_good _ _,by have:=S.len;exact Nat.lt_of_le_of_lt (Nat.zero_le _) this,Nat.zero_le _,by show 0≤s.deep+1;omega,by show s.deep+1+((0:Nat):Int)≤1000000;omega⟩ ?_⟩
  unfold downP
  simp only [if_pos e2]
 ·have e2:¬ s.deep+1 > 12:=of_decide_eq_false e
  refine key h3 _ D3 M3 ⟨S.good,S.len,S.big,by show 0≤s.deep+1;omega,by show s.deep+1+(s.ws.length:Int)≤1000000;omega⟩ ?_
  unfold downP
  simp only [if_neg e2]
structure QOk (q:Qy):Prop where
 n1:1≤q.aggs.length
 n2:q.aggs.length≤4
 g:∀ a ∈ q.aggs,1≤a.1∧a.1≤5∧(a.1≠1→exprF a.2=0)∧(a.1=1→a.2=[])
 w:q.wh≠[]→exprF q.wh=0
 b:q.by_≠[]→exprF q.by_=0
 s:1≤q.size∧q.size≤1000
 l:1≤q.slide∧q.slide≤1000
 d:0≤q.delay∧q.delay≤1000
 t:0≤q.late∧q.late≤1000
 r:q.slide≤q.size∧q.size≤4*q.slide
 ga:∀ a ∈ q.aggs,a.1≠1→typedF a.2 (if a.1=2 then 0 else 1)=0
 wa:q.wh≠[]→typedF q.wh 2=0
 ba:q.by_≠[]→typedF q.by_ 0=0
theorem typedF_expr {l:List Nd}{k:Int}(h:typedF l k=0):exprF l=0:=by
 unfold typedF at h
 split at h
 ·rename_i q;exact absurd h q
 ·rename_i q;exact Decidable.not_not.1 q
theorem qok_of {q:Qy}(h:qryF q=0):QOk q:=by
 unfold qryF at h
 split at h
 ·cases h
 rename_i h1
 split at h
 ·rename_i h2;exact absurd h h2
 rename_i h2
 have h2:=firstF_all (Decidable.not_not.1 h2)
 have h3:=firstF_all h
 have ha:∀ a ∈ q.aggs,aggF a=0:=fun a ha=>h2 _ (List.mem_map.2 ⟨a,ha,rfl⟩)
 have hw:=h3 (if q.wh=[] then 0 else typedF q.wh 2) (by simp)
 have hb:=h3 (if q.by_=[] then 0 else typedF q.by_ 0) (by simp)
 have hn:=h3 (numsF q) (by simp)
 have hga:∀ a ∈ q.aggs,1≤a.1∧a.1≤5∧(a.1≠1→typedF a.2 (if a.1=2 then 0 else 1)=0)∧(a.1=1→a.2=[]):=by
  intro a h4
  have h5:=ha a h4
  unfold aggF at h5
  split at h5
  ·cases h5
  ·rename_i h6
   refine⟨by omega,by omega,fun h7=>?_,fun h7=>?_⟩
   ·rw [if_neg h7] at h5;exact h5
   ·exact Decidable.byContradiction fun h8=>h6 (.inr (.inr ⟨h7,h8⟩))
 have hwa:q.wh≠[]→typedF q.wh 2=0:=fun h4=>by rw [if_neg h4] at hw;exact hw
 have hba:q.by_≠[]→typedF q.by_ 0=0:=fun h4=>by rw [if_neg h4] at hb;exact hb
 have hnn:¬(q.size < 1∨q.size > 1000∨q.slide < 1∨q.slide > 1000∨q.delay < 0∨q.delay > 1000∨q.late < 0∨q.late > 1000)∧¬(q.slide > q.size∨q.size > 4*q.slide):=by
  unfold numsF at hn
  split at hn
  ·cases hn
  ·rename_i h4
   split at hn
   ·cases hn
   ·rename_i h5;exact⟨h4,h5⟩
 exact⟨by omega,by omega,fun a h4=>⟨(hga a h4).1,(hga a h4).2.1,fun h5=>typedF_expr ((hga a h4).2.2.1 h5),(hga a h4).2.2.2⟩,fun h4=>typedF_expr (hwa h4),fun h4=>typedF_expr (hba h4),by omega,by omega,by omega,by omega,by omega,fun a h4 h5=>(hga a h4).2.2.1 h5,hwa,hba⟩
end Go.Proofs.YtiflgceoamkmnaaGreatDoor
namespace Go.Proofs.YtiflgceoamkmnaaGreatDoor
open Go Go.Vc
def VC_query_typed (u0:Option Addr)(u1 u2:Nat)(u3:Int)(h:Hp)(R:Value→Hp→Prop):Prop:=
 (CallOK Tryz.prog 118 [vsl u0 u1 u2] h fun v1 h2=>∃ e3,v1=(ifv e3)∧(((Option.isSome e3)=true→R (ifv e3) h2)∧((Option.isSome e3)=false→(CallOK Tryz.prog 119 [vsl u0 u1 u2] h2 fun v5 h6=>∃ x7 e8,v5=(vtup [vi x7,ifv e8])∧(let J11:Option (TypeId × Value)→Prop:=fun e12=>R (ifv e12) h6;(((bif (bif (bif (Option.isNone e8) then(decide (u3≠0)) else false) then(decide (x7≠u3)) else false) then(decide (x7≠0)) else false)=true→(J11 (some (99,(vi 3)))))∧((bif (bif (bif (Option.isNone e8) then(decide (u3≠0)) else false) then(decide (x7≠u3)) else false) then(decide (x7≠0)) else false)=false→(J11 e8))))))))
theorem ok_query_typed {u0 u1 u2 u3 h R}(H:VC_query_typed u0 u1 u2 u3 h R):CallOK Tryz.prog 68 [vsl u0 u1 u2,vi u3] h R:=
 call_of (cfg:=⟨[],[],[]⟩) noNG mixed Tryz.func68 [.one (.v (vsl u0 u1 u2)),.one (.v (vi u3))] (by kernel_rfl) rfl (by kernel_rfl) H
def VC_query_numbers (u0:Option Addr)(u1 u2:Nat)(u3:Option Addr)(u4 u5:Nat)(u6:Option Addr)(u7 u8:Nat)(u9:Int)(u10:Int)(u11:Int)(u12:Int)(h:Hp)(R:Value→Hp→Prop):Prop:=
 (∀ b1,h b1=none→let h2:= Hp.set h b1 (cellsO [vi u9,vi u10] 3);(∃(I4:List Value→Hp→Prop) (m5:List Value→Hp→Nat),I4 [vi 0] h2∧∀ vs6 h7,I4 vs6 h7→∃ x8,vs6=[vi x8]∧(((decide (x8 < ((2:Nat):Int)))=true→(∃ b11 o12,((some (⟨b1,0,none⟩:Addr))=some ⟨b11,o12,none⟩∧(0:Int)≤x8∧x8 < ((2:Nat):Int))∧(∃ x13,(Hp.cell h7 b11 (o12+x8.toNat*1)=some (vi x13))∧(((bif (decide (x13 < 1)) then true else(decide (x13 > 1000)))=true→R (ifv (some (99,(vi 1)))) h7)∧((bif (decide (x13 < 1)) then true else(decide (x13 > 1000)))=false→(∃ x15,(IsW x15 (x8+1))∧(I4 [vi x15] h7∧m5 [vi x15] h7 < m5 vs6 h7)))))))∧((decide (x8 < ((2:Nat):Int)))=false→(∀ b16,h7 b16=none→let h17:= Hp.set h7 b16 (cellsO [vi u11,vi u12] 3);(∃(I19:List Value→Hp→Prop) (m20:List Value→Hp→Nat),I19 [vi 0] h17∧∀ vs21 h22,I19 vs21 h22→∃ x23,vs21=[vi x23]∧(((decide (x23 < ((2:Nat):Int)))=true→(∃ b26 o27,((some (⟨b16,0,none⟩:Addr))=some ⟨b26,o27,none⟩∧(0:Int)≤x23∧x23 < ((2:Nat):Int))∧(∃ x28,(Hp.cell h22 b26 (o27+x23.toNat*1)=some (vi x28))∧(((bif (decide (x28 < 0)) then true else(decide (x28 > 1000)))=true→R (ifv (some (99,(vi 1)))) h22)∧((bif (decide (x28 < 0)) then true else(decide (x28 > 1000)))=false→(∃ x30,(IsW x30 (x23+1))∧(I19 [vi x30] h22∧m20 [vi x30] h22 < m20 vs21 h22)))))))∧((decide (x23 < ((2:Nat):Int)))=false→(∃ x31,((decide (u10 > u9))=false→IsW x31 (4*u10))∧(((bif (decide (u10 > u9)) then true else(decide (u9 > x31)))=true→R (ifv (some (99,(vi 3)))) h22)∧((bif (decide (u10 > u9)) then true else(decide (u9 > x31)))=false→R (ifv none) h22)))))))))))
theorem ok_query_numbers {u0 u1 u2 u3 u4 u5 u6 u7 u8 u9 u10 u11 u12 h R}(H:VC_query_numbers u0 u1 u2 u3 u4 u5 u6 u7 u8 u9 u10 u11 u12 h R):CallOK Tryz.prog 69 [vag [vsl u0 u1 u2,vsl u3 u4 u5,vsl u6 u7 u8,vi u9,vi u10,vi u11,vi u12]] h R:=
 call_of (cfg:=⟨[],[(2,([13],[.one (.int .i64)],[])),(8,([31],[.one (.int .i64)],[]))],[]⟩) noNG mixed Tryz.func69 [.ag [.v (vsl u0 u1 u2),.v (vsl u3 u4 u5),.v (vsl u6 u7 u8),.v (vi u9),.v (vi u10),.v (vi u11),.v (vi u12)]] (by kernel_rfl) rfl (by kernel_rfl) H
def VC_query_Check (u0:Option Addr)(u1 u2:Nat)(u3:Option Addr)(u4 u5:Nat)(u6:Option Addr)(u7 u8:Nat)(u9:Int)(u10:Int)(u11:Int)(u12:Int)(h:Hp)(R:Value→Hp→Prop):Prop:=
 (((bif (decide ((u1:Int) < 1)) then true else(decide ((u1:Int) > 4)))=true→R (ifv (some (99,(vi 2)))) h)∧((bif (decide ((u1:Int) < 1)) then true else(decide ((u1:Int) > 4)))=false→(∃(I3:List Value→Hp→Prop) (m4:List Value→Hp→Nat),I3 [vi 0] h∧∀ vs5 h6,I3 vs5 h6→∃ x7,vs5=[vi x7]∧(((decide (x7 < (u1:Int)))=true→(let J25:Hp→Prop:=fun h26=>(∃ x27,(IsW x27 (x7+1))∧(I3 [vi x27] h26∧m4 [vi x27] h26 < m4 vs5 h6));(∃ b10 o11,(u0=some ⟨b10,o11,none⟩∧(0:Int)≤x7∧x7 < (u1:Int))∧(∃ x12 a13 n13 c13,(Hp.row h6 b10 (o11+x7.toNat*2) 2=some [vi x12,vsl a13 n13 c13])∧(((bif (bif (decide (x12 < 1)) then true else(decide (x12 > 5))) then true else(bif (decide (x12=1)) then(decide ((n13:Int) > 0)) else false))=true→R (ifv (some (99,(vi 3)))) h6)∧((bif (bif (decide (x12 < 1)) then true else(decide (x12 > 5))) then true else(bif (decide (x12=1)) then(decide ((n13:Int) > 0)) else false))=false→(((decide (x12=1))=true→(J25 h6))∧((decide (x12=1))=false→(let J19:Int→Prop:=fun x20=>(CallOK Tryz.prog 68 [vsl a13 n13 c13,vi x20] h6 fun v21 h22=>∃ e23,v21=(ifv e23)∧(((Option.isSome e23)=true→R (ifv e23) h22)∧((Option.isSome e23)=false→(J25 h22))));(((decide (x12=2))=true→(J19 0))∧((decide (x12=2))=false→(J19 1))))))))))))∧((decide (x7 < (u1:Int)))=false→(let J33:Hp→Prop:=fun h34=>(let J40:Hp→Prop:=fun h41=>(CallOK Tryz.prog 69 [vag [vsl u0 u1 u2,vsl u3 u4 u5,vsl u6 u7 u8,vi u9,vi u10,vi u11,vi u12]] h41 fun v42 h43=>∃ e44,v42=(ifv e44)∧R (ifv e44) h43);(((decide ((u7:Int) > 0))=true→(CallOK Tryz.prog 68 [vsl u6 u7 u8,vi 0] h34 fun v35 h36=>∃ e37,v35=(ifv e37)∧(((Option.isSome e37)=true→R (ifv e37) h36)∧((Option.isSome e37)=false→(J40 h36)))))∧((decide ((u7:Int) > 0))=false→(J40 h34))));(((decide ((u4:Int) > 0))=true→(CallOK Tryz.prog 68 [vsl u3 u4 u5,vi 2] h6 fun v28 h29=>∃ e30,v28=(ifv e30)∧(((Option.isSome e30)=true→R (ifv e30) h29)∧((Option.isSome e30)=false→(J33 h29)))))∧((decide ((u4:Int) > 0))=false→(J33 h6)))))))))
theorem ok_query_Check {u0 u1 u2 u3 u4 u5 u6 u7 u8 u9 u10 u11 u12 h R}(H:VC_query_Check u0 u1 u2 u3 u4 u5 u6 u7 u8 u9 u10 u11 u12 h R):CallOK Tryz.prog 34 [vag [vsl u0 u1 u2,vsl u3 u4 u5,vsl u6 u7 u8,vi u9,vi u10,vi u11,vi u12]] h R:=
 call_of (cfg:=⟨[],[(4,([23],[.one (.int .i64)],[]))],[]⟩) noNG mixed Tryz.func34 [.ag [.v (vsl u0 u1 u2),.v (vsl u3 u4 u5),.v (vsl u6 u7 u8),.v (vi u9),.v (vi u10),.v (vi u11),.v (vi u12)]] (by kernel_rfl) rfl (by kernel_rfl) H
def VC_expr_one (u0:Int)(u1:Int)(u2:Int)(u3:Int)(u4:Int)(u5:Int)(h:Hp)(R:Value→Hp→Prop):Prop:=
 (CallOK Tryz.prog 64 [vi u0] h fun v1 h2=>∃ x3,v1=(vi x3)∧(((decide (x3 < 0))=true→R (ifv (some (99,(vi 3)))) h2)∧((decide (x3 < 0))=false→(∃ p5,((decide (u0≠1))=true→Rd Tryz.prog ((eqGuard .neq 41 (.tmp 15) (.tmp 16) (vag [vi u4,vi u5]) (vag [vi 0,vi 0]) >>= fun _=>binOp .neq 41 (vag [vi u4,vi u5]) (vag [vi 0,vi 0]))) h2 (vb p5))∧(((bif (bif (bif (bif (decide (u0≠1)) then p5 else false) then true else(bif (decide (u0≠2)) then(decide (u3≠0)) else false)) then true else(bif (decide (x3 < 2)) then(decide (u2≠0)) else false)) then true else(bif (decide (x3 < 1)) then(decide (u1≠0)) else false))=true→R (ifv (some (99,(vi 3)))) h2)∧((bif (bif (bif (bif (decide (u0≠1)) then p5 else false) then true else(bif (decide (u0≠2)) then(decide (u3≠0)) else false)) then true else(bif (decide (x3 < 2)) then(decide (u2≠0)) else false)) then true else(bif (decide (x3 < 1)) then(decide (u1≠0)) else false))=false→(((bif (decide (u0=2)) then(bif (decide (u3 < 0)) then true else(decide (u3 > 3))) else false)=true→R (ifv (some (99,(vi 1)))) h2)∧((bif (decide (u0=2)) then(bif (decide (u3 < 0)) then true else(decide (u3 > 3))) else false)=false→(CallOK Tryz.prog 117 [vag [vi u4,vi u5]] h2 fun v8 h9=>∃ e10,v8=(ifv e10)∧R (ifv e10) h9)))))))))
theorem ok_expr_one {u0 u1 u2 u3 u4 u5 h R}(H:VC_expr_one u0 u1 u2 u3 u4 u5 h R):CallOK Tryz.prog 151 [vag [vi u0,vi u1,vi u2,vi u3,vi u4,vi u5]] h R:=
 call_of (cfg:=⟨[],[],[]⟩) noNG mixed Tryz.func151 [.ag [.v (vi u0),.v (vi u1),.v (vi u2),.v (vi u3),.v (vi u4),.v (vi u5)]] (by kernel_rfl) rfl (by kernel_rfl) H
def VC_expr_Check (u0:Option Addr)(u1 u2:Nat)(h:Hp)(R:Value→Hp→Prop):Prop:=
 (((decide ((u1:Int) > 40))=true→R (ifv (some (99,(vi 2)))) h)∧((decide ((u1:Int) > 40))=false→(∃(I3:List Value→Hp→Prop) (m4:List Value→Hp→Nat),I3 [vsl none 0 0,vi 0] h∧∀ vs5 h6,I3 vs5 h6→∃ a7 n7 c7 x8,vs5=[vsl a7 n7 c7,vi x8]∧(((decide (x8 < (u1:Int)))=true→(∃ b11 o12,(u0=some ⟨b11,o12,none⟩∧(0:Int)≤x8∧x8 < (u1:Int))∧(∃ x13 x14 x15 x16 x17 x18,(Hp.row h6 b11 (o12+x8.toNat*6) 6=some [vi x13,vi x14,vi x15,vi x16,vi x17,vi x18])∧(CallOK Tryz.prog 151 [vag [vi x13,vi x14,vi x15,vi x16,vi x17,vi x18]] h6 fun v19 h20=>∃ e21,v19=(ifv e21)∧(((Option.isSome e21)=true→R (ifv e21) h20)∧((Option.isSome e21)=false→(CallOK Tryz.prog 64 [vi x13] h20 fun v23 h24=>∃ x25,v23=(vi x25)∧(((decide (x25 > (n7:Int)))=true→R (ifv (some (99,(vi 3)))) h24)∧((decide (x25 > (n7:Int)))=false→(∃ x27,(IsW x27 ((n7:Int) - x25))∧(∃ a28 n28 c28,(Rd Tryz.prog (Instr.sliceAt 50 (vsl a7 n7 c7) (some (vi x27)) none none) h24 (vsl a28 n28 c28))∧(∃ b29 o30,((decide (x25 > 0))=true→(a28=some ⟨b29,o30,none⟩∧(0:Int)≤0∧0 < (n28:Int)))∧(∃ x31,((decide (x25 > 0))=true→Hp.cell h24 b29 (o30+(0:Int).toNat*1)=some (vi x31))∧(∃ b32 o33,(((bif (decide (x25 > 0)) then(decide (x31≠x14)) else false)=false∧(decide (x25 > 1))=true)→(a28=some ⟨b32,o33,none⟩∧(0:Int)≤1∧1 < (n28:Int)))∧(∃ x34,(((bif (decide (x25 > 0)) then(decide (x31≠x14)) else false)=false∧(decide (x25 > 1))=true)→Hp.cell h24 b32 (o33+(1:Int).toNat*1)=some (vi x34))∧(((bif (bif (decide (x25 > 0)) then(decide (x31≠x14)) else false) then true else(bif (decide (x25 > 1)) then(decide (x34≠x15)) else false))=true→R (ifv (some (99,(vi 3)))) h24)∧((bif (bif (decide (x25 > 0)) then(decide (x31≠x14)) else false) then true else(bif (decide (x25 > 1)) then(decide (x34≠x15)) else false))=false→(∃ x36,(IsW x36 ((n7:Int) - x25))∧(∃ a37 n37 c37,(Rd Tryz.prog (Instr.sliceAt 50 (vsl a7 n7 c7) none (some (vi x36)) none) h24 (vsl a37 n37 c37))∧(∀ b38,h24 b38=none→let h39:= Hp.set h24 b38 (cellsO [vi x8] 3);(SemOK Tryz.prog (Builtin.append_ #[50,50] 50 #[vsl a37 n37 c37,(vsl (some (⟨b38,0,none⟩:Addr)) 1 1)]) h39 fun v40 h41=>∃ a42 n42 c42,v40=(vsl a42 n42 c42)∧(∃ x44,(IsW x44 (x8+1))∧(I3 [vsl a42 n42 c42,vi x44] h41∧m4 [vsl a42 n42 c42,vi x44] h41 < m4 vs5 h6)))))))))))))))))))))))∧((decide (x8 < (u1:Int)))=false→(((decide ((n7:Int)≠1))=true→R (ifv (some (99,(vi 3)))) h6)∧((decide ((n7:Int)≠1))=false→R (ifv none) h6)))))))
theorem ok_expr_Check {u0 u1 u2 h R}(H:VC_expr_Check u0 u1 u2 h R):CallOK Tryz.prog 118 [vsl u0 u1 u2] h R:=
 call_of (cfg:=⟨[],[(5,([3,15],[.one (.slice),.one (.int .i64)],[]))],[(14,[0,1,2,3,4,5,6,7,8,9,10,11,12,13,14,15,16,17,18,19,20,21])]⟩) noNG mixed Tryz.func118 [.one (.v (vsl u0 u1 u2))] (by kernel_rfl) rfl (by kernel_rfl) H
def VC_value_Check (u0:Int)(u1:Int)(h:Hp)(R:Value→Hp→Prop):Prop:=
 (let J4:Bool→Prop:=fun p5=>((p5=true→R (ifv none) h)∧(p5=false→R (ifv (some (99,(vi 3)))) h));(((bif (decide (u0=0)) then(decide (u1=0)) else false)=true→(J4 (bif (decide (u0=0)) then(decide (u1=0)) else false)))∧((bif (decide (u0=0)) then(decide (u1=0)) else false)=false→(((bif (bif (decide (u0=1)) then(decide (u1≥(-1000000000))) else false) then(decide (u1≤1000000000)) else false)=true→(J4 (bif (bif (decide (u0=1)) then(decide (u1≥(-1000000000))) else false) then(decide (u1≤1000000000)) else false)))∧((bif (bif (decide (u0=1)) then(decide (u1≥(-1000000000))) else false) then(decide (u1≤1000000000)) else false)=false→(J4 (bif (decide (u0=2)) then(bif (decide (u1=0)) then true else(decide (u1=1))) else false)))))))
theorem ok_value_Check {u0 u1 h R}(H:VC_value_Check u0 u1 h R):CallOK Tryz.prog 117 [vag [vi u0,vi u1]] h R:=
 call_of (cfg:=⟨[],[],[]⟩) noNG mixed Tryz.func117 [.ag [.v (vi u0),.v (vi u1)]] (by kernel_rfl) rfl (by kernel_rfl) H
theorem value_Check_ok {v:Int × Int}{h:Hp}{R:Value→Hp→Prop}(hK:R (ifv (errV (if goodV v then 0 else 3))) h):CallOK Tryz.prog 117 [vag (encV v)] h R:=by
 refine ok_value_Check ?_
 unfold VC_value_Check
 intro J4
 have yes:goodV v→J4 true:=fun hg=>⟨fun _=>by rw [if_pos hg] at hK;exact hK,fun e=>by cases e⟩
 have no:¬ goodV v→J4 false:=fun hg=>⟨fun e=>(by cases e),fun _=>by rw [if_neg hg] at hK;exact hK⟩
 refine⟨fun e=>?_,fun e=>⟨fun e2=>?_,fun e2=>?_⟩⟩
 ·rw [e];exact yes (by unfold goodV;simp [Bool.cond_eq_ite] at e;omega)
 ·rw [e2];exact yes (by unfold goodV;simp [Bool.cond_eq_ite] at e2;omega)
 ·by_cases hg:goodV v
  ·have:(bif (decide (v.1=2)) then(bif (decide (v.2=0)) then true else(decide (v.2=1))) else false)=true:=by
    unfold goodV at hg
    simp [Bool.cond_eq_ite] at e e2 ⊢
    omega
   rw [this];exact yes hg
  ·have:(bif (decide (v.1=2)) then(bif (decide (v.2=0)) then true else(decide (v.2=1))) else false)=false:=by
    unfold goodV at hg
    simp [Bool.cond_eq_ite]
    omega
   rw [this];exact no hg
theorem eq_pair (v:Int × Int):(v=(0,0))=(v.1=0∧v.2=0):=propext ⟨fun h=>by rw [h];exact⟨rfl,rfl⟩,fun h=>Prod.ext h.1 h.2⟩
theorem expr_one_ok {n:Nd}{h:Hp}{R:Value→Hp→Prop}(hK:R (ifv (errV (nodeF n))) h):CallOK Tryz.prog 151 [vag (encN n)] h R:=by
 refine ok_expr_one ?_
 unfold VC_expr_one
 unfold nodeF at hK
 refine expr_Arity_ok ⟨_,rfl,fun q=>?_,fun q=>⟨_,fun _=>rd_neqV (a:=n.v) (b:=(0,0)),fun q2=>?_,fun q2=>⟨fun q3=>?_,fun q3=>value_Check_ok (v:=n.v) ⟨_,rfl,?_⟩⟩⟩⟩
 ·rw [if_pos (of_decide_eq_true q)] at hK;exact hK
 all_goals
  have c1:=of_decide_eq_false q
  simp only [cand,cor,cnot] at *
 ·have c2:=of_decide_eq_true q2
  rw [if_neg c1,if_pos (by simp only [ne_eq,eq_pair] at c2 ⊢;omega)] at hK
  exact hK
 ·have c2:=of_decide_eq_false q2
  have c3:=of_decide_eq_true q3
  rw [if_neg c1,if_neg (by simp only [ne_eq,eq_pair] at c2 ⊢;omega),if_pos c3] at hK
  exact hK
 ·have c2:=of_decide_eq_false q2
  have c3:=of_decide_eq_false q3
  rw [if_neg c1,if_neg (by simp only [ne_eq,eq_pair] at c2 ⊢;omega),if_neg c3] at hK
  by_cases hg:goodV n.v
  ·rw [if_neg (by simp [hg])] at hK
   rw [if_pos hg];exact hK
  ·rw [if_pos hg] at hK
   rw [if_neg hg];exact hK
theorem expr_Check_ok {a:Option Addr}{k c:Nat}{l:List Nd}{h:Hp}{R:Value→Hp→Prop}(S:SlP encN h a k l)(hK:∀ h',h.le h'→R (ifv (errV (exprF l))) h'):CallOK Tryz.prog 118 [vsl a k c] h R:=by
 refine ok_expr_Check ?_
 unfold VC_expr_Check
 have hk:=S.1
 subst hk
 refine⟨fun e=>?_,fun e=>?_⟩
 ·have:exprF l=2:=by unfold exprF;rw [if_pos (by have:=of_decide_eq_true e;omega)]
  rw [this] at hK;exact hK h (Hp.le_refl h)
 have h40:l.length≤40:=by have:=of_decide_eq_false e;omega
 have e1:exprF l=chkGo [] 0 l:=by unfold exprF;rw [if_neg (by omega)]
 rw [e1] at hK
 refine⟨fun vs hh=>∃(i:Nat) (a:Option Addr) (c:Nat) (st:List Int),vs=[vsl a st.length c,vi i]∧i≤l.length∧st.length≤i∧chkGo [] 0 l=chkGo st i (l.drop i)∧OwnV h hh 3 1 a st.length c (st.reverse.map vi),fun vs hh=>l.length - (vint vs 1).toNat,
  ⟨0,none,0,[],rfl,Nat.zero_le _,Nat.le_refl _,rfl,OwnV.nil (Hp.le_refl h) _ _⟩,?_⟩
 rintro vs hh ⟨i,a1,c1,st,rfl,hi,hst,hc,O⟩
 refine⟨_,_,_,_,rfl,fun q=>?_,fun q=>?_⟩
 ·have hlt:i < l.length:=by have:=of_decide_eq_true q;omega
  have hx:l[i]?=some l[i]:=List.getElem?_eq_getElem hlt
  rw [drop_get hlt] at hc
  obtain⟨b,o,ha,hr⟩:=(S.le O.le).get encN_len (by decide) hx
  generalize l[i]=n at *
  refine⟨b,o,⟨ha,by omega,by omega⟩,_,_,_,_,_,_,hr,expr_one_ok (n:=n) ⟨_,rfl,fun q2=>?_,fun q2=>expr_Arity_ok ⟨_,rfl,?_⟩⟩⟩
  ·rw [errV_some] at q2
   have hf:nodeF n≠0:=by simpa using q2
   rw [chk_fault rfl hf] at hc
   rw [hc] at hK;exact hK hh O.le
  rw [errV_some] at q2
  have hf:nodeF n=0:=by simpa using q2
  have har:0≤arI n.op:=nodeF_ar hf
  have SI:SlI hh a1 st.length st.reverse:=by have:=O.sli;exact this
  have hbad:popN n st=none→R (ifv (errV 3)) hh:=fun hp=>by
   rw [chk_none hf hp] at hc
   rw [hc] at hK;exact hK hh O.le
  have hcap:=O.own.cap
  have hgood:∀ s,popN n st=some s→∀ x:Int,x=(st.length:Nat) - arI n.op→∀ K:Value→Hp→Prop,(∀(a46:Option Addr) (n46 c46:Nat) (h45:Hp),OwnV h h45 3 1 a46 n46 c46 ((((i:Int) :: s).reverse).map vi)→n46=s.length+1→K (vsl a46 n46 c46) h45) →
    ∃(a38:Option Addr) (n38 c38:Nat),(Rd Tryz.prog (Instr.sliceAt 50 (vsl a1 st.length c1) none (some (vi x)) none) hh (vsl a38 n38 c38))∧(∀(b42:Nat),hh b42=none→SemOK Tryz.prog (Builtin.append_ #[50,50] 50 #[(vsl a38 n38 c38),(vsl (some (⟨b42,0,none⟩:Addr)) 1 1)]) (Hp.set hh b42 (cellsO [(vi i)] 3)) K):=by
   intro s hs x hx K hK
   rw [hx]
   obtain⟨p1,p2⟩:=popN_some har hs
   rw [←p1]
   refine⟨_,_,_,rd_slice_h (e:=3) (by kernel_rfl) (by kernel_rfl) (by omega) (by omega),fun b42 hb42=>?_⟩
   rw [Int.toNat_natCast]
   have OC:OwnV h hh 3 1 a1 s.length c1 (s.reverse.map vi):=by
    have:=O.cut (m:=s.length) (by omega)
    rw [Nat.mul_one,←List.map_take,p2] at this
    exact this
   refine OwnV.append elInt (OwnV.set hb42 _ OC) (HasRow.new _ _ [vi i] _) (m:=1) rfl (by simp [Value.oneCell']) (by omega) (by omega) fun a2 c2 h2 O2 _ _=>hK _ _ _ _ ?_ rfl
   rw [List.reverse_cons,List.map_append]
   exact O2
  have hnext:∀ s,popN n st=some s→∀(a46:Option Addr) (n46 c46:Nat) (h45:Hp),OwnV h h45 3 1 a46 n46 c46 ((((i:Int) :: s).reverse).map vi)→n46=s.length+1→∃(x48:Int),IsW x48 ((i:Int)+1)∧(∃(i':Nat) (a:Option Addr) (c:Nat) (st:List Int),[vsl a46 n46 c46,vi x48]=[vsl a st.length c,vi i']∧i'≤l.length∧st.length≤i'∧chkGo [] 0 l=chkGo st i' (l.drop i')∧OwnV h h45 3 1 a st.length c (st.reverse.map vi))∧l.length - (vint [vsl a46 n46 c46,vi x48] 1).toNat < l.length - (vint [vsl a1 st.length c1,vi i] 1).toNat:=by
   intro s hs a46 n46 c46 h45 O45 hn
   subst hn
   obtain⟨p1,p2⟩:=popN_some har hs
   refine⟨_,isW (by unfold InR;omega),⟨i+1,a46,c46,(i:Int) :: s,rfl,by omega,by simp;omega,?_,O45⟩,by simp [vint];omega⟩
   rw [hc,chk_some hf hs]
  refine⟨fun q3=>?_,fun q3=>?_⟩
  ·have hlt2:=of_decide_eq_true q3
   have:popN n st=none:=by
    cases hp:popN n st with
    | none=>rfl
    | some s=>have:=(popN_some har hp).1;omega
   exact hbad this
  have hge:=of_decide_eq_false q3
  have hw:∀{K:Int→Prop},K ((st.length:Nat) - arI n.op)→∃ x,IsW x (((st.length:Nat):Int) - arI n.op)∧K x:=fun hk=>⟨_,isW (by unfold InR;omega),hk⟩
  refine hw ?_
  have hsz:szT Tryz.prog 3=1:=by kernel_rfl
  have rdl:=fun(x:Int) (h0:0≤x) (h1:x≤st.length)=>rd_slice_l (P:=Tryz.prog) (h:=hh) (t:=50) (e:=3) (by kernel_rfl) (by kernel_rfl) (a:=a1) (n:=st.length) (c:=c1) h0 h1
  rw [hsz] at rdl
  refine⟨_,_,_,rdl _ (by omega) (by omega),?_⟩
  have SD:=SI.drop (i:=((st.length:Nat) - arI n.op).toNat) (c:=c1) (by omega) hcap
  rcases arI_range har with h0|h0|h0
  ·have hs:popN n st=some st:=by unfold popN;rw [if_pos h0]
   rw [h0]
   refine⟨0,0,fun g=>(by cases g),0,fun g=>(by cases g),0,0,fun g=>(by cases g.2),0,fun g=>(by cases g.2),fun g=>?_,fun _=>⟨_,isW (by unfold InR;omega),hgood st hs _ (by rw [h0]) _ fun a46 n46 c46 h45 O e=>⟨_,_,_,rfl,hnext st hs a46 n46 c46 h45 O e⟩⟩⟩
   exfalso
   simp only [cand,cor] at g
   have:=of_decide_eq_true g
   omega
  ·match st with
   | []=>exfalso;simp at hge;omega
   | z :: s=>
    have hx29:(((z :: s).length:Nat):Int) - arI n.op=(s.length:Nat):=by rw [h0];simp
    rw [hx29] at SD ⊢
    rw [Int.toNat_natCast] at SD ⊢
    have ed:((z :: s).reverse).drop s.length=[z]:=by rw [List.reverse_cons,List.drop_left' (by simp)]
    rw [ed] at SD
    obtain⟨q,p,hq,hcell⟩:=SD.get (i:=0) (by simp)
    rw [h0]
    by_cases hz:z=n.x
    ·have hs:popN n (z :: s)=some s:=by unfold popN;rw [if_neg (by omega),if_pos h0];simp [hz]
     refine⟨q,p,fun g=>⟨hq,by omega,by simp⟩,z,fun g=>hcell,0,0,fun g=>(by cases g.2),0,fun g=>(by cases g.2),fun g=>?_,fun _=>?_⟩
     ·exfalso
      simp only [cand,cor] at g
      have:=of_decide_eq_true g
      omega
     ·exact⟨_,isW (by have:(z :: s).length≤i:=hst;unfold InR;omega),hgood s hs _ hx29.symm _ fun a46 n46 c46 h45 O e=>⟨_,_,_,rfl,hnext s hs a46 n46 c46 h45 O e⟩⟩
    ·have hs:popN n (z :: s)=none:=by unfold popN;rw [if_neg (by omega),if_pos h0];simp [hz]
     have:=hbad hs
     refine⟨q,p,fun g=>⟨hq,by omega,by simp⟩,z,fun g=>hcell,0,0,fun g=>(by cases g.2),0,fun g=>(by cases g.2),fun _=>this,fun g=>?_⟩
     exfalso
     simp only [cand,cor] at g
     have:=of_decide_eq_false g
     omega
  ·match st with
   | []=>exfalso;simp at hge;omega
   | [z]=>exfalso;simp at hge;omega
   | z :: y :: s=>
    have hx29:(((z :: y :: s).length:Nat):Int) - arI n.op=(s.length:Nat):=by rw [h0];simp;omega
    rw [hx29] at SD ⊢
    rw [Int.toNat_natCast] at SD ⊢
    have ed:((z :: y :: s).reverse).drop s.length=[y,z]:=by rw [List.reverse_cons,List.reverse_cons,List.append_assoc,List.drop_left' (by simp)];rfl
    rw [ed] at SD
    have en:(z :: y :: s).length - s.length=2:=by simp;omega
    rw [en] at SD ⊢
    obtain⟨q,p,hq,hcell⟩:=SD.get (i:=0) (by simp)
    obtain⟨q',p',hq',hcell'⟩:=SD.get (i:=1) (by simp)
    rw [h0]
    by_cases hz:y=n.x∧z=n.y
    ·have hs:popN n (z :: y :: s)=some s:=by unfold popN;rw [if_neg (by omega),if_neg (by omega)];simp [hz.1,hz.2]
     refine⟨q,p,fun g=>⟨hq,by omega,by decide⟩,y,fun g=>hcell,q',p',fun g=>⟨hq',by omega,by decide⟩,z,fun g=>hcell',fun g=>?_,fun _=>?_⟩
     ·exfalso
      simp only [cand,cor] at g
      have:=of_decide_eq_true g
      omega
     ·exact⟨_,isW (by have:(z :: y :: s).length≤i:=hst;unfold InR;omega),hgood s hs _ hx29.symm _ fun a46 n46 c46 h45 O e=>⟨_,_,_,rfl,hnext s hs a46 n46 c46 h45 O e⟩⟩
    ·have hs:popN n (z :: y :: s)=none:=by unfold popN;rw [if_neg (by omega),if_neg (by omega)];simp;intro h1 h2;exact hz ⟨h1,h2⟩
     have:=hbad hs
     refine⟨q,p,fun g=>⟨hq,by omega,by decide⟩,y,fun g=>hcell,q',p',fun g=>⟨hq',by omega,by decide⟩,z,fun g=>hcell',fun _=>this,fun g=>?_⟩
     exfalso
     simp only [cand,cor] at g
     have:=of_decide_eq_false g
     omega
 ·have hge:i=l.length:=by have:=of_decide_eq_false q;omega
  subst hge
  rw [List.drop_eq_nil_of_le (Nat.le_refl _),chkGo] at hc
  refine⟨fun q2=>?_,fun q2=>?_⟩
  ·rw [if_neg (by have:=of_decide_eq_true q2;omega)] at hc
   rw [hc] at hK;exact hK hh O.le
  ·rw [if_pos (by have:=of_decide_eq_false q2;omega)] at hc
   rw [hc] at hK;exact hK hh O.le
open Go.Txt
def aggRw:Int→Value→List Value:=fun k v=>[vi k,v]
theorem aggRw_len (k:Int)(v:Value):(aggRw k v).length=2:=rfl
structure QAt (h:Hp)(q:Qy)(a1:Option Addr)(n1:Nat)(a2:Option Addr)(n2:Nat)(a3:Option Addr)(n3:Nat):Prop where
 g:GTab encN aggRw h a1 n1 q.aggs
 w:SlP encN h a2 n2 q.wh
 b:SlP encN h a3 n3 q.by_
theorem QAt.le {h h':Hp}{q:Qy}{a1 a2 a3:Option Addr}{n1 n2 n3:Nat}(Q:QAt h q a1 n1 a2 n2 a3 n3)(l:h.le h'):QAt h' q a1 n1 a2 n2 a3 n3:=⟨Q.g.le l,Q.w.le l,Q.b.le l⟩
abbrev qV (a1:Option Addr)(n1 c1:Nat)(a2:Option Addr)(n2 c2:Nat)(a3:Option Addr)(n3 c3:Nat)(q:Qy):Value:=vag [vsl a1 n1 c1,vsl a2 n2 c2,vsl a3 n3 c3,vi q.size,vi q.slide,vi q.delay,vi q.late]
structure QBig (q:Qy):Prop where
 w:q.wh.length≤1000000
 b:q.by_.length≤1000000
 g:∀ a ∈ q.aggs,a.2.length≤1000000
 n:q.aggs.length≤1000000
theorem query_typed_ok {a:Option Addr}{k c:Nat}{l:List Nd}{kind:Int}{h:Hp}{R:Value→Hp→Prop}(S:SlP encN h a k l)(hl:l.length≤1000000)(hK:∀ h',h.le h'→R (ifv (errV (typedF l kind))) h'):CallOK Tryz.prog 68 [vsl a k c,vi kind] h R:=by
 refine ok_query_typed ?_
 unfold VC_query_typed
 unfold typedF at hK
 refine expr_Check_ok S fun h2 l2=>⟨_,rfl,fun e=>?_,fun e=>?_⟩
 ·rw [errV_some] at e
  have e2:exprF l≠0:=by simpa using e
  rw [if_pos e2] at hK
  exact hK h2 l2
 ·rw [errV_some] at e
  have e2:exprF l=0:=by simpa using e
  rw [if_neg (fun h=>h e2)] at hK
  refine expr_Type_ok (S.le l2) (exprF_ok e2).1 hl fun h6 l6=>⟨_,_,rfl,?_⟩
  have hc:(bif (bif (bif (Option.isNone (errV (typE l).2)) then(decide ((kind:Int)≠0)) else false) then(decide (((typE l).1:Int)≠kind)) else false) then(decide (((typE l).1:Int)≠0)) else false)=decide ((((typE l).2=0∧kind≠0)∧(typE l).1≠kind)∧(typE l).1≠0):=by
   rw [errV_none,cand,cand,cand]
  rw [hc]
  intro J11
  refine⟨fun q=>?_,fun q=>?_⟩
  ·have q:=of_decide_eq_true q
   rw [if_neg (fun h=>h q.1.1.1),if_pos ⟨q.1.1.2,q.1.2,q.2⟩] at hK
   exact hK h6 (Hp.le_trans l2 l6)
  ·have q:=of_decide_eq_false q
   have:=hK h6 (Hp.le_trans l2 l6)
   by_cases h5:(typE l).2≠0
   ·rw [if_pos h5] at this;exact this
   ·have h5:(typE l).2=0:=Decidable.not_not.1 h5
    rw [if_neg (fun h=>h h5),if_neg (fun h=>q ⟨⟨⟨h5,h.1⟩,h.2.1⟩,h.2.2⟩)] at this
    show R (ifv (errV (typE l).2)) h6
    rw [h5];exact this
theorem cell_lit2 (h:Hp)(b:Nat)(x y:Int)(T:TypeId){i:Nat}(hi:i < 2):(h.set b (cellsO [vi x,vi y] T)).cell b (0+(i:Int).toNat*1)=some (vi (if i=0 then x else y)):=by
 match i,hi with
 | 0,_=>exact cell_cells (Hp.set_same _ _ _) rfl
 | 1,_=>exact cell_cells (Hp.set_same _ _ _) rfl
theorem query_numbers_ok {q:Qy}{a1:Option Addr}{n1 c1:Nat}{a2:Option Addr}{n2 c2:Nat}{a3:Option Addr}{n3 c3:Nat}{h:Hp}{R:Value→Hp→Prop}(hK:∀ h',h.le h'→R (ifv (errV (numsF q))) h'):CallOK Tryz.prog 69 [qV a1 n1 c1 a2 n2 c2 a3 n3 c3 q] h R:=by
 refine ok_query_numbers ?_
 unfold VC_query_numbers
 intro b1 hb1 h2
 have l2:h.le h2:=Hp.le_set (Hp.le_refl h) hb1 _
 refine⟨fun vs' hh=>hh=h2∧∃ i:Nat,vs'=[vi i]∧i≤2∧(1≤i→1≤q.size∧q.size≤1000)∧(2≤i→1≤q.slide∧q.slide≤1000),fun vs' hh=>2 - (vint vs' 0).toNat,⟨rfl,0,rfl,by omega,by omega,by omega⟩,?_⟩
 rintro vs' hh ⟨rfl,i,rfl,hi,i1,i2⟩
 refine⟨i,rfl,fun e=>?_,fun e=>?_⟩
 ·have hlt:i < 2:=by have:=of_decide_eq_true e;omega
  refine⟨b1,0,⟨rfl,by omega,by omega⟩,_,cell_lit2 h b1 q.size q.slide 3 hlt,?_⟩
  rw [cor]
  refine⟨fun g=>?_,fun g=>?_⟩
  ·have g:=of_decide_eq_true g
   have e1:numsF q=1:=by
    unfold numsF
    rw [if_pos]
    split at g<;>omega
   rw [e1] at hK
   exact hK _ l2
  ·have g:=of_decide_eq_false g
   refine⟨_,isW (by unfold InR;omega),⟨rfl,i+1,rfl,by omega,fun h=>?_,fun h=>?_⟩,by simp [vint];omega⟩
   ·by_cases h0:i=0
    ·rw [if_pos h0] at g;omega
    ·exact i1 (by omega)
   ·have h0:¬ i=0:=by omega
    rw [if_neg h0] at g;omega
 ·have hge:i=2:=by have:=of_decide_eq_false e;omega
  subst hge
  have j1:=i1 (by omega)
  have j2:=i2 (by omega)
  intro b16 hb16 h17
  have l17:h.le h17:=Hp.le_set l2 hb16 _
  refine⟨fun vs' hh=>hh=h17∧∃ i:Nat,vs'=[vi i]∧i≤2∧(1≤i→0≤q.delay∧q.delay≤1000)∧(2≤i→0≤q.late∧q.late≤1000),fun vs' hh=>2 - (vint vs' 0).toNat,⟨rfl,0,rfl,by omega,by omega,by omega⟩,?_⟩
  rintro vs' hh ⟨rfl,i,rfl,hi,i1,i2⟩
  refine⟨i,rfl,fun e=>?_,fun e=>?_⟩
  ·have hlt:i < 2:=by have:=of_decide_eq_true e;omega
   refine⟨b16,0,⟨rfl,by omega,by omega⟩,_,cell_lit2 h2 b16 q.delay q.late 3 hlt,?_⟩
   rw [cor]
   refine⟨fun g=>?_,fun g=>?_⟩
   ·have g:=of_decide_eq_true g
    have e1:numsF q=1:=by
     unfold numsF
     rw [if_pos]
     split at g<;>omega
    rw [e1] at hK
    exact hK _ l17
   ·have g:=of_decide_eq_false g
    refine⟨_,isW (by unfold InR;omega),⟨rfl,i+1,rfl,by omega,fun h=>?_,fun h=>?_⟩,by simp [vint];omega⟩
    ·by_cases h0:i=0
     ·rw [if_pos h0] at g;omega
     ·exact i1 (by omega)
    ·have h0:¬ i=0:=by omega
     rw [if_neg h0] at g;omega
  ·have hge:i=2:=by have:=of_decide_eq_false e;omega
   subst hge
   have j3:=i1 (by omega)
   have j4:=i2 (by omega)
   refine⟨4*q.slide,fun _=>isW (by unfold InR;omega),?_⟩
   rw [cor]
   have hn:numsF q=if q.slide > q.size∨q.size > 4*q.slide then 3 else 0:=by
    unfold numsF
    rw [if_neg (by omega)]
   rw [hn] at hK
   refine⟨fun g=>?_,fun g=>?_⟩
   ·rw [if_pos (of_decide_eq_true g)] at hK
    exact hK _ l17
   ·rw [if_neg (of_decide_eq_false g)] at hK
    exact hK _ l17
theorem take_all {α:Type}{l:List α}{g:α→Int}{i:Nat}(hi:i < l.length)(h:∀ y ∈ l.take i,g y=0)(h2:g l[i]=0):∀ y ∈ l.take (i+1),g y=0:=by
 intro y hy
 rw [List.take_succ_eq_append_getElem hi] at hy
 rcases List.mem_append.1 hy with h3|h3
 ·exact h y h3
 ·rw [List.mem_singleton.1 h3];exact h2
theorem nil_len {α:Type}{l:List α}:l=[]↔l.length=0:=List.length_eq_zero_iff.symm
theorem query_Check_ok {q:Qy}{a1:Option Addr}{n1 c1:Nat}{a2:Option Addr}{n2 c2:Nat}{a3:Option Addr}{n3 c3:Nat}{h:Hp}{R:Value→Hp→Prop}(Q:QAt h q a1 n1 a2 n2 a3 n3)(B:QBig q)(hK:∀ h',h.le h'→R (ifv (errV (qryF q))) h'):CallOK Tryz.prog 34 [qV a1 n1 c1 a2 n2 c2 a3 n3 c3 q] h R:=by
 refine ok_query_Check ?_
 unfold VC_query_Check
 have hn1:=Q.g.len
 have hn2:=Q.w.1
 have hn3:=Q.b.1
 have hB:=B.n
 rw [cor]
 refine⟨fun e=>?_,fun e=>?_⟩
 ·have e:=of_decide_eq_true e
  have:qryF q=2:=by unfold qryF;rw [if_pos (by omega)]
  rw [this] at hK
  exact hK h (Hp.le_refl h)
 have e:=of_decide_eq_false e
 have hq:qryF q=if firstF (q.aggs.map aggF)≠0 then firstF (q.aggs.map aggF) else tailF q:=by unfold qryF;rw [if_neg (by omega)]
 rw [hq] at hK
 clear hq
 refine⟨fun vs' hh=>h.le hh∧∃ i:Nat,vs'=[vi i]∧i≤n1∧∀ y ∈ q.aggs.take i,aggF y=0,fun vs' hh=>n1 - (vint vs' 0).toNat,⟨Hp.le_refl h,0,rfl,Nat.zero_le _,by simp⟩,?_⟩
 rintro vs' hh ⟨lh,i,rfl,hi,hz⟩
 refine⟨i,rfl,fun g=>?_,fun g=>?_⟩
 ·have hlt:i < n1:=by have:=of_decide_eq_true g;omega
  have hlt2:i < q.aggs.length:=by omega
  have hx:q.aggs[i]?=some q.aggs[i]:=List.getElem?_eq_getElem hlt2
  have hbig:=B.g _ (List.mem_of_getElem? hx)
  have hall:=@take_all _ q.aggs aggF i hlt2 hz
  generalize q.aggs[i]=y at hx hbig hall
  obtain⟨k,l⟩:=y
  obtain⟨b,o,a',c',ha,hrow,hS⟩:=(Q.g.le lh).row aggRw_len (by decide) hx
  have bad:∀ f,f≠0→aggF (k,l)=f→∀ h',h.le h'→R (ifv (errV f)) h':=by
   intro f hf hk h' l'
   have h1:=firstF_at (g:=aggF) hz hx (by rw [hk];exact hf)
   rw [h1,hk,if_pos hf] at hK
   exact hK h' l'
  intro J25
  refine⟨b,o,⟨ha,by omega,by omega⟩,k,a',l.length,c',by rw [Int.toNat_natCast];exact hrow,?_⟩
  have good:aggF (k,l)=0→∀ h',h.le h'→J25 h':=fun hk h' l'=>⟨_,isW (by unfold InR;omega),⟨l',i+1,rfl,by omega,hall hk⟩,by simp [vint];omega⟩
  clear_value J25
  rw [cor,cand,cor]
  have hnil:l≠[]↔(l.length:Int) > 0:=by rw [ne_eq,nil_len];omega
  refine⟨fun g2=>?_,fun g2=>⟨fun g3=>?_,fun g3=>?_⟩⟩
  ·have g2:=of_decide_eq_true g2
   refine bad 3 (by decide) ?_ hh lh
   unfold aggF
   rw [if_pos (by simp only [hnil];omega)]
  ·have g2:=of_decide_eq_false g2
   have g3:=of_decide_eq_true g3
   refine good ?_ hh lh
   unfold aggF
   rw [if_neg (by simp only [hnil];omega),if_pos g3]
  ·have g2:=of_decide_eq_false g2
   have g3:=of_decide_eq_false g3
   have hf:aggF (k,l)=typedF l (if k=2 then 0 else 1):=by
    unfold aggF
    rw [if_neg (by simp only [hnil];omega),if_neg g3]
   intro J19
   have hJ:J19 (if k=2 then 0 else 1):=by
    refine query_typed_ok hS hbig fun h' l'=>⟨_,rfl,fun g4=>?_,fun g4=>?_⟩
    ·rw [errV_some] at g4
     exact bad _ (by simpa using g4) hf h' (Hp.le_trans lh l')
    ·rw [errV_some] at g4
     exact good (by rw [hf];simpa using g4) h' (Hp.le_trans lh l')
   clear_value J19
   refine⟨fun g4=>?_,fun g4=>?_⟩
   ·rw [if_pos (of_decide_eq_true g4)] at hJ;exact hJ
   ·rw [if_neg (of_decide_eq_false g4)] at hJ;exact hJ
 ·have hge:i=n1:=by have:=of_decide_eq_false g;omega
  have hz0:firstF (q.aggs.map aggF)=0:=firstF_zero (by
   intro x hx
   obtain⟨y,hy,rfl⟩:=List.mem_map.1 hx
   exact hz y (by rw [List.take_of_length_le (by omega)];exact hy))
  rw [hz0,if_neg (fun h=>h rfl)] at hK
  unfold tailF at hK
  have Q:=Q.le lh
  intro J33
  have hJ33:∀ h',hh.le h'→(if q.wh=[] then 0 else typedF q.wh 2)=0→J33 h':=by
   intro h' l' hw
   rw [hw,firstF,if_neg (fun h=>h rfl)] at hK
   unfold J33
   intro J40
   have hJ40:∀ h2,h'.le h2→(if q.by_=[] then 0 else typedF q.by_ 0)=0→J40 h2:=by
    intro h2 l2 hb
    rw [hb,firstF,if_neg (fun h=>h rfl)] at hK
    refine query_numbers_ok (q:=q) fun h3 l3=>⟨_,rfl,?_⟩
    have:=hK h3 (Hp.le_trans lh (Hp.le_trans l' (Hp.le_trans l2 l3)))
    rw [firstF,firstF] at this
    by_cases hn:numsF q≠0
    ·rw [if_pos hn] at this;exact this
    ·rw [if_neg hn] at this
     rw [Decidable.not_not.1 hn];exact this
   clear_value J40
   refine⟨fun g2=>?_,fun g2=>?_⟩
   ·have hne:¬ q.by_=[]:=by have:=of_decide_eq_true g2;rw [nil_len];omega
    rw [if_neg hne] at hJ40 hK
    refine query_typed_ok (Q.le l').b B.b fun h2 l2=>⟨_,rfl,fun g4=>?_,fun g4=>?_⟩
    ·rw [errV_some] at g4
     rw [firstF,if_pos (by simpa using g4)] at hK
     exact hK h2 (Hp.le_trans lh (Hp.le_trans l' l2))
    ·rw [errV_some] at g4
     exact hJ40 h2 l2 (by simpa using g4)
   ·have hnil:q.by_=[]:=by have:=of_decide_eq_false g2;rw [nil_len];omega
    exact hJ40 h' (Hp.le_refl h') (if_pos hnil)
  clear_value J33
  refine⟨fun g2=>?_,fun g2=>?_⟩
  ·have hne:¬ q.wh=[]:=by have:=of_decide_eq_true g2;rw [nil_len];omega
   rw [if_neg hne] at hJ33 hK
   refine query_typed_ok Q.w B.w fun h2 l2=>⟨_,rfl,fun g4=>?_,fun g4=>?_⟩
   ·rw [errV_some] at g4
    rw [firstF,if_pos (by simpa using g4)] at hK
    exact hK h2 (Hp.le_trans lh l2)
   ·rw [errV_some] at g4
    exact hJ33 h2 l2 (by simpa using g4)
  ·have hnil:q.wh=[]:=by have:=of_decide_eq_false g2;rw [nil_len];omega
   exact hJ33 hh (Hp.le_refl hh) (if_pos hnil)
end Go.Proofs.YtiflgceoamkmnaaGreatDoor
namespace Go.Vc
open Go
section
variable {α:Type}
def ftE (fs:List (α × (Nat→Prop))):Nat→Prop:=fun b=>∃ x ∈ fs,x.2 b
def ApartL (fs:List (α × (Nat→Prop))):Prop:=fs.Pairwise fun x y=>∀ b,x.2 b→¬ y.2 b
def EachP (P:α→Hp→(Nat→Prop)→Prop)(l:List α)(h:Hp)(F:Nat→Prop):Prop:=
 ∃ fs:List (α × (Nat→Prop)),fs.map Prod.fst=l∧F=ftE fs∧ApartL fs∧∀ x ∈ fs,P x.1 h x.2
variable {P:α→Hp→(Nat→Prop)→Prop}
theorem EachP.fp (fp:∀ x,Fp (P x))(l:List α):Fp (EachP P l) where
 al:=by
  rintro h F ⟨fs,_,rfl,_,H⟩ b ⟨x,hx,hb⟩
  exact(fp x.1).al (H x hx) b hb
 keep:=by
  rintro h h' F ⟨fs,e,rfl,A,H⟩ hk
  exact⟨fs,e,rfl,A,fun x hx=>(fp x.1).keep (H x hx) fun b hb=>hk b ⟨x,hx,hb⟩⟩
theorem EachP.nil (h:Hp):EachP P [] h (fun _=>False):=⟨[],rfl,by funext b;simp [ftE],List.Pairwise.nil,fun x hx=>by cases hx⟩
theorem EachP.perm {l l':List α}{h:Hp}{F:Nat→Prop}(E:EachP P l h F)(p:l'.Perm l):EachP P l' h F:=by
 obtain⟨fs,rfl,rfl,A,H⟩:=E
 have key:∀{m m':List α},m.Perm m'→∀ gs:List (α × (Nat→Prop)),gs.map Prod.fst=m'→∃ gs':List (α × (Nat→Prop)),gs'.map Prod.fst=m∧gs'.Perm gs:=by
  intro m m' q
  induction q with
  | nil=>intro gs e;exact⟨gs,e,List.Perm.refl _⟩
  | cons x q ih=>
   intro gs e
   match gs,e with
   | g :: gs,e=>
    simp only [List.map_cons,List.cons.injEq] at e
    obtain⟨gs',e2,p2⟩:=ih gs e.2
    exact⟨g :: gs',by rw [List.map_cons,e2,e.1],p2.cons g⟩
  | swap x y q=>
   intro gs e
   match gs,e with
   | g1 :: g2 :: gs,e=>
    simp only [List.map_cons,List.cons.injEq] at e
    exact⟨g2 :: g1 :: gs,by simp [e],List.Perm.swap _ _ _⟩
  | trans q1 q2 ih1 ih2=>
   intro gs e
   obtain⟨g1,e1,p1⟩:=ih2 gs e
   obtain⟨g2,e2,p2⟩:=ih1 g1 e1
   exact⟨g2,e2,p2.trans p1⟩
 obtain⟨gs,e,q⟩:=key p fs rfl
 refine⟨gs,e,?_,?_,fun x hx=>H x (q.mem_iff.1 hx)⟩
 ·funext b
  apply propext
  constructor
  ·rintro⟨x,hx,hb⟩;exact⟨x,q.mem_iff.2 hx,hb⟩
  ·rintro⟨x,hx,hb⟩;exact⟨x,q.mem_iff.1 hx,hb⟩
 ·exact(q.pairwise_iff (fun {x y} hxy b hb hb2=>hxy b hb2 hb)).2 A
theorem EachP.cons {l:List α}{x:α}{h:Hp}{F G:Nat→Prop}(E:EachP P l h F)(X:P x h G)(d:∀ b,G b→¬ F b):EachP P (x :: l) h (fun b=>G b∨F b):=by
 obtain⟨fs,rfl,rfl,A,H⟩:=E
 refine⟨(x,G) :: fs,rfl,?_,List.pairwise_cons.2 ⟨fun y hy b hb hb2=>d b hb ⟨y,hy,hb2⟩,A⟩,?_⟩
 ·funext b
  apply propext
  constructor
  ·rintro(hb|⟨y,hy,hb⟩)
   ·exact⟨_,List.mem_cons_self ..,hb⟩
   ·exact⟨y,List.mem_cons_of_mem _ hy,hb⟩
  ·rintro⟨y,hy,hb⟩
   rcases List.mem_cons.1 hy with rfl|hy
   ·exact .inl hb
   ·exact .inr ⟨y,hy,hb⟩
 ·intro y hy
  rcases List.mem_cons.1 hy with rfl|hy
  ·exact X
  ·exact H y hy
theorem EachP.snoc {l:List α}{x:α}{h:Hp}{F G:Nat→Prop}(E:EachP P l h F)(X:P x h G)(d:∀ b,G b→¬ F b):EachP P (l++[x]) h (fun b=>G b∨F b):=(E.cons X d).perm (List.perm_append_comm (l₁:=l) (l₂:=[x]))
theorem EachP.uncons {l:List α}{x:α}{h:Hp}{F:Nat→Prop}(E:EachP P (x :: l) h F):∃ G F',P x h G∧EachP P l h F'∧(∀ b,G b→¬ F' b)∧∀ b,F b↔(G b∨F' b):=by
 obtain⟨fs,e,rfl,A,H⟩:=E
 match fs,e with
 | (y,G) :: fs,e=>
  simp only [List.map_cons,List.cons.injEq] at e
  obtain⟨rfl,rfl⟩:=e
  obtain⟨A1,A2⟩:=List.pairwise_cons.1 A
  refine⟨G,ftE fs,H _ (List.mem_cons_self ..),⟨fs,rfl,rfl,A2,fun z hz=>H z (List.mem_cons_of_mem _ hz)⟩,?_,?_⟩
  ·rintro b hb ⟨z,hz,hb2⟩;exact A1 z hz b hb hb2
  ·intro b
   constructor
   ·rintro⟨z,hz,hb⟩
    rcases List.mem_cons.1 hz with rfl|hz
    ·exact .inl hb
    ·exact .inr ⟨z,hz,hb⟩
   ·rintro(hb|⟨z,hz,hb⟩)
    ·exact⟨_,List.mem_cons_self ..,hb⟩
    ·exact⟨z,List.mem_cons_of_mem _ hz,hb⟩
theorem erase_perm {l:List α}{i:Nat}(hi:i < l.length):(l[i] :: l.eraseIdx i).Perm l:=by
 rw [List.eraseIdx_eq_take_drop_succ]
 have e:l=l.take i++l[i] :: l.drop (i+1):=by rw [←List.drop_eq_getElem_cons,List.take_append_drop]
 have p:=(List.perm_middle (a:=l[i]) (l₁:=l.take i) (l₂:=l.drop (i+1)))
 rw [←e] at p
 exact p.symm
theorem EachP.at (fp:∀ x,Fp (P x)){l:List α}{h:Hp}{F:Nat→Prop}(E:EachP P l h F){i:Nat}{x:α}(hx:l[i]?=some x):∃ G,P x h G∧(∀ b,G b→F b) ∧
  ∀(h':Hp) (G':Nat→Prop) (x':α),Mut G h G' h'→P x' h' G'→∃ F',EachP P (l.set i x') h' F'∧Mut F h F' h':=by
 obtain⟨hi,rfl⟩:=List.getElem?_eq_some_iff.1 hx
 have p:(l[i] :: l.eraseIdx i).Perm l:=erase_perm hi
 obtain⟨G,F1,X,E1,d,hF⟩:=(E.perm p).uncons
 refine⟨G,X,fun b hb=>(hF b).2 (.inl hb),fun h' G' x' M X'=>?_⟩
 obtain⟨k,d'⟩:=M.apart ((EachP.fp fp _).al E1) d
 have E2:=((EachP.fp fp _).keep E1 k).cons X' d'
 have p2:(l.set i x').Perm (x' :: l.eraseIdx i):=by
  have hi2:i < (l.set i x').length:=by rw [List.length_set];exact hi
  have:=erase_perm hi2
  rw [List.getElem_set_self,List.eraseIdx_set_eq] at this
  exact this.symm
 refine⟨_,E2.perm p2,⟨fun b o hb ho=>M.keep b o (fun q=>hb ((hF b).2 (.inl q))) ho,fun b hb=>?_⟩⟩
 rcases hb with hb|hb
 ·rcases M.new b hb with q|q
  ·exact .inl ((hF b).2 (.inl q))
  ·exact .inr q
 ·exact .inl ((hF b).2 (.inr hb))
end
def OwnF (e:TypeId)(sz:Nat)(a:Option Addr)(n c:Nat)(xs:List Value)(h:Hp)(F:Nat→Prop):Prop:=OwnS h e sz a n c xs∧F=fun b=>a=some ⟨b,0,none⟩
theorem OwnF.fp (e:TypeId)(sz:Nat)(a:Option Addr)(n c:Nat)(xs:List Value):Fp (OwnF e sz a n c xs) where
 al:=by
  rintro h F ⟨⟨_,O⟩,rfl⟩ b hb
  rcases O with ⟨ha,_⟩|⟨g,cur,ha,hg,_⟩
  ·rw [ha] at hb;cases hb
  ·rw [ha] at hb;cases hb;rw [hg];simp
 keep:=by
  rintro h h' F ⟨⟨h1,O⟩,rfl⟩ hk
  refine⟨⟨h1,?_⟩,rfl⟩
  rcases O with O|⟨g,cur,ha,hg,O⟩
  ·exact .inl O
  ·exact .inr ⟨g,cur,ha,hk g ha _ hg,O⟩
structure Beside (a:Option Addr)(h h':Hp):Prop where
 keep:∀ b o,h b=some o→a≠some ⟨b,0,none⟩→h' b=some o
theorem Beside.refl (a:Option Addr)(h:Hp):Beside a h h:=⟨fun b o ho _=>ho⟩
theorem Beside.trans {a:Option Addr}{h h' h'':Hp}(x:Beside a h h')(y:Beside a h' h''):Beside a h h'':=⟨fun b o ho hn=>y.keep b o (x.keep b o ho hn) hn⟩
theorem Beside.le {a:Option Addr}{h h':Hp}(l:h.le h'):Beside a h h':=⟨fun b o ho _=>l b o ho⟩
theorem Beside.mut {a:Option Addr}{h h':Hp}(x:Beside a h h'):Mut (fun b=>a=some ⟨b,0,none⟩) h (fun b=>a=some ⟨b,0,none⟩) h':=⟨fun b o hb ho=>x.keep b o ho hb,fun b hb=>.inl hb⟩
section
variable {α:Type}{enc:α→List Value}{sz:Nat}{T:TypeId}{h0 h:Hp}{a:Option Addr}{c:Nat}{l:List α}
theorem Vec.putF (he:∀ x,(enc x).length=sz)(V:Vec enc sz T h0 h a c l){i:Nat}{x x':α}(hx:l[i]?=some x){k:Nat}{vs:List Value}(hv:0 < vs.length)(hk:k+vs.length≤sz)(hx':enc x'=setL (enc x) k vs) :
  ∃ b o,a=some ⟨b,o,none⟩∧∀ K:Hp→Prop,(∀ h',Vec enc sz T h0 h' a c (l.set i x')→Beside a h h'→K h')→h.store b (o+i*sz+k) vs K:=by
 have hi:i < l.length:=(List.getElem?_eq_some_iff.1 hx).1
 have hb:(i+1)*sz≤l.length*sz:=Nat.mul_le_mul_right _ hi
 rw [Nat.succ_mul] at hb
 rcases V.own.2 with ⟨ha,hn,_⟩|⟨g,cur,ha,_⟩
 ·omega
 ·refine⟨g,0,ha,fun K hK=>?_⟩
  rw [Nat.add_assoc]
  refine OwnV.store V (j:=i*sz+k) hv (by omega) ha fun ob V'=>hK _ ?_ ⟨fun b o ho hn=>?_⟩
  ·unfold Vec
   rw [←setL_flat he hk l i x x' hx hx',List.length_set]
   exact V'
  ·have e:b≠g:=fun q=>hn (by rw [ha,q])
   rw [Hp.set_other _ _ e];exact ho
variable {P:Program}
theorem Vec.appF {t ty:TypeId}{bytes:Nat}(E:ElT P t T sz bytes)(he:∀ x,(enc x).length=sz)(h1:∀ x,∀ u ∈ enc x,u.oneCell'=true)(V:Vec enc sz T h0 h a c l)(hb:(l.length+1)*bytes≤140737488355328)(hb2:l.length+1≤140737488355328){x:α}{b:Nat}(hbn:h b=none){K:Value→Hp→Prop}
  (hK:∀ a' c' h',Vec enc sz T h0 h' a' c' (l++[x])→Mut (fun b=>a=some ⟨b,0,none⟩) h (fun b=>a'=some ⟨b,0,none⟩) h'→K (vsl a' (l++[x]).length c') h'):SemOK P (Builtin.append_ #[t,t] ty #[vsl a l.length c,vsl (some ⟨b,0,none⟩) 1 1]) (h.set b (cellsO (enc x) T)) K:=by
 refine OwnV.append E (OwnV.set hbn _ V) (HasRow.new _ _ (enc x) _) (m:=1) (by rw [he,Nat.one_mul]) (h1 x) hb hb2 fun a' c' h' O' hk hn=>?_
 have:=hK a' c' h' (by
  unfold Vec
  rw [List.length_append,List.flatMap_append,List.flatMap_singleton]
  exact O') ⟨fun b' o hb' ho=>hk b' o (by rw [Hp.set_other _ _ (fun q=>by subst q;rw [hbn] at ho;cases ho)];exact ho) hb',fun b' hb'=>by
   rcases hn b' hb' with q|q
   ·exact .inl (by rw [q];exact hb')
   ·right
    unfold Hp.set at q
    split at q
    ·cases q
    ·exact q⟩
 rw [List.length_append] at this
 exact this
theorem Vec.ownF (V:Vec enc sz T h0 h a c l):OwnF T sz a l.length c (l.flatMap enc) h (fun b=>a=some ⟨b,0,none⟩):=⟨V.own,rfl⟩
end
end Go.Vc
namespace Go.Proofs.YtiflgceoamkmnaaGreatDoor
open Go Go.Vc
def VC_batch_is (u0:Option Addr)(u1 u2:Nat)(u3:Option Addr)(u4 u5:Nat)(u6:Option Addr)(u7 u8:Nat)(u9:Int)(u10:Int)(u11:Int)(u12:Int)(u13:Int)(u14:Int)(u15:Int)(u16:Int)(u17:Int)(u18:Int)(u19:Int)(h:Hp)(R:Value→Hp→Prop):Prop:=
 (∃(J1:SV→Hp→Prop),((decide ((u4:Int)=0))=false→(CallOK Tryz.prog 45 [vsl u3 u4 u5,vag [vi u13,vi u14,vi u15,vi u16,vi u17,vi u18,vi u19]] h fun v2 h3=>∃ x4 x5,v2=(vag [vi x4,vi x5])∧J1 (.t (.ag [.v (vi x4),.v (vi x5)])) h3))∧(¬((decide ((u4:Int)=0))=false)→J1 (.t (.ag [.v (vi 0),.v (vi 0)])) h)∧∀ h6 x7 x8,J1 (.t (.ag [.v (vi x7),.v (vi x8)])) h6→(∃(J9:SV→Hp→Prop),((decide ((u4:Int)=0))=false→(CallOK Tryz.prog 32 [vb true] h6 fun v10 h11=>∃ x12 x13,v10=(vag [vi x12,vi x13])∧J9 (.t (.ag [.v (vi x12),.v (vi x13)])) h11))∧(¬((decide ((u4:Int)=0))=false)→J9 (.t (.ag [.v (vi 0),.v (vi 0)])) h6)∧∀ h14 x15 x16,J9 (.t (.ag [.v (vi x15),.v (vi x16)])) h14→(∃ p17,((decide ((u4:Int)=0))=false→Rd Tryz.prog ((eqGuard .eql 41 (.tmp 13) (.tmp 14) (vag [vi x7,vi x8]) (vag [vi x15,vi x16]) >>= fun _=>binOp .eql 41 (vag [vi x7,vi x8]) (vag [vi x15,vi x16]))) h14 (vb p17))∧R (vb (bif (decide ((u4:Int)=0)) then true else p17)) h14)))
theorem ok_batch_is {u0 u1 u2 u3 u4 u5 u6 u7 u8 u9 u10 u11 u12 u13 u14 u15 u16 u17 u18 u19 h R}(H:VC_batch_is u0 u1 u2 u3 u4 u5 u6 u7 u8 u9 u10 u11 u12 u13 u14 u15 u16 u17 u18 u19 h R):CallOK Tryz.prog 70 [vag [vsl u0 u1 u2,vsl u3 u4 u5,vsl u6 u7 u8,vi u9,vi u10,vi u11,vi u12],vag [vi u13,vi u14,vi u15,vi u16,vi u17,vi u18,vi u19]] h R:=
 call_of (cfg:=⟨[],[],[]⟩) noNG mixed Tryz.func70 [.ag [.v (vsl u0 u1 u2),.v (vsl u3 u4 u5),.v (vsl u6 u7 u8),.v (vi u9),.v (vi u10),.v (vi u11),.v (vi u12)],.ag [.v (vi u13),.v (vi u14),.v (vi u15),.v (vi u16),.v (vi u17),.v (vi u18),.v (vi u19)]] (by kernel_rfl) rfl (by kernel_rfl) H
def VC_batch_late (u0:Option Addr)(u1 u2:Nat)(u3:Int)(u4:Int)(u5:Option Addr)(u6 u7:Nat)(u8:Option Addr)(u9 u10:Nat)(u11:Option Addr)(u12 u13:Nat)(u14:Int)(u15:Int)(u16:Int)(u17:Int)(h:Hp)(R:Value→Hp→Prop):Prop:=
 (∃ a1 n1 c1,(Rd Tryz.prog (Instr.sliceAt 69 (vsl u0 u1 u2) none (some (vi u3)) none) h (vsl a1 n1 c1))∧(∃(I3:List Value→Hp→Prop) (m4:List Value→Hp→Nat),I3 [(vi (-1)),vi 0] h∧∀ vs5 h6,I3 vs5 h6→∃ x7 x8,vs5=[vi x7,vi x8]∧(((decide (x8 < (n1:Int)))=true→(∃ b11 o12,(a1=some ⟨b11,o12,none⟩∧(0:Int)≤x8∧x8 < (n1:Int))∧(∃ x13 x14 x15 x16 x17 x18 x19,(Hp.row h6 b11 (o12+x8.toNat*7) 7=some [vi x13,vi x14,vi x15,vi x16,vi x17,vi x18,vi x19])∧(∃ x20,(Rd Tryz.prog (Builtin.max_ #[3,3] 3 #[vi x7,vi x13]) h6 (vi x20))∧(∃ x22,(IsW x22 (x8+1))∧(I3 [vi x20,vi x22] h6∧m4 [vi x20,vi x22] h6 < m4 vs5 h6))))))∧((decide (x8 < (n1:Int)))=false→(∃ x23,((decide (x7≥0))=true→IsW x23 (u4+u14))∧(∃ x24,((decide (x7≥0))=true→IsW x24 (x23+u17))∧(∃ x25,((decide (x7≥0))=true→IsW x25 (x7 - u16))∧R (vb (bif (decide (x7≥0)) then(decide (x24≤x25)) else false)) h6)))))))
theorem ok_batch_late {u0 u1 u2 u3 u4 u5 u6 u7 u8 u9 u10 u11 u12 u13 u14 u15 u16 u17 h R}(H:VC_batch_late u0 u1 u2 u3 u4 u5 u6 u7 u8 u9 u10 u11 u12 u13 u14 u15 u16 u17 h R):CallOK Tryz.prog 71 [vsl u0 u1 u2,vi u3,vi u4,vag [vsl u5 u6 u7,vsl u8 u9 u10,vsl u11 u12 u13,vi u14,vi u15,vi u16,vi u17]] h R:=
 call_of (cfg:=⟨[],[(3,([9,16],[.one (.int .i64),.one (.int .i64)],[]))],[]⟩) noNG mixed Tryz.func71 [.one (.v (vsl u0 u1 u2)),.one (.v (vi u3)),.one (.v (vi u4)),.ag [.v (vsl u5 u6 u7),.v (vsl u8 u9 u10),.v (vsl u11 u12 u13),.v (vi u14),.v (vi u15),.v (vi u16),.v (vi u17)]] (by kernel_rfl) rfl (by kernel_rfl) H
def VC_batch_key (u0:Option Addr)(u1 u2:Nat)(u3:Option Addr)(u4 u5:Nat)(u6:Option Addr)(u7 u8:Nat)(u9:Int)(u10:Int)(u11:Int)(u12:Int)(u13:Int)(u14:Int)(u15:Int)(u16:Int)(u17:Int)(u18:Int)(u19:Int)(h:Hp)(R:Value→Hp→Prop):Prop:=
 (((decide ((u7:Int)=0))=true→(CallOK Tryz.prog 120 [] h fun v1 h2=>∃ x3 x4,v1=(vag [vi x3,vi x4])∧R (vag [vi x3,vi x4]) h2))∧((decide ((u7:Int)=0))=false→(CallOK Tryz.prog 45 [vsl u6 u7 u8,vag [vi u13,vi u14,vi u15,vi u16,vi u17,vi u18,vi u19]] h fun v6 h7=>∃ x8 x9,v6=(vag [vi x8,vi x9])∧R (vag [vi x8,vi x9]) h7)))
theorem ok_batch_key {u0 u1 u2 u3 u4 u5 u6 u7 u8 u9 u10 u11 u12 u13 u14 u15 u16 u17 u18 u19 h R}(H:VC_batch_key u0 u1 u2 u3 u4 u5 u6 u7 u8 u9 u10 u11 u12 u13 u14 u15 u16 u17 u18 u19 h R):CallOK Tryz.prog 72 [vag [vsl u0 u1 u2,vsl u3 u4 u5,vsl u6 u7 u8,vi u9,vi u10,vi u11,vi u12],vag [vi u13,vi u14,vi u15,vi u16,vi u17,vi u18,vi u19]] h R:=
 call_of (cfg:=⟨[],[],[]⟩) noNG mixed Tryz.func72 [.ag [.v (vsl u0 u1 u2),.v (vsl u3 u4 u5),.v (vsl u6 u7 u8),.v (vi u9),.v (vi u10),.v (vi u11),.v (vi u12)],.ag [.v (vi u13),.v (vi u14),.v (vi u15),.v (vi u16),.v (vi u17),.v (vi u18),.v (vi u19)]] (by kernel_rfl) rfl (by kernel_rfl) H
def VC_batch_add (u0:Option Addr)(u1 u2:Nat)(u3:Option Addr)(u4 u5:Nat)(u6:Option Addr)(u7 u8:Nat)(u9:Option Addr)(u10 u11:Nat)(u12:Int)(u13:Int)(u14:Int)(u15:Int)(u16:Int)(u17:Int)(u18:Int)(u19:Int)(u20:Int)(u21:Int)(u22:Int)(h:Hp)(R:Value→Hp→Prop):Prop:=
 (∃(I2:List Value→Hp→Prop) (m3:List Value→Hp→Nat),I2 [vi 0] h∧∀ vs4 h5,I2 vs4 h5→∃ x6,vs4=[vi x6]∧(((decide (x6 < (u4:Int)))=true→(∃ b9 o10,(u3=some ⟨b9,o10,none⟩∧(0:Int)≤x6∧x6 < (u4:Int))∧(∃ x11 a12 n12 c12,(Hp.row h5 b9 (o10+x6.toNat*2) 2=some [vi x11,vsl a12 n12 c12])∧(CallOK Tryz.prog 120 [] h5 fun v13 h14=>∃ x15 x16,v13=(vag [vi x15,vi x16])∧(let J23:Int→Int→Hp→Prop:=fun x39 x40 h41=>(∃ b42 o43,(u0=some ⟨b42,o43,none⟩∧(0:Int)≤x6∧x6 < (u1:Int))∧(∃ x44 x45 x46 x47,(Hp.row h41 b42 (o43+x6.toNat*4) 4=some [vi x44,vi x45,vi x46,vi x47])∧(CallOK Tryz.prog 121 [vag [vi x44,vi x45,vi x46,vi x47],vag [vi x39,vi x40]] h41 fun v48 h49=>∃ x50 x51 x52 x53,v48=(vag [vi x50,vi x51,vi x52,vi x53])∧(∃ b54 o55,(u0=some ⟨b54,o55,none⟩∧(0:Int)≤x6∧x6 < (u1:Int))∧(Hp.store h49 b54 (o55+x6.toNat*4) [vi x50,vi x51,vi x52,vi x53] fun h56=>(∃ x58,(IsW x58 (x6+1))∧(I2 [vi x58] h56∧m3 [vi x58] h56 < m3 vs4 h5)))))));(((decide (x11≠1))=true→(CallOK Tryz.prog 45 [vsl a12 n12 c12,vag [vi u16,vi u17,vi u18,vi u19,vi u20,vi u21,vi u22]] h14 fun v17 h18=>∃ x19 x20,v17=(vag [vi x19,vi x20])∧(J23 x19 x20 h18)))∧((decide (x11≠1))=false→(J23 x15 x16 h14))))))))∧((decide (x6 < (u4:Int)))=false→R (vsl u0 u1 u2) h5)))
theorem ok_batch_add {u0 u1 u2 u3 u4 u5 u6 u7 u8 u9 u10 u11 u12 u13 u14 u15 u16 u17 u18 u19 u20 u21 u22 h R}(H:VC_batch_add u0 u1 u2 u3 u4 u5 u6 u7 u8 u9 u10 u11 u12 u13 u14 u15 u16 u17 u18 u19 u20 u21 u22 h R):CallOK Tryz.prog 76 [vsl u0 u1 u2,vag [vsl u3 u4 u5,vsl u6 u7 u8,vsl u9 u10 u11,vi u12,vi u13,vi u14,vi u15],vag [vi u16,vi u17,vi u18,vi u19,vi u20,vi u21,vi u22]] h R:=
 call_of (cfg:=⟨[],[(2,([13],[.one (.int .i64)],[]))],[(7,[0,1,2,3,4,5,6,7,8,9])]⟩) noNG mixed Tryz.func76 [.one (.v (vsl u0 u1 u2)),.ag [.v (vsl u3 u4 u5),.v (vsl u6 u7 u8),.v (vsl u9 u10 u11),.v (vi u12),.v (vi u13),.v (vi u14),.v (vi u15)],.ag [.v (vi u16),.v (vi u17),.v (vi u18),.v (vi u19),.v (vi u20),.v (vi u21),.v (vi u22)]] (by kernel_rfl) rfl (by kernel_rfl) H
def VC_batch_Answer_1 (u0:Int)(u1:Int)(u2:Int)(u3:Option Addr)(u4 u5:Nat)(u6:Bool)(f_0b f_0o:Nat)(f_1b f_1o:Nat)(h:Hp)(R:Value→Hp→Prop):Prop:=
 (∃ x1,(Hp.cell h f_0b f_0o=some (vi x1))∧(∃ x2 x3,((decide (u0=x1))=true→Hp.row h f_1b f_1o 2=some [vi x2,vi x3])∧(∃ p4,((decide (u0=x1))=true→Rd Tryz.prog ((eqGuard .eql 41 (.tmp 11) (.tmp 12) (vag [vi u1,vi u2]) (vag [vi x2,vi x3]) >>= fun _=>binOp .eql 41 (vag [vi u1,vi u2]) (vag [vi x2,vi x3]))) h (vb p4))∧R (vb (bif (decide (u0=x1)) then p4 else false)) h)))
theorem ok_batch_Answer_1 {u0 u1 u2 u3 u4 u5 u6 f_0b f_0o f_1b f_1o h R}(H:VC_batch_Answer_1 u0 u1 u2 u3 u4 u5 u6 f_0b f_0o f_1b f_1o h R):CallOK Tryz.prog 74 [vag [vi u0,vi u1,vi u2,vsl u3 u4 u5,vb u6],vhp f_0b f_0o,vhp f_1b f_1o] h R:=
 call_of (cfg:=⟨[],[],[]⟩) noNG mixed Tryz.func74 [.ag [.v (vi u0),.v (vi u1),.v (vi u2),.v (vsl u3 u4 u5),.v (vb u6)],.one (.hp f_0b f_0o),.one (.hp f_1b f_1o)] (by kernel_rfl) rfl (by kernel_rfl) H
def VC_batch_Answer_2 (u0:Int)(u1:Int)(u2:Int)(u3:Option Addr)(u4 u5:Nat)(u6:Bool)(u7:Int)(u8:Int)(u9:Int)(u10:Option Addr)(u11 u12:Nat)(u13:Bool)(h:Hp)(R:Value→Hp→Prop):Prop:=
 (((decide (u0≠u7))=true→(∃ x1,(IsW x1 (u0 - u7))∧R (vi x1) h))∧((decide (u0≠u7))=false→(CallOK Tryz.prog 79 [vag [vi u1,vi u2],vag [vi u8,vi u9]] h fun v3 h4=>∃ x5,v3=(vi x5)∧R (vi x5) h4)))
theorem ok_batch_Answer_2 {u0 u1 u2 u3 u4 u5 u6 u7 u8 u9 u10 u11 u12 u13 h R}(H:VC_batch_Answer_2 u0 u1 u2 u3 u4 u5 u6 u7 u8 u9 u10 u11 u12 u13 h R):CallOK Tryz.prog 78 [vag [vi u0,vi u1,vi u2,vsl u3 u4 u5,vb u6],vag [vi u7,vi u8,vi u9,vsl u10 u11 u12,vb u13]] h R:=
 call_of (cfg:=⟨[],[],[]⟩) noNG mixed Tryz.func78 [.ag [.v (vi u0),.v (vi u1),.v (vi u2),.v (vsl u3 u4 u5),.v (vb u6)],.ag [.v (vi u7),.v (vi u8),.v (vi u9),.v (vsl u10 u11 u12),.v (vb u13)]] (by kernel_rfl) rfl (by kernel_rfl) H
def VC_batch_Answer (u0:Option Addr)(u1 u2:Nat)(u3:Option Addr)(u4 u5:Nat)(u6:Option Addr)(u7 u8:Nat)(u9:Int)(u10:Int)(u11:Int)(u12:Int)(u13:Option Addr)(u14 u15:Nat)(h:Hp)(R:Value→Hp→Prop):Prop:=
 (∃(I2:List Value→Hp→Prop) (m3:List Value→Hp→Nat),I2 [vsl none 0 0,vi 0,vi 0] h∧∀ vs4 h5,I2 vs4 h5→∃ a6 n6 c6 x7 x8,vs4=[vsl a6 n6 c6,vi x7,vi x8]∧(((decide (x8 < (u14:Int)))=true→(∃ b11 o12,(u13=some ⟨b11,o12,none⟩∧(0:Int)≤x8∧x8 < (u14:Int))∧(∃ a13 n13 c13,(Hp.cell h5 b11 (o12+x8.toNat*1)=some (vsl a13 n13 c13))∧(∃(I15:List Value→Hp→Prop) (m16:List Value→Hp→Nat),I15 [vsl a6 n6 c6,vi x7,vi 0] h5∧∀ vs17 h18,I15 vs17 h18→∃ a19 n19 c19 x20 x21,vs17=[vsl a19 n19 c19,vi x20,vi x21]∧(((decide (x21 < (n13:Int)))=true→(let J173:Option Addr→Nat→Nat→Int→Hp→Prop:=fun a179 n179 c179 x180 h181=>(∃ x182,(IsW x182 (x21+1))∧(I15 [vsl a179 n179 c179,vi x180,vi x182] h181∧m16 [vsl a179 n179 c179,vi x180,vi x182] h181 < m16 vs17 h18));(∃ b24 o25,(a13=some ⟨b24,o25,none⟩∧(0:Int)≤x21∧x21 < (n13:Int))∧(∃ x26 x27 x28 x29 x30 x31 x32,(Hp.row h18 b24 (o25+x21.toNat*7) 7=some [vi x26,vi x27,vi x28,vi x29,vi x30,vi x31,vi x32])∧(CallOK Tryz.prog 70 [vag [vsl u0 u1 u2,vsl u3 u4 u5,vsl u6 u7 u8,vi u9,vi u10,vi u11,vi u12],vag [vi x26,vi x27,vi x28,vi x29,vi x30,vi x31,vi x32]] h18 fun v33 h34=>∃ p35,v33=(vb p35)∧(((!p35)=true→(J173 a19 n19 c19 x20 h34))∧((!p35)=false→(CallOK Tryz.prog 46 [vi x26,vi u9,vi u10] h34 fun v38 h39=>∃ a40 n40 c40,v38=(vsl a40 n40 c40)∧(∃(I42:List Value→Hp→Prop) (m43:List Value→Hp→Nat),I42 [vsl a19 n19 c19,vi x20,vi 0] h39∧∀ vs44 h45,I42 vs44 h45→∃ a46 n46 c46 x47 x48,vs44=[vsl a46 n46 c46,vi x47,vi x48]∧(((decide (x48 < (n40:Int)))=true→(let J163:Option Addr→Nat→Nat→Int→Hp→Prop:=fun a169 n169 c169 x170 h171=>(∃ x172,(IsW x172 (x48+1))∧(I42 [vsl a169 n169 c169,vi x170,vi x172] h171∧m43 [vsl a169 n169 c169,vi x170,vi x172] h171 < m43 vs44 h45));(∃ b51 o52,(a40=some ⟨b51,o52,none⟩∧(0:Int)≤x48∧x48 < (n40:Int))∧(∃ x53,(Hp.cell h45 b51 (o52+x48.toNat*1)=some (vi x53))∧(∀ b54,h45 b54=none→let h55:= Hp.set h45 b54 (cellsO [vi 0] 3);(Hp.store h55 b54 0 [vi x53] fun h56=>(∃ x57,(Hp.cell h56 b54 0=some (vi x57))∧(CallOK Tryz.prog 71 [vsl a13 n13 c13,vi x21,vi x57,vag [vsl u0 u1 u2,vsl u3 u4 u5,vsl u6 u7 u8,vi u9,vi u10,vi u11,vi u12]] h56 fun v58 h59=>∃ p60,v58=(vb p60)∧((p60=true→(∃ x61,(IsW x61 (x47+1))∧(J163 a46 n46 c46 x61 h59)))∧(p60=false→(CallOK Tryz.prog 72 [vag [vsl u0 u1 u2,vsl u3 u4 u5,vsl u6 u7 u8,vi u9,vi u10,vi u11,vi u12],vag [vi x26,vi x27,vi x28,vi x29,vi x30,vi x31,vi x32]] h59 fun v64 h65=>∃ x66 x67,v64=(vag [vi x66,vi x67])∧(∀ b68,h65 b68=none→let h69:= Hp.set h65 b68 (cellsO [vi 0,vi 0] 41);(Hp.store h69 b68 0 [vi x66,vi x67] fun h70=>(CallOK Tryz.prog 73 [vsl a46 n46 c46,(Value.func (.func 74) #[] #[vhp b54 0,vhp b68 0])] h70 fun v71 h72=>∃ x73,v71=(vi x73)∧(let J146:Option Addr→Nat→Nat→Int→Hp→Prop:=fun a150 n150 c150 x151 h152=>(∃ b153 o154,(a150=some ⟨b153,o154,none⟩∧(0:Int)≤x151∧x151 < (n150:Int))∧(∃ a155 n155 c155,(Hp.cell h152 b153 ((o154+x151.toNat*5)+3)=some (vsl a155 n155 c155))∧(CallOK Tryz.prog 76 [vsl a155 n155 c155,vag [vsl u0 u1 u2,vsl u3 u4 u5,vsl u6 u7 u8,vi u9,vi u10,vi u11,vi u12],vag [vi x26,vi x27,vi x28,vi x29,vi x30,vi x31,vi x32]] h152 fun v156 h157=>∃ a158 n158 c158,v156=(vsl a158 n158 c158)∧(∃ b159 o160,(a150=some ⟨b159,o160,none⟩∧(0:Int)≤x151∧x151 < (n150:Int))∧(Hp.store h157 b159 ((o160+x151.toNat*5)+3) [vsl a158 n158 c158] fun h161=>(J163 a150 n150 c150 x47 h161))))));(((decide (x73 < 0))=true→(∃ x74,(Hp.cell h72 b54 0=some (vi x74))∧(∃ x75 x76,(Hp.row h72 b68 0 2=some [vi x75,vi x76])∧(let J107:Int→Int→Int→Option Addr→Nat→Nat→Bool→Hp→Prop:=fun x133 x134 x135 a136 n136 c136 p137 h138=>(∀ b139,h138 b139=none→let h140:= Hp.set h138 b139 (cellsO [vi x133,vi x134,vi x135,vsl a136 n136 c136,vb p137] 79);(SemOK Tryz.prog (Builtin.append_ #[59,59] 59 #[vsl a46 n46 c46,(vsl (some (⟨b139,0,none⟩:Addr)) 1 1)]) h140 fun v141 h142=>∃ a143 n143 c143,v141=(vsl a143 n143 c143)∧(J146 a143 n143 c143 (n46:Int) h142)));(∃(I78:List Value→Hp→Prop) (m79:List Value→Hp→Nat),I78 [vi 0,vi x74,vi x75,vi x76,vsl none 0 0,vb false] h72∧∀ vs80 h81,I78 vs80 h81→∃ x82 x83 x84 x85 a86 n86 c86 p87,vs80=[vi x82,vi x83,vi x84,vi x85,vsl a86 n86 c86,vb p87]∧(((decide (x82 < (u1:Int)))=true→(∃ b90 o91,(u0=some ⟨b90,o91,none⟩∧(0:Int)≤x82∧x82 < (u1:Int))∧(∃ x92 a93 n93 c93,(Hp.row h81 b90 (o91+x82.toNat*2) 2=some [vi x92,vsl a93 n93 c93])∧(CallOK Tryz.prog 75 [vi x92] h81 fun v94 h95=>∃ x96 x97 x98 x99,v94=(vag [vi x96,vi x97,vi x98,vi x99])∧(∀ b100,h95 b100=none→let h101:= Hp.set h95 b100 (cellsO [vi x96,vi x97,vi x98,vi x99] 139);(SemOK Tryz.prog (Builtin.append_ #[77,77] 77 #[vsl a86 n86 c86,(vsl (some (⟨b100,0,none⟩:Addr)) 1 1)]) h101 fun v102 h103=>∃ a104 n104 c104,v102=(vsl a104 n104 c104)∧(∃ x106,(IsW x106 (x82+1))∧(I78 [vi x106,vi x83,vi x84,vi x85,vsl a104 n104 c104,vb p87] h103∧m79 [vi x106,vi x83,vi x84,vi x85,vsl a104 n104 c104,vb p87] h103 < m79 vs80 h81))))))))∧((decide (x82 < (u1:Int)))=false→(J107 x83 x84 x85 a86 n86 c86 p87 h81))))))))∧((decide (x73 < 0))=false→(J146 a46 n46 c46 x73 h72))))))))))))))))))∧((decide (x48 < (n40:Int)))=false→(J173 a46 n46 c46 x47 h45))))))))))))∧((decide (x21 < (n13:Int)))=false→(∃ x183,(IsW x183 (x8+1))∧(I2 [vsl a19 n19 c19,vi x20,vi x183] h18∧m3 [vsl a19 n19 c19,vi x20,vi x183] h18 < m3 vs4 h5))))))))∧((decide (x8 < (u14:Int)))=false→(CallOK Tryz.prog 77 [vsl a6 n6 c6,(Value.func (.func 78) #[] #[])] h5 fun v184 h185=>v184=(vtup [])∧(∃(I187:List Value→Hp→Prop) (m188:List Value→Hp→Nat),I187 [vsl none 0 0,vi 0] h185∧∀ vs189 h190,I187 vs189 h190→∃ a191 n191 c191 x192,vs189=[vsl a191 n191 c191,vi x192]∧(((decide (x192 < (n6:Int)))=true→(∃ b195 o196,(a6=some ⟨b195,o196,none⟩∧(0:Int)≤x192∧x192 < (n6:Int))∧(∃ x197 x198 x199 a200 n200 c200 p201,(Hp.row h190 b195 (o196+x192.toNat*5) 5=some [vi x197,vi x198,vi x199,vsl a200 n200 c200,vb p201])∧(CallOK Tryz.prog 50 [vag [vi x197,vi x198,vi x199,vsl a200 n200 c200,vb p201]] h190 fun v202 h203=>∃ x204 x205 x206 a207 n207 c207,v202=(vag [vi x204,vi x205,vi x206,vsl a207 n207 c207])∧(∀ b208,h203 b208=none→let h209:= Hp.set h203 b208 (cellsO [vi x204,vi x205,vi x206,vsl a207 n207 c207] 72);(SemOK Tryz.prog (Builtin.append_ #[54,54] 54 #[vsl a191 n191 c191,(vsl (some (⟨b208,0,none⟩:Addr)) 1 1)]) h209 fun v210 h211=>∃ a212 n212 c212,v210=(vsl a212 n212 c212)∧(∃ x214,(IsW x214 (x192+1))∧(I187 [vsl a212 n212 c212,vi x214] h211∧m188 [vsl a212 n212 c212,vi x214] h211 < m188 vs189 h190))))))))∧((decide (x192 < (n6:Int)))=false→R (vtup [vsl a191 n191 c191,vi x7]) h190)))))))
theorem ok_batch_Answer {u0 u1 u2 u3 u4 u5 u6 u7 u8 u9 u10 u11 u12 u13 u14 u15 h R}(H:VC_batch_Answer u0 u1 u2 u3 u4 u5 u6 u7 u8 u9 u10 u11 u12 u13 u14 u15 h R):CallOK Tryz.prog 35 [vag [vsl u0 u1 u2,vsl u3 u4 u5,vsl u6 u7 u8,vi u9,vi u10,vi u11,vi u12],vsl u13 u14 u15] h R:=
 call_of (cfg:=⟨[13,14],[(21,([74],[.one (.int .i64)],[(2,[.int .i64,.int .i64,.int .i64,.slice,.bool])])),(11,([6,7,47],[.one (.slice),.one (.int .i64),.one (.int .i64)],[])),(7,([6,7,30],[.one (.slice),.one (.int .i64),.one (.int .i64)],[])),(4,([6,7,24],[.one (.slice),.one (.int .i64),.one (.int .i64)],[])),(33,([19,110],[.one (.slice),.one (.int .i64)],[]))],[(23,[0,1,2,3,4,5,6,7,8]),(26,[0,1,2,3,4,5,6,7,8,9,10,11,12])]⟩) noNG mixed Tryz.func35 [.ag [.v (vsl u0 u1 u2),.v (vsl u3 u4 u5),.v (vsl u6 u7 u8),.v (vi u9),.v (vi u10),.v (vi u11),.v (vi u12)],.one (.v (vsl u13 u14 u15))] (by kernel_rfl) rfl (by kernel_rfl) H
def VC_slices_IndexFunc_panes_Pane_panes_Pane (u0:Option Addr)(u1 u2:Nat)(u3:Value)(h:Hp)(R:Value→Hp→Prop):Prop:=
 (∃(I2:List Value→Hp→Prop) (m3:List Value→Hp→Nat),I2 [vi 0] h∧∀ vs4 h5,I2 vs4 h5→∃ x6,vs4=[vi x6]∧(((decide (x6 < (u1:Int)))=true→(∃ b9 o10,(u0=some ⟨b9,o10,none⟩∧(0:Int)≤x6∧x6 < (u1:Int))∧(∃ x11 x12 x13 a14 n14 c14 p15,(Hp.row h5 b9 (o10+x6.toNat*5) 5=some [vi x11,vi x12,vi x13,vsl a14 n14 c14,vb p15])∧(InvOK Tryz.prog u3 [vag [vi x11,vi x12,vi x13,vsl a14 n14 c14,vb p15]] h5 fun v16 h17=>∃ p18,v16=(vb p18)∧((p18=true→R (vi x6) h17)∧(p18=false→(∃ x20,(IsW x20 (x6+1))∧(I2 [vi x20] h17∧m3 [vi x20] h17 < m3 vs4 h5))))))))∧((decide (x6 < (u1:Int)))=false→R (vi (-1)) h5)))
theorem ok_slices_IndexFunc_panes_Pane_panes_Pane {u0 u1 u2 u3 h R}(H:VC_slices_IndexFunc_panes_Pane_panes_Pane u0 u1 u2 u3 h R):CallOK Tryz.prog 73 [vsl u0 u1 u2,u3] h R:=
 call_of (cfg:=⟨[],[(2,([8],[.one (.int .i64)],[]))],[]⟩) noNG mixed Tryz.func73 [.one (.v (vsl u0 u1 u2)),.one (.v u3)] (by kernel_rfl) rfl (by kernel_rfl) H
def VC_panes_Pane_Out (u0:Int)(u1:Int)(u2:Int)(u3:Option Addr)(u4 u5:Nat)(u6:Bool)(h:Hp)(R:Value→Hp→Prop):Prop:=
 (let J30:Int→Int→Int→Option Addr→Nat→Nat→Hp→Prop:=fun x41 x42 x43 a44 n44 c44 h45=>R (vag [vi x41,vi x42,vi x43,vsl a44 n44 c44]) h45;(∃(I2:List Value→Hp→Prop) (m3:List Value→Hp→Nat),I2 [vi 0,vi u0,vi u1,vi u2,vsl none 0 0] h∧∀ vs4 h5,I2 vs4 h5→∃ x6 x7 x8 x9 a10 n10 c10,vs4=[vi x6,vi x7,vi x8,vi x9,vsl a10 n10 c10]∧(((decide (x6 < (u4:Int)))=true→(∃ b13 o14,(u3=some ⟨b13,o14,none⟩∧(0:Int)≤x6∧x6 < (u4:Int))∧(∃ x15 x16 x17 x18,(Hp.row h5 b13 (o14+x6.toNat*4) 4=some [vi x15,vi x16,vi x17,vi x18])∧(CallOK Tryz.prog 104 [vag [vi x15,vi x16,vi x17,vi x18]] h5 fun v19 h20=>∃ x21 x22,v19=(vag [vi x21,vi x22])∧(∀ b23,h20 b23=none→let h24:= Hp.set h20 b23 (cellsO [vi x21,vi x22] 41);(SemOK Tryz.prog (Builtin.append_ #[70,70] 70 #[vsl a10 n10 c10,(vsl (some (⟨b23,0,none⟩:Addr)) 1 1)]) h24 fun v25 h26=>∃ a27 n27 c27,v25=(vsl a27 n27 c27)∧(∃ x29,(IsW x29 (x6+1))∧(I2 [vi x29,vi x7,vi x8,vi x9,vsl a27 n27 c27] h26∧m3 [vi x29,vi x7,vi x8,vi x9,vsl a27 n27 c27] h26 < m3 vs4 h5))))))))∧((decide (x6 < (u4:Int)))=false→(J30 x7 x8 x9 a10 n10 c10 h5)))))
theorem ok_panes_Pane_Out {u0 u1 u2 u3 u4 u5 u6 h R}(H:VC_panes_Pane_Out u0 u1 u2 u3 u4 u5 u6 h R):CallOK Tryz.prog 50 [vag [vi u0,vi u1,vi u2,vsl u3 u4 u5,vb u6]] h R:=
 call_of (cfg:=⟨[],[(3,([14],[.one (.int .i64)],[(2,[.int .i64,.int .i64,.int .i64,.slice])]))],[(5,[0,1,2,3,4,5,6,7])]⟩) noNG mixed Tryz.func50 [.ag [.v (vi u0),.v (vi u1),.v (vi u2),.v (vsl u3 u4 u5),.v (vb u6)]] (by kernel_rfl) rfl (by kernel_rfl) H
open Go.Txt
theorem eval_ok {l:List Nd}(hx:exprF l=0){a:Option Addr}{n c:Nat}{h:Hp}(S:SlP encN h a n l){e:EvL}{R:Value→Hp→Prop}(hK:∀ h',h.le h'→R (vag (encV (valE e l))) h'):CallOK Tryz.prog 45 [vsl a n c,vag (encE e)] h R:=by
 obtain⟨O,hl⟩:=exprF_ok hx
 exact expr_Eval_ok S O.wf (by have:=O.pos;omega) (by omega) hK
section
variable {q:Qy}{a1:Option Addr}{n1 c1:Nat}{a2:Option Addr}{n2 c2:Nat}{a3:Option Addr}{n3 c3:Nat}{h:Hp}{R:Value→Hp→Prop}
theorem batch_is_ok {e:EvL}(Q:QAt h q a1 n1 a2 n2 a3 n3)(B:QOk q)(hK:∀ h',h.le h'→R (vb (asksQ q e)) h'):CallOK Tryz.prog 70 [qV a1 n1 c1 a2 n2 c2 a3 n3 c3 q,vag (encE e)] h R:=by
 refine ok_batch_is ?_
 unfold VC_batch_is
 have hn:(decide ((((n2:Nat):Int):Int)=0))=decide (q.wh=[]):=by
  rw [Q.w.1]
  refine decide_eq_decide.2 ⟨fun h=>?_,fun h=>by rw [h];rfl⟩
  exact List.length_eq_zero_iff.1 (by omega)
 rw [hn]
 refine⟨fun x hh=>h.le hh∧(q.wh≠[]→x=.t (.ag [.v (vi (valE e q.wh).1),.v (vi (valE e q.wh).2)])) ,fun e1=>?_,fun e1=>⟨Hp.le_refl h,fun hw=>absurd (decide_eq_false hw) e1⟩,?_⟩
 ·have hw:=of_decide_eq_false e1
  exact eval_ok (B.w hw) Q.w fun h' l'=>⟨_,_,rfl,l',fun _=>rfl⟩
 rintro h6 x7 x8 ⟨l6,e6⟩
 refine⟨fun x hh=>h.le hh∧(q.wh≠[]→x=.t (.ag [.v (vi (truthV true).1),.v (vi (truthV true).2)])),fun e1=>value_Truth_ok ⟨_,_,rfl,l6,fun _=>rfl⟩,fun e1=>⟨l6,fun hw=>absurd (decide_eq_false hw) e1⟩,?_⟩
 rintro h14 x15 x16 ⟨l14,e14⟩
 refine⟨decide (valE e q.wh=truthV true),fun e1=>?_,?_⟩
 ·have hw:=of_decide_eq_false e1
  have e6:=e6 hw
  have e14:=e14 hw
  cases e6
  cases e14
  exact rd_eqV
 ·have:=hK h14 l14
  unfold asksQ at this
  by_cases hw:q.wh=[]
  ·rw [decide_eq_true hw] at this ⊢;exact this
  ·rw [decide_eq_false hw] at this ⊢;exact this
theorem batch_key_ok {e:EvL}(Q:QAt h q a1 n1 a2 n2 a3 n3)(B:QOk q)(hK:∀ h',h.le h'→R (vag (encV (keyQ q e))) h'):CallOK Tryz.prog 72 [qV a1 n1 c1 a2 n2 c2 a3 n3 c3 q,vag (encE e)] h R:=by
 refine ok_batch_key ?_
 unfold VC_batch_key
 unfold keyQ at hK
 have hn:=Q.b.1
 refine⟨fun e1=>value_Null_ok ⟨_,_,rfl,?_⟩,fun e1=>?_⟩
 ·have e1:=of_decide_eq_true e1
  have hb:q.by_=[]:=List.length_eq_zero_iff.1 (by omega)
  have:=hK h (Hp.le_refl h)
  rw [if_pos hb] at this
  exact this
 ·have e1:=of_decide_eq_false e1
  have hb:q.by_≠[]:=fun e2=>e1 (by rw [hn,e2];rfl)
  refine eval_ok (B.b hb) Q.b fun h' l'=>⟨_,_,rfl,?_⟩
  have:=hK h' l'
  rw [if_neg hb] at this
  exact this
theorem batch_late_ok {l:List EvL}{la:Option Addr}{n c:Nat}{i:Nat}{s:Int}(S:SlP encE h la n l)(hi:i≤n)(hc:n≤c)(hn:n≤1048576)(he:∀ e ∈ l,0≤e.1∧e.1≤9999)(hs:-1048576≤s∧s≤1048576)(B:QOk q)(hK:R (vb (lateQ q (farL (l.take i)) s)) h):CallOK Tryz.prog 71 [vsl la n c,vi i,vi s,qV a1 n1 c1 a2 n2 c2 a3 n3 c3 q] h R:=by
 refine ok_batch_late ?_
 unfold VC_batch_late
 have h1:=B.s
 have h2:=B.t
 have h3:=B.d
 have hln:=S.1
 refine⟨la,i,c,?_,?_⟩
 ·have:=rd_slice_h (P:=Tryz.prog) (h:=h) (t:=69) (e:=43) (by kernel_rfl) (by kernel_rfl) (a:=la) (n:=n) (c:=c) (x:=(i:Int)) (by omega) (by omega)
  simpa using this
 have S':=S.take (sz:=7) (fun _=>rfl) hi
 have hfb:∀ j,-1≤farL (l.take j)∧farL (l.take j)≤9999:=by
  intro j
  have key:∀(m:List EvL) (x:Int),(∀ e ∈ m,0≤e.1∧e.1≤9999)→-1≤x→x≤9999→-1≤m.foldl (fun m e=>max m e.1) x∧m.foldl (fun m e=>max m e.1) x≤9999:=by
   intro m
   induction m with
   | nil=>intro x _ h1 h2;exact⟨h1,h2⟩
   | cons e m ih=>
    intro x hm h1 h2
    have:=hm e (List.mem_cons_self ..)
    exact ih (max x e.1) (fun y hy=>hm y (List.mem_cons_of_mem _ hy)) (by omega) (by omega)
  exact key _ (-1) (fun e he'=>he e (List.mem_of_mem_take he')) (by omega) (by omega)
 refine⟨fun vs hh=>hh=h∧∃ j:Nat,vs=[vi (farL (l.take j)),vi j]∧j≤i,fun vs hh=>i - (vint vs 1).toNat,⟨rfl,0,rfl,Nat.zero_le _⟩,?_⟩
 rintro vs hh ⟨rfl,j,rfl,hj⟩
 refine⟨_,_,rfl,fun e=>?_,fun e=>?_⟩
 ·have hlt:j < i:=by have:=of_decide_eq_true e;omega
  have hx:l[j]?=some l[j]:=List.getElem?_eq_getElem (by omega)
  have hx':(l.take i)[j]?=some l[j]:=by rw [List.getElem?_take_of_lt hlt,hx]
  obtain⟨b,o,ea,hr⟩:=S'.get (sz:=7) (fun _=>rfl) (by decide) hx'
  refine⟨b,o,⟨ea,by omega,by omega⟩,_,_,_,_,_,_,_,by rw [Int.toNat_natCast];exact hr,_,rd_max,_,isW (by unfold InR;omega),⟨rfl,j+1,?_,by omega⟩,by simp [vint];omega⟩
  have tk:l.take (j+1)=l.take j++[l[j]]:=List.take_succ_eq_append_getElem (by omega)
  unfold farL
  rw [tk,List.foldl_append]
  rfl
 ·have hge:j=i:=by have:=of_decide_eq_false e;omega
  subst hge
  have hf:=hfb j
  refine⟨_,fun _=>isW (by unfold InR;omega),_,fun _=>isW (by unfold InR;omega),_,fun _=>isW (by unfold InR;omega),?_⟩
  have e2:(bif (decide ((farL (l.take j):Int)≥0)) then(decide (s+q.size+q.late≤farL (l.take j) - q.delay)) else false)=lateQ q (farL (l.take j)) s:=by
   unfold lateQ
   by_cases h5:0≤farL (l.take j)
   ·rw [decide_eq_true (show farL (l.take j)≥0 from h5)];rfl
   ·rw [decide_eq_false (show ¬ farL (l.take j)≥0 from h5)];rfl
  rw [e2]
  exact hK
end
end Go.Proofs.YtiflgceoamkmnaaGreatDoor
namespace Go.Proofs.YtiflgceoamkmnaaGreatDoor
open Go Go.Vc
structure EvOK (e:EvL):Prop where
 t:0≤e.1∧e.1≤9999
 k:goodV e.2.1∧e.2.1.1≠2
 a:goodV e.2.2.1∧e.2.2.1.1≠2
 b:goodV e.2.2.2∧e.2.2.2.1≠2
theorem chkV_ok {v:Int × Int}(h:chkV v=0):goodV v∧v.1≠2:=by
 unfold chkV at h
 split at h
 ·cases h
 ·rename_i h1
  constructor
  ·exact Classical.byContradiction fun q=>h1 (.inl q)
  ·exact fun q=>h1 (.inr q)
theorem chkE_ok {e:EvL}(h:chkE e=0):EvOK e:=by
 unfold chkE at h
 split at h
 ·cases h
 ·rename_i h0
  simp only [chkL] at h
  split at h
  ·rename_i h1
   split at h
   ·rename_i h2
    split at h
    ·rename_i h3
     exact⟨by omega,chkV_ok h1,chkV_ok h2,chkV_ok h3⟩
    ·rename_i h3;exact absurd h h3
   ·rename_i h2;exact absurd h h2
  ·rename_i h1;exact absurd h h1
abbrev ev0:EvL:=(0,(0,0),(0,0),(0,0))
theorem ev0_ok:EvOK ev0:=chkE_ok (by decide +kernel)
theorem good_num (n:Int):goodV (numV n)∧(numV n).1≠2:=by
 unfold numV goodV
 split
 ·simp
 ·simp;omega
theorem good_truth (b:Bool):goodV (truthV b):=by
 unfold truthV goodV
 cases b<;>simp
theorem good_null:goodV (0,0):=by unfold goodV;simp
theorem good_and (a b:Int × Int):goodV (andV a b)∧(andV a b).1≠1:=by
 unfold andV goodV
 split
 ·simp
 ·split<;>simp
theorem good_not (a:Int × Int):goodV (notV a)∧(notV a).1≠1:=by
 unfold notV
 split
 ·exact⟨good_truth _,by unfold truthV;simp⟩
 ·exact⟨good_null,by simp⟩
theorem good_neg (a:Int × Int):goodV (negV a)∧(negV a).1≠2:=by
 unfold negV
 split
 ·exact good_num _
 ·exact⟨good_null,by simp⟩
def opV (op:Int)(a b:Int × Int):Int × Int:=if op=3 then negV a else if op=4 then notV a else if op=5 then truthV (decide (a.1=0)) else doV op a b
def outT (op:Int):Int:=if op=5∨op=11∨op=12 then 2 else wantT op
theorem tyG_out {op:Int}{a b:Option Int}{t:Int}(h:tyG op a b=some t):t=outT op:=by
 unfold outT
 cases a with
 | none=>cases b<;>cases h
 | some a=>
  cases b with
  | none=>cases h
  | some b=>
   unfold tyG at h
   simp only at h
   split at h
   ·rename_i h1;rw [if_pos (.inl h1)];simpa using h.symm
   ·split at h
    ·cases h
    ·split at h
     ·rename_i h1 _ h2;rw [if_pos (.inr h2)];simpa using h.symm
     ·rename_i h1 _ h2;rw [if_neg (by omega)];simpa using h.symm
theorem opV_good {op:Int}(ho:3≤op∧op≤12)(a b:Int × Int):goodV (opV op a b)∧((opV op a b).1=0∨(opV op a b).1=outT op):=by
 have key:∀ v:Int × Int,goodV v→v.1=0∨v.1=1∨v.1=2:=by
  intro v h
  unfold goodV at h
  omega
 unfold opV outT wantT
 split
 ·rename_i h;have:=good_neg a;have:=key _ this.1;exact⟨(good_neg a).1,by subst h;simp;omega⟩
 ·split
  ·rename_i _ h;have:=good_not a;have:=key _ this.1;exact⟨(good_not a).1,by subst h;simp;omega⟩
  ·split
   ·rename_i _ _ h;exact⟨good_truth _,by subst h;simp [truthV]⟩
   ·unfold doV
    split
    ·rename_i h;have:=good_and a b;have:=key _ this.1;exact⟨(good_and a b).1,by subst h;simp;omega⟩
    ·split
     ·rename_i h;have:=good_not (andV (notV a) (notV b));have:=key _ this.1;exact⟨(good_not _).1,by subst h;simp;omega⟩
     ·split
      ·split
       ·rename_i h;have:=good_num (w64 (a.2+b.2));have:=key _ this.1;exact⟨(good_num _).1,by subst h;simp;omega⟩
       ·split
        ·rename_i h;have:=good_num (w64 (a.2 - b.2));have:=key _ this.1;exact⟨(good_num _).1,by subst h;simp;omega⟩
        ·split
         ·rename_i h;have:=good_num (w64 (a.2*b.2));have:=key _ this.1;exact⟨(good_num _).1,by subst h;simp;omega⟩
         ·split
          ·rename_i h;exact⟨good_truth _,by subst h;simp [truthV]⟩
          ·split
           ·rename_i h;exact⟨good_truth _,by subst h;simp [truthV]⟩
           ·exact⟨good_null,.inl rfl⟩
      ·exact⟨good_null,.inl rfl⟩
theorem stepF_op (e:EvL){n:Nd}(h1:¬ n.op=1)(h2:¬ n.op=2)(a b:Int × Int):stepF e n a b=opV n.op a b:=by
 unfold stepF opV
 rw [if_neg h1,if_neg h2]
theorem field_good {e:EvL}(E:EvOK e)(n:Int):goodV (fieldV e n)∧(fieldV e n).1≠2:=by
 unfold fieldV
 split
 ·exact good_num _
 ·split
  ·exact E.k
  ·split
   ·exact E.a
   ·exact E.b
theorem nodeF_vF {n:Nd}(h:nodeF n=0):goodV n.v:=by
 unfold nodeF at h
 split at h
 ·cases h
 ·split at h
  ·cases h
  ·split at h
   ·cases h
   ·split at h
    ·cases h
    ·rename_i hg;exact Classical.byContradiction fun q=>hg q
theorem val_good {l:List Nd}(O:OkE l){e:EvL}(E:EvOK e){i:Nat}(hi:i < l.length):goodV (vAt e l i)∧∀ t,tAt l i=some t→(vAt e l i).1=0∨(vAt e l i).1=t:=by
 have hx:l[i]?=some l[i]:=List.getElem?_eq_getElem hi
 have W:=O.wf i _ hx
 have h0:=O.n _ (List.getElem_mem hi)
 have hv:vAt e l i=_:=fAt_wf (own_stepF e) hx W
 have ht:tAt l i=_:=fAt_wf own_tyF hx W
 rw [hv,ht]
 generalize l[i]=n at *
 have ar:=ar0 W.a
 by_cases h1:n.op=1
 ·have e1:∀ a b,stepF e n a b=n.v:=fun a b=>if_pos h1
  have e2:∀ a b,tyF n a b=some n.v.1:=fun a b=>if_pos h1
  rw [e1,e2]
  exact⟨nodeF_vF h0,fun t ht=>by cases ht;exact .inr rfl⟩
 ·by_cases h2:n.op=2
  ·have e1:∀ a b,stepF e n a b=fieldV e n.n:=fun a b=>by unfold stepF;rw [if_neg h1,if_pos h2]
   have e2:∀ a b,tyF n a b=some 1:=fun a b=>by unfold tyF;rw [if_neg h1,if_pos h2]
   rw [e1,e2]
   have:=field_good E n.n
   refine⟨this.1,fun t ht=>?_⟩
   cases ht
   have h:=this.1
   unfold goodV at h
   omega
  ·rw [stepF_op e h1 h2,tyF_op h1 h2]
   have ho:3≤n.op∧n.op≤12:=by rcases arI_range W.a with q|q|q<;>omega
   have:=opV_good ho
   exact⟨(this _ _).1,fun t ht=>by rw [tyG_out ht];exact(this _ _).2⟩
theorem ty_range {l:List Nd}(O:OkE l){i:Nat}(hi:i < l.length){t:Int}(h:tAt l i=some t):t=0∨t=1∨t=2:=by
 have hx:l[i]?=some l[i]:=List.getElem?_eq_getElem hi
 have W:=O.wf i _ hx
 have h0:=O.n _ (List.getElem_mem hi)
 have ht:tAt l i=_:=fAt_wf own_tyF hx W
 rw [ht] at h
 generalize l[i]=n at *
 by_cases h1:n.op=1
 ·have e2:∀ a b,tyF n a b=some n.v.1:=fun a b=>if_pos h1
  rw [e2] at h
  cases h
  have:=nodeF_vF h0
  unfold goodV at this
  omega
 ·by_cases h2:n.op=2
  ·have e2:∀ a b,tyF n a b=some 1:=fun a b=>by unfold tyF;rw [if_neg h1,if_pos h2]
   rw [e2] at h
   cases h
   omega
  ·rw [tyF_op h1 h2] at h
   rw [tyG_out h]
   unfold outT wantT
   split
   ·omega
   ·split<;>omega
structure Rep (P:EvL→Int × Int)(T:Option Int)(k:Nat)(z:List Nd):Prop where
 ok:OkE z
 len:z.length≤k
 val:∀ e,EvOK e→valE e z=P e
 ty:∀ t,T=some t→∃ t',tAt z (z.length - 1)=some t'∧(t'=0∨t'=t)
abbrev cst (v:Int × Int):List Nd:=[⟨1,0,0,0,v⟩]
theorem cst_ok {v:Int × Int}(h:goodV v):OkE (cst v):=by
 refine chkGo_okE ?_
 have hF:nodeF ⟨1,0,0,0,v⟩=0:=by
  unfold nodeF
  rw [if_neg (show ¬ arI 1 < 0 by decide),if_neg (by simp),if_neg (by simp),if_neg (by simp [h])]
 rw [chkGo,if_neg (fun q=>q hF)]
 rfl
theorem Rep.cst {P:EvL→Int × Int}{T:Option Int}{k:Nat}{v:Int × Int}(h:goodV v)(hk:1≤k)(hP:∀ e,EvOK e→v=P e)(hT:∀ t,T=some t→v.1=0∨v.1=t):Rep P T k (cst v):=
 ⟨cst_ok h,hk,fun e E=>hP e E,fun t ht=>⟨v.1,rfl,hT t ht⟩⟩
theorem Rep.leaf {n:Nd}(h:nodeF n=0)(ha:arI n.op=0):OkE [n]:=by
 refine chkGo_okE ?_
 rw [chkGo,if_neg (fun q=>q h)]
 unfold popN
 rw [if_pos ha]
 rfl
open Go.Txt
def encAc (a:AcS):List Value:=encA a.1 a.2
theorem encAc_len (a:AcS):(encAc a).length=4:=rfl
theorem one_ac (a:AcS):∀ u ∈ encAc a,u.oneCell'=true:=by
 intro u hu
 simp only [encAc,encA,List.mem_cons,List.not_mem_nil,or_false] at hu
 rcases hu with rfl|rfl|rfl|rfl<;>rfl
def AcB (a:AcS):Prop:=0≤a.2.1∧a.2.1≤1000000000∧-1000000000000000000≤a.2.2.1∧a.2.2.1≤1000000000000000000
theorem valsQ_small {q:Qy}(B:QOk q){e:EvL}(E:EvOK e):∀ v ∈ valsQ q e,smallV v:=by
 intro v hv
 unfold valsQ at hv
 obtain⟨a,ha,rfl⟩:=List.mem_map.1 hv
 split
 ·unfold smallV;decide
 ·rename_i h1
  obtain⟨O,_⟩:=exprF_ok ((B.g a ha).2.2.1 h1)
  exact(val_good O E (by have:=O.pos;omega)).1.small
theorem accsOf_small {ks:List Int}{rs:List (List Vl)}(hl:∀ r ∈ rs,r.length=ks.length)(hv:∀ r ∈ rs,∀ v ∈ r,smallV v)(hn:rs.length≤1000000000):∀ a ∈ accsOf ks rs,AcB a:=by
 have hcol:∀(rs:List (List Vl)),(∀ r ∈ rs,∀ v ∈ r,smallV v)→∀ c ∈ colsOf ks.length rs,c.length≤rs.length∧∀ v ∈ c,smallV v:=by
  intro rs
  induction rs using snocInd with
  | h0=>
   intro _ c hc
   rw [List.eq_of_mem_replicate hc]
   exact⟨Nat.le_refl _,fun v hv=>by cases hv⟩
  | h1 rs r ih=>
   intro hv c hc
   have ih:=ih fun x hx=>hv x (List.mem_append_left _ hx)
   rw [colsOf_snoc] at hc
   unfold colP at hc
   obtain⟨i,hi,rfl⟩:=List.mem_iff_getElem.1 hc
   rw [List.length_zipWith] at hi
   rw [List.getElem_zipWith]
   obtain⟨h1,h2⟩:=ih _ (List.getElem_mem (by omega:i < (colsOf ks.length rs).length))
   refine⟨by simp;omega,fun v hv2=>?_⟩
   rcases List.mem_append.1 hv2 with h3|h3
   ·exact h2 v h3
   ·rw [List.mem_singleton.1 h3]
    exact hv r (by simp) _ (List.getElem_mem _)
 intro a ha
 rw [acc_cols ks hl] at ha
 obtain⟨i,hi,rfl⟩:=List.mem_iff_getElem.1 ha
 rw [List.length_zipWith] at hi
 rw [List.getElem_zipWith]
 obtain⟨h1,h2⟩:=hcol rs hv _ (List.getElem_mem (by omega:i < (colsOf ks.length rs).length))
 generalize (colsOf ks.length rs)[i]=c at h1 h2
 have:=gfold_bound (k:=ks[i]) c (0,0,0) h2 (Int.le_refl _)
 unfold AcB accF
 simp only at this ⊢
 omega
theorem store_mono {h:Hp}{b o:Nat}{vs:List Value}{K K':Hp→Prop}(H:h.store b o vs K)(hk:∀ h',K h'→K' h'):h.store b o vs K':=by
 obtain⟨c,e,h1,h2,h3⟩:=H
 exact⟨c,e,h1,h2,hk _ h3⟩
theorem elAcc:ElT Tryz.prog 77 139 4 32:=.of (by kernel_rfl) (by kernel_rfl) (by decide)
theorem accP_len {acs:List AcS}{r:List Vl}(h:r.length=acs.length):(accP acs r).length=acs.length:=by unfold accP;rw [List.length_zipWith];omega
abbrev VecA:=Vec encAc 4 139
theorem batch_add_ok {q:Qy}{a1:Option Addr}{n1 c1:Nat}{a2:Option Addr}{n2 c2:Nat}{a3:Option Addr}{n3 c3:Nat}{h0 h:Hp}{R:Value→Hp→Prop}{e:EvL}{aa:Option Addr}{ca:Nat}{acs:List AcS}(Q:QAt h0 q a1 n1 a2 n2 a3 n3)(B:QOk q)(E:EvOK e)
  (V:VecA h0 h aa ca acs) (hk:acs.map (·.1)=kindsQ q) (hb:∀ a ∈ acs,AcB a)
  (hK:∀ h',VecA h0 h' aa ca (accP acs (valsQ q e))→Beside aa h h'→R (vsl aa acs.length ca) h'):CallOK Tryz.prog 76 [vsl aa acs.length ca,qV a1 n1 c1 a2 n2 c2 a3 n3 c3 q,vag (encE e)] h R:=by
 refine ok_batch_add ?_
 unfold VC_batch_add
 have hlen:acs.length=q.aggs.length:=by
  have:=congrArg List.length hk
  unfold kindsQ at this
  rw [List.length_map,List.length_map] at this
  exact this
 have hvl:(valsQ q e).length=acs.length:=by unfold valsQ;rw [List.length_map,hlen]
 have hnl:=accP_len hvl
 have hn1:n1=acs.length:=by rw [hlen];exact Q.g.len
 have hn4:=B.n2
 refine⟨fun vs hh=>∃ i:Nat,vs=[vi i]∧i≤acs.length∧VecA h0 hh aa ca ((accP acs (valsQ q e)).take i++acs.drop i)∧Beside aa h hh,fun vs hh=>acs.length - (vint vs 0).toNat,⟨0,rfl,Nat.zero_le _,by simpa using V,Beside.refl _ _⟩,?_⟩
 rintro vs hh ⟨i,rfl,hi,V5,F5⟩
 refine⟨i,rfl,fun e1=>?_,fun e1=>?_⟩
 ·have hlt:i < acs.length:=by have:=of_decide_eq_true e1;omega
  have hx:q.aggs[i]?=some q.aggs[i]:=List.getElem?_eq_getElem (by omega)
  have hvi:(valsQ q e)[i]'(by omega)=if (q.aggs[i]'(by omega)).1=1 then(0,0) else valE e (q.aggs[i]'(by omega)).2:=by unfold valsQ;rw [List.getElem_map]
  have hki:(acs[i]).1=(q.aggs[i]'(by omega)).1:=by
   have h3:(acs.map (·.1))[i]?=(kindsQ q)[i]?:=by rw [hk]
   unfold kindsQ at h3
   rw [List.getElem?_map,List.getElem?_map,hx,List.getElem?_eq_getElem hlt] at h3
   simpa using h3
  have hsm:=valsQ_small B E _ (List.getElem_mem (by omega:i < (valsQ q e).length))
  have hai:=hb _ (List.getElem_mem hlt)
  have hmem:=List.getElem_mem (by omega:i < q.aggs.length)
  have hni:(accP acs (valsQ q e))[i]'(by omega)=(acs[i].1,gStep acs[i].1 acs[i].2 ((valsQ q e)[i]'(by omega))):=by unfold accP;rw [List.getElem_zipWith]
  have h5:h0.le hh:=V5.le0
  -- behind the value
  have tail:∀(v:Int × Int) (h41:Hp),hh.le h41→v=(valsQ q e)[i]'(by omega)→∃ b o,aa=some ⟨b,o,none⟩∧(∃ x44 x45 x46 x47,Hp.row h41 b (o+i*4) 4=some [vi x44,vi x45,vi x46,vi x47]∧CallOK Tryz.prog 121 [vag [vi x44,vi x45,vi x46,vi x47],vag [vi v.1,vi v.2]] h41 fun v48 h49=>∃ x50 x51 x52 x53,v48=vag [vi x50,vi x51,vi x52,vi x53]∧Hp.store h49 b (o+i*4) [vi x50,vi x51,vi x52,vi x53] fun h56=>VecA h0 h56 aa ca ((accP acs (valsQ q e)).take (i+1)++acs.drop (i+1))∧Beside aa h h56):=by
   intro v h41 l41 hv
   have V41:=V5.keep0 l41
   have hxi:((accP acs (valsQ q e)).take i++acs.drop i)[i]?=some acs[i]:=by
    rw [List.getElem?_append_right (by rw [List.length_take];omega),List.length_take,Nat.min_eq_left (by omega),Nat.sub_self,List.getElem?_drop,Nat.add_zero,List.getElem?_eq_getElem hlt]
   obtain⟨b,o,ea,hr⟩:=(V41.slp encAc_len (by decide)).get encAc_len (by decide) hxi
   have hset:((accP acs (valsQ q e)).take i++acs.drop i).set i ((accP acs (valsQ q e))[i]'(by omega))=(accP acs (valsQ q e)).take (i+1)++acs.drop (i+1):=by
    rw [List.set_append_right _ _ (by rw [List.length_take];omega),List.length_take,Nat.min_eq_left (by omega),Nat.sub_self,List.drop_eq_getElem_cons hlt,List.set_cons_zero,List.take_succ_eq_append_getElem (by omega:i < (accP acs (valsQ q e)).length),List.append_assoc]
    rfl
   refine⟨b,o,ea,_,_,_,_,hr,?_⟩
   rw [hv]
   refine gather_Add_ok (k:=acs[i].1) (s:=acs[i].2) (v:=(valsQ q e)[i]'(by omega)) (by unfold AcB at hai;unfold InR;omega) (by unfold AcB at hai;unfold smallV at hsm;unfold InR;omega) ⟨_,_,_,_,rfl,?_⟩
   obtain⟨b',o',ea',H⟩:=V41.putF encAc_len hxi (x':=(accP acs (valsQ q e))[i]'(by omega)) (k:=0) (vs:=encAc ((accP acs (valsQ q e))[i]'(by omega))) (by rw [encAc_len];decide) (by rw [encAc_len];decide) (by simp [setL,encAc,encA])
   rw [ea] at ea'
   cases ea'
   have:=H (fun h56=>VecA h0 h56 aa ca ((accP acs (valsQ q e)).take (i+1)++acs.drop (i+1))∧Beside aa h h56) (fun h' V' F'=>⟨by rw [←hset];exact V',F5.trans ((Beside.le l41).trans F')⟩)
   rw [hni] at this
   exact this
  obtain⟨b,o,a',c',ha,hrow,hS⟩:=(Q.g.le h5).row aggRw_len (by decide) hx
  refine⟨b,o,⟨ha,by omega,by omega⟩,(q.aggs[i]'(by omega)).1,a',(q.aggs[i]'(by omega)).2.length,c',by rw [Int.toNat_natCast];exact hrow,value_Null_ok ⟨0,0,rfl,?_⟩⟩
  intro J
  have hJ:∀(v:Int × Int) (h41:Hp),hh.le h41→v=(valsQ q e)[i]'(by omega)→J v.1 v.2 h41:=by
   intro v h41 l41 hv
   obtain⟨b,o,ea,x44,x45,x46,x47,hr,hc⟩:=tail v h41 l41 hv
   refine⟨b,o,⟨ea,by omega,by omega⟩,x44,x45,x46,x47,by rw [Int.toNat_natCast];exact hr,hc.mono ?_⟩
   rintro v48 h49 ⟨x50,x51,x52,x53,e48,hs⟩
   refine⟨x50,x51,x52,x53,e48,b,o,⟨ea,by omega,by omega⟩,?_⟩
   rw [Int.toNat_natCast]
   refine store_mono hs ?_
   rintro h56 ⟨V',F'⟩
   exact⟨_,isW (by unfold InR;omega),⟨i+1,rfl,by omega,V',F'⟩,by simp [vint];omega⟩
  clear_value J
  refine⟨fun e2=>?_,fun e2=>?_⟩
  ·have e2:=of_decide_eq_true e2
   refine eval_ok ((B.g _ hmem).2.2.1 e2) hS fun h' l'=>⟨_,_,rfl,hJ _ h' l' ?_⟩
   rw [hvi,if_neg e2]
  ·have e2:=Decidable.not_not.1 (of_decide_eq_false e2)
   refine hJ (0,0) hh (Hp.le_refl _) ?_
   rw [hvi,if_pos e2]
 ·have hge:i=acs.length:=by have:=of_decide_eq_false e1;omega
  rw [hge,List.drop_length,List.append_nil,List.take_of_length_le (by omega)] at V5
  exact hK hh V5 F5
end Go.Proofs.YtiflgceoamkmnaaGreatDoor
namespace Go.Vd
open Go.Vc
open Go
structure Fr (h h':Hp)(w w':World):Prop where
 os:w'.os=w.os
 tape:w'.tape=w.tape
 output:w'.output=w.output
 size:w.heap.size≤w'.heap.size
 drawn:w.drawn≤w'.drawn
 keep:∀ b,b < w.heap.size→h b=none→w'.heap[b]?=w.heap[b]?∧h' b=none
def CallOK (P:Program)(f:FuncId)(args:List Value)(h:Hp)(K:Value→Hp→Prop):Prop:=
 ∀ w,Sub h w→Calls P f args.toArray w fun e w'=>∃ v h',e=.returned v∧Sub h' w'∧Fr h h' w w'∧K v h'
def SemOK (P:Program)(m:Sem Value)(h:Hp)(K:Value→Hp→Prop):Prop:=
 ∀ w,Sub h w→∃ v w' h',m.run P w=.ok v w'∧Sub h' w'∧Fr h h' w w'∧K v h'
def SemOKu (P:Program)(m:Sem Unit)(h:Hp)(K:Hp→Prop):Prop:=
 ∀ w,Sub h w→∃ w' h',m.run P w=.ok () w'∧Sub h' w'∧Fr h h' w w'∧K h'
def ExtOK (P:Program)(f:FuncId)(args:List Value)(h:Hp)(K:Value→Hp→Prop):Prop:=
 ∀ w,Sub h w→∃ v w' h',(callFunc f args.toArray).run P w=.ok (.value v) w'∧Sub h' w'∧Fr h h' w w'∧K v h'
def InvOK (P:Program)(fv:Value)(args:List Value)(h:Hp)(K:Value→Hp→Prop):Prop:=
 ∃ f pre post,fv=.func (.func f) pre post∧(∃ fn,P.funcs[f]?=some fn∧(fn.name == "runtime.NumGoroutine")=false∧fn.body.isNone=false)∧CallOK P f (pre.toList++args++post.toList) h K
section
variable (P:Program)
end
def vcE (P:Program)(cfg:Cfg)(o:Oper)(ch:List (Nat × Bool))(st:St)(h:Hp)(K:SV→List Box→Hp→Prop):Prop:=
 match o.op with
 | .alloc T=>match zeroL P T with
  | some z=>newBox cfg o st h T z K
  | none=>False
 | .box T x=>match st.ev ch x with
  | .t w=>newBox cfg o st h T w.cells K
  | _=>False
 | .buildSlice T n parts=>
  match P.underlying T,partsL st ch parts.toList with
  | some (.slice e),some ps=>
   match zeroL P e with
   | some z=>
    bif (Nat.ble 1 (szT P e)&&Nat.beq z.length (szT P e)&&Nat.ble (n*szT P e) 4096) then
     match fillL (fun i=>some (i*szT P e,szT P e)) ((List.replicate n z).flatten) ps with
     | some cs=>bif allOneT cs then ∀ b,h b=none→K (.t (.one (.v (.slice (some ⟨b,0,none⟩) n n)))) st.b (h.set b (.cells (tvals cs).toArray e (0,0))) else False
     | none=>False
    else False
   | none=>False
  | _,_=>False
 | .store T x y=>
  match st.ev ch x,st.ev ch y with
  | .bp i o,.t w=>
   match st.b[i]? with
   | some bx=>bif (Nat.ble 1 (szT P T)&&Nat.beq w.cells.length (szT P T)&&Nat.ble (o+w.cells.length) bx.c.length&&allOneT w.cells) then K .any (setAt st.b i ⟨bx.ty,setL bx.c o w.cells,bx.st+1⟩) h else False
   | none=>False
  | .t (.one (.hp b o)),.t w=>bif (Nat.ble 1 (szT P T)&&Nat.beq w.cells.length (szT P T)&&allOneT w.cells) then h.store b o (tvals w.cells) (fun h'=>K .any st.b h') else False
  | _,_=>False
 | .call { callee:=.value (.func g),args:=args,.. }=>
  match st.evs ch args.toList with
  | some vs=>
   match (P.funcs[g]?).map (·.body.isSome) with
   | some true=>CallOK P g vs h fun v h'=>res (shp P o.type) v fun x=>K x st.b h'
   | some false=>ExtOK P g vs h fun v h'=>res (shp P o.type) v fun x=>K x st.b h'
   | none=>False
  | none=>False
 | .call { callee:=.value (.tmp t),args:=args,.. }=>
  match st.evs ch args.toList,(st.ev ch (.tmp t)).val? with
  | some vs,some fv=>InvOK P fv vs h fun v h'=>res (shp P o.type) v fun x=>K x st.b h'
  | _,_=>False
 | .call { callee:=.builtin b,args:=args,argTypes:=ts }=>
  match st.evs ch args.toList with
  | some vs=>
   let go (m:Sem Value):Prop:=SemOK P m h fun v h'=>res (shp P o.type) v fun x=>K x st.b h'
   match b with
   | .append=>go (Builtin.append_ ts o.type vs.toArray)
   | .copy=>go (Builtin.copy_ ts o.type vs.toArray)
   | .delete=>go (Builtin.delete_ ts o.type vs.toArray)
   | .clear=>go (Builtin.clear_ ts o.type vs.toArray)
   | _=>False
  | none=>False
 | .makeMap T none=>SemOK P (Instr.makeMap T none) h fun v h'=>res (shp P o.type) v fun x=>K x st.b h'
 | .makeSlice T l c=>match (st.ev ch l).val?,(st.ev ch c).val? with
  | some l,some c=>SemOK P (Instr.makeSlice T l c) h fun v h'=>res (shp P o.type) v fun x=>K x st.b h'
  | _,_=>False
 | .convert src dst x=>match (st.ev ch x).val? with
  | some a=>SemOK P (convert src dst a) h fun v h'=>res (shp P o.type) v fun x=>K x st.b h'
  | none=>False
 | .mapUpdate T m k x=>match (st.ev ch m).val?,(st.ev ch k).val?,(st.ev ch x).val? with
  | some m,some k,some x=>SemOKu P (Instr.mapUpdate T m k x) h fun h'=>K .any st.b h'
  | _,_,_=>False
 | .insert T m k x=>match (st.ev ch m).val?,(st.ev ch k).val?,(st.ev ch x).val? with
  | some m,some k,some x=>SemOKu P (Instr.mapUpdate T m k x) h fun h'=>K .any st.b h'
  | _,_,_=>False
 | .range T x=>match (st.ev ch x).val? with
  | some a=>SemOK P (Instr.range T a) h fun v h'=>K (.t (.one (.v v))) st.b h'
  | none=>False
 | .next it s=>match (st.ev ch it).val? with
  | some a=>SemOK P (Instr.next a s o.type) h fun v h'=>res (shp P o.type) v fun x=>K x st.b h'
  | none=>False
 | _=>False
def vcOp (P:Program)(cfg:Cfg)(ops:Array Oper)(o:Oper)(st:St)(h:Hp)(K:St→Hp→Prop):Prop:=
 match o.guard with
 | none=>
  bif isE P o.op then vcE P cfg o [] st h fun sv b h'=>St.put ⟨st.n,st.t,st.g,b⟩ o.dst none sv fun st'=>K st' h'
  else vcV P o [] (fun p=>p) st h fun sv=>st.put o.dst none sv fun st'=>K st' h
 | some (j,p)=>
  match (ops[j]?).bind (·.dst) with
  | none=>False
  | some s=>
   bif okGd st 8 s then
    bif isE P o.op then
     (bif isCall o.op then
      ∃ J:SV→Hp→Prop,(condP st 8 s p→vcE P cfg o (chain st 8 s p) st h fun sv _ h'=>J sv h')∧(¬ condP st 8 s p→J (dfl (shp P o.type)) h) ∧
       ∀ h':Hp,alS (shp P o.type) fun x=>J x h'→st.put o.dst (some (s,p)) x fun st'=>K st' h'
     else
      (condP st 8 s p→vcE P cfg o (chain st 8 s p) st h fun sv b h'=>St.put ⟨st.n,st.t,st.g,b⟩ o.dst none sv fun st'=>K st' h') ∧
      (¬ condP st 8 s p→st.put o.dst (some (s,p)) (dfl (shp P o.type)) fun st'=>K st' h))
    else vcV P o (chain st 8 s p) (fun q=>condP st 8 s p→q) st h fun sv=>st.put o.dst (some (s,p)) sv fun st'=>K st' h
   else False
def vcOps (P:Program)(cfg:Cfg)(ops:Array Oper):List Oper→St→Hp→(St→Hp→Prop)→Prop
 | [],st,h,K=>K st h
 | o :: l,st,h,K=>vcOp P cfg ops o st h fun st' h'=>vcOps P cfg ops l st' h' K
def vcD (P:Program)(cfg:Cfg)(ops:Array Oper)(ms:List Nat):List Nat→List Fg→St→Hp→(St→Hp→Prop)→Prop
 | [],_,st,h,K=>K st h
 | i :: l,fl,st,h,K=>
  match ops[i]? with
  | none=>False
  | some o=>
   bif isE P o.op then
    (bif isA o.op then vcOp P cfg ops o st h fun st' h'=>vcD P cfg ops ms l fl st' h' K
     else vcOp P cfg ops o st h fun st' h'=>agn (ms.getD i 0) st.b st'.b h' fl (vcD P cfg ops ms l fl st' h' K))
   else vcDV P ops i o st h fl fun fl' st'=>vcD P cfg ops ms l fl' st' h K
def vcC (P:Program)(cfg:Cfg):Code→St→Hp→(Ex→St→Hp→Prop)→Prop
 | .skip,st,h,Q=>Q .nrm st h
 | .region id ops draw,st,h,Q=>bif draw then
   (match lookN id cfg.ord with
    | some l=>bif (chkOrd P cfg ops (befM ops.toList []) [] l&&allIn ops.size l) then vcD P cfg ops (befM ops.toList []) l [] st h fun st' h'=>Q .nrm (endR (dstsL ops.toList) st') h' else False
    | none=>False)
  else vcOps P cfg ops ops.toList st h fun st' h'=>Q .nrm (endR (dstsL ops.toList) st') h'
 | .seq a b,st,h,Q=>vcC P cfg a st h fun e st' h'=>match e with
  | .nrm=>vcC P cfg b st' h' Q
  | e=>Q e st' h'
 | .cond c a b,st,h,Q=>match st.ev [] c with
  | .t (.one (.v (.bool t)))=>(t=true→vcC P cfg a st h Q)∧(t=false→vcC P cfg b st h Q)
  | _=>False
 | .block id a,st,h,Q=>vcC P cfg a st h fun e st' h'=>match e with
  | .ext i=>bif Nat.beq i id then Q .nrm st' h' else Q (.ext i) st' h'
  | e=>Q e st' h'
 | .loop a,st,h,Q=>
  match (firstR a).bind fun r=>lookN r cfg.ann with
  | none=>False
  | some (slots,shs,bxs)=>
   match loopVals st slots bxs,(Nat.beq shs.length slots.length&&chkLens st bxs&&subN slots (dstsC a)) with
   | none,_=>False
   | _,false=>False
   | some vs0,true=>∃(I:List Value→Hp→Prop) (μ:List Value→Hp→Nat),I vs0 h∧∀ vs h',I vs h'→ex0L shs fun xs=>exLL bxs fun ys=>vs=twals xs++tvalsL ys ∧
     vcC P cfg a (loopSt st (dstsC a) slots bxs xs ys) h' fun e st' h''=>match e with
      | .nrm=>match loopVals st' slots bxs with
       | some vs'=>bif (sameB 0 st.b st'.b bxs&&chkLens st' bxs) then(I vs' h''∧μ vs' h'' < μ vs h') else False
       | none=>False
      | e=>Q e st' h''
 | .exit id,st,h,Q=>Q (.ext id) st h
 | .ret,st,h,Q=>Q .ret st h
 | .rangeFunc _ _ _ _,_,_,_=>False
 | _,_,_,_=>False
def vcFn (P:Program)(cfg:Cfg)(fn:Func)(args:List TW)(h:Hp)(R:Value→Hp→Prop):Prop:=
 match fn.body with
 | none=>False
 | some c=>vcC P cfg c ⟨fn.ntmps,argSlots args,fun _=>false,[]⟩ h fun e st' h'=>match e with
  | .ext _=>False
  | _=>vcRes P st' h' fn.results.toList fun vs=>match vs with
   | [v]=>R v h'
   | vs=>R (.tuple vs.toArray) h'
structure RelR (ρ:Nat→Option Nat)(w0:World)(h0:Hp)(st:St)(h:Hp)(a:Act)(w:World):Prop where
 n:a.tmps.size=st.n
 d:MarksD a.defers w0 w h
 fr:∀ i,(st.t i).ok ρ a.tmps (a.tmps.getD i undef)
 gd:∀ i s p x,st.t i=.gd s p x→st.g s=true
 sub:Sub h w
 F:Fr h0 h w0 w
 box:∀ i bx,st.b[i]?=some bx→∃ b,ρ i=some b∧w.heap[b]?=some (.cells (tvals bx.c).toArray bx.ty (0,0))∧h b=none∧w0.heap.size≤b
 dom:∀ i b,ρ i=some b→i < st.b.length
 inj:∀ i j b,ρ i=some b→ρ j=some b→i=j
def Rel (w0:World)(h0:Hp)(st:St)(h:Hp)(a:Act)(w:World):Prop:=∃ ρ,RelR ρ w0 h0 st h a w
theorem RelR.toVc {ρ:Nat→Option Nat}{w0:World}{h0:Hp}{st:St}{h:Hp}{a:Act}{w:World}(R:RelR ρ w0 h0 st h a w):Vc.RelR ρ w0 h0 st h a w:=⟨R.n,R.d,R.fr,R.gd,R.sub,⟨R.F.os,R.F.tape,R.F.output,R.F.size,R.F.keep⟩,R.box,R.dom,R.inj⟩
section
variable {ρ:Nat→Option Nat}{w0:World}{h0:Hp}{st:St}{h:Hp}{a:Act}{w:World}
theorem ev_ok (R:RelR ρ w0 h0 st h a w){ch:List (Nat × Bool)}(hch:∀ s p,(s,p) ∈ ch→a.tmps.getD s undef=.bool p)(x:Operand):(st.ev ch x).ok ρ (a.eval x):=Vc.ev_ok R.toVc hch x
theorem val_ok (R:RelR ρ w0 h0 st h a w){ch:List (Nat × Bool)}(hch:∀ s p,(s,p) ∈ ch→a.tmps.getD s undef=.bool p){x:Operand}{v:Value}(hv:(st.ev ch x).val?=some v):a.eval x=v:=Vc.val_ok R.toVc hch hv
theorem evs_ok (R:RelR ρ w0 h0 st h a w){ch:List (Nat × Bool)}(hch:∀ s p,(s,p) ∈ ch→a.tmps.getD s undef=.bool p):∀{l:List Operand} {vs:List Value},st.evs ch l=some vs→l.map a.eval=vs:=Vc.evs_ok R.toVc hch
theorem optV_ok (R:RelR ρ w0 h0 st h a w){ch:List (Nat × Bool)}(hch:∀ s p,(s,p) ∈ ch→a.tmps.getD s undef=.bool p){x:Option Operand}{v:Option Value}(hv:optV st ch x=some v):x.map a.eval=v:=Vc.optV_ok R.toVc hch hv
theorem partsL_ok (R:RelR ρ w0 h0 st h a w){ch:List (Nat × Bool)}(hch:∀ s p,(s,p) ∈ ch→a.tmps.getD s undef=.bool p):∀{l:List (Nat × Operand)} {vs:List (Nat × TW)},partsL st ch l=some vs→l.map (fun q=>(q.1,a.eval q.2))=vs.map (fun q=>(q.1,q.2.val)):=Vc.partsL_ok R.toVc hch
end
section
variable {P:Program}{ρ:Nat→Option Nat}{w0:World}{h0:Hp}{st:St}{h:Hp}{a:Act}{w:World}{ch:List (Nat × Bool)}{G:Prop→Prop}{K:SV→Prop}
theorem vcV_ok (R:RelR ρ w0 h0 st h a w)(hch:∀ s p,(s,p) ∈ ch→a.tmps.getD s undef=.bool p)(hG:∀ p,G p→p){o:Oper}(H:vcV P o ch G st h K) :
  ∃ sv,K sv∧VRun P o ρ a w sv:=Vc.vcV_ok R.toVc hch hG H
end
theorem Fr.refl (h:Hp)(w:World):Fr h h w w:=⟨rfl,rfl,rfl,Nat.le_refl _,Nat.le_refl _,fun _ _ hb=>⟨rfl,hb⟩⟩
theorem Fr.trans {h h' h'':Hp}{w w' w'':World}(x:Fr h h' w w')(y:Fr h' h'' w' w''):Fr h h'' w w'':=
 ⟨y.os.trans x.os,y.tape.trans x.tape,y.output.trans x.output,Nat.le_trans x.size y.size,Nat.le_trans x.drawn y.drawn,fun b hb hn=>
  let ⟨e1,n1⟩:=x.keep b hb hn
  let ⟨e2,n2⟩:=y.keep b (Nat.lt_of_lt_of_le hb x.size) n1
  ⟨e2.trans e1,n2⟩⟩
theorem Fr.push (h:Hp)(w:World)(o:Obj):Fr h h w (w.alloc o):=
 ⟨rfl,rfl,rfl,by show _≤(w.heap.push o).size;simp,Nat.le_refl _,fun b hb hn=>⟨by rw [push_get,if_neg (by omega)],hn⟩⟩
theorem Fr.pushSet (h:Hp)(w:World)(o:Obj):Fr h (h.set w.heap.size o) w (w.alloc o):=
 ⟨rfl,rfl,rfl,by show _≤(w.heap.push o).size;simp,Nat.le_refl _,fun b hb hn=>⟨by rw [push_get,if_neg (by omega)],by rw [Hp.set_other _ _ (by omega)];exact hn⟩⟩
section
variable {P:Program}{cfg:Cfg}{ρ:Nat→Option Nat}{w0:World}{h0:Hp}{st:St}{h:Hp}{a:Act}{w:World}{ch:List (Nat × Bool)}
theorem RelR.step (R:RelR ρ w0 h0 st h a w){h':Hp}{w':World}(hs:Sub h' w')(hf:Fr h h' w w'):RelR ρ w0 h0 st h' a w' where
 n:=R.n
 d:=by
  refine⟨R.d.1,fun d hd=>?_⟩
  obtain⟨D,e,h1,h2,h3⟩:=R.d.2 d hd
  obtain⟨e1,n1⟩:=hf.keep D (Array.getElem?_eq_some_iff.1 h1).1 h2
  exact⟨D,e,e1.trans h1,n1,h3⟩
 fr:=R.fr
 gd:=R.gd
 sub:=hs
 F:=R.F.trans hf
 box i bx hb:=by
  obtain⟨b,h1,h2,h3,h4⟩:=R.box i bx hb
  have hlt:b < w.heap.size:=(Array.getElem?_eq_some_iff.1 h2).1
  obtain⟨e,n⟩:=hf.keep b hlt h3
  exact⟨b,h1,e.trans h2,n,h4⟩
 dom:=R.dom
 inj:=R.inj
theorem RelR.newBox (R:RelR ρ w0 h0 st h a w)(ty:TypeId)(cs:List TV) :
  RelR (fun i=>if i=st.b.length then some w.heap.size else ρ i) w0 h0 ⟨st.n,st.t,st.g,st.b++[⟨ty,cs,0⟩]⟩ h a (w.alloc (.cells (tvals cs).toArray ty)) where
 n:=R.n
 d:=by
  refine⟨R.d.1,fun d hd=>?_⟩
  obtain⟨D,e,h1,h2,h3⟩:=R.d.2 d hd
  have hlt:=(Array.getElem?_eq_some_iff.1 h1).1
  exact⟨D,e,by rw [push_get,if_neg (by omega)];exact h1,h2,h3⟩
 fr i:=by
  refine Sl.ok_mono (ρ:=ρ) ?_ (R.fr i)
  intro j b hj
  have:=R.dom j b hj
  simp [show ¬ j=st.b.length by omega,hj]
 gd:=R.gd
 sub:=R.sub.push _
 F:=R.F.trans (Fr.push h w _)
 box i bx hb:=by
  by_cases hi:i=st.b.length
  ·subst hi
   simp at hb
   subst hb
   refine⟨w.heap.size,by simp,?_,R.sub.none,R.F.size⟩
   rw [push_get,if_pos rfl]
  ·have hlt:i < st.b.length:=by
    have:=(List.getElem?_eq_some_iff.1 hb).1
    simp at this
    omega
   rw [List.getElem?_append_left hlt] at hb
   obtain⟨b,h1,h2,h3,h4⟩:=R.box i bx hb
   have hb2:b < w.heap.size:=(Array.getElem?_eq_some_iff.1 h2).1
   refine⟨b,by simp [hi,h1],?_,h3,h4⟩
   rw [push_get,if_neg (by omega)]
   exact h2
 dom i b hi:=by
  split at hi
  ·rename_i e;simp;omega
  ·have:=R.dom i b hi;simp;omega
 inj i j b hi hj:=by
  have hbl:∀ k,ρ k=some b→b < w.heap.size:=by
   intro k hk
   have:=R.dom k b hk
   obtain⟨bx,hbx⟩:∃ bx,st.b[k]?=some bx:=⟨st.b[k],by simp [this]⟩
   obtain⟨b',h1,h2,_⟩:=R.box k bx hbx
   rw [hk] at h1
   obtain rfl:=Option.some.inj h1
   exact(Array.getElem?_eq_some_iff.1 h2).1
  split at hi<;>split at hj
  ·omega
  ·have:=hbl _ hj;simp at hi;omega
  ·have:=hbl _ hi;simp at hj;omega
  ·exact R.inj i j b hi hj
theorem RelR.setBox (R:RelR ρ w0 h0 st h a w){i b:Nat}{bx:Box}(hb:st.b[i]?=some bx)(hρ:ρ i=some b)(c:List TV) :
  RelR ρ w0 h0 ⟨st.n,st.t,st.g,setAt st.b i ⟨bx.ty,c,bx.st+1⟩⟩ h a (w.setRow b (tvals c).toArray) where
 n:=R.n
 d:=by
  refine⟨R.d.1,fun d hd=>?_⟩
  obtain⟨D,e,h1,h2,h3⟩:=R.d.2 d hd
  obtain⟨b',k1,k2,k3,k4⟩:=R.box i bx hb
  rw [hρ] at k1;obtain rfl:=Option.some.inj k1
  refine⟨D,e,?_,h2,h3⟩
  rw [setRow_get w b _ _ _ _ k2,if_neg (by intro e2;subst e2;rw [k2] at h1;cases h1)]
  exact h1
 fr:=R.fr
 gd:=R.gd
 sub:=by
  obtain⟨b',h1,h2,h3,h4⟩:=R.box i bx hb
  rw [hρ] at h1;obtain rfl:=Option.some.inj h1
  intro k o hk
  rw [setRow_get w b _ _ _ _ h2,if_neg (by intro e;subst e;simp [h3] at hk)]
  exact R.sub k o hk
 F:=by
  obtain⟨b',h1,h2,h3,h4⟩:=R.box i bx hb
  rw [hρ] at h1;obtain rfl:=Option.some.inj h1
  refine⟨R.F.os,R.F.tape,R.F.output,by simpa [World.setRow] using R.F.size,R.F.drawn,fun k hk hn=>?_⟩
  obtain⟨e,n⟩:=R.F.keep k hk hn
  exact⟨by rw [setRow_get w b _ _ _ _ h2,if_neg (by omega)];exact e,n⟩
 box j bj hj:=by
  obtain⟨b',h1,h2,h3,h4⟩:=R.box i bx hb
  rw [hρ] at h1;obtain rfl:=Option.some.inj h1
  simp only [setAt_get] at hj
  split at hj
  ·rename_i e
   obtain⟨rfl,_⟩:=e
   simp only [Option.some.injEq] at hj
   subst hj
   exact⟨b,hρ,by rw [setRow_get w b _ _ _ _ h2,if_pos rfl],h3,h4⟩
  ·rename_i e
   obtain⟨b2,k1,k2,k3,k4⟩:=R.box j bj hj
   have hjl:j < st.b.length:=(List.getElem?_eq_some_iff.1 hj).1
   have hne:b2≠b:=by
    intro e2
    subst e2
    exact e ⟨R.inj j i b2 k1 hρ,hjl⟩
   exact⟨b2,k1,by rw [setRow_get w b _ _ _ _ h2,if_neg hne];exact k2,k3,k4⟩
 dom j b' hj:=by simpa [setAt_length] using R.dom j b' hj
 inj:=R.inj
def Nxt (w0:World)(h0:Hp)(st:St)(K:SV→List Box→Hp→Prop)(o:Oper)(a:Act)(next:Act→World→Prop):Prop:=
 ∀ sv b' h' ρ' v w',K sv b' h'→RelR ρ' w0 h0 ⟨st.n,st.t,st.g,b'⟩ h' a w'→sv.ok ρ' v→BoxMono st.b b'→next (a.put o.dst v) w'
variable {K:SV→List Box→Hp→Prop}{o:Oper}{next:Act→World→Prop}{Q:Exit→Act→World→Prop}
theorem upon_newBox (R:RelR ρ w0 h0 st h a w){ty:TypeId}{cs:List TV}(H:newBox cfg o st h ty cs K)(hn:Nxt w0 h0 st K o a next)
  (hrun:(execOp a.eval o).run P w=.ok (.value (.pointer (some ⟨w.heap.size,0,none⟩))) (w.alloc (.cells (tvals cs).toArray ty))):o.upon P a next Q ((execOp a.eval o).run P w):=by
 rw [hrun,Oper.upon_value]
 unfold newBox at H
 cases ho:allOneT cs with
 | false=>rw [ho] at H;exact H.elim
 | true=>
  rw [ho] at H
  simp only [cond_true] at H
  cases hp:isPub cfg o.dst with
  | true=>
   rw [hp] at H
   simp only [cond_true] at H
   exact hn _ _ _ ρ _ _ (H w.heap.size R.sub.none) (R.step (R.sub.pushSet _) (Fr.pushSet h w _)) rfl (BoxMono.refl _)
  | false=>
   rw [hp] at H
   simp only [cond_false] at H
   exact hn _ _ _ _ _ _ H (R.newBox ty cs) ⟨w.heap.size,by simp,rfl⟩ (boxMono_new _)
theorem upon_sem (R:RelR ρ w0 h0 st h a w){m:Sem Value}{sh:Sh}(H:SemOK P m h fun v h'=>res sh v fun x=>K x st.b h')(hn:Nxt w0 h0 st K o a next)
  (hrun:(execOp a.eval o).run P w=(m.run P w).andThen fun v w'=>.ok (.value v) w'):o.upon P a next Q ((execOp a.eval o).run P w):=by
 obtain⟨v,w',h',h1,h2,h3,h4⟩:=H w R.sub
 obtain⟨x,⟨rfl,hk⟩,hx⟩:=exS_elim (show exS sh _ from h4)
 rw [hrun,h1,Result.andThen_ok,Oper.upon_value]
 exact hn _ _ _ ρ _ _ hk (R.step h2 h3) (SV.ok_val hx) (BoxMono.refl _)
theorem upon_call (R:RelR ρ w0 h0 st h a w){f:FuncId}{vs:List Value}{sh:Sh}(H:CallOK P f vs h fun v h'=>res sh v fun x=>K x st.b h')(hn:Nxt w0 h0 st K o a next)
  (hrun:(execOp a.eval o).run P w=.ok (.enter f vs.toArray) w):o.upon P a next Q ((execOp a.eval o).run P w):=by
 rw [hrun,Oper.upon_enter]
 refine(H w R.sub).mono ?_
 rintro e w' ⟨v,h',rfl,h2,h3,h4⟩
 obtain⟨x,⟨rfl,hk⟩,hx⟩:=exS_elim (show exS sh _ from h4)
 exact hn _ _ _ ρ _ _ hk (R.step h2 h3) (SV.ok_val hx) (BoxMono.refl _)
end
section
variable {P:Program}{cfg:Cfg}{ρ:Nat→Option Nat}{w0:World}{h0:Hp}{st:St}{h:Hp}{a:Act}{w:World}{ch:List (Nat × Bool)}
variable {K:SV→List Box→Hp→Prop}{next:Act→World→Prop}{Q:Exit→Act→World→Prop}
theorem vcE_ok (hP:NoNG P)(R:RelR ρ w0 h0 st h a w)(hch:∀ s p,(s,p) ∈ ch→a.tmps.getD s undef=.bool p){o:Oper}(H:vcE P cfg o ch st h K)(hn:Nxt w0 h0 st K o a next) :
  o.upon P a next Q ((execOp a.eval o).run P w):=by
 obtain⟨d,op,ty,pos,af,gd⟩:=o
 have hev:=fun x=>ev_ok R hch x
 have hval:=fun {x:Operand} {v:Value} (hv:(st.ev ch x).val?=some v)=>val_ok R hch hv
 cases op with
 | alloc T=>
  simp only [vcE] at H
  split at H
  ·rename_i z hz
   exact upon_newBox R H hn (by rw [exec_v (m:=Instr.alloc T true (.tuple #[])) rfl,run_alloc_T hz];rfl)
  ·exact H.elim
 | box T x=>
  simp only [vcE] at H
  have hx:=hev x
  split at H
  ·rename_i y e
   rw [e] at hx
   cases ho:allOneT y.cells with
   | false=>unfold newBox at H;rw [ho] at H;exact H.elim
   | true=>
    have hpl:plainW y=true:=by
     cases y with
     | one v=>simp [TW.cells,allOneT] at ho;exact ho
     | ag l=>rfl
    have hc:=plainW_cells hpl
    refine upon_newBox R H hn ?_
    rw [exec_v (m:=Instr.box T (a.eval x)) rfl,run_box_T,show a.eval x=y.val from hx]
    rw [hc]
    rfl
  ·exact H.elim
 | buildSlice T n parts=>
  simp only [vcE] at H
  split at H
  ·rename_i e ps hu hps
   split at H
   ·rename_i z hz
    cases hc:(Nat.ble 1 (szT P e)&&Nat.beq z.length (szT P e)&&Nat.ble (n*szT P e) 4096) with
    | false=>rw [hc] at H;exact H.elim
    | true=>
     rw [hc] at H
     simp only [Bool.and_eq_true] at hc
     simp only [cond_true] at H
     split at H
     ·rename_i cs hf
      cases ho:allOneT cs with
      | false=>rw [ho] at H;exact H.elim
      | true=>
       rw [ho] at H
       simp only [cond_true] at H
       have hE:(execOp a.eval ⟨d,.buildSlice T n parts,ty,pos,af,gd⟩).run P w=((Instr.buildSlice T n (ps.map fun q=>(q.1,q.2.val)).toArray).run P w).andThen fun v w'=>.ok (.value v) w':=by
        have e:=partsL_ok R hch hps
        have:parts.map (fun(q:Nat × Operand)=>(q.1,a.eval q.2))=(ps.map fun q=>(q.1,q.2.val)).toArray:=by
         apply Array.ext'
         simpa using e
        rw [←this]
        exact exec_v rfl
       rw [hE,run_buildSlice_T hu hz (Nat.le_of_ble_eq_true hc.1.1) (Nat.eq_of_beq_eq_true hc.1.2) (Nat.le_of_ble_eq_true hc.2) (partsL_plain hps) hf,Result.andThen_ok,Oper.upon_value]
       exact hn _ _ _ ρ _ _ (H w.heap.size R.sub.none) (R.step (R.sub.pushSet _) (Fr.pushSet h w _)) rfl (BoxMono.refl _)
     ·exact H.elim
   ·exact H.elim
  ·exact H.elim
 | store T x y=>
  simp only [vcE] at H
  have hx:=hev x
  have hy:=hev y
  have hE:∀ b o',a.eval x=.pointer (some ⟨b,o',none⟩)→(execOp a.eval ⟨d,.store T x y,ty,pos,af,gd⟩).run P w=((storeVar T ⟨b,o',none⟩ (a.eval y)).run P w).andThen fun _ w'=>.ok .skip w':=by
   intro b o' hb
   simp [execOp,hb,Instr.storeAt,Instr.sureAddr]
  split at H
  ·rename_i i o' y' e1 e2
   rw [e1] at hx;rw [e2] at hy
   obtain⟨b,hb,hx⟩:=hx
   split at H
   ·rename_i bx hbx
    cases hc:(Nat.ble 1 (szT P T)&&Nat.beq y'.cells.length (szT P T)&&Nat.ble (o'+y'.cells.length) bx.c.length&&allOneT y'.cells) with
    | false=>rw [hc] at H;exact H.elim
    | true=>
     rw [hc] at H
     simp only [Bool.and_eq_true] at hc
     simp only [cond_true] at H
     have hpl:plainW y'=true:=by
      cases y' with
      | one v=>simp [TW.cells,allOneT] at hc;exact hc.2
      | ag l=>rfl
     obtain⟨b',k1,k2,k3,k4⟩:=R.box i bx hbx
     rw [hb] at k1;obtain rfl:=Option.some.inj k1
     have hfit:=Nat.le_of_ble_eq_true hc.1.2
     have hrun:=run_storeVar_T (P:=P) (w:=w) (T:=T) (b:=b) (o:=o') (v:=y'.val) (vs:=tvals y'.cells) (Nat.le_of_ble_eq_true hc.1.1.1) (plainW_cells hpl).symm
      (by rw [tvals_length];exact Nat.eq_of_beq_eq_true hc.1.1.2) (allOneT_cells hc.2) k2 (by simpa [tvals_length] using hfit)
     rw [hE _ _ hx,show a.eval y=y'.val from hy,hrun,Result.andThen_ok,Oper.upon_skip]
     have hset:=R.setBox hbx hb (setL bx.c o' y'.cells)
     rw [setL_tvals] at hset
     exact hn .any _ _ ρ undef _ H (by simpa using hset) trivial (boxMono_set hbx _)
   ·exact H.elim
  ·rename_i b o' y' e1 e2
   rw [e1] at hx;rw [e2] at hy
   have hx':a.eval x=.pointer (some ⟨b,o',none⟩):=hx
   cases hc:(Nat.ble 1 (szT P T)&&Nat.beq y'.cells.length (szT P T)&&allOneT y'.cells) with
   | false=>rw [hc] at H;exact H.elim
   | true=>
    rw [hc] at H
    simp only [Bool.and_eq_true] at hc
    simp only [cond_true] at H
    obtain⟨c,t,hb,hfit,hk⟩:=H
    have hpl:plainW y'=true:=by
     cases y' with
     | one v=>simp [TW.cells,allOneT] at hc;exact hc.2
     | ag l=>rfl
    have hwb:=R.sub b _ hb
    have hrun:=run_storeVar_T (P:=P) (w:=w) (T:=T) (b:=b) (o:=o') (v:=y'.val) (vs:=tvals y'.cells) (Nat.le_of_ble_eq_true hc.1.1) (plainW_cells hpl).symm
     (by rw [tvals_length];exact Nat.eq_of_beq_eq_true hc.1.2) (allOneT_cells hc.2) hwb hfit
    rw [hE _ _ hx',show a.eval y=y'.val from hy,hrun,Result.andThen_ok,Oper.upon_skip]
    refine hn .any _ _ ρ undef _ hk (R.step ?_ ?_) trivial (BoxMono.refl _)
    ·intro k o hk
     rw [setRow_get w b _ _ _ _ hwb]
     by_cases e:k=b
     ·subst e;rw [Hp.set_same] at hk;rw [if_pos rfl,hk]
     ·rw [Hp.set_other _ _ e] at hk;rw [if_neg e];exact R.sub k o hk
    ·refine⟨rfl,rfl,rfl,by simp [World.setRow],Nat.le_refl _,fun k hk hkn=>?_⟩
     have e:k≠b:=by intro e;subst e;simp [hb] at hkn
     exact⟨by rw [setRow_get w b _ _ _ _ hwb,if_neg e],by rw [Hp.set_other _ _ e];exact hkn⟩
  ·exact H.elim
 | call c=>
  obtain⟨callee,args,ts⟩:=c
  have hargs:∀ vs,st.evs ch args.toList=some vs→args.map a.eval=vs.toArray:=by
   intro vs hvs
   have e:=evs_ok R hch hvs
   apply Array.ext';simpa using e
  cases callee with
  | invoke r m=>exact H.elim
  | value f=>
   cases f with
   | func g=>
    simp only [vcE] at H
    split at H
    ·rename_i vs hvs
     have hE:(execOp a.eval ⟨d,.call ⟨.value (.func g),args,ts⟩,ty,pos,af,gd⟩).run P w=(callFunc g vs.toArray).run P w:=by
      simp [execOp,resolve,invoke,Act.eval,Deferred.ofValue,hargs vs hvs]
     split at H
     ·rename_i hb
      obtain⟨fn,hf,hbody⟩:=Option.map_eq_some_iff.1 hb
      exact upon_call R H hn (by rw [hE,run_callFunc_body hf (hP g fn hf) hbody])
     ·rename_i hb
      obtain⟨v,w',h',k1,k2,k3,k4⟩:=H w R.sub
      obtain⟨x,⟨rfl,hk⟩,hx⟩:=exS_elim (show exS _ _ from k4)
      rw [hE,k1,Oper.upon_value]
      exact hn _ _ _ ρ _ _ hk (R.step k2 k3) (SV.ok_val hx) (BoxMono.refl _)
     ·exact H.elim
    ·exact H.elim
   | tmp t=>
    simp only [vcE] at H
    split at H
    ·rename_i vs fv hvs hfv
     obtain⟨g,pre,post,rfl,⟨fn,hf,hname,hb⟩,hc⟩:=H
     have hE:(execOp a.eval ⟨d,.call ⟨.value (.tmp t),args,ts⟩,ty,pos,af,gd⟩).run P w=(callFunc g (pre.toList++vs++post.toList).toArray).run P w:=by
      have e:(pre.toList++vs++post.toList).toArray=pre++vs.toArray++post:=by apply Array.ext';simp
      rw [e]
      simp [execOp,resolve,invoke,hval hfv,Deferred.ofValue,hargs vs hvs]
     have hb':fn.body.isSome=true:=by cases hq:fn.body<;>simp_all
     exact upon_call R hc hn (by rw [hE,run_callFunc_body hf hname hb'])
    ·exact H.elim
   | _=>exact H.elim
  | builtin b=>
   have hE:∀(m:Sem Value) (vs:List Value),st.evs ch args.toList=some vs→(∀ cs,builtin b ts ty cs vs.toArray=(do pure (.value (←m)))) →
     (execOp a.eval ⟨d,.call ⟨.builtin b,args,ts⟩,ty,pos,af,gd⟩).run P w=(m.run P w).andThen fun v w'=>.ok (.value v) w':=by
    intro m vs hvs hm
    simp [execOp,resolve,invoke,hargs vs hvs,hm]
   simp only [vcE] at H
   split at H
   ·rename_i vs hvs
    split at H
    ·exact upon_sem R H hn (hE _ vs hvs (fun _=>rfl))
    ·exact upon_sem R H hn (hE _ vs hvs (fun _=>rfl))
    ·exact upon_sem R H hn (hE _ vs hvs (fun _=>rfl))
    ·exact upon_sem R H hn (hE _ vs hvs (fun _=>rfl))
    ·exact H.elim
   ·exact H.elim
 | makeMap T r=>
  cases r with
  | some r=>exact H.elim
  | none=>exact upon_sem R (show SemOK P _ h _ from H) hn (exec_v (by simp [execOp]))
 | makeSlice T l c=>
  simp only [vcE] at H
  split at H
  ·rename_i u v e1 e2
   exact upon_sem R H hn (exec_v (by simp [execOp,hval e1,hval e2]))
  ·exact H.elim
 | convert s t x=>
  simp only [vcE] at H
  split at H
  ·rename_i u e1
   exact upon_sem R H hn (exec_v (by simp [execOp,hval e1]))
  ·exact H.elim
 | mapUpdate T m k x=>
  simp only [vcE] at H
  split at H
  ·rename_i m' k' x' e1 e2 e3
   obtain⟨w',h',k1,k2,k3,k4⟩:=H w R.sub
   have hE:(execOp a.eval ⟨d,.mapUpdate T m k x,ty,pos,af,gd⟩).run P w=((Instr.mapUpdate T m' k' x').run P w).andThen fun _ w'=>.ok .skip w':=by
    simp [execOp,hval e1,hval e2,hval e3]
   rw [hE,k1,Result.andThen_ok,Oper.upon_skip]
   exact hn .any _ _ ρ undef _ k4 (R.step k2 k3) trivial (BoxMono.refl _)
  ·exact H.elim
 | insert T m k x=>
  simp only [vcE] at H
  split at H
  ·rename_i m' k' x' e1 e2 e3
   obtain⟨w',h',k1,k2,k3,k4⟩:=H w R.sub
   have hE:(execOp a.eval ⟨d,.insert T m k x,ty,pos,af,gd⟩).run P w=((Instr.mapUpdate T m' k' x').run P w).andThen fun _ w'=>.ok .skip w':=by
    simp [execOp,hval e1,hval e2,hval e3]
   rw [hE,k1,Result.andThen_ok,Oper.upon_skip]
   exact hn .any _ _ ρ undef _ k4 (R.step k2 k3) trivial (BoxMono.refl _)
  ·exact H.elim
 | range T x=>
  simp only [vcE] at H
  split at H
  ·rename_i u e1
   obtain⟨v,w',h',k1,k2,k3,k4⟩:=H w R.sub
   have hE:(execOp a.eval ⟨d,.range T x,ty,pos,af,gd⟩).run P w=((Instr.range T u).run P w).andThen fun v w'=>.ok (.value v) w':=exec_v (by simp [execOp,hval e1])
   rw [hE,k1,Result.andThen_ok,Oper.upon_value]
   exact hn _ _ _ ρ _ _ k4 (R.step k2 k3) rfl (BoxMono.refl _)
  ·exact H.elim
 | next it s=>
  simp only [vcE] at H
  split at H
  ·rename_i u e1
   exact upon_sem R H hn (exec_v (by simp [execOp,hval e1]))
  ·exact H.elim
 | _=>exact H.elim
end
section
variable {P:Program}{cfg:Cfg}{ρ:Nat→Option Nat}{w0:World}{h0:Hp}{st:St}{h:Hp}{a:Act}{w:World}
theorem put_ok (R:RelR ρ w0 h0 st h a w){dst:Option Nat}{gd:Option (Nat × Bool)}{x:SV}{K:St→Prop}(H:st.put dst gd x K){v:Value}
  (hv:match gd with
   | none=>x.ok ρ v
   | some (s,p)=>(a.tmps.getD s undef=.bool p→x.ok ρ v)∧(a.tmps.getD s undef≠.bool p→v=undef)) :
  ∃ st',K st'∧RelR ρ w0 h0 st' h (a.put dst v) w∧Ev (dstL dst) st st':=by
 cases dst with
 | none=>exact⟨st,H,R,Ev.refl _ _⟩
 | some d=>
  cases gd with
  | none=>
   simp only [St.put] at H
   cases hc:(Nat.blt d st.n&&!(st.g d)) with
   | false=>rw [hc] at H;exact H.elim
   | true=>
    rw [hc] at H
    simp only [Bool.and_eq_true,Bool.not_eq_true'] at hc
    have hd:d < a.tmps.size:=by rw [R.n];exact of_decide_eq_true (by have:=hc.1;simpa [Nat.blt_eq] using this)
    refine⟨_,H,⟨by simp [Act.put,R.n],R.d,fun i=>?_,?_,R.sub,R.F,R.box,R.dom,R.inj⟩,⟨rfl,fun i hi=>?_,BoxMono.refl _⟩⟩
    ·simp only [Act.put]
     rw [getD_set _ _ _ _ hd]
     cases hb:Nat.beq i d with
     | true=>
      have:=Nat.eq_of_beq_eq_true hb
      simp only [cond_true,if_pos this]
      exact hv
     | false=>
      have hne:=Nat.ne_of_beq_eq_false hb
      simp only [cond_false,if_neg hne]
      have hr:=R.fr i
      cases hi:st.t i with
      | s y=>rw [hi] at hr;exact hr
      | gd k p y=>
       rw [hi] at hr
       have hk:=R.gd i k p y hi
       have hkd:k≠d:=by intro e;subst e;rw [hc.2] at hk;simp at hk
       simp only [Sl.ok] at hr ⊢
       rw [getD_set _ _ _ _ hd,if_neg hkd]
       exact hr
    ·intro i s p y hi
     simp only at hi
     cases hb:Nat.beq i d with
     | true=>rw [hb] at hi;simp at hi
     | false=>rw [hb] at hi;exact R.gd i s p y hi
    ·have hne:i≠d:=by simpa [dstL] using hi
     have:Nat.beq i d=false:=by cases hq:Nat.beq i d<;>simp_all
     simp [this]
  | some q=>
   obtain⟨s,p⟩:=q
   simp only [St.put] at H
   cases hc:(Nat.blt d st.n&&!(Nat.beq d s||st.g d)) with
   | false=>rw [hc] at H;exact H.elim
   | true=>
    rw [hc] at H
    simp only [Bool.and_eq_true,Bool.not_eq_true'] at hc
    have hd:d < a.tmps.size:=by rw [R.n];exact of_decide_eq_true (by have:=hc.1;simpa [Nat.blt_eq] using this)
    have hnm:¬ d=s∧¬ st.g d=true:=by
     have:=hc.2
     simp only [Bool.or_eq_false_iff] at this
     exact⟨Nat.ne_of_beq_eq_false this.1,by simp [this.2]⟩
    refine⟨_,H,⟨by simp [Act.put,R.n],R.d,fun i=>?_,?_,R.sub,R.F,R.box,R.dom,R.inj⟩,⟨rfl,fun i hi=>?_,BoxMono.refl _⟩⟩
    ·simp only [Act.put]
     rw [getD_set _ _ _ _ hd]
     cases hb:Nat.beq i d with
     | true=>
      have:=Nat.eq_of_beq_eq_true hb
      simp only [cond_true,if_pos this,Sl.ok]
      rw [getD_set _ _ _ _ hd,if_neg (fun e=>hnm.1 e.symm)]
      exact hv
     | false=>
      have hne:=Nat.ne_of_beq_eq_false hb
      simp only [cond_false,if_neg hne]
      have hr:=R.fr i
      cases hi:st.t i with
      | s y=>rw [hi] at hr;exact hr
      | gd k p y=>
       rw [hi] at hr
       have hk:=R.gd i k p y hi
       have hkd:k≠d:=by intro e;subst e;exact hnm.2 hk
       simp only [Sl.ok] at hr ⊢
       rw [getD_set _ _ _ _ hd,if_neg hkd]
       exact hr
    ·intro i k p' y hi
     simp only at hi
     cases hb:Nat.beq i d with
     | true=>
      rw [hb] at hi
      simp only [cond_true,Sl.gd.injEq] at hi
      simp [hi.1]
     | false=>
      rw [hb] at hi
      have:=R.gd i k p' y hi
      simp only
      cases hq:Nat.beq k s<;>simp [this]
    ·have hne:i≠d:=by simpa [dstL] using hi
     have:Nat.beq i d=false:=by cases hq:Nat.beq i d<;>simp_all
     simp [this]
theorem cond_spec (R:RelR ρ w0 h0 st h a w):∀(n s:Nat) (p:Bool),okGd st n s=true →
  (condP st n s p→a.tmps.getD s undef=.bool p∧∀ s' p',(s',p') ∈ chain st n s p→a.tmps.getD s' undef=.bool p') ∧
  (¬ condP st n s p→a.tmps.getD s undef≠.bool p):=Vc.cond_spec R.toVc
end
theorem vcE_call {P:Program}{cfg:Cfg}{o:Oper}{ch:List (Nat × Bool)}{st:St}{h:Hp}{J:SV→Hp→Prop}{K:SV→List Box→Hp→Prop}(hc:isCall o.op=true)(hk:∀ sv h',J sv h'→(exS (shp P o.type) fun y=>y=sv)→K sv st.b h')(H:vcE P cfg o ch st h fun sv _ h'=>J sv h') :
  vcE P cfg o ch st h K:=by
 obtain⟨dst,op,ty,pos,af,gd⟩:=o
 have hR:∀ v h',(res (shp P ty) v fun x=>J x h')→res (shp P ty) v fun x=>K x st.b h':=fun v h' hr=>res_shape (fun x=>hk x h') hr
 have hsem:∀ m,(SemOK P m h fun v h'=>res (shp P ty) v fun x=>J x h')→SemOK P m h fun v h'=>res (shp P ty) v fun x=>K x st.b h':=
  fun m Hm w hs=>let ⟨v,w',h',h1,h2,h3,h4⟩:=Hm w hs;⟨v,w',h',h1,h2,h3,hR _ _ h4⟩
 have hcall:∀ f vs,(CallOK P f vs h fun v h'=>res (shp P ty) v fun x=>J x h')→CallOK P f vs h fun v h'=>res (shp P ty) v fun x=>K x st.b h':=
  fun f vs Hm w hs=>(Hm w hs).mono fun e w' ⟨v,h',h1,h2,h3,h4⟩=>⟨v,h',h1,h2,h3,hR _ _ h4⟩
 cases op with
 | call c=>
  obtain⟨callee,args,ts⟩:=c
  cases callee with
  | builtin b=>
   simp only [vcE] at H ⊢
   split at H
   ·cases b<;>first|exact H.elim|exact hsem _ H
   ·exact H.elim
  | value f=>
   cases f with
   | func g=>
    simp only [vcE] at H ⊢
    split at H
    ·rename_i vs hvs
     cases hb:(P.funcs[g]?).map (·.body.isSome) with
     | none=>rw [hb] at H;exact H.elim
     | some q=>
      rw [hb] at H
      cases q with
      | true=>exact hcall _ _ H
      | false=>exact fun w hs=>let ⟨v,w',h',h1,h2,h3,h4⟩:=H w hs;⟨v,w',h',h1,h2,h3,hR _ _ h4⟩
    ·exact H.elim
   | tmp t=>
    simp only [vcE] at H ⊢
    split at H
    ·obtain⟨f,pre,post,e,hfn,hcl⟩:=H
     exact⟨f,pre,post,e,hfn,hcall _ _ hcl⟩
    ·exact H.elim
   | _=>exact H.elim
  | invoke r m=>exact H.elim
 | _=>cases hc
theorem vcOp_gen {P:Program}{cfg:Cfg}(hP:NoNG P){ops:Array Oper}{o:Oper}{w0:World}{h0:Hp}{st:St}{h:Hp}{a:Act}{w:World}{K:St→Hp→Prop}{Q:Exit→Act→World→Prop}{N:Act→World→Prop}
  (R:Rel w0 h0 st h a w) (H:vcOp P cfg ops o st h K)
  (hn:∀ st' h' a' w',K st' h'→Rel w0 h0 st' h' a' w'→Ev (dstL o.dst) st st'→N a' w'):if Region.wanted o (yielded ops a.tmps) then o.wp P a w N Q∨(o.asks P a w∧LetsOut Q) else N (a.put o.dst undef) w:=by
 obtain⟨ρ,R⟩:=R
 unfold vcOp at H
 have hnE:∀{gdr:Option (Nat × Bool)},Nxt w0 h0 st (fun sv b h'=>St.put ⟨st.n,st.t,st.g,b⟩ o.dst none sv fun st'=>K st' h') o a N:=by
  intro _ sv b' h' ρ' v w' hk R' hsv hb
  obtain⟨st',k1,k2,k3⟩:=put_ok R' (gd:=none) hk hsv
  exact hn st' h' _ _ k1 ⟨ρ',k2⟩ ⟨k3.n,k3.t,hb.trans k3.b⟩
 cases hg:o.guard with
 | none=>
  rw [hg] at H
  simp only at H
  rw [if_pos (wanted_none hg _)]
  left
  unfold Oper.wp
  cases hE:isE P o.op with
  | true=>
   rw [hE] at H
   simp only [cond_true] at H
   exact vcE_ok hP R (ch:=[]) (fun _ _ hm=>by simp at hm) H (hnE (gdr:=none))
  | false=>
   rw [hE] at H
   simp only [cond_false] at H
   obtain⟨sv,hk,v,hr,hsv⟩:=vcV_ok R (ch:=[]) (fun _ _ hm=>by simp at hm) (G:=fun p=>p) (fun p hp=>hp) H
   rw [hr,Oper.upon_value]
   obtain⟨st',k1,k2,k3⟩:=put_ok R (gd:=none) hk hsv
   exact hn st' h _ _ k1 ⟨ρ,k2⟩ k3
 | some q=>
  obtain⟨j,p⟩:=q
  rw [hg] at H
  simp only at H
  split at H
  ·exact H.elim
  ·rename_i s hj
   cases hok:okGd st 8 s with
   | false=>rw [hok] at H;exact H.elim
   | true=>
    rw [hok] at H
    simp only [cond_true] at H
    have hspec:=cond_spec R 8 s p hok
    have hw:=wanted_some (ops:=ops) hg hj a.tmps
    cases hE:isE P o.op with
    | true=>
     rw [hE] at H
     simp only [cond_true] at H
     cases hC:isCall o.op with
     | true=>
      rw [hC] at H
      simp only [cond_true] at H
      obtain⟨J,H1,H2,H3⟩:=H
      by_cases hc:condP st 8 s p
      ·obtain⟨h1,h2⟩:=hspec.1 hc
       rw [if_pos (hw.2 h1)]
       left
       unfold Oper.wp
       refine vcE_ok hP R h2 (vcE_call (K:=fun sv b h'=>b=st.b∧J sv h'∧exS (shp P o.type) fun y=>y=sv) hC (fun sv h' q1 q2=>⟨rfl,q1,q2⟩) (H1 hc)) ?_
       rintro sv b' h' ρ' v w' ⟨hk0,hk1,hk2⟩ R' hsv hb
       subst hk0
       obtain⟨st',k1,k2,k3⟩:=put_ok R' (gd:=some (s,p)) (alS_in (H3 h') hk2 hk1) (v:=v) ⟨fun _=>hsv,fun e=>(e h1).elim⟩
       exact hn st' h' _ _ k1 ⟨ρ',k2⟩ ⟨k3.n,k3.t,hb.trans k3.b⟩
      ·have h1:=hspec.2 hc
       rw [if_neg (fun e=>h1 (hw.1 e))]
       obtain⟨st',k1,k2,k3⟩:=put_ok R (gd:=some (s,p)) (v:=undef) (alS_in (H3 h) (dfl_in _) (H2 hc)) ⟨fun e=>(h1 e).elim,fun _=>rfl⟩
       exact hn st' h _ _ k1 ⟨ρ,k2⟩ k3
     | false=>
     rw [hC] at H
     simp only [cond_false] at H
     by_cases hc:condP st 8 s p
     ·obtain⟨h1,h2⟩:=hspec.1 hc
      rw [if_pos (hw.2 h1)]
      left
      unfold Oper.wp
      exact vcE_ok hP R h2 (H.1 hc) (hnE (gdr:=none))
     ·have h1:=hspec.2 hc
      rw [if_neg (fun e=>h1 (hw.1 e))]
      obtain⟨st',k1,k2,k3⟩:=put_ok R (gd:=some (s,p)) (v:=undef) (H.2 hc) ⟨fun e=>(h1 e).elim,fun _=>rfl⟩
      exact hn st' h _ _ k1 ⟨ρ,k2⟩ k3
    | false=>
     rw [hE] at H
     simp only [cond_false] at H
     by_cases hc:condP st 8 s p
     ·obtain⟨h1,h2⟩:=hspec.1 hc
      rw [if_pos (hw.2 h1)]
      left
      unfold Oper.wp
      obtain⟨sv,hk,v,hr,hsv⟩:=vcV_ok R h2 (fun q hq=>hq hc) H
      rw [hr,Oper.upon_value]
      obtain⟨st',k1,k2,k3⟩:=put_ok R (gd:=some (s,p)) hk (v:=v) ⟨fun _=>hsv,fun e=>(e h1).elim⟩
      exact hn st' h _ _ k1 ⟨ρ,k2⟩ k3
     ·have h1:=hspec.2 hc
      rw [if_neg (fun e=>h1 (hw.1 e))]
      obtain⟨sv,hk⟩:=vcV_any H
      obtain⟨st',k1,k2,k3⟩:=put_ok R (gd:=some (s,p)) hk (v:=undef) ⟨fun e=>(h1 e).elim,fun _=>rfl⟩
      exact hn st' h _ _ k1 ⟨ρ,k2⟩ k3
theorem vcOp_ok {P:Program}{cfg:Cfg}(hP:NoNG P){ops:Array Oper}{o:Oper}{w0:World}{h0:Hp}{st:St}{h:Hp}{a:Act}{w:World}{K:St→Hp→Prop}{Q:Exit→Act→World→Prop}{rest:List Oper}
  (R:Rel w0 h0 st h a w) (H:vcOp P cfg ops o st h K)
  (hn:∀ st' h' a' w',K st' h'→Rel w0 h0 st' h' a' w'→Ev (dstL o.dst) st st'→wpList P ops Q rest a' w'):wpList P ops Q (o :: rest) a w:=by
 unfold wpList
 exact vcOp_gen hP R H hn
section
variable {P:Program}{cfg:Cfg}{st st1:St}{d:Nat}{ch:List (Nat × Bool)}
theorem Agr.vcE (A:Agr d st st1){o:Oper}(h:∀ x ∈ o.op.operands.toList,x≠.tmp d){hp:Hp}{K:SV→List Box→Hp→Prop}:Vd.vcE P cfg o ch st1 hp K=Vd.vcE P cfg o ch st hp K:=by
 obtain⟨dst,op,ty,pos,af,gd⟩:=o
 have hnb:∀ T cs,Vc.newBox cfg ⟨dst,op,ty,pos,af,gd⟩ st1 hp T cs K=Vc.newBox cfg ⟨dst,op,ty,pos,af,gd⟩ st hp T cs K:=by intro T cs;simp only [Vc.newBox,A.b]
 cases op with
 | alloc T=>simp only [Vd.vcE,hnb]
 | box T x=>simp only [Vd.vcE,hnb];rw [A.ev (h x (by simp [Op.operands]))]
 | buildSlice T n ps=>
  simp only [Vd.vcE,A.b]
  rw [A.partsL (fun x hx=>h x.2 (by simp only [Op.operands,List.mem_map];exact⟨x,hx,rfl⟩))]
 | store T x y=>simp only [Vd.vcE,A.b];rw [A.ev (h x (by simp [Op.operands])),A.ev (h y (by simp [Op.operands]))]
 | call c=>
  obtain⟨callee,args,ts⟩:=c
  have ha:∀ x ∈ args.toList,x≠.tmp d:=fun x hx=>h x (by simp only [Op.operands,Call.operands];cases callee<;>simp_all)
  cases callee with
  | builtin b=>simp only [Vd.vcE,A.b];rw [A.evs ha]
  | value f=>
   cases f with
   | func g=>simp only [Vd.vcE,A.b];rw [A.evs ha]
   | tmp t=>simp only [Vd.vcE,A.b];rw [A.evs ha,A.ev (h (.tmp t) (by simp [Op.operands,Call.operands]))]
   | _=>rfl
  | invoke r m=>rfl
 | makeMap T r=>cases r<;>simp only [Vd.vcE,A.b]
 | convert s t x=>simp only [Vd.vcE,A.b];rw [A.ev (h x (by simp [Op.operands]))]
 | makeSlice T l c=>simp only [Vd.vcE,A.b];rw [A.ev (h l (by simp [Op.operands])),A.ev (h c (by simp [Op.operands]))]
 | mapUpdate T m k x=>simp only [Vd.vcE,A.b];rw [A.ev (h m (by simp [Op.operands])),A.ev (h k (by simp [Op.operands])),A.ev (h x (by simp [Op.operands]))]
 | insert T m k x=>simp only [Vd.vcE,A.b];rw [A.ev (h m (by simp [Op.operands])),A.ev (h k (by simp [Op.operands])),A.ev (h x (by simp [Op.operands]))]
 | range T x=>simp only [Vd.vcE,A.b];rw [A.ev (h x (by simp [Op.operands]))]
 | next it s=>simp only [Vd.vcE,A.b];rw [A.ev (h it (by simp [Op.operands]))]
 | _=>rfl
end
section
variable {P:Program}{cfg:Cfg}{ops:Array Oper}{st st1:St}{d:Nat}
theorem vcOp_V {o:Oper}{h:Hp}{K:St→Hp→Prop}(hE:isE P o.op=false):vcOp P cfg ops o st h K↔∃ g,gdO ops o=some g∧okG st g∧putC st o.dst g∧∃ sv,VS P g o st h sv∧K (putS st o.dst g sv) h:=by
 unfold vcOp gdO
 cases hg:o.guard with
 | none=>
  simp only [hE,cond_false,Option.some.injEq,exists_eq_left',okG,true_and]
  constructor
  ·intro H
   obtain⟨sv,h1,h2⟩:=VD.pick (show (vcVd P o [] st).sem P (fun p=>p) h _ from H)
   rw [put_iff] at h2
   exact⟨h2.1,sv,h1,h2.2⟩
  ·rintro⟨h1,sv,h2,h3⟩
   exact VD.mono (fun _ b o hb=>hb) (fun p q f=>f) (fun x hx=>by rw [hx];exact put_iff.2 ⟨h1,h3⟩) h2
 | some q=>
  obtain⟨j,p⟩:=q
  simp only
  cases hj:(ops[j]?).bind (·.dst) with
  | none=>simp
  | some s=>
   simp only [Option.map_some,Option.some.injEq,exists_eq_left',okG,hE,cond_false]
   cases hok:okGd st 8 s with
   | false=>simp
   | true=>
    simp only [cond_true,true_and]
    constructor
    ·intro H
     obtain⟨sv,h1,h2⟩:=VD.pick (show (vcVd P o (chain st 8 s p) st).sem P (fun q=>condP st 8 s p→q) h _ from H)
     rw [put_iff] at h2
     exact⟨h2.1,sv,h1,h2.2⟩
    ·rintro⟨h1,sv,h2,h3⟩
     exact VD.mono (fun _ b o hb=>hb) (fun p q f g c=>f (g c)) (fun x hx=>by rw [hx];exact put_iff.2 ⟨h1,h3⟩) h2
theorem vcE_mono {o:Oper}{st:St}{ch:List (Nat × Bool)}{h:Hp}{K K':SV→List Box→Hp→Prop}(hk:∀ sv b h',BoxMono st.b b→K sv b h'→K' sv b h')(H:vcE P cfg o ch st h K):vcE P cfg o ch st h K':=by
 obtain⟨dst,op,ty,pos,af,gd⟩:=o
 have same:∀ sv h',K sv st.b h'→K' sv st.b h':=fun sv h'=>hk sv st.b h' (BoxMono.refl _)
 have hsem:∀ m sh,(SemOK P m h fun v h'=>res sh v fun x=>K x st.b h')→SemOK P m h fun v h'=>res sh v fun x=>K' x st.b h':=by
  intro m sh H w hs
  obtain⟨v,w',h',h1,h2,h3,h4⟩:=H w hs
  exact⟨v,w',h',h1,h2,h3,res_mono (fun x hx=>same _ _ hx) h4⟩
 have hcall:∀ f vs sh,(CallOK P f vs h fun v h'=>res sh v fun x=>K x st.b h')→CallOK P f vs h fun v h'=>res sh v fun x=>K' x st.b h':=by
  intro f vs sh H w hs
  exact(H w hs).mono fun e w' ⟨v,h',h1,h2,h3,h4⟩=>⟨v,h',h1,h2,h3,res_mono (fun x hx=>same _ _ hx) h4⟩
 cases op with
 | alloc T=>
  simp only [vcE] at *
  split at H
  ·exact newBox_mono hk H
  ·exact H.elim
 | box T x=>
  simp only [vcE] at *
  split at H
  ·exact newBox_mono hk H
  ·exact H.elim
 | buildSlice T n parts=>
  simp only [vcE] at *
  rcases hu:P.underlying T with _|d'
  ·rw [hu] at H;exact H.elim
  ·rcases hp:partsL st ch parts.toList with _|ps
   ·rw [hu,hp] at H;cases d'<;>exact H.elim
   ·rw [hu,hp] at H
    cases d' with
    | slice e=>
     simp only at *
     rcases hz:zeroL P e with _|z
     ·rw [hz] at H;exact H.elim
     ·rw [hz] at H
      simp only at *
      rcases Bool.eq_false_or_eq_true (Nat.ble 1 (szT P e)&&Nat.beq z.length (szT P e)&&Nat.ble (n*szT P e) 4096) with hc|hc
      ·rw [hc] at H ⊢
       simp only [cond_true] at *
       rcases hf:fillL (fun i=>some (i*szT P e,szT P e)) ((List.replicate n z).flatten) ps with _|cs
       ·rw [hf] at H;exact H.elim
       ·rw [hf] at H
        simp only at *
        rcases Bool.eq_false_or_eq_true (allOneT cs) with ho|ho
        ·rw [ho] at H ⊢;exact fun b hb=>same _ _ (H b hb)
        ·rw [ho] at H;exact H.elim
      ·rw [hc] at H;exact H.elim
    | _=>exact H.elim
 | store T x y=>
  simp only [vcE] at *
  split at H
  ·rename_i i o' y' e1 e2
   rcases hb:st.b[i]? with _|bx
   ·rw [hb] at H;exact H.elim
   ·rw [hb] at H
    simp only at *
    rcases Bool.eq_false_or_eq_true (Nat.ble 1 (szT P T)&&Nat.beq y'.cells.length (szT P T)&&Nat.ble (o'+y'.cells.length) bx.c.length&&allOneT y'.cells) with hc|hc
    ·rw [hc] at H ⊢;exact hk _ _ _ (boxMono_set hb _) H
    ·rw [hc] at H;exact H.elim
  ·rename_i b o' y' e1 e2
   rcases Bool.eq_false_or_eq_true (Nat.ble 1 (szT P T)&&Nat.beq y'.cells.length (szT P T)&&allOneT y'.cells) with hc|hc
   ·rw [hc] at H ⊢
    simp only [cond_true] at *
    obtain⟨c,e,h1,h2,h3⟩:=H
    exact⟨c,e,h1,h2,same _ _ h3⟩
   ·rw [hc] at H;exact H.elim
  ·exact H.elim
 | call c=>
  obtain⟨callee,args,ts⟩:=c
  cases callee with
  | invoke r m=>exact H.elim
  | value f=>
   cases f with
   | func g=>
    simp only [vcE] at *
    split at H
    ·split at H
     ·exact hcall _ _ _ H
     ·intro w hs
      obtain⟨v,w',h',h1,h2,h3,h4⟩:=H w hs
      exact⟨v,w',h',h1,h2,h3,res_mono (fun x hx=>same _ _ hx) h4⟩
     ·exact H.elim
    ·exact H.elim
   | tmp t=>
    simp only [vcE] at *
    split at H
    ·obtain⟨f,pre,post,h1,h2,h3⟩:=H
     exact⟨f,pre,post,h1,h2,hcall _ _ _ h3⟩
    ·exact H.elim
   | _=>exact H.elim
  | builtin b=>
   simp only [vcE] at *
   split at H
   ·split at H
    ·exact hsem _ _ H
    ·exact hsem _ _ H
    ·exact hsem _ _ H
    ·exact hsem _ _ H
    ·exact H.elim
   ·exact H.elim
 | makeMap T r=>
  cases r with
  | some r=>exact H.elim
  | none=>exact hsem _ _ H
 | convert s t x=>
  simp only [vcE] at *
  split at H
  ·exact hsem _ _ H
  ·exact H.elim
 | makeSlice T l c=>
  simp only [vcE] at *
  split at H
  ·exact hsem _ _ H
  ·exact H.elim
 | mapUpdate T m k x=>
  simp only [vcE] at *
  split at H
  ·intro w hs
   obtain⟨w',h',h1,h2,h3,h4⟩:=H w hs
   exact⟨w',h',h1,h2,h3,same _ _ h4⟩
  ·exact H.elim
 | insert T m k x=>
  simp only [vcE] at *
  split at H
  ·intro w hs
   obtain⟨w',h',h1,h2,h3,h4⟩:=H w hs
   exact⟨w',h',h1,h2,h3,same _ _ h4⟩
  ·exact H.elim
 | range T x=>
  simp only [vcE] at *
  split at H
  ·intro w hs
   obtain⟨v,w',h',h1,h2,h3,h4⟩:=H w hs
   exact⟨v,w',h',h1,h2,h3,same _ _ h4⟩
  ·exact H.elim
 | next it s=>
  simp only [vcE] at *
  split at H
  ·exact hsem _ _ H
  ·exact H.elim
 | _=>exact H.elim
theorem vcE_mono2 {o:Oper}{st:St}{ch:List (Nat × Bool)}{h:Hp}{K:SV→List Box→Hp→Prop}{J:SV→Hp→Prop}(hc:isCall o.op=true)(hk:∀ sv h',K sv st.b h'→J sv h')(H:vcE P cfg o ch st h K):vcE P cfg o ch st h fun sv _ h'=>J sv h':=by
 obtain⟨dst,op,ty,pos,af,gd⟩:=o
 have hR:∀ v h',(res (shp P ty) v fun x=>K x st.b h')→res (shp P ty) v fun x=>J x h':=fun v h' hr=>res_mono (fun x=>hk x h') hr
 have hsem:∀ m,(SemOK P m h fun v h'=>res (shp P ty) v fun x=>K x st.b h')→SemOK P m h fun v h'=>res (shp P ty) v fun x=>J x h':=
  fun m Hm w hs=>let ⟨v,w',h',h1,h2,h3,h4⟩:=Hm w hs;⟨v,w',h',h1,h2,h3,hR _ _ h4⟩
 have hcall:∀ f vs,(CallOK P f vs h fun v h'=>res (shp P ty) v fun x=>K x st.b h')→CallOK P f vs h fun v h'=>res (shp P ty) v fun x=>J x h':=
  fun f vs Hm w hs=>(Hm w hs).mono fun e w' ⟨v,h',h1,h2,h3,h4⟩=>⟨v,h',h1,h2,h3,hR _ _ h4⟩
 cases op with
 | call c=>
  obtain⟨callee,args,ts⟩:=c
  cases callee with
  | builtin b=>
   simp only [Vd.vcE] at H ⊢
   split at H
   ·cases b<;>first|exact H.elim|exact hsem _ H
   ·exact H.elim
  | value f=>
   cases f with
   | func g=>
    simp only [Vd.vcE] at H ⊢
    split at H
    ·rename_i vs hvs
     cases hb:(P.funcs[g]?).map (·.body.isSome) with
     | none=>rw [hb] at H;exact H.elim
     | some q=>
      rw [hb] at H
      cases q with
      | true=>exact hcall _ _ H
      | false=>exact fun w hs=>let ⟨v,w',h',h1,h2,h3,h4⟩:=H w hs;⟨v,w',h',h1,h2,h3,hR _ _ h4⟩
    ·exact H.elim
   | tmp t=>
    simp only [Vd.vcE] at H ⊢
    split at H
    ·obtain⟨f,pre,post,e,hfn,hcl⟩:=H
     exact⟨f,pre,post,e,hfn,hcall _ _ hcl⟩
    ·exact H.elim
   | _=>exact H.elim
  | invoke r m=>exact H.elim
 | _=>cases hc
theorem vcOp_E {o:Oper}{h:Hp}{K:St→Hp→Prop}(hE:isE P o.op=true):vcOp P cfg ops o st h K↔∃ g,gdO ops o=some g∧okG st g ∧
  (coG st g→vcE P cfg o (chG st g) st h fun sv b h'=>putC ⟨st.n,st.t,st.g,b⟩ o.dst (pgO o g)∧K (putS ⟨st.n,st.t,st.g,b⟩ o.dst (pgO o g) sv) h') ∧
  (¬ coG st g→putC st o.dst g∧K (putS st o.dst g (dfl (shp P o.type))) h):=by
 unfold vcOp gdO
 cases hg:o.guard with
 | none=>
  have e0:pgO o none=none:=by unfold pgO;cases isCall o.op<;>rfl
  simp only [hE,cond_true,Option.some.injEq,exists_eq_left',okG,coG,chG,true_and,not_true_eq_false,false_implies,true_implies,and_true,put_iff,e0]
 | some q=>
  obtain⟨j,p⟩:=q
  simp only
  cases hj:(ops[j]?).bind (·.dst) with
  | none=>simp
  | some s=>
   simp only [Option.map_some,Option.some.injEq,exists_eq_left',okG,coG,chG,hE,cond_true]
   cases hok:okGd st 8 s with
   | false=>simp
   | true=>
    cases hC:isCall o.op with
    | false=>
     have e0:pgO o (some (s,p))=none:=by unfold pgO;rw [hC];rfl
     simp only [cond_true,cond_false,true_and,put_iff,e0]
    | true=>
     have e0:pgO o (some (s,p))=some (s,p):=by unfold pgO;rw [hC];rfl
     simp only [cond_true,true_and,e0]
     constructor
     ·rintro⟨J,H1,H2,H3⟩
      exact⟨fun hc=>vcE_call hC (fun sv h' q1 q2=>put_iff.1 (alS_in (H3 h') q2 q1)) (H1 hc),fun hc=>put_iff.1 (alS_in (H3 h) (dfl_in _) (H2 hc))⟩
     ·rintro⟨H1,H2⟩
      exact⟨fun sv h'=>putC st o.dst (some (s,p))∧K (putS st o.dst (some (s,p)) sv) h',fun hc=>vcE_mono2 hC (fun sv h' q1=>q1) (H1 hc),fun hc=>H2 hc,fun h'=>alS_all fun x hx=>put_iff.2 hx⟩
theorem swapVV {j i:Oper}{nj:Nat}(A:Apart ops j i)(W:WF st)(hi:isE P i.op=false){h:Hp}{fl:List Fg}{F:List Fg→St→Prop}
  (H:vcDV P ops nj j st h fl fun fl' s=>vcOp P cfg ops i s h fun s2 _=>F fl' s2):vcOp P cfg ops i st h fun s _=>vcDV P ops nj j s h fl fun fl' s2=>F fl' s2:=by
 obtain⟨gj,hgj,okj,pj,svj,vj,H⟩:=vcDV_iff.1 H
 obtain⟨gi,hgi,oki,pi,svi,vi,H⟩:=(vcOp_V hi).1 H
 obtain⟨e1,e2,_,_,_⟩:=VS_put (P:=P) A W hgi pj (v:=svj) (h:=h)
 have pi':=(putC_put A hgj hgi pj).1 pi
 have A':Apart ops i j:=⟨A.yx,A.xy,fun d e hd he=>(A.ne e d he hd).symm⟩
 obtain⟨f1,f2,f3,_,_⟩:=VS_put (P:=P) A' W hgj pi' (v:=svi) (h:=h)
 refine(vcOp_V hi).2 ⟨gi,hgi,e1.1 oki,pi',svi,(e2 _).1 vi,?_⟩
 refine vcDV_iff.2 ⟨gj,hgj,f1.2 okj,(putC_put A' hgi hgj pi').2 pj,svj,(f2 _).2 vj,?_⟩
 rw [putS_comm A',f3]
 exact H
theorem vcE_A {o:Oper}{ch:List (Nat × Bool)}{st:St}(hA:isA o.op=true):∃ D:AD,∀ h K,vcE P cfg o ch st h K↔D.sem st.b h K:=by
 obtain⟨dst,op,ty,pos,af,gd⟩:=o
 cases op with
 | alloc T=>
  simp only [vcE]
  split
  ·exact newBox_A
  ·exact⟨.no,fun h K=>Iff.rfl⟩
 | box T x=>
  simp only [vcE]
  split
  ·exact newBox_A
  ·exact⟨.no,fun h K=>Iff.rfl⟩
 | buildSlice T n parts=>
  simp only [vcE]
  split
  ·rename_i e ps hu hp
   split
   ·rename_i z hz
    rcases Bool.eq_false_or_eq_true (Nat.ble 1 (szT P e)&&Nat.beq z.length (szT P e)&&Nat.ble (n*szT P e) 4096) with hc|hc
    ·rw [hc]
     simp only [cond_true]
     split
     ·rename_i cs _
      rcases Bool.eq_false_or_eq_true (allOneT cs) with ho|ho
      ·rw [ho];exact⟨.pub (fun b=>.t (.one (.v (.slice (some ⟨b,0,none⟩) n n)))) _,fun h K=>Iff.rfl⟩
      ·rw [ho];exact⟨.no,fun h K=>Iff.rfl⟩
     ·exact⟨.no,fun h K=>Iff.rfl⟩
    ·rw [hc];exact⟨.no,fun h K=>Iff.rfl⟩
   ·exact⟨.no,fun h K=>Iff.rfl⟩
  ·exact⟨.no,fun h K=>Iff.rfl⟩
 | _=>cases hA
theorem vcE_Ale {o:Oper}{ch:List (Nat × Bool)}{st:St}{h:Hp}{K:SV→List Box→Hp→Prop}(hA:isA o.op=true)(H:vcE P cfg o ch st h K):vcE P cfg o ch st h fun sv b h2=>(h.le h2∧∀(k:Nat) (x:Box),st.b[k]?=some x→b[k]?=some x)∧K sv b h2:=by
 obtain⟨D,hD⟩:=vcE_A (P:=P) (cfg:=cfg) (ch:=ch) (st:=st) hA
 rw [hD] at H ⊢
 cases D with
 | no=>exact H
 | pub f ob=>
  intro b hb
  refine⟨⟨fun i p hp=>?_,fun _ _ e=>e⟩,H b hb⟩
  have:i≠b:=fun e=>by rw [e,hb] at hp;cases hp
  simp [Hp.set,this,hp]
 | prv sv bx=>
  refine⟨⟨fun _ _ e=>e,fun k x e=>?_⟩,H⟩
  rw [List.getElem?_append_left (List.getElem?_eq_some_iff.1 e).1]
  exact e
theorem swapVE {j e:Oper}{nj:Nat}(A:Apart ops j e)(W:WF st)(he:isE P e.op=true){h:Hp}{fl:List Fg}{X:List Fg→St→St→Hp→Prop}{F:List Fg→St→Hp→Prop}{Z:St→Hp→Prop→Prop}
  (hZ:∀ s h2 {p q:Prop},(p→q)→Z s h2 p→Z s h2 q)
  (hX:∀ gj svj s2 h2,(h.le h2∧(∀(k:Nat) (x:Box),st.b[k]?=some x→s2.b[k]?=some x)∨isA e.op=false∧BoxMono st.b s2.b)→X (flagV P j (chG st gj) (GG st gj) st nj svj fl) (putS st j.dst gj svj) s2 h2→VS P gj j st h svj→(∀(k:Nat) (x:Box),boxR j st (chG st gj)=some k→st.b[k]?=some x→s2.b[k]?=some x) ∧
   ((vcVd P j (chG st gj) st).hr=true→(vcVd P j (chG st gj) st).again P (GG st gj) h2 svj)∧∀ s,s.b=s2.b→Z s h2 (F (flagV P j (chG st gj) (GG st gj) st nj svj fl) s2 h2))
  (H:vcDV P ops nj j st h fl fun fl' s=>vcOp P cfg ops e s h fun s2 h2=>X fl' s s2 h2) :
  vcOp P cfg ops e st h fun s h2=>Z s h2 (vcDV P ops nj j s h2 fl fun fl' s2=>F fl' s2 h2):=by
 obtain⟨gj,hgj,okj,pj,svj,vj,H⟩:=vcDV_iff.1 H
 obtain⟨ge,hge,oke,H1,H2⟩:=(vcOp_E he).1 H
 obtain⟨e1,_,_,e4,e5⟩:=VS_put (P:=P) A W hge pj (v:=svj) (h:=h)
 have A':Apart ops e j:=⟨A.yx,A.xy,fun d e' hd he=>(A.ne e' d he hd).symm⟩
 have hbb:(putS st j.dst gj svj).b=st.b:=putS_b
 have fin:∀ q b h2 sv,(q=none∨q=ge)→(h.le h2∧(∀(k:Nat) (x:Box),st.b[k]?=some x→b[k]?=some x)∨isA e.op=false∧BoxMono st.b b)→putC st e.dst q →
   X (flagV P j (chG st gj) (GG st gj) st nj svj fl) (putS st j.dst gj svj) (putS ⟨(putS st j.dst gj svj).n,(putS st j.dst gj svj).t,(putS st j.dst gj svj).g,b⟩ e.dst q sv) h2 →
   Z (putS ⟨st.n,st.t,st.g,b⟩ e.dst q sv) h2 (vcDV P ops nj j (putS ⟨st.n,st.t,st.g,b⟩ e.dst q sv) h2 fl fun fl' s2=>F fl' s2 h2):=by
  intro q b h2 sv hqq hbx hpe hx
  have hb2:(putS ⟨(putS st j.dst gj svj).n,(putS st j.dst gj svj).t,(putS st j.dst gj svj).g,b⟩ e.dst q sv).b=b:=putS_b
  obtain⟨y1,y2,y3⟩:=hX gj svj _ h2 (by rw [hb2];exact hbx) hx vj
  rw [hb2] at y1
  exact hZ _ _ (fun hF=>behind A' W hgj okj pj vj hge hqq y1 y2 hpe hF) (y3 _ (by rw [hb2];exact putS_b))
 refine(vcOp_E he).2 ⟨ge,hge,e1.1 oke,fun hc=>?_,fun hc=>?_⟩
 ·have:=H1 (by rw [e4];exact hc)
  rw [e5] at this
  have this2:vcE P cfg e (chG st ge) (putS st j.dst gj svj) h fun sv b h2=>(h.le h2∧(∀(k:Nat) (x:Box),st.b[k]?=some x→b[k]?=some x)∨isA e.op=false∧BoxMono st.b b) ∧
    (putC ⟨(putS st j.dst gj svj).n,(putS st j.dst gj svj).t,(putS st j.dst gj svj).g,b⟩ e.dst (pgO e ge)∧X (flagV P j (chG st gj) (GG st gj) st nj svj fl) (putS st j.dst gj svj) (putS ⟨(putS st j.dst gj svj).n,(putS st j.dst gj svj).t,(putS st j.dst gj svj).g,b⟩ e.dst (pgO e ge) sv) h2):=by
   cases hAe:isA e.op with
   | true=>
    refine vcE_mono ?_ (vcE_Ale hAe this)
    rintro sv b h2 _ ⟨⟨q1,q2⟩,q3⟩
    rw [hbb] at q2
    exact⟨.inl ⟨q1,q2⟩,q3⟩
   | false=>
    refine vcE_mono ?_ this
    intro sv b h2 hbm q3
    rw [hbb] at hbm
    exact⟨.inr ⟨rfl,hbm⟩,q3⟩
  have hloc:∀ K,vcE P cfg e (chG st ge) (putS st j.dst gj svj) h K=vcE P cfg e (chG st ge) st h K:=by
   intro K
   rcases agr_put (st:=st) (dst:=j.dst) (g:=gj) (x:=svj) with ⟨_,eq⟩|⟨d,hd,AG⟩
   ·rw [eq]
   ·exact Agr.vcE AG (fun z hz hze=>A.xy d hd (opTmps_operand hz hze))
  rw [hloc] at this2
  refine vcE_mono ?_ this2
  rintro sv b h2 _ ⟨q0,q1,q2⟩
  exact⟨put_back (st:=st) (j:=j) (gj:=gj) (svj:=svj) (b:=b) q1,fin _ b h2 sv (pgO_or e ge) q0 (put_back (st:=st) (j:=j) (gj:=gj) (svj:=svj) (b:=b) q1) q2⟩
 ·obtain⟨q1,q2⟩:=H2 (by rw [e4];exact hc)
  have hpe:=put_back (st:=st) (j:=j) (gj:=gj) (svj:=svj) (b:=(putS st j.dst gj svj).b) q1
  refine⟨hpe,fin ge st.b h (dfl (shp P e.type)) (.inr rfl) (.inl ⟨fun _ _ e=>e,fun _ _ e=>e⟩) hpe ?_⟩
  have:(⟨(putS st j.dst gj svj).n,(putS st j.dst gj svj).t,(putS st j.dst gj svj).g,st.b⟩:St)=putS st j.dst gj svj:=by rw [←hbb]
  rw [this]
  exact q2
end
section
variable {P:Program}{cfg:Cfg}{ops:Array Oper}{ms:List Nat}
theorem vcOp_monoV {o:Oper}{st:St}{h:Hp}{K K':St→Hp→Prop}(hE:isE P o.op=false)(W:WF st)(H:vcOp P cfg ops o st h K)(hk:∀ s,WF s→K s h→K' s h):vcOp P cfg ops o st h K':=by
 obtain⟨g,h1,h2,h3,sv,h4,h5⟩:=(vcOp_V hE).1 H
 exact(vcOp_V hE).2 ⟨g,h1,h2,h3,sv,h4,hk _ (putS_WF W) h5⟩
theorem vcOp_monoE {o:Oper}{st:St}{h:Hp}{K K':St→Hp→Prop}(hE:isE P o.op=true)(H:vcOp P cfg ops o st h K)(hk:∀ s h',K s h'→K' s h'):vcOp P cfg ops o st h K':=by
 obtain⟨g,h1,h2,h3,h4⟩:=(vcOp_E hE).1 H
 exact(vcOp_E hE).2 ⟨g,h1,h2,fun c=>vcE_mono (fun sv b h' _ hb=>⟨hb.1,hk _ _ hb.2⟩) (h3 c),fun c=>⟨(h4 c).1,hk _ _ (h4 c).2⟩⟩
theorem vcOp_mono {o:Oper}{st:St}{h:Hp}{K K':St→Hp→Prop}(H:vcOp P cfg ops o st h K)(hk:∀ s h',K s h'→K' s h'):vcOp P cfg ops o st h K':=by
 cases hE:isE P o.op with
 | true=>exact vcOp_monoE hE H hk
 | false=>
  obtain⟨g,h1,h2,h3,sv,h4,h5⟩:=(vcOp_V hE).1 H
  exact(vcOp_V hE).2 ⟨g,h1,h2,h3,sv,h4,hk _ _ h5⟩
theorem vcD_E {i:Nat}{o:Oper}(ho:ops[i]?=some o)(hE:isE P o.op=true){l:List Nat}{fl:List Fg}{st:St}{h:Hp}{K:St→Hp→Prop} :
  vcD P cfg ops ms (i :: l) fl st h K↔vcOp P cfg ops o st h fun s h'=>rk (isA o.op) (ms.getD i 0) st.b s.b h' fl (vcD P cfg ops ms l fl s h' K):=by
 simp only [vcD,ho,hE,cond_true]
 cases isA o.op<;>exact Iff.rfl
theorem vcD_V {i:Nat}{o:Oper}(ho:ops[i]?=some o)(hE:isE P o.op=false){l:List Nat}{fl:List Fg}{st:St}{h:Hp}{K:St→Hp→Prop} :
  vcD P cfg ops ms (i :: l) fl st h K↔vcDV P ops i o st h fl fun fl' s=>vcD P cfg ops ms l fl' s h K:=by
 simp only [vcD,ho,hE,cond_false]
theorem vcD_fl:∀(l:List Nat) {fl fl':List Fg} {st:St} {h:Hp} {K:St→Hp→Prop},fl'.Sublist fl→vcD P cfg ops ms l fl st h K→vcD P cfg ops ms l fl' st h K
 | [],fl,fl',st,h,K,_,H=>H
 | i :: l,fl,fl',st,h,K,hf,H=>by
  cases ho:ops[i]? with
  | none=>simp [vcD,ho] at H
  | some o=>
   cases hE:isE P o.op with
   | true=>
    rw [vcD_E ho hE] at H ⊢
    refine vcOp_mono H fun s h' hk=>?_
    cases hA:isA o.op with
    | true=>rw [hA] at hk;exact vcD_fl l hf hk
    | false=>rw [hA] at hk;exact agn_sub hf (agn_mono (vcD_fl l hf) hk)
   | false=>
    rw [vcD_V ho hE] at H ⊢
    exact vcDV_mono2 (fun g sv s hk=>vcD_fl l (flagV_sub hf) hk) H
inductive CD where
 | no|call (f:FuncId) (vs:List Value)|ext (f:FuncId) (vs:List Value)|sem (m:Sem Value)|inv (fv:Value) (vs:List Value)
def CD.ask (P:Program)(s:Sh)(h:Hp)(K:SV→Hp→Prop):CD→Prop
 | .no=>False
 | .call f vs=>CallOK P f vs h fun v h'=>res s v fun x=>K x h'
 | .ext f vs=>ExtOK P f vs h fun v h'=>res s v fun x=>K x h'
 | .sem m=>SemOK P m h fun v h'=>res s v fun x=>K x h'
 | .inv fv vs=>InvOK P fv vs h fun v h'=>res s v fun x=>K x h'
theorem vcE_C {o:Oper}{ch:List (Nat × Bool)}{st:St}(hC:isCall o.op=true):∃ D:CD,∀ b h K,vcE P cfg o ch ⟨st.n,st.t,st.g,b⟩ h K↔D.ask P (shp P o.type) h (fun x h'=>K x b h'):=by
 obtain⟨dst,op,ty,pos,af,gd⟩:=o
 have hevs:∀ b l,(⟨st.n,st.t,st.g,b⟩:St).evs ch l=st.evs ch l:=by
  intro b l
  induction l with
  | nil=>rfl
  | cons q l ih=>simp only [St.evs,ih];rfl
 have hev:∀ b x,(⟨st.n,st.t,st.g,b⟩:St).ev ch x=st.ev ch x:=fun b x=>rfl
 have none':(∀ b h K,vcE P cfg ⟨dst,op,ty,pos,af,gd⟩ ch ⟨st.n,st.t,st.g,b⟩ h K↔False)→∃ D:CD,∀ b h K,vcE P cfg ⟨dst,op,ty,pos,af,gd⟩ ch ⟨st.n,st.t,st.g,b⟩ h K↔D.ask P (shp P ty) h (fun x h'=>K x b h'):=fun h=>⟨.no,h⟩
 cases op with
 | call c=>
  obtain⟨callee,args,ts⟩:=c
  cases callee with
  | invoke r m=>exact none' fun b h K=>Iff.rfl
  | builtin bb=>
   simp only [vcE,hevs]
   cases hv:st.evs ch args.toList with
   | none=>exact⟨.no,fun b h K=>Iff.rfl⟩
   | some vs=>
    cases bb with
    | append=>exact⟨.sem _,fun b h K=>Iff.rfl⟩
    | copy=>exact⟨.sem _,fun b h K=>Iff.rfl⟩
    | delete=>exact⟨.sem _,fun b h K=>Iff.rfl⟩
    | clear=>exact⟨.sem _,fun b h K=>Iff.rfl⟩
    | _=>exact⟨.no,fun b h K=>Iff.rfl⟩
  | value f=>
   cases f with
   | func g=>
    simp only [vcE,hevs]
    cases hv:st.evs ch args.toList with
    | none=>exact⟨.no,fun b h K=>Iff.rfl⟩
    | some vs=>
     simp only
     cases hb:(P.funcs[g]?).map (·.body.isSome) with
     | none=>exact⟨.no,fun b h K=>Iff.rfl⟩
     | some q=>
      cases q with
      | true=>exact⟨.call g vs,fun b h K=>Iff.rfl⟩
      | false=>exact⟨.ext g vs,fun b h K=>Iff.rfl⟩
   | tmp t=>
    simp only [vcE,hevs,hev]
    cases hv:st.evs ch args.toList with
    | none=>exact⟨.no,fun b h K=>Iff.rfl⟩
    | some vs=>
     cases hf:(st.ev ch (.tmp t)).val? with
     | none=>exact⟨.no,fun b h K=>Iff.rfl⟩
     | some fv=>exact⟨.inv fv vs,fun b h K=>Iff.rfl⟩
   | const v=>exact none' fun b h K=>Iff.rfl
   | global g=>exact none' fun b h K=>Iff.rfl
 | _=>cases hC
theorem frame_at {h h':Hp}{b:Nat}{ob:Obj}{w w':World}(hb:h b=none)(hs:Sub (h.set b ob) w)(hs':Sub h' w')(F:Fr h h' w w'):h' b=none∧Sub (h'.set b ob) w'∧Fr (h.set b ob) (h'.set b ob) w w':=by
 have h1:w.heap[b]?=some ob:=hs b ob (by simp [Hp.set])
 have hlt:b < w.heap.size:=(Array.getElem?_eq_some_iff.1 h1).1
 obtain⟨k1,k2⟩:=F.keep b hlt hb
 refine⟨k2,fun i o ho=>?_,F.os,F.tape,F.output,F.size,F.drawn,fun i hi hn=>?_⟩
 ·unfold Hp.set at ho
  split at ho
  ·rename_i e;rw [e,k1,h1];exact ho
  ·exact hs' i o ho
 ·unfold Hp.set at hn ⊢
  split at hn
  ·cases hn
  ·rename_i hne
   rw [if_neg hne]
   exact F.keep i hi hn
theorem CD.mono {D:CD}{s:Sh}{h:Hp}{K K':SV→Hp→Prop}(hk:∀ x h',K x h'→K' x h')(H:D.ask P s h K):D.ask P s h K':=by
 cases D with
 | no=>exact H
 | call f vs=>exact fun w hs=>(H w hs).mono fun e w' ⟨v,h',h1,h2,h3,h4⟩=>⟨v,h',h1,h2,h3,res_mono (fun x=>hk x h') h4⟩
 | ext f vs=>exact fun w hs=>let ⟨v,w',h',h1,h2,h3,h4⟩:=H w hs;⟨v,w',h',h1,h2,h3,res_mono (fun x=>hk x h') h4⟩
 | sem m=>exact fun w hs=>let ⟨v,w',h',h1,h2,h3,h4⟩:=H w hs;⟨v,w',h',h1,h2,h3,res_mono (fun x=>hk x h') h4⟩
 | inv fv vs=>
  obtain⟨f,pre,post,e,hf,H⟩:=H
  exact⟨f,pre,post,e,hf,fun w hs=>(H w hs).mono fun e w' ⟨v,h',h1,h2,h3,h4⟩=>⟨v,h',h1,h2,h3,res_mono (fun x=>hk x h') h4⟩⟩
theorem CD.frame {D:CD}{s:Sh}{h:Hp}{b:Nat}{ob:Obj}{K:SV→Hp→Prop}(hb:h b=none)(H:D.ask P s h K):D.ask P s (h.set b ob) fun x h2=>∃ h',h' b=none∧h2=h'.set b ob∧K x h':=by
 have hc:∀ f vs,(CallOK P f vs h fun v h'=>res s v fun x=>K x h')→CallOK P f vs (h.set b ob) fun v h2=>res s v fun x=>∃ h',h' b=none∧h2=h'.set b ob∧K x h':=by
  intro f vs H w hs
  refine(H w (sub_of_set hb hs)).mono fun e w' ⟨v,h',h1,h2,h3,h4⟩=>?_
  obtain⟨k1,k2,k3⟩:=frame_at hb hs h2 h3
  exact⟨v,_,h1,k2,k3,res_mono (fun x hx=>⟨h',k1,rfl,hx⟩) h4⟩
 cases D with
 | no=>exact H
 | call f vs=>exact hc f vs H
 | ext f vs=>
  intro w hs
  obtain⟨v,w',h',h1,h2,h3,h4⟩:=H w (sub_of_set hb hs)
  obtain⟨k1,k2,k3⟩:=frame_at hb hs h2 h3
  exact⟨v,w',_,h1,k2,k3,res_mono (fun x hx=>⟨h',k1,rfl,hx⟩) h4⟩
 | sem m=>
  intro w hs
  obtain⟨v,w',h',h1,h2,h3,h4⟩:=H w (sub_of_set hb hs)
  obtain⟨k1,k2,k3⟩:=frame_at hb hs h2 h3
  exact⟨v,w',_,h1,k2,k3,res_mono (fun x hx=>⟨h',k1,rfl,hx⟩) h4⟩
 | inv fv vs=>
  obtain⟨f,pre,post,e,hf,H⟩:=H
  exact⟨f,pre,post,e,hf,hc _ _ H⟩
theorem CD.sub {D:CD}{s:Sh}{h:Hp}{K:SV→Hp→Prop}(H:D.ask P s h K):D.ask P s h fun x h'=>(∃ w,Sub h' w)∧K x h':=by
 have hc:∀ f vs,(CallOK P f vs h fun v h'=>res s v fun x=>K x h')→CallOK P f vs h fun v h'=>res s v fun x=>(∃ w,Sub h' w)∧K x h':=
  fun f vs H w hs=>(H w hs).mono fun e w' ⟨v,h',h1,h2,h3,h4⟩=>⟨v,h',h1,h2,h3,res_mono (fun x hx=>⟨⟨w',h2⟩,hx⟩) h4⟩
 cases D with
 | no=>exact H
 | call f vs=>exact hc f vs H
 | ext f vs=>exact fun w hs=>let ⟨v,w',h',h1,h2,h3,h4⟩:=H w hs;⟨v,w',h',h1,h2,h3,res_mono (fun x hx=>⟨⟨w',h2⟩,hx⟩) h4⟩
 | sem m=>exact fun w hs=>let ⟨v,w',h',h1,h2,h3,h4⟩:=H w hs;⟨v,w',h',h1,h2,h3,res_mono (fun x hx=>⟨⟨w',h2⟩,hx⟩) h4⟩
 | inv fv vs=>
  obtain⟨f,pre,post,e,hf,H⟩:=H
  exact⟨f,pre,post,e,hf,hc _ _ H⟩
theorem CD.ex {D:CD}{s:Sh}{h:Hp}{K:SV→Hp→Prop}(hw:∃ w,Sub h w)(H:D.ask P s h K):∃ x h',K x h':=by
 obtain⟨w,hs⟩:=hw
 have hr:∀ v h',(res s v fun x=>K x h')→∃ x h',K x h':=fun v h' hr=>let ⟨x,hx,_⟩:=exS_elim hr;⟨x,h',hx.2⟩
 have hc:∀ f vs,(CallOK P f vs h fun v h'=>res s v fun x=>K x h')→∃ x h',K x h':=by
  intro f vs H
  obtain⟨e,w',fr,⟨v,h',_,_,_,h4⟩,_⟩:=H w hs []
  exact hr _ _ h4
 cases D with
 | no=>exact H.elim
 | call f vs=>exact hc f vs H
 | ext f vs=>obtain⟨v,w',h',h1,h2,h3,h4⟩:=H w hs;exact hr _ _ h4
 | sem m=>obtain⟨v,w',h',h1,h2,h3,h4⟩:=H w hs;exact hr _ _ h4
 | inv fv vs=>
  obtain⟨f,pre,post,e,hf,H⟩:=H
  exact hc _ _ H
theorem vcOp_U {o:Oper}{st:St}{h:Hp}{K:St→Hp→Prop}(hE:isE P o.op=true)(hg:o.guard=none):vcOp P cfg ops o st h K↔vcE P cfg o [] st h fun sv b h'=>putC st o.dst none∧K (putS ⟨st.n,st.t,st.g,b⟩ o.dst none sv) h':=by
 unfold vcOp
 rw [hg]
 simp only [hE,cond_true,put_iff]
 exact Iff.rfl
theorem swapAE {c e:Oper}{st:St}{m:Nat}(A:Apart ops c e)(W:WF st)(hac:AC e c)(hEc:isE P c.op=true)(hEe:isE P e.op=true){h:Hp}{fl:List Fg}{F:St→Hp→Prop}(hf:FM fl)(hw:∃ w,Sub h w)
  (H:vcOp P cfg ops c st h fun s1 h1=>agn m st.b s1.b h1 fl (vcOp P cfg ops e s1 h1 fun s2 h2=>F s2 h2)) :
  vcOp P cfg ops e st h fun s h'=>vcOp P cfg ops c s h' fun s2 h2=>agn m s.b s2.b h2 fl (F s2 h2):=by
 obtain⟨hA,hge,hC,hgc⟩:=hac
 have A':Apart ops e c:=⟨A.yx,A.xy,fun d e hd he=>(A.ne e d he hd).symm⟩
 obtain⟨DC,hDC⟩:=vcE_C (P:=P) (cfg:=cfg) (o:=c) (ch:=[]) (st:=st) hC
 obtain⟨DA,hDA⟩:=vcE_A (P:=P) (cfg:=cfg) (o:=e) (ch:=[]) (st:=st) hA
 rw [vcOp_U hEc hgc,show st=⟨st.n,st.t,st.g,st.b⟩ from rfl,hDC] at H
 -- the other one behind it
 have hloc:∀ x h1 K,vcE P cfg e [] (putS st c.dst none x) h1 K=vcE P cfg e [] st h1 K:=by
  intro x h1 K
  rcases agr_put (st:=st) (dst:=c.dst) (g:=none) (x:=x) with ⟨_,eq⟩|⟨d,hd,AG⟩
  ·rw [eq]
  ·exact Agr.vcE AG (fun z hz hze=>A.xy d hd (opTmps_operand hz hze))
 have hloc2:∀ x b h1 K,vcE P cfg c [] (putS ⟨st.n,st.t,st.g,b⟩ e.dst none x) h1 K=vcE P cfg c [] ⟨st.n,st.t,st.g,b⟩ h1 K:=by
  intro x b h1 K
  rcases agr_put (st:=⟨st.n,st.t,st.g,b⟩) (dst:=e.dst) (g:=none) (x:=x) with ⟨_,eq⟩|⟨d,hd,AG⟩
  ·rw [eq]
  ·exact Agr.vcE AG (fun z hz hze=>A'.xy d hd (opTmps_operand hz hze))
 have H2:DC.ask P (shp P c.type) h fun x h1=>putC st c.dst none∧agn m st.b st.b h1 fl (DA.sem st.b h1 fun sv b h2=>putC (putS st c.dst none x) e.dst none∧F (putS ⟨(putS st c.dst none x).n,(putS st c.dst none x).t,(putS st c.dst none x).g,b⟩ e.dst none sv) h2):=by
  refine CD.mono (fun x h1 hx=>⟨hx.1,?_⟩) H
  have hx2:=hx.2
  rw [putS_b] at hx2
  refine agn_mono (fun hv=>?_) hx2
  rw [vcOp_U hEe hge,hloc,hDA] at hv
  exact hv
 have pc:putC st c.dst none:=let ⟨_,_,hx⟩:=CD.ex hw H2;hx.1
 have ne:DA≠.no:=by
  intro e
  obtain⟨x,h1,_,hx⟩:=CD.ex hw H2
  rw [e] at hx
  exact agn_K hx
 rw [vcOp_U hEe hge,hDA]
 cases DA with
 | no=>exact(ne rfl).elim
 | pub f ob=>
  have pe:putC st e.dst none:=by
   obtain⟨x,h1,⟨w,hs⟩,_,hx⟩:=CD.ex hw (CD.sub H2)
   have:=agn_K hx w.heap.size hs.none
   exact put_back (st:=st) (j:=c) (gj:=none) (svj:=x) (b:=(putS st c.dst none x).b) this.1
  intro b hb
  refine⟨pe,?_⟩
  rw [vcOp_U hEc hgc,hloc2,hDC]
  refine CD.mono (fun x h2 hx=>?_) (CD.frame hb H2)
  obtain⟨h1,hb1,rfl,hx1,hx2⟩:=hx
  refine⟨?_,?_⟩
  ·exact(putC_put (st:=st) A' (gx:=none) (gy:=none) (by simp [gdO,hge]) (by simp [gdO,hgc]) pe).2 pc
  ·rw [putS_b,putS_b]
   refine agn_mono (fun hv=>?_) (agn_le (Hp.le_set' hb1 ob) hf hx2)
   have:=(hv b hb1).2
   rw [putS_box] at this ⊢
   rw [putS_comm A' (gx:=none) (gy:=none)]
   exact this
 | prv sv bx=>
  have pe:putC st e.dst none:=by
   obtain⟨x,h1,_,hx⟩:=CD.ex hw H2
   have:=agn_K hx
   exact put_back (st:=st) (j:=c) (gj:=none) (svj:=x) (b:=(putS st c.dst none x).b) this.1
  refine⟨pe,?_⟩
  rw [vcOp_U hEc hgc,hloc2,hDC]
  refine CD.mono (fun x h1 hx=>?_) H2
  obtain⟨hx1,hx2⟩:=hx
  refine⟨?_,?_⟩
  ·exact(putC_put (st:=⟨st.n,st.t,st.g,st.b++[bx]⟩) A' (gx:=none) (gy:=none) (by simp [gdO,hge]) (by simp [gdO,hgc]) pe).2 pc
  ·rw [putS_b,putS_b]
   refine agn_mono (fun hv=>?_) (agn_bx (x:=bx) hx2)
   have:=hv.2
   rw [putS_box] at this ⊢
   rw [putS_comm A' (gx:=none) (gy:=none)]
   exact this
theorem vcE_B {o:Oper}{ch:List (Nat × Bool)}{st:St}(hB:isB cfg o=true):(∀ h K,¬ vcE P cfg o ch st h K)∨∃(f:Nat→SV) (ob:Obj),∀ h K,vcE P cfg o ch st h K↔∀ b,h b=none→K (f b) st.b (h.set b ob):=by
 obtain⟨dst,op,ty,pos,af,gd⟩:=o
 have key:∀{o:Oper} {t:TypeId} {cs:List TV},isPub cfg o.dst=true→(∀(h:Hp) (K:SV→List Box→Hp→Prop),¬ newBox cfg o st h t cs K)∨∃(f:Nat→SV) (ob:Obj),∀ h K,newBox cfg o st h t cs K↔∀ b,h b=none→K (f b) st.b (h.set b ob):=by
  intro o t cs hp
  unfold newBox
  rw [hp]
  cases allOneT cs with
  | false=>exact .inl fun h K q=>q
  | true=>exact .inr ⟨fun b=>.t (.one (.hp b 0)),_,fun h K=>Iff.rfl⟩
 unfold isB at hB
 cases op with
 | alloc T=>
  simp only [vcE]
  split
  ·exact key hB
  ·exact .inl fun h K q=>q
 | box T x=>
  simp only [vcE]
  split
  ·exact key hB
  ·exact .inl fun h K q=>q
 | buildSlice T n parts=>
  simp only [vcE]
  split
  ·rename_i e ps hu hp
   split
   ·rename_i z hz
    rcases Bool.eq_false_or_eq_true (Nat.ble 1 (szT P e)&&Nat.beq z.length (szT P e)&&Nat.ble (n*szT P e) 4096) with hc|hc
    ·rw [hc]
     simp only [cond_true]
     split
     ·rename_i cs _
      rcases Bool.eq_false_or_eq_true (allOneT cs) with ho|ho
      ·rw [ho];exact .inr ⟨fun b=>.t (.one (.v (.slice (some ⟨b,0,none⟩) n n))),_,fun h K=>Iff.rfl⟩
      ·rw [ho];exact .inl fun h K q=>q
     ·exact .inl fun h K q=>q
    ·rw [hc];exact .inl fun h K q=>q
   ·exact .inl fun h K q=>q
  ·exact .inl fun h K q=>q
 | _=>cases hB
theorem swapAA {c e:Oper}{st:St}(A:Apart ops c e)(W:WF st)(hab:AB cfg e c)(hEc:isE P c.op=true)(hEe:isE P e.op=true){h:Hp}{F:St→Hp→Prop}(hw:∃ w,Sub h w)
  (H:vcOp P cfg ops c st h fun s1 h1=>vcOp P cfg ops e s1 h1 fun s2 h2=>F s2 h2) :
  vcOp P cfg ops e st h fun s h'=>vcOp P cfg ops c s h' fun s2 h2=>F s2 h2:=by
 obtain⟨hBe,hge,hBc,hgc⟩:=hab
 have A':Apart ops e c:=⟨A.yx,A.xy,fun d e hd he=>(A.ne e d he hd).symm⟩
 rw [vcOp_U hEc hgc] at H
 have hloc:∀ x h1 K,vcE P cfg e [] (putS st c.dst none x) h1 K=vcE P cfg e [] st h1 K:=by
  intro x h1 K
  rcases agr_put (st:=st) (dst:=c.dst) (g:=none) (x:=x) with ⟨_,eq⟩|⟨d,hd,AG⟩
  ·rw [eq]
  ·exact Agr.vcE AG (fun z hz hze=>A.xy d hd (opTmps_operand hz hze))
 have hloc2:∀ x h1 K,vcE P cfg c [] (putS st e.dst none x) h1 K=vcE P cfg c [] st h1 K:=by
  intro x h1 K
  rcases agr_put (st:=st) (dst:=e.dst) (g:=none) (x:=x) with ⟨_,eq⟩|⟨d,hd,AG⟩
  ·rw [eq]
  ·exact Agr.vcE AG (fun z hz hze=>A'.xy d hd (opTmps_operand hz hze))
 have eb:∀(d:Option Nat) (x:SV),(⟨(putS st d none x).n,(putS st d none x).t,(putS st d none x).g,st.b⟩:St)=putS st d none x:=by
  intro d x
  have e1:=putS_b (st:=st) (dst:=d) (g:=none) (x:=x)
  generalize putS st d none x=s at e1
  obtain⟨n,t,g,b⟩:=s
  simp only at e1
  rw [e1]
 rcases vcE_B (P:=P) (cfg:=cfg) (o:=c) (ch:=[]) (st:=st) hBc with hn|⟨fc,oc,hc⟩
 ·exact(hn _ _ H).elim
 rcases vcE_B (P:=P) (cfg:=cfg) (o:=e) (ch:=[]) (st:=st) hBe with hn|⟨fe,oe,he⟩
 ·rw [hc] at H
  obtain⟨b,hb,_⟩:=fresh_at hw 0
  have q2:vcOp P cfg ops e (putS st c.dst none (fc b)) (h.set b oc) F:=(H b hb).2
  rw [vcOp_U hEe hge,hloc] at q2
  exact(hn _ _ q2).elim
 rw [hc] at H
 have H2:∀ b,h b=none→putC st c.dst none∧∀ b2,(h.set b oc) b2=none→putC (putS st c.dst none (fc b)) e.dst none∧F (putS (putS st c.dst none (fc b)) e.dst none (fe b2)) ((h.set b oc).set b2 oe):=by
  intro b hb
  refine⟨(H b hb).1,?_⟩
  have q2:vcOp P cfg ops e (putS st c.dst none (fc b)) (h.set b oc) F:=(H b hb).2
  rw [vcOp_U hEe hge,hloc,he] at q2
  intro b2 hb2
  have q3:=q2 b2 hb2
  rw [eb] at q3
  exact q3
 have sset:∀{b b2:Nat} {o o2:Obj},b≠b2→(h.set b o).set b2 o2=(h.set b2 o2).set b o:=by
  intro b b2 o o2 hne
  funext i
  simp only [Hp.set]
  by_cases h1:i=b2
  ·by_cases h2:i=b
   ·exact(hne (h2.symm.trans h1)).elim
   ·simp [h1];intro q;exact(hne q.symm).elim
  ·simp [h1]
 have nn:∀{b b2:Nat} {o:Obj},(h.set b o) b2=none→b2≠b∧h b2=none:=by
  intro b b2 o hq
  unfold Hp.set at hq
  split at hq
  ·cases hq
  ·rename_i h1;exact⟨h1,hq⟩
 rw [vcOp_U hEe hge,he]
 intro b2 hb2
 obtain⟨b0,hb0,hne0⟩:=fresh_at hw b2
 have pc:=(H2 b0 hb0).1
 have pe:putC st e.dst none:=by
  have:=((H2 b0 hb0).2 b2 (by simp [Hp.set,hne0.symm,hb2])).1
  exact(putC_put (st:=st) A (gx:=none) (gy:=none) (by simp [gdO,hgc]) (by simp [gdO,hge]) pc).1 this
 refine⟨pe,?_⟩
 show vcOp P cfg ops c (putS st e.dst none (fe b2)) (h.set b2 oe) F
 rw [vcOp_U hEc hgc,hloc2,hc]
 intro b hb
 obtain⟨hne,hbh⟩:=nn hb
 have q:=(H2 b hbh).2 b2 (by simp [Hp.set,hne.symm,hb2])
 refine⟨(putC_put (st:=st) A' (gx:=none) (gy:=none) (by simp [gdO,hge]) (by simp [gdO,hgc]) pe).2 pc,?_⟩
 rw [eb,putS_comm A' (gx:=none) (gy:=none),←sset hne]
 exact q.2
theorem exV {i:Nat}{oi:Oper}(hi:ops[i]?=some oi)(hEi:isE P oi.op=false):∀(A:List Nat) {B:List Nat} {fl:List Fg} {st:St} {h:Hp} {K:St→Hp→Prop},WF st →
  (∀ j ∈ A,∀ oj,ops[j]?=some oj→isE P oj.op=false∧Apart ops oi oj)→vcD P cfg ops ms (A++i :: B) fl st h K→vcOp P cfg ops oi st h fun s _=>vcD P cfg ops ms (A++B) fl s h K
 | [],B,fl,st,h,K,W,hA,H=>by
  rw [List.nil_append,vcD_V hi hEi] at H
  obtain⟨g,h1,h2,h3,sv,h4,h5⟩:=vcDV_iff.1 H
  exact(vcOp_V hEi).2 ⟨g,h1,h2,h3,sv,h4,vcD_fl B flagV_tail h5⟩
 | j :: A,B,fl,st,h,K,W,hA,H=>by
  cases hj:ops[j]? with
  | none=>simp [vcD,hj] at H
  | some oj=>
   obtain⟨hEj,hap⟩:=hA j (by simp) oj hj
   rw [List.cons_append,vcD_V hj hEj] at H
   have H2:vcDV P ops j oj st h fl fun fl' s=>vcOp P cfg ops oi s h fun s2 _=>vcD P cfg ops ms (A++B) fl' s2 h K:=
    vcDV_monoW W (fun g sv s Ws hk=>exV hi hEi A Ws (fun k hk'=>hA k (by simp [hk'])) hk) H
   have hap':Apart ops oj oi:=⟨hap.yx,hap.xy,fun d e hd he=>(hap.ne e d he hd).symm⟩
   have H3:=swapVV (F:=fun fl' s2=>vcD P cfg ops ms (A++B) fl' s2 h K) hap' W hEi H2
   refine vcOp_monoV hEi W H3 fun s Ws hk=>?_
   rw [List.cons_append,vcD_V hj hEj]
   exact hk
theorem exE {i:Nat}{oi:Oper}(hi:ops[i]?=some oi)(hEi:isE P oi.op=true):∀(A:List Nat) {B:List Nat} {fl:List Fg} {st:St} {h:Hp} {K:St→Hp→Prop},WF st→FM fl→(∃ w,Sub h w) →
  (∀ j ∈ A,bit (ms.getD i 0) j=false∧∀ oj,ops[j]?=some oj→((isE P oj.op=false∨AC oi oj)∨AB cfg oi oj)∧Apart ops oi oj)→vcD P cfg ops ms (A++i :: B) fl st h K →
  vcOp P cfg ops oi st h fun s h2=>rk (isA oi.op) (ms.getD i 0) st.b s.b h2 fl (vcD P cfg ops ms (A++B) fl s h2 K)
 | [],B,fl,st,h,K,W,hf,hw,hA,H=>by
  rw [List.nil_append,vcD_E hi hEi] at H
  exact H
 | j :: A,B,fl,st,h,K,W,hf,hw,hA,H=>by
  cases hj:ops[j]? with
  | none=>simp [vcD,hj] at H
  | some oj=>
   obtain⟨hbit,hA1⟩:=hA j (by simp)
   obtain⟨hEj,hap⟩:=hA1 oj hj
   have hap':Apart ops oj oi:=⟨hap.yx,hap.xy,fun d e hd he=>(hap.ne e d he hd).symm⟩
   cases hEj':isE P oj.op with
   | false=>
    rw [List.cons_append,vcD_V hj hEj'] at H
    have H2:vcDV P ops j oj st h fl fun fl' s=>vcOp P cfg ops oi s h fun s2 h2=>(FM fl'→rk (isA oi.op) (ms.getD i 0) s.b s2.b h2 fl' (vcD P cfg ops ms (A++B) fl' s2 h2 K)):=by
     refine vcDV_monoW W (fun g sv s Ws hk=>?_) H
     exact vcOp_mono (exE hi hEi A Ws (FM_flag hf) hw (fun k hk'=>hA k (by simp [hk'])) hk) fun s2 h2 hq _=>hq
    have H3:=swapVE (F:=fun fl' s2 h2=>vcD P cfg ops ms (A++B) fl' s2 h2 K) (X:=fun fl' s s2 h2=>FM fl'→rk (isA oi.op) (ms.getD i 0) s.b s2.b h2 fl' (vcD P cfg ops ms (A++B) fl' s2 h2 K))
     (Z:=fun s h2 p=>rk (isA oi.op) (ms.getD i 0) st.b s.b h2 fl p) hap' W hEi (fun s h2 p q hpq hz=>rk_mono hpq hz) ?_ H2
    ·refine vcOp_mono H3 fun s h2 hk=>rk_mono (fun hv=>?_) hk
     rw [List.cons_append,vcD_V hj hEj']
     exact hv
    ·intro gj svj s2 h2 hbx hx vj
     have hx:=hx (FM_flag hf)
     rw [putS_b] at hx
     cases hAe:isA oi.op with
     | true=>
      rw [hAe] at hx hbx
      rcases hbx with ⟨hl,hb⟩|⟨hb,_⟩
      ·refine⟨fun k x _=>hb k x,fun _=>VD.again_le (GG_mono st gj) hl (VD.sem_again vj),fun s hs=>hx⟩
      ·cases hb
     | false=>
      rw [hAe] at hx
      obtain⟨y1,y2,y3⟩:=agn_flag hbit hx
      refine⟨fun k x hk hkx=>?_,y2,fun s hs=>by rw [hs];exact y3⟩
      rcases hbx with ⟨_,hb⟩|⟨_,hb⟩
      ·exact hb k x hkx
      ·exact sameBx_spec (y1 k hk) hb hkx
   | true=>
    by_cases hab:AB cfg oi oj
    ·have hAj:=isB_A hab.2.2.1
     have hAi:=isB_A hab.1
     rw [List.cons_append,vcD_E hj hEj',hAj] at H
     rw [hAi]
     have H2:vcOp P cfg ops oj st h fun s1 h1=>vcOp P cfg ops oi s1 h1 fun s2 h2=>vcD P cfg ops ms (A++B) fl s2 h2 K:=by
      rw [vcOp_U hEj' hab.2.2.2] at H ⊢
      rcases vcE_B (P:=P) (cfg:=cfg) (o:=oj) (ch:=[]) (st:=st) hab.2.2.1 with hn|⟨f,ob,hc⟩
      ·exact(hn _ _ H).elim
      rw [hc] at H ⊢
      intro b hb
      refine⟨(H b hb).1,?_⟩
      have:=exE hi hEi A (st:=putS st oj.dst none (f b)) (putS_WF W) hf (world_set hw hb ob) (fun k hk'=>hA k (by simp [hk'])) (H b hb).2
      rw [hAi] at this
      exact this
     have H3:=swapAA (F:=fun s2 h2=>vcD P cfg ops ms (A++B) fl s2 h2 K) hap' W hab hEj' hEi hw H2
     refine vcOp_mono H3 fun s h2 hk=>?_
     show vcD P cfg ops ms (j :: A++B) fl s h2 K
     rw [List.cons_append,vcD_E hj hEj',hAj]
     exact hk
    have hac:AC oi oj:=by
     rcases hEj with (h1|h1)|h1
     ·rw [h1] at hEj';cases hEj'
     ·exact h1
     ·exact absurd h1 hab
    have hnA:isA oj.op=false:=by
     have:=hac.2.2.1
     cases ho:oj.op<;>rw [ho] at this<;>first|rfl|cases this
    rw [List.cons_append,vcD_E hj hEj',hnA] at H
    rw [hac.1]
    have H2:vcOp P cfg ops oj st h fun s1 h1=>agn (ms.getD j 0) st.b s1.b h1 fl (vcOp P cfg ops oi s1 h1 fun s2 h2=>vcD P cfg ops ms (A++B) fl s2 h2 K):=by
     rw [vcOp_U hEj' hac.2.2.2] at H ⊢
     obtain⟨DC,hDC⟩:=vcE_C (P:=P) (cfg:=cfg) (o:=oj) (ch:=[]) (st:=st) hac.2.2.1
     rw [show st=⟨st.n,st.t,st.g,st.b⟩ from rfl,hDC] at H ⊢
     refine CD.mono (fun x h1 hx=>?_) (CD.sub H)
     refine⟨hx.2.1,agn_mono (fun hv=>?_) hx.2.2⟩
     have:=exE hi hEi A (st:=putS st oj.dst none x) (putS_WF W) hf hx.1 (fun k hk'=>hA k (by simp [hk'])) hv
     rw [hac.1] at this
     exact this
    have H3:=swapAE (F:=fun s2 h2=>vcD P cfg ops ms (A++B) fl s2 h2 K) hap' W hac hEj' hEi hf hw H2
    refine vcOp_mono H3 fun s h2 hk=>?_
    show vcD P cfg ops ms (j :: A++B) fl s h2 K
    rw [List.cons_append,vcD_E hj hEj',hnA]
    exact hk
theorem vcD_any (hP:NoNG P){w0:World}{h0:Hp}{K:St→Hp→Prop}{Q:Exit→Act→World→Prop}{st0:St}{D:List Nat}(hD:∀(i:Nat) (o:Oper),ops[i]?=some o→∀ d,o.dst=some d→d ∈ D)
  (hms:∀ listed:Array Bool,DC ops listed→∀(k:Nat) (o:Oper),ops[k]?=some o→(∀ e ∈ o.after,Region.binds .any e=true→listed.getD e.on false=true)→∀ j,bit (ms.getD k 0) j=true→listed.getD j false=true)
  (hQ:∀ st' h' a' w',K st' h'→Rel w0 h0 st' h' a' w'→Ev D st0 st'→Q .normal a' w') :
  ∀(n:Nat) {L:List Nat} {fl:List Fg} {st:St} {h:Hp} {a:Act} {w:World} {listed:Array Bool},FM fl→L.length=n→listed.size=ops.size→(∀ i,i < ops.size→(listed.getD i true=false↔i ∈ L))→(∀ i ∈ L,i < ops.size)→L.Nodup→L.Pairwise (PR (P:=P) (cfg:=cfg) ops ms)→DC ops listed →
   (∀(i:Nat) (o:Oper),ops[i]?=some o→∀ e ∈ o.after,Region.binds .any e=true→e.on < ops.size∧e.on≠i) →
   Rel w0 h0 st h a w→Ev D st0 st→vcD P cfg ops ms L fl st h K→wpAny P .any ops Q n listed a w
 | 0,L,fl,st,h,a,w,listed,hfm,hn,hsz,hL,hlt,hnd,hpw,hdc,hin,R,E,H=>by
  obtain rfl:=List.eq_nil_of_length_eq_zero hn
  refine⟨?_,hQ st h a w H R E⟩
  cases hr:Region.ready .any ops listed with
  | nil=>rfl
  | cons i l=>
   have:i ∈ Region.ready .any ops listed:=by rw [hr];simp
   obtain⟨h1,o,ho,_⟩:=mem_ready.1 this
   have:=(hL i (Array.getElem?_eq_some_iff.1 ho).1).1 h1
   simp at this
 | n+1,L,fl,st,h,a,w,listed,hfm,hn,hsz,hL,hlt,hnd,hpw,hdc,hin,R,E,H=>by
  have hlist:∀ i,i < ops.size→i ∉ L→listed.getD i false=true:=by
   intro i hi hm
   have hb:listed.getD i true=listed[i]'(by omega):=by simp [show i < listed.size by omega]
   have hb':listed.getD i false=listed[i]'(by omega):=by simp [show i < listed.size by omega]
   rw [hb',←hb]
   cases hq:listed.getD i true with
   | true=>rfl
   | false=>exact(hm ((hL i hi).1 hq)).elim
  refine⟨?_,?_⟩
  ·intro hr
   match L,hn with
   | x :: L',_=>
    have hx:=hlt x (by simp)
    obtain⟨ox,hox⟩:∃ o,ops[x]?=some o:=⟨ops[x],by simp [hx]⟩
    have:x ∈ Region.ready .any ops listed:=by
     refine mem_ready.2 ⟨(hL x hx).2 (by simp),ox,hox,fun e he hb=>?_⟩
     refine hlist _ (hin x ox hox e he hb).1 ?_
     intro hm
     rcases List.mem_cons.1 hm with hm|hm
     ·exact(hin x ox hox e he hb).2 hm
     ·exact((List.pairwise_cons.1 hpw).1 _ hm).dep ox hox e he hb rfl
    rw [hr] at this
    simp at this
  ·intro i hi
   obtain⟨hl1,oi,hoi,hdeps⟩:=mem_ready.1 hi
   have hil:i < ops.size:=(Array.getElem?_eq_some_iff.1 hoi).1
   have hiL:=(hL i hil).1 hl1
   obtain⟨A,B,rfl⟩:=List.append_of_mem hiL
   have hmask:=hms listed hdc i oi hoi hdeps
   have hunl:∀ j ∈ A,bit (ms.getD i 0) j=false:=by
    intro j hj
    cases hb:bit (ms.getD i 0) j with
    | false=>rfl
    | true=>
     have h1:=hmask j hb
     have h2:=(hL j (hlt j (by simp [hj]))).2 (by simp [hj])
     have hjs:j < listed.size:=by rw [hsz];exact hlt j (by simp [hj])
     simp [hjs] at h1 h2
     rw [h1] at h2
     simp at h2
   have hpr:∀ j ∈ A,PR (P:=P) (cfg:=cfg) ops ms j i:=fun j hj=>(List.pairwise_append.1 hpw).2.2 j hj i (by simp)
   obtain⟨ρ,R0⟩:=R
   have W:WF st:=fun i s p x hi=>R0.gd i s p x hi
   have R:Rel w0 h0 st h a w:=⟨ρ,R0⟩
   have Hop:vcOp P cfg ops oi st h fun s h2=>vcD P cfg ops ms (A++B) fl s h2 K:=by
    cases hE:isE P oi.op with
    | true=>
     refine vcOp_mono (exE hoi hE A W hfm ⟨w,R0.sub⟩ (fun j hj=>⟨hunl j hj,fun oj hoj=>(hpr j hj).un (hunl j hj) oj oi hoj hoi⟩) H) fun s h2 hk=>rk_K hk
    | false=>
     refine vcOp_monoV hE W (exV hoi hE A W (fun j hj oj hoj=>?_) H) fun s _ hk=>hk
     obtain⟨q1,q2⟩:=(hpr j hj).un (hunl j hj) oj oi hoj hoi
     refine⟨?_,q2⟩
     rcases q1 with (q1|q1)|q1
     ·exact q1
     all_goals
      exfalso
      have:isA oi.op=true:=by first|exact q1.1|exact isB_A q1.1
      cases ho:oi.op<;>rw [ho] at this hE<;>first|(cases hE;done)|(cases this;done)
   unfold wpOp
   rw [hoi]
   refine vcOp_gen hP R Hop ?_
   intro st' h' a' w' hk R' E'
   have hnd':=List.nodup_append.1 hnd
   refine vcD_any hP hD hms hQ n hfm (by simp at hn ⊢;omega) (by simp [hsz]) ?_ ?_ ?_ ?_ ?_ hin R' (E.trans (E'.mono ?_)) hk
   ·intro k hk
    by_cases hki:i=k
    ·subst hki
     have hnm:i ∉ A++B:=by
      rw [List.nodup_append] at hnd
      simp only [List.mem_append,not_or]
      refine⟨fun hm=>hnd.2.2 i hm i (by simp) rfl,?_⟩
      have:=(List.nodup_cons.1 hnd.2.1).1
      exact this
     simp only [hnm,iff_false]
     simp [hsz,hk]
    ·rw [getD_set_ne true hki,hL k hk]
     simp only [List.mem_append,List.mem_cons]
     constructor
     ·rintro(h1|h1|h1)
      ·exact .inl h1
      ·exact(hki h1.symm).elim
      ·exact .inr h1
     ·rintro(h1|h1)
      ·exact .inl h1
      ·exact .inr (.inr h1)
   ·intro k hk
    exact hlt k (by simp only [List.mem_append,List.mem_cons] at hk ⊢;rcases hk with h1|h1<;>simp [h1])
   ·exact hnd.sublist (List.Sublist.append (List.Sublist.refl A) (List.sublist_cons_self i B))
   ·exact hpw.sublist (List.Sublist.append (List.Sublist.refl A) (List.sublist_cons_self i B))
   ·intro k o ho hlk e he hb
    by_cases hki:i=k
    ·subst hki
     rw [hoi] at ho;obtain rfl:=Option.some.inj ho
     exact getD_set_true (hdeps e he hb)
    ·rw [getD_set_ne false hki] at hlk
     exact getD_set_true (hdc k o ho hlk e he hb)
   ·intro d hd
    cases hod:oi.dst with
    | none=>rw [hod] at hd;simp [dstL] at hd
    | some x=>rw [hod] at hd;simp [dstL] at hd;subst hd;exact hD i oi hoi d hod
theorem wp_draw (hP:NoNG P)(hm:P.follows .mixedOrders=true){id:Nat}{l:List Nat}{w0:World}{h0:Hp}{st:St}{h:Hp}{a:Act}{w:World}{K:St→Hp→Prop}{Q:Exit→Act→World→Prop}
  (hchk:chkOrd P cfg ops (befM ops.toList []) [] l=true) (hin:allIn ops.size l=true) (R:Rel w0 h0 st h a w) (H:vcD P cfg ops (befM ops.toList []) l [] st h K)
  (hQ:∀ st' h' a' w',K st' h'→Rel w0 h0 st' h' a' w'→Ev (dstsL ops.toList) st st'→Q .normal a' w'):(Code.region id ops true).wp P Q a w:=by
 obtain⟨k1,k2,k3,k4,k5⟩:=chkOrd_spec (ops:=ops) (ms:=befM ops.toList []) hchk (by simp) List.nodup_nil (by simp)
 have hlen:l.length=ops.size:=by simpa using k4
 have hall:∀ i,i < ops.size→i ∈ l:=by
  intro i hi
  exact allIn_spec hin i hi
 obtain⟨ρ,R0⟩:=R
 have R1:Rel w0 h0 st h a { w with drawn:=w.drawn+1 }:=
  ⟨ρ,R0.step (h':=h) (w':={ w with drawn:=w.drawn+1 }) R0.sub ⟨rfl,rfl,rfl,Nat.le_refl _,Nat.le_succ _,fun b hb hn=>⟨rfl,hn⟩⟩⟩
 refine wp_region_any hm ?_
 refine vcD_any hP (D:=dstsL ops.toList) (st0:=st) ?_ ?_ hQ ops.size (L:=l) (fl:=[]) (fun f hf=>by simp at hf) hlen (by simp) ?_ (fun i hi=>(k2 i hi).1) k3 k1 ?_ ?_ R1 (Ev.refl _ _) H
 ·intro i o ho d hd
  have:∀(m:List Oper),o ∈ m→d ∈ dstsL m:=by
   intro m
   induction m with
   | nil=>simp
   | cons x m ih=>
    intro hm
    rcases List.mem_cons.1 hm with rfl|hm
    ·simp [dstsL,hd]
    ·exact dsts_tail' (ih hm)
  exact this _ (by simpa using Array.mem_of_getElem? ho)
 ·intro listed hdc k o ho hall' j hj
  refine befM_spec ops.toList [] 0 rfl (fun i o hi=>by simpa using hi) hdc (fun d _ j hj=>?_) (fun k o hk=>by omega) k o ho hall' j hj
  simp [List.getD,bit_zero] at hj
 ·intro i hi
  simp [hall i hi,hi]
 ·intro k o ho hlk
  exfalso
  by_cases hk:k < ops.size<;>simp [hk] at hlk
 ·intro i o ho e he hb
  exact k5 i (hall i (Array.getElem?_eq_some_iff.1 ho).1) o ho e he hb
end
section
variable {P:Program}{cfg:Cfg}{w0:World}{h0:Hp}
theorem vcOps_ok (hP:NoNG P){ops:Array Oper}{Q:Exit→Act→World→Prop}:∀(l:List Oper) {st:St} {h:Hp} {a:Act} {w:World} {K:St→Hp→Prop},Rel w0 h0 st h a w→vcOps P cfg ops l st h K →
  (∀ st' h' a' w',K st' h'→Rel w0 h0 st' h' a' w'→Ev (dstsL l) st st'→Q .normal a' w')→wpList P ops Q l a w
 | [],st,h,a,w,K,R,H,hn=>hn st h a w H R (Ev.refl _ _)
 | o :: l,st,h,a,w,K,R,H,hn=>by
  refine vcOp_ok hP R (show vcOp P cfg ops o st h _ from H) ?_
  intro st' h' a' w' hk R' E'
  refine vcOps_ok hP l R' hk ?_
  intro st2 h2 a2 w2 hk2 R2 E2
  exact hn st2 h2 a2 w2 hk2 R2 ((E'.mono fun i hi=>dsts_sub hi).trans (E2.mono fun i hi=>dsts_tail hi))
theorem noGd {ρ:Nat→Option Nat}{st:St}{h:Hp}{a:Act}{w:World}(R:RelR ρ w0 h0 st h a w)(hg:st.g=(fun _=>false))(i s:Nat)(p:Bool)(x:SV):st.t i≠.gd s p x:=by
 intro e
 have:=R.gd i s p x e
 rw [hg] at this
 simp at this
theorem endR_ok {st0 st:St}{h:Hp}{a:Act}{w:World}{D:List Nat}(R0:∀ i s p x,st0.t i≠.gd s p x)(R:Rel w0 h0 st h a w)(E:Ev D st0 st):Rel w0 h0 (endR D st) h a w∧(endR D st).g=(fun _=>false)∧Ev D st0 (endR D st):=by
 obtain⟨ρ,R⟩:=R
 have hno:∀ i s p x,(endR D st).t i≠.gd s p x:=by
  intro i s p x e
  simp only [endR] at e
  split at e
  ·simp at e
  ·rename_i s' p' x' hi
   cases hm:memN i D with
   | true=>rw [hm] at e;simp at e
   | false=>
    have:i ∉ D:=by intro hd;rw [memN_iff.2 hd] at hm;simp at hm
    rw [E.t i this] at hi
    exact R0 i _ _ _ hi
 refine⟨⟨ρ,R.n,R.d,fun i=>?_,fun i s p x e=>(hno i s p x e).elim,R.sub,R.F,R.box,R.dom,R.inj⟩,rfl,E.n,fun i hi=>?_,E.b⟩
 ·have hr:=R.fr i
  simp only [endR]
  split
  ·rename_i x hx;rw [hx] at hr;exact hr
  ·rename_i s p x hx
   cases hm:memN i D with
   | true=>exact trivial
   | false=>
    have:i ∉ D:=by intro hd;rw [memN_iff.2 hd] at hm;simp at hm
    rw [E.t i this] at hx
    exact(R0 i _ _ _ hx).elim
 ·have e:=E.t i hi
  simp only [endR]
  split
  ·rename_i x hx;rw [←e,hx]
  ·rename_i s p x hx;rw [e] at hx;exact(R0 i _ _ _ hx).elim
def Post (w0:World)(h0:Hp)(D:List Nat)(st:St)(Q:Ex→St→Hp→Prop)(e:Exit)(a:Act)(w:World):Prop:=
 ∃ x st' h',toEx e=some x∧Q x st' h'∧Rel w0 h0 st' h' a w∧st'.g=(fun _=>false)∧Ev D st st'
theorem loopSt_rel {st st':St}{h:Hp}{a:Act}{w:World}{D slots:List Nat}{bxs:List (Nat × List Sh1)}{xs:List TW}{ys:List (List TV)}
  (hg0:∀ i s p x,st.t i≠.gd s p x) (hbnd:∀ i j o,i ∉ D→st.t i=.s (.bp j o)→j < st.b.length) (hsub:∀ i,i ∈ slots→i ∈ D)
  (R:Rel w0 h0 st' h a w) (hg':st'.g=(fun _=>false)) (hn:st'.n=st.n) (ht:∀ i,i ∉ D→st'.t i=st.t i)
  (hlb:st.b.length≤st'.b.length) (hty:∀(j:Nat) (x y:Box),st.b[j]?=some x→st'.b[j]?=some y→y.ty=x.ty)
  (hsame:∀(j:Nat) (x y:Box),(lookN j bxs).isSome=false→st.b[j]?=some x→st'.b[j]?=some y→tvals y.c=tvals x.c)
  (hbi:∀(k:Nat) (q:Nat × List Sh1),bxs[k]?=some q→q.1 < st.b.length)
  (hv:loopVals st' slots bxs=some (twals xs++tvalsL ys)) (hxl:xs.length=slots.length) (hyl:ys.length=bxs.length)
  (hylen:∀(k:Nat) (q:Nat × List Sh1) (y:List TV) (x:Box),bxs[k]?=some q→ys[k]?=some y→st'.b[q.1]?=some x→y.length=x.c.length)
  (hg:st.g=(fun _=>false)):Rel w0 h0 (loopSt st D slots bxs xs ys) h a w:=by
 obtain⟨ρ,R⟩:=R
 have hsv:slotVals st' slots=some (twals xs)∧boxVals st' bxs=some (tvalsL ys):=by
  unfold loopVals at hv
  split at hv
  ·rename_i u v hu hv'
   simp only [Option.some.injEq] at hv
   have hl:=slotVals_len hu
   obtain⟨e1,e2⟩:=List.append_inj hv (by rw [hl,twals_length,hxl])
   exact⟨by rw [hu,e1],by rw [hv',e2]⟩
  ·simp at hv
 -- the boxes of the head against the frame's
 have key:∀(j:Nat) (x y:Box),(setBoxes st.b bxs ys)[j]?=some x→st'.b[j]?=some y→tvals x.c=tvals y.c∧x.ty=y.ty:=by
  have:∀(l:List (Nat × List Sh1)) (zs:List (List TV)) (b:List Box),boxVals st' l=some (tvalsL zs)→zs.length=l.length →
    (∀(k:Nat) (q:Nat × List Sh1) (y:List TV) (x:Box),l[k]?=some q→zs[k]?=some y→st'.b[q.1]?=some x→y.length=x.c.length) →
    (∀(k:Nat) (q:Nat × List Sh1),l[k]?=some q→q.1 < b.length) →
    (∀(j:Nat) (x y:Box),b[j]?=some x→st'.b[j]?=some y→(tvals x.c=tvals y.c∨(lookN j l).isSome=true)∧x.ty=y.ty) →
    ∀(j:Nat) (x y:Box),(setBoxes b l zs)[j]?=some x→st'.b[j]?=some y→tvals x.c=tvals y.c∧x.ty=y.ty:=by
   intro l
   induction l with
   | nil=>intro zs b _ _ _ _ hb j x y hx hy;obtain⟨h1,h2⟩:=hb j x y (by simpa [setBoxes] using hx) hy;exact⟨h1.resolve_right (by simp [lookN]),h2⟩
   | cons q l ih=>
    obtain⟨i,s⟩:=q
    intro zs b H hl hlen hbi hb
    cases zs with
    | nil=>simp at hl
    | cons z zs=>
     simp only [boxVals] at H
     split at H
     ·rename_i bx vs hbx hvs
      simp only [Option.some.injEq,tvalsL] at H
      have hylen:=hlen 0 (i,s) z bx rfl rfl hbx
      have hsp:=List.append_inj H (by simp [tvals_length,hylen])
      have hib:i < b.length:=hbi 0 (i,s) rfl
      obtain⟨b0,hb0⟩:∃ b0,b[i]?=some b0:=⟨b[i],by simp [hib]⟩
      simp only [setBoxes,hb0]
      refine ih zs _ (by rw [hvs,hsp.2]) (by simpa using hl) (fun k q y' x h1 h2 h3=>hlen (k+1) q y' x (by simpa using h1) (by simpa using h2) h3)
       (fun k q hq=>by rw [setAt_length];exact hbi (k+1) q (by simpa using hq)) ?_
      intro j x y hx hy
      rw [setAt_get] at hx
      split at hx
      ·rename_i e
       obtain⟨rfl,_⟩:=e
       rw [hbx] at hy
       obtain rfl:=Option.some.inj hy
       simp only [Option.some.injEq] at hx
       subst hx
       exact⟨.inl hsp.1.symm,(hb j b0 bx hb0 hbx).2⟩
      ·rename_i e
       obtain⟨h1,h2⟩:=hb j x y hx hy
       refine⟨?_,h2⟩
       rcases h1 with h1|h1
       ·exact .inl h1
       ·simp only [lookN] at h1
        cases hq:Nat.beq j i with
        | true=>
         have:=Nat.eq_of_beq_eq_true hq
         subst this
         exact(e ⟨rfl,hib⟩).elim
        | false=>rw [hq] at h1;exact .inr h1
     ·simp at H
  refine this bxs ys st.b hsv.2 hyl hylen hbi ?_
  intro j x y hx hy
  refine⟨?_,(hty j x y hx hy).symm⟩
  cases hq:(lookN j bxs).isSome with
  | true=>exact .inr rfl
  | false=>exact .inl (hsame j x y hq hx hy).symm
 refine⟨fun i=>if i < st.b.length then ρ i else none,?_,R.d,?_,?_,R.sub,R.F,?_,?_,?_⟩
 ·rw [R.n,hn];rfl
 ·have hst:∀ i x,st'.t i=.s (.t x)→a.tmps.getD i undef=x.val:=by
   intro i x hx
   have:=R.fr i
   rw [hx] at this
   exact this
  refine setSlots_ok (st:=st') hst slots xs _ ?_ hsv.1
  intro i
  cases hm:memN i D with
  | true=>exact trivial
  | false=>
   have hi:i ∉ D:=by intro hd;rw [memN_iff.2 hd] at hm;simp at hm
   have hr:=R.fr i
   rw [ht i hi] at hr
   simp only [cond_false]
   cases hs:st.t i with
   | gd s p x=>exact(hg0 i s p x hs).elim
   | s x=>
    rw [hs] at hr
    cases x with
    | bp j o=>
     obtain⟨b,h1,h2⟩:=hr
     exact⟨b,by simp [hbnd i j o hi hs,h1],h2⟩
    | _=>exact hr
 ·intro i s p x e
  refine(setSlots_nogd slots xs _ ?_ i s p x e).elim
  intro i s p x
  cases hm:memN i D with
  | true=>simp
  | false=>exact hg0 i s p x
 ·intro i bx hbx
  have hil:i < st.b.length:=by
   have:=(List.getElem?_eq_some_iff.1 hbx).1
   simpa [loopSt,setBoxes_len] using this
  obtain⟨by',hby⟩:∃ y,st'.b[i]?=some y:=⟨st'.b[i]'(by omega),by simp [show i < st'.b.length by omega]⟩
  obtain⟨b,h1,h2,h3,h4⟩:=R.box i by' hby
  obtain⟨k1,k2⟩:=key i bx by' hbx hby
  exact⟨b,by simp [hil,h1],by rw [k1,k2];exact h2,h3,h4⟩
 ·intro i b hi
  split at hi
  ·rename_i hl;simpa [loopSt,setBoxes_len] using hl
  ·simp at hi
 ·intro i j b hi hj
  split at hi
  ·split at hj
   ·exact R.inj i j b hi hj
   ·simp at hj
  ·simp at hi
theorem vcOps_in (hP:NoNG P){l0 n:Nat}{ops:Array Oper}{Q:Exit→Act→World→Prop}:∀(l:List Oper),flatO l=true→∀{st:St} {h:Hp} {a:Act} {w:World} {K:St→Hp→Prop},Rel w0 h0 st h a w→vcOps P cfg ops l st h K →
  (∀ st' h' a' w',K st' h'→Rel w0 h0 st' h' a' w'→Ev (dstsL l) st st'→Q .normal a' w')→wpListIn (Fence.wide.inRound l0) n P ops Q l a w
 | [],_,st,h,a,w,K,R,H,hn=>hn st h a w H R (Ev.refl _ _)
 | o :: l,hf,st,h,a,w,K,R,H,hn=>by
  simp only [flatO,Bool.and_eq_true] at hf
  have hnd:∀ c,o.op≠.defer c:=by
   intro c e
   rw [e] at hf
   cases hf.1
  have key:=vcOp_gen (Q:=fun _ _ _=>False) hP R (show vcOp P cfg ops o st h _ from H) (N:=wpListIn (Fence.wide.inRound l0) n P ops Q l) ?_
  ·unfold wpListIn
   split
   ·rename_i hw
    rw [if_pos hw] at key
    rcases key with h1|⟨_,_,_,h1⟩
    ·exact opwp_in hnd h1
    ·exact h1.elim
   ·rename_i hw
    rw [if_neg hw] at key
    exact⟨fun _ _=>trivial,key⟩
  ·intro st' h' a' w' hk R' E'
   refine vcOps_in hP l hf.2 R' hk ?_
   intro st2 h2 a2 w2 hk2 R2 E2
   exact hn st2 h2 a2 w2 hk2 R2 ((E'.mono fun i hi=>dsts_sub hi).trans (E2.mono fun i hi=>dsts_tail hi))
theorem vcC_in (hP:NoNG P){l0 n:Nat}:∀(c:Code),flatC c=true→∀{st:St} {h:Hp} {a:Act} {w:World} {Q:Ex→St→Hp→Prop},vcC P cfg c st h Q→st.g=(fun _=>false)→Rel w0 h0 st h a w→c.wpIn (Fence.wide.inRound l0) n P (Post w0 h0 (dstsC c) st Q) a w:=by
 intro c
 induction c with
 | skip=>intro _ st h a w Q H hg R;exact wpIn_skip ⟨.nrm,st,h,rfl,H,R,hg,Ev.refl _ _⟩
 | region id ops draw=>
  intro hf st h a w Q H hg R
  simp only [flatC,Bool.and_eq_true,Bool.not_eq_true'] at hf
  obtain⟨hd,hf⟩:=hf
  subst hd
  simp only [vcC,cond_false] at H
  refine wpIn_region_list (vcOps_in hP ops.toList hf R H ?_)
  intro st' h' a' w' hk R' E'
  obtain⟨ρ,R0⟩:=R
  obtain⟨k1,k2,k3⟩:=endR_ok (noGd R0 hg) R' E'
  exact⟨.nrm,_,h',rfl,hk,k1,k2,k3⟩
 | seq x y ihx ihy=>
  intro hf st h a w Q H hg R
  simp only [flatC,Bool.and_eq_true] at hf
  refine wpIn_seq (wpIn_mono (ihx hf.1 H hg R) ?_)
  rintro e a' w' ⟨ex,st',h',he,hq,R',hg',E'⟩
  have hD:∀ i,i ∈ dstsC x→i ∈ dstsC (.seq x y):=fun i hi=>by simp [dstsC,hi]
  have hD':∀ i,i ∈ dstsC y→i ∈ dstsC (.seq x y):=fun i hi=>by simp [dstsC,hi]
  cases e with
  | normal=>
   simp only [toEx,Option.some.injEq] at he
   subst he
   refine wpIn_mono (ihy hf.2 hq hg' R') ?_
   rintro e a2 w2 ⟨ex,st2,h2,he,hq,R2,hg2,E2⟩
   exact⟨ex,st2,h2,he,hq,R2,hg2,(E'.mono hD).trans (E2.mono hD')⟩
  | exit id=>simp only [toEx,Option.some.injEq] at he;subst he;exact⟨_,st',h',rfl,hq,R',hg',E'.mono hD⟩
  | ret=>simp only [toEx,Option.some.injEq] at he;subst he;exact⟨_,st',h',rfl,hq,R',hg',E'.mono hD⟩
  | goto l=>simp [toEx] at he
  | panic ch=>simp [toEx] at he
  | outgrown=>simp [toEx] at he
 | cond c x y ihx ihy=>
  intro hf st h a w Q H hg R
  simp only [flatC,Bool.and_eq_true] at hf
  simp only [vcC] at H
  split at H
  ·rename_i t ht
   obtain⟨ρ,R0⟩:=R
   have hc:a.eval c=.bool t:=sv_cases_t ht (ev_ok R0 (fun _ _ hm=>by simp at hm) c)
   refine wpIn_cond_split hc (fun e=>?_) (fun e=>?_)
   ·refine wpIn_mono (ihx hf.1 (H.1 e) hg ⟨ρ,R0⟩) ?_
    rintro e a2 w2 ⟨ex,st2,h2,he,hq,R2,hg2,E2⟩
    exact⟨ex,st2,h2,he,hq,R2,hg2,E2.mono fun i hi=>by simp [dstsC,hi]⟩
   ·refine wpIn_mono (ihy hf.2 (H.2 e) hg ⟨ρ,R0⟩) ?_
    rintro e a2 w2 ⟨ex,st2,h2,he,hq,R2,hg2,E2⟩
    exact⟨ex,st2,h2,he,hq,R2,hg2,E2.mono fun i hi=>by simp [dstsC,hi]⟩
  ·exact H.elim
 | block id x ihx=>
  intro hf st h a w Q H hg R
  simp only [flatC] at hf
  refine wpIn_block (wpIn_mono (ihx hf H hg R) ?_)
  rintro e a' w' ⟨ex,st',h',he,hq,R',hg',E'⟩
  cases e with
  | normal=>simp only [toEx,Option.some.injEq] at he;subst he;exact⟨_,st',h',rfl,hq,R',hg',E'⟩
  | exit i=>
   simp only [toEx,Option.some.injEq] at he
   subst he
   simp only at hq
   simp only [Exit.inBlock]
   cases hb:Nat.beq i id with
   | true=>
    rw [hb] at hq
    rw [if_pos (Nat.eq_of_beq_eq_true hb)]
    exact⟨_,st',h',rfl,hq,R',hg',E'⟩
   | false=>
    rw [hb] at hq
    rw [if_neg (Nat.ne_of_beq_eq_false hb)]
    exact⟨_,st',h',rfl,hq,R',hg',E'⟩
  | ret=>simp only [toEx,Option.some.injEq] at he;subst he;exact⟨_,st',h',rfl,hq,R',hg',E'⟩
  | goto l=>simp [toEx] at he
  | panic ch=>simp [toEx] at he
  | outgrown=>simp [toEx] at he
 | exit id=>intro _ st h a w Q H hg R;exact wpIn_exit ⟨_,st,h,rfl,H,R,hg,Ev.refl _ _⟩
 | ret=>intro _ st h a w Q H hg R;exact wpIn_ret ⟨_,st,h,rfl,H,R,hg,Ev.refl _ _⟩
 | _=>intro hf;cases hf
theorem vcC_ok (hP:NoNG P)(hm:P.follows .mixedOrders=true):∀(c:Code) {st:St} {h:Hp} {a:Act} {w:World} {Q:Ex→St→Hp→Prop},vcC P cfg c st h Q→st.g=(fun _=>false)→Rel w0 h0 st h a w→c.wp P (Post w0 h0 (dstsC c) st Q) a w:=by
 intro c
 induction c with
 | skip=>intro st h a w Q H hg R;exact wp_skip ⟨.nrm,st,h,rfl,H,R,hg,Ev.refl _ _⟩
 | region id ops draw=>
  intro st h a w Q H hg R
  simp only [vcC] at H
  cases draw with
  | true=>
   simp only [cond_true] at H
   split at H
   ·rename_i l hl
    rcases Bool.eq_false_or_eq_true (chkOrd P cfg ops (befM ops.toList []) [] l&&allIn ops.size l) with hc|hc
    ·rw [hc] at H
     simp only [cond_true] at H
     simp only [Bool.and_eq_true] at hc
     refine wp_draw hP hm hc.1 hc.2 R H ?_
     intro st' h' a' w' hk R' E'
     obtain⟨ρ,R0⟩:=R
     obtain⟨k1,k2,k3⟩:=endR_ok (noGd R0 hg) R' E'
     exact⟨.nrm,_,h',rfl,hk,k1,k2,k3⟩
    ·rw [hc] at H;exact H.elim
   ·exact H.elim
  | false=>
   simp only [cond_false] at H
   refine wp_region_list (vcOps_ok hP ops.toList R H ?_)
   intro st' h' a' w' hk R' E'
   obtain⟨ρ,R0⟩:=R
   obtain⟨k1,k2,k3⟩:=endR_ok (noGd R0 hg) R' E'
   exact⟨.nrm,_,h',rfl,hk,k1,k2,k3⟩
 | seq x y ihx ihy=>
  intro st h a w Q H hg R
  refine wp_seq (wp_mono (ihx H hg R) ?_)
  rintro e a' w' ⟨ex,st',h',he,hq,R',hg',E'⟩
  have hD:∀ i,i ∈ dstsC x→i ∈ dstsC (.seq x y):=fun i hi=>by simp [dstsC,hi]
  have hD':∀ i,i ∈ dstsC y→i ∈ dstsC (.seq x y):=fun i hi=>by simp [dstsC,hi]
  cases e with
  | normal=>
   simp only [toEx,Option.some.injEq] at he
   subst he
   refine wp_mono (ihy hq hg' R') ?_
   rintro e a2 w2 ⟨ex,st2,h2,he,hq,R2,hg2,E2⟩
   exact⟨ex,st2,h2,he,hq,R2,hg2,(E'.mono hD).trans (E2.mono hD')⟩
  | exit id=>simp only [toEx,Option.some.injEq] at he;subst he;exact⟨_,st',h',rfl,hq,R',hg',E'.mono hD⟩
  | ret=>simp only [toEx,Option.some.injEq] at he;subst he;exact⟨_,st',h',rfl,hq,R',hg',E'.mono hD⟩
  | goto l=>simp [toEx] at he
  | panic ch=>simp [toEx] at he
  | outgrown=>simp [toEx] at he
 | cond c x y ihx ihy=>
  intro st h a w Q H hg R
  simp only [vcC] at H
  split at H
  ·rename_i t ht
   obtain⟨ρ,R0⟩:=R
   have hc:a.eval c=.bool t:=sv_cases_t ht (ev_ok R0 (fun _ _ hm=>by simp at hm) c)
   refine wp_cond_split hc (fun e=>?_) (fun e=>?_)
   ·refine wp_mono (ihx (H.1 e) hg ⟨ρ,R0⟩) ?_
    rintro e a2 w2 ⟨ex,st2,h2,he,hq,R2,hg2,E2⟩
    exact⟨ex,st2,h2,he,hq,R2,hg2,E2.mono fun i hi=>by simp [dstsC,hi]⟩
   ·refine wp_mono (ihy (H.2 e) hg ⟨ρ,R0⟩) ?_
    rintro e a2 w2 ⟨ex,st2,h2,he,hq,R2,hg2,E2⟩
    exact⟨ex,st2,h2,he,hq,R2,hg2,E2.mono fun i hi=>by simp [dstsC,hi]⟩
  ·exact H.elim
 | block id x ihx=>
  intro st h a w Q H hg R
  refine wp_block (wp_mono (ihx H hg R) ?_)
  rintro e a' w' ⟨ex,st',h',he,hq,R',hg',E'⟩
  cases e with
  | normal=>simp only [toEx,Option.some.injEq] at he;subst he;exact⟨_,st',h',rfl,hq,R',hg',E'⟩
  | exit i=>
   simp only [toEx,Option.some.injEq] at he
   subst he
   simp only at hq
   simp only [Exit.inBlock]
   cases hb:Nat.beq i id with
   | true=>
    rw [hb] at hq
    rw [if_pos (Nat.eq_of_beq_eq_true hb)]
    exact⟨_,st',h',rfl,hq,R',hg',E'⟩
   | false=>
    rw [hb] at hq
    rw [if_neg (Nat.ne_of_beq_eq_false hb)]
    exact⟨_,st',h',rfl,hq,R',hg',E'⟩
  | ret=>simp only [toEx,Option.some.injEq] at he;subst he;exact⟨_,st',h',rfl,hq,R',hg',E'⟩
  | goto l=>simp [toEx] at he
  | panic ch=>simp [toEx] at he
  | outgrown=>simp [toEx] at he
 | loop x ihx=>
  intro st h a w Q H hg R
  simp only [vcC] at H
  split at H
  ·exact H.elim
  ·rename_i slots shs bxs hann
   split at H
   ·exact H.elim
   ·exact H.elim
   ·rename_i vs0 hv0 hchk
    simp only [Bool.and_eq_true] at hchk
    obtain⟨⟨hc1,hc2⟩,hc3⟩:=hchk
    have hshs:=Nat.eq_of_beq_eq_true hc1
    have hlens:=chkLens_spec hc2
    have hsub:=subN_spec hc3
    obtain⟨I,μ,hI0,hround⟩:=H
    have hR:=R
    obtain⟨ρ,R0⟩:=R
    have hg0:=noGd R0 hg
    have hbnd:∀ i j o,i ∉ dstsC x→st.t i=.s (.bp j o)→j < st.b.length:=by
     intro i j o _ hi
     have hr:=R0.fr i
     rw [hi] at hr
     obtain⟨b,h1,_⟩:=hr
     exact R0.dom j b h1
    have hbi:∀(k:Nat) (q:Nat × List Sh1),bxs[k]?=some q→q.1 < st.b.length:=by
     intro k q hq
     obtain⟨bx,hbx,_⟩:=hlens k q hq
     exact(List.getElem?_eq_some_iff.1 hbx).1
    let Inv:Nat→Act→World→Prop:=fun n a w=>∃ vs h' xs ys,n=μ vs h'∧I vs h'∧Rel w0 h0 (loopSt st (dstsC x) slots bxs xs ys) h' a w ∧
     vcC P cfg x (loopSt st (dstsC x) slots bxs xs ys) h' fun e st' h''=>match e with
      | .nrm=>match loopVals st' slots bxs with
       | some vs'=>bif (sameB 0 st.b st'.b bxs&&chkLens st' bxs) then(I vs' h''∧μ vs' h'' < μ vs h') else False
       | none=>False
      | e=>Q e st' h''
    -- from a frame that fits to the head
    have head:∀ st' h' a w vs,Rel w0 h0 st' h' a w→st'.g=(fun _=>false)→st'.n=st.n→(∀ i,i ∉ dstsC x→st'.t i=st.t i)→st.b.length≤st'.b.length →
      (∀(j:Nat) (x y:Box),st.b[j]?=some x→st'.b[j]?=some y→y.ty=x.ty)→(∀(j:Nat) (x y:Box),(lookN j bxs).isSome=false→st.b[j]?=some x→st'.b[j]?=some y→tvals y.c=tvals x.c) →
      (∀(k:Nat) (q:Nat × List Sh1) (y:Box),bxs[k]?=some q→st'.b[q.1]?=some y→y.c.length=q.2.length) →
      loopVals st' slots bxs=some vs→I vs h'→Inv (μ vs h') a w:=by
     intro st' h' a w vs R' hg' hn' ht' hlb' hty' hsame' hlen' hv' hI'
     obtain⟨xs,hx,hxl⟩:=ex0L_elim' (hround vs h' hI')
     obtain⟨ys,⟨hvs,hvc⟩,hyl,hylen⟩:=exLL_elim hx
     refine⟨vs,h',xs,ys,rfl,hI',?_,hvc⟩
     refine loopSt_rel hg0 hbnd hsub R' hg' hn' ht' hlb' hty' hsame' hbi (by rw [hv',hvs]) (by rw [hxl,hshs]) hyl ?_ hg
     intro k q y bx h1 h2 h3
     rw [hylen k q y h1 h2,hlen' k q bx h1 h3]
    refine wp_loop_n Inv (μ vs0 h) ?_ ?_
    ·refine head st h a w vs0 hR hg rfl (fun _ _=>rfl) (Nat.le_refl _) (fun j u v h1 h2=>by rw [h1] at h2;obtain rfl:=Option.some.inj h2;rfl) (fun j u v _ h1 h2=>by rw [h1] at h2;obtain rfl:=Option.some.inj h2;rfl) ?_ hv0 hI0
     intro k q y h1 h2
     obtain⟨bx,hbx,hl⟩:=hlens k q h1
     rw [hbx] at h2
     obtain rfl:=Option.some.inj h2
     exact hl
    ·rintro n a w ⟨vs,h',xs,ys,rfl,hI',hRl,hvc⟩
     refine wp_mono (ihx hvc hg hRl) ?_
     have hE0:Ev (dstsC x) st (loopSt st (dstsC x) slots bxs xs ys):=loopSt_ev hsub
     rintro e a2 w2 ⟨ex,st2,h2,he,hq,R2,hg2,E2⟩
     cases e with
     | normal=>
      simp only [toEx,Option.some.injEq] at he
      subst he
      simp only at hq
      split at hq
      ·rename_i vs' hv'
       cases hsB':(sameB 0 st.b st2.b bxs&&chkLens st2 bxs) with
       | false=>rw [hsB'] at hq;exact hq.elim
       | true=>
        rw [hsB'] at hq
        simp only [cond_true] at hq
        simp only [Bool.and_eq_true] at hsB'
        obtain⟨hsB,hcl⟩:=hsB'
        have hE:=hE0.trans E2
        refine⟨μ vs' h2,hq.2,head st2 h2 a2 w2 vs' R2 hg2 hE.n hE.t (boxMono_len hE.b) ?_ ?_ ?_ hv' hq.1⟩
        ·intro j u v h1 h2
         obtain⟨y,hy,ht,_⟩:=hE.b j u h1
         rw [h2] at hy
         obtain rfl:=Option.some.inj hy
         exact ht
        ·intro j u v hl h1 h2
         have hs:=(sameB_spec _ _ _ 0 hsB).2 j u v (by rw [Nat.zero_add];exact hl) h1 h2
         obtain⟨y,hy,_,_,hst⟩:=hE.b j u h1
         rw [h2] at hy
         obtain rfl:=Option.some.inj hy
         rw [hst hs.symm]
        ·intro k q y h1 h2
         obtain⟨bx,hbx,hl⟩:=chkLens_spec hcl k q h1
         rw [hbx] at h2
         obtain rfl:=Option.some.inj h2
         exact hl
      ·exact hq.elim
     | exit id=>simp only [toEx,Option.some.injEq] at he;subst he;exact⟨_,st2,h2,rfl,hq,R2,hg2,hE0.trans E2⟩
     | ret=>simp only [toEx,Option.some.injEq] at he;subst he;exact⟨_,st2,h2,rfl,hq,R2,hg2,hE0.trans E2⟩
     | goto l=>simp [toEx] at he
     | panic ch=>simp [toEx] at he
     | outgrown=>simp [toEx] at he
 | exit id=>intro st h a w Q H hg R;exact wp_exit ⟨_,st,h,rfl,H,R,hg,Ev.refl _ _⟩
 | ret=>intro st h a w Q H hg R;exact wp_ret ⟨_,st,h,rfl,H,R,hg,Ev.refl _ _⟩
 | _=>intros;rename_i H _ _;exact H.elim
end
section
variable {P:Program}{cfg:Cfg}{w0:World}{h0:Hp}
theorem resV_ok {ρ:Nat→Option Nat}{st:St}{h:Hp}{a:Act}{w:World}(R:RelR ρ w0 h0 st h a w):∀{l:List ResultVar} {vs:List Value},resV P st l=some vs →
  (l.mapM (resOne a.tmps)).run P w=.ok vs w:=Vc.resV_ok R.toVc
theorem vcRes_ok {st:St}{h:Hp}:∀{l:List ResultVar} {K:List Value→Prop},vcRes P st h l K→∃ vs,K vs∧∀{ρ:Nat→Option Nat} {a:Act} {w:World},RelR ρ w0 h0 st h a w→(l.mapM (resOne a.tmps)).run P w=.ok vs w:=fun H=>let ⟨vs,k,e⟩:=Vc.vcRes_ok (w0:=w0) (h0:=h0) H;⟨vs,k,fun R=>e R.toVc⟩
theorem leaves_marks {ρ:Nat→Option Nat}{st:St}{h:Hp}{fn:Func}{vs:List Value}{n:Nat}{K:Ending→World→Prop}(H:∀{ρ:Nat→Option Nat} {a:Act} {w:World},RelR ρ w0 h0 st h a w→(fn.results.toList.mapM (resOne a.tmps)).run P w=.ok vs w)(hK:∀ W,Sub h W→Fr h0 h w0 W→K (.returned (tupV vs)) W) :
  ∀(ds:List Deferred) {a:Act} {w:World},RelR ρ w0 h0 st h a w→a.defers=ds→LeavesInM Fence.wide n P fn a.tmps K ds .returning w
 | [],a,w,R,_=>⟨_,results_ok (H R),hK w R.sub R.F⟩
 | d :: ds,a,w,R,hd=>by
  have hm:=R.d
  rw [hd] at hm
  obtain⟨D,e,k1,k2,k3⟩:=hm.2 d List.mem_cons_self
  refine⟨by simp,.inl ⟨D,w.putObj D (.deferred none),by rw [e],run_takeDeferred k1,?_⟩⟩
  have hsz:(w.putObj D (.deferred none)).heap.size=w.heap.size:=by simp [World.putObj]
  have hoth:∀ b,b≠D→(w.putObj D (.deferred none)).heap[b]?=w.heap[b]?:=fun b hb=>World.putObj_heap_other hb
  have R':RelR ρ w0 h0 st h { a with defers:=ds } (w.putObj D (.deferred none)):=by
   refine⟨R.n,⟨(List.nodup_cons.1 hm.1).2,?_⟩,R.fr,R.gd,?_,⟨R.F.os,R.F.tape,R.F.output,by rw [hsz];exact R.F.size,R.F.drawn,?_⟩,?_,R.dom,R.inj⟩
   ·intro x hx
    obtain⟨D',e',j1,j2,j3⟩:=hm.2 x (List.mem_cons_of_mem _ hx)
    refine⟨D',e',?_,j2,j3⟩
    rw [hoth D' (fun e2=>?_)]
    ·exact j1
    ·subst e2
     rw [←e] at e'
     subst e'
     exact(List.nodup_cons.1 hm.1).1 hx
   ·intro b o hb
    rw [hoth b (fun e2=>by subst e2;rw [k2] at hb;cases hb)]
    exact R.sub b o hb
   ·intro b hb hn
    rw [hoth b (fun e2=>by subst e2;omega)]
    exact R.F.keep b hb hn
   ·intro i bx hb
    obtain⟨b,j1,j2,j3,j4⟩:=R.box i bx hb
    refine⟨b,j1,?_,j3,j4⟩
    rw [hoth b (fun e2=>by subst e2;rw [k1] at j2;cases j2)]
    exact j2
  exact leaves_marks (a:={ a with defers:=ds }) H hK ds R' rfl
theorem vcFn_ok (hP:NoNG P)(hm:P.follows .mixedOrders=true){f:FuncId}{fn:Func}(hf:P.funcs[f]?=some fn){args:List TW}{h:Hp}{R:Value→Hp→Prop}(hn:args.length≤fn.ntmps)(H:vcFn P cfg fn args h R):CallOK P f (args.map TW.val) h R:=by
 intro w hs
 unfold vcFn at H
 split at H
 ·exact H.elim
 ·rename_i c hb
  refine(callsIn_wide (n:=3)).1 (callsIn_of_wp_marks hf hb trivial (wpIn_wide.2 ?_))
  have hR0:Rel w h ⟨fn.ntmps,argSlots args,fun _=>false,[]⟩ h { tmps:=(args.map TW.val).toArray++Array.replicate (fn.ntmps - (args.map TW.val).toArray.size) undef,defers:=[] } w:=by
   refine⟨fun _=>none,?_,⟨List.nodup_nil,fun d hd=>by cases hd⟩,argSlots_ok args _,?_,hs,Fr.refl h w,?_,?_,?_⟩
   ·simp;omega
   ·intro i s p x e
    have:∀(args:List TW) (i:Nat),argSlots args i≠.gd s p x:=by
     intro args
     induction args with
     | nil=>intro i;simp [argSlots]
     | cons y l ih=>intro i;cases i<;>simp [argSlots];exact ih _
    exact(this args i e).elim
   ·intro i bx hbx;simp at hbx
   ·intro i b hb;simp at hb
   ·intro i j b hb;simp at hb
  refine wp_mono (vcC_ok hP hm c H rfl hR0) ?_
  rintro e a' w' ⟨ex,st',h',he,hq,⟨ρ,R'⟩,hg',E'⟩
  have fin:(vcRes P st' h' fn.results.toList fun vs=>match vs with
    | [v]=>R v h'
    | vs=>R (.tuple vs.toArray) h')→LeavesInM Fence.wide 3 P fn a'.tmps (fun e w'=>∃ v h',e=.returned v∧Sub h' w'∧Fr h h' w w'∧R v h') a'.defers .returning w':=by
   intro hx
   obtain⟨vs,hk,hv⟩:=vcRes_ok hx
   refine leaves_marks hv (fun W k1 k2=>⟨_,h',rfl,k1,k2,?_⟩) _ R' rfl
   match vs,hk with
   | [],hk=>exact hk
   | [v],hk=>exact hk
   | u :: v :: l,hk=>exact hk
  cases e with
  | normal=>simp only [toEx,Option.some.injEq] at he;subst he;exact fin hq
  | ret=>simp only [toEx,Option.some.injEq] at he;subst he;exact fin hq
  | exit id=>simp only [toEx,Option.some.injEq] at he;subst he;exact hq.elim
  | goto l=>simp [toEx] at he
  | panic ch=>simp [toEx] at he
  | outgrown=>simp [toEx] at he
theorem call_of (hP:NoNG P)(hm:P.follows .mixedOrders=true){f:FuncId}{fn:Func}(hf:P.funcs[f]?=some fn)(args:List TW){vs:List Value}{h:Hp}{R:Value→Hp→Prop}(hn:Nat.ble args.length fn.ntmps=true)(hv:vs=args.map TW.val){V:Prop}(hV:V=vcFn P cfg fn args h R)(H:V):CallOK P f vs h R:=by
 subst hv
 exact vcFn_ok hP hm hf (Nat.le_of_ble_eq_true hn) (hV▸H)
theorem CallOK.mono {f:FuncId}{vs:List Value}{h:Hp}{R R':Value→Hp→Prop}(H:CallOK P f vs h R)(hr:∀ v h',R v h'→R' v h'):CallOK P f vs h R':=
 fun w hs=>(H w hs).mono fun e w' ⟨v,h',h1,h2,h3,h4⟩=>⟨v,h',h1,h2,h3,hr _ _ h4⟩
end
end Go.Vd
namespace Go.Proofs.YtiflgceoamkmnaaGreatDoor.D
open Go Go.Vd
open Go.Vc (Hp IsW NoNG cellsO vag vb vi vs vsl)
theorem noNG:NoNG Tryz.prog:=by
 have h:(Tryz.prog.funcs.all fun fn=>!(fn.name == "runtime.NumGoroutine"))=true:=by kernel_rfl
 intro f fn hf
 rw [Array.all_eq_true] at h
 obtain⟨hlt,he⟩:=Array.getElem?_eq_some_iff.mp hf
 have:=h f hlt
 rw [he] at this
 simpa using this
theorem mixed:Tryz.prog.follows .mixedOrders=true:=by kernel_rfl
def VC_cmp_isNaN_int (u0:Int)(h:Hp)(R:Value→Hp→Prop):Prop:=
 R (vb (decide (u0≠u0))) h
theorem ok_cmp_isNaN_int {u0 h R}(H:VC_cmp_isNaN_int u0 h R):CallOK Tryz.prog 163 [vi u0] h R:=
 call_of (cfg:=⟨[],[],[]⟩) noNG mixed Tryz.func163 [.one (.v (vi u0))] (by kernel_rfl) rfl (by kernel_rfl) H
def VC_cmp_Compare_int (u0:Int)(u1:Int)(h:Hp)(R:Value→Hp→Prop):Prop:=
 (CallOK Tryz.prog 163 [vi u0] h fun v1 h2=>∃ p3,v1=(vb p3)∧(CallOK Tryz.prog 163 [vi u1] h2 fun v4 h5=>∃ p6,v4=(vb p6)∧((p3=true→((p6=true→R (vi 0) h5)∧(p6=false→R (vi (-1)) h5)))∧(p3=false→((p6=true→R (vi 1) h5)∧(p6=false→(((decide (u0 < u1))=true→R (vi (-1)) h5)∧((decide (u0 < u1))=false→(((decide (u0 > u1))=true→R (vi 1) h5)∧((decide (u0 > u1))=false→R (vi 0) h5))))))))))
theorem ok_cmp_Compare_int {u0 u1 h R}(H:VC_cmp_Compare_int u0 u1 h R):CallOK Tryz.prog 125 [vi u0,vi u1] h R:=
 call_of (cfg:=⟨[],[],[]⟩) noNG mixed Tryz.func125 [.one (.v (vi u0)),.one (.v (vi u1))] (by kernel_rfl) rfl (by kernel_rfl) H
def VC_cmp_Or_int (u0:Option Addr)(u1 u2:Nat)(h:Hp)(R:Value→Hp→Prop):Prop:=
 (∃(I2:List Value→Hp→Prop) (m3:List Value→Hp→Nat),I2 [vi 0] h∧∀ vs4 h5,I2 vs4 h5→∃ x6,vs4=[vi x6]∧(((decide (x6 < (u1:Int)))=true→(∃ b9 o10,(u0=some ⟨b9,o10,none⟩∧(0:Int)≤x6∧x6 < (u1:Int))∧(∃ x11,(Hp.cell h5 b9 (o10+x6.toNat*1)=some (vi x11))∧(((decide (x11≠0))=true→R (vi x11) h5)∧((decide (x11≠0))=false→(∃ x13,(IsW x13 (x6+1))∧(I2 [vi x13] h5∧m3 [vi x13] h5 < m3 vs4 h5)))))))∧((decide (x6 < (u1:Int)))=false→R (vi 0) h5)))
theorem ok_cmp_Or_int {u0 u1 u2 h R}(H:VC_cmp_Or_int u0 u1 u2 h R):CallOK Tryz.prog 124 [vsl u0 u1 u2] h R:=
 call_of (cfg:=⟨[],[(3,([8],[.one (.int .i64)],[]))],[]⟩) noNG mixed Tryz.func124 [.one (.v (vsl u0 u1 u2))] (by kernel_rfl) rfl (by kernel_rfl) H
def VC_value_Compare (u0:Int)(u1:Int)(u2:Int)(u3:Int)(h:Hp)(R:Value→Hp→Prop):Prop:=
 (CallOK Tryz.prog 125 [vi u0,vi u2] h fun v1 h2=>∃ x3,v1=(vi x3)∧(CallOK Tryz.prog 125 [vi u1,vi u3] h2 fun v4 h5=>∃ x6,v4=(vi x6)∧(∀ b7,h5 b7=none→let h8:= Hp.set h5 b7 (cellsO [vi x3,vi x6] 3);(CallOK Tryz.prog 124 [(vsl (some (⟨b7,0,none⟩:Addr)) 2 2)] h8 fun v9 h10=>∃ x11,v9=(vi x11)∧R (vi x11) h10))))
theorem ok_value_Compare {u0 u1 u2 u3 h R}(H:VC_value_Compare u0 u1 u2 u3 h R):CallOK Tryz.prog 79 [vag [vi u0,vi u1],vag [vi u2,vi u3]] h R:=
 call_of (cfg:=⟨[],[],[(1,[0,1,2,3,5,6,7,8,4,9,10,11,12])]⟩) noNG mixed Tryz.func79 [.ag [.v (vi u0),.v (vi u1)],.ag [.v (vi u2),.v (vi u3)]] (by kernel_rfl) rfl (by kernel_rfl) H
def VC_batch_Answer_2 (u0:Int)(u1:Int)(u2:Int)(u3:Option Addr)(u4 u5:Nat)(u6:Bool)(u7:Int)(u8:Int)(u9:Int)(u10:Option Addr)(u11 u12:Nat)(u13:Bool)(h:Hp)(R:Value→Hp→Prop):Prop:=
 (((decide (u0≠u7))=true→(∃ x1,(IsW x1 (u0 - u7))∧R (vi x1) h))∧((decide (u0≠u7))=false→(CallOK Tryz.prog 79 [vag [vi u1,vi u2],vag [vi u8,vi u9]] h fun v3 h4=>∃ x5,v3=(vi x5)∧R (vi x5) h4)))
theorem ok_batch_Answer_2 {u0 u1 u2 u3 u4 u5 u6 u7 u8 u9 u10 u11 u12 u13 h R}(H:VC_batch_Answer_2 u0 u1 u2 u3 u4 u5 u6 u7 u8 u9 u10 u11 u12 u13 h R):CallOK Tryz.prog 78 [vag [vi u0,vi u1,vi u2,vsl u3 u4 u5,vb u6],vag [vi u7,vi u8,vi u9,vsl u10 u11 u12,vb u13]] h R:=
 call_of (cfg:=⟨[],[],[]⟩) noNG mixed Tryz.func78 [.ag [.v (vi u0),.v (vi u1),.v (vi u2),.v (vsl u3 u4 u5),.v (vb u6)],.ag [.v (vi u7),.v (vi u8),.v (vi u9),.v (vsl u10 u11 u12),.v (vb u13)]] (by kernel_rfl) rfl (by kernel_rfl) H
def cI (x y:Int):Int:=if x < y then -1 else if x > y then 1 else 0
def cV (a b:Int × Int):Int:=if cI a.1 b.1≠0 then cI a.1 b.1 else cI a.2 b.2
theorem isWd {e:Int}(h:-9223372036854775808≤e∧e≤9223372036854775807):IsW e e:=(IntWalk.i64_in _ h).symm
theorem cmp_Compare_okD {x y:Int}{h:Hp}{R:Value→Hp→Prop}(hK:R (vi (cI x y)) h):CallOK Tryz.prog 125 [vi x,vi y] h R:=by
 have nan:∀{z:Int} {K:Value→Hp→Prop},K (vb false) h→CallOK Tryz.prog 163 [vi z] h K:=by
  intro z K hk
  refine ok_cmp_isNaN_int ?_
  unfold VC_cmp_isNaN_int
  simpa using hk
 refine ok_cmp_Compare_int ?_
 unfold VC_cmp_Compare_int
 unfold cI at hK
 refine nan ⟨_,rfl,nan ⟨_,rfl,fun e=>by (cases e),fun _=>⟨fun e=>by (cases e),fun _=>⟨fun e=>?_,fun e=>⟨fun e2=>?_,fun e2=>?_⟩⟩⟩⟩⟩
 ·rw [if_pos (of_decide_eq_true e)] at hK;exact hK
 ·rw [if_neg (of_decide_eq_false e),if_pos (of_decide_eq_true e2)] at hK;exact hK
 ·rw [if_neg (of_decide_eq_false e),if_neg (of_decide_eq_false e2)] at hK;exact hK
def vint0 (l:List Value):Int:=match l with|[.int _ x]=>x|_=>0
theorem cmp_Or2_okD {x y:Int}{b:Nat}{h:Hp}{R:Value→Hp→Prop}(c0:Hp.cell h b 0=some (vi x))(c1:Hp.cell h b 1=some (vi y))(hK:R (vi (if x≠0 then x else y)) h):CallOK Tryz.prog 124 [vsl (some ⟨b,0,none⟩) 2 2] h R:=by
 refine ok_cmp_Or_int ?_
 unfold VC_cmp_Or_int
 refine⟨fun vs hh=>hh=h∧∃ i:Nat,vs=[vi i]∧i≤2∧(0 < i→x=0)∧(1 < i→y=0),fun vs hh=>2 - (vint0 vs).toNat,⟨rfl,0,rfl,by decide,by simp,by simp⟩,?_⟩
 rintro vs hh ⟨rfl,i,rfl,hi,h1,h2⟩
 refine⟨i,rfl,fun e=>?_,fun e=>?_⟩
 ·have hlt:i < 2:=by have:=of_decide_eq_true e;omega
  match i,hlt with
  | 0,_=>
   refine⟨b,0,⟨rfl,by omega,by omega⟩,x,c0,fun e=>?_,fun e=>⟨1,isWd (by omega),⟨rfl,1,rfl,by omega,fun _=>?_,fun q=>absurd q (by omega)⟩,by simp [vint0]⟩⟩
   ·have hx:x≠0:=of_decide_eq_true e
    rw [if_pos hx] at hK;exact hK
   ·have:=of_decide_eq_false e;simpa using this
  | 1,_=>
   have hx:=h1 (by decide)
   refine⟨b,0,⟨rfl,by omega,by omega⟩,y,c1,fun e=>?_,fun e=>⟨2,isWd (by omega),⟨rfl,2,rfl,by omega,fun _=>hx,fun _=>?_⟩,by simp [vint0]⟩⟩
   ·rw [if_neg (by simp [hx])] at hK;exact hK
   ·have:=of_decide_eq_false e;simpa using this
 ·have hge:i=2:=by have:=of_decide_eq_false e;omega
  subst hge
  have hx:=h1 (by decide)
  have hy:=h2 (by decide)
  rw [if_neg (by simp [hx]),hy] at hK
  exact hK
theorem value_Compare_okD {a b:Int × Int}{h:Hp}{R:Value→Hp→Prop}(hK:∀ h',R (vi (cV a b)) h'):CallOK Tryz.prog 79 [vag [vi a.1,vi a.2],vag [vi b.1,vi b.2]] h R:=by
 refine ok_value_Compare ?_
 unfold VC_value_Compare
 refine cmp_Compare_okD ⟨_,rfl,cmp_Compare_okD ⟨_,rfl,?_⟩⟩
 intro b7 hb7 h8
 exact cmp_Or2_okD (x:=cI a.1 b.1) (y:=cI a.2 b.2) (by simp [h8,Hp.cell,Hp.set,cellsO]) (by simp [h8,Hp.cell,Hp.set,cellsO]) ⟨_,rfl,hK _⟩
structure PRow where
 s:Int
 k:Int × Int
 a:Option Addr
 n:Nat
 c:Nat
 t:Bool
 deriving Inhabited
def PRow.enc (r:PRow):List Value:=[vi r.s,vi r.k.1,vi r.k.2,vsl r.a r.n r.c,vb r.t]
def PRow.cf (x y:PRow):Int:=if x.s≠y.s then x.s - y.s else cV x.k y.k
theorem closure_okD {x y:PRow}(hb:-9223372036854775808≤x.s - y.s∧x.s - y.s≤9223372036854775807){h:Hp}:CallOK Tryz.prog 78 [vag x.enc,vag y.enc] h fun v _=>v=vi (PRow.cf x y):=by
 refine ok_batch_Answer_2 ?_
 unfold VC_batch_Answer_2 PRow.cf
 refine⟨fun e=>⟨_,isWd hb,?_⟩,fun e=>value_Compare_okD fun h'=>⟨_,rfl,?_⟩⟩
 ·rw [if_pos (of_decide_eq_true e)]
 ·rw [if_neg (of_decide_eq_false e)]
theorem closure_world {x y:PRow}(hb:-9223372036854775808≤x.s - y.s∧x.s - y.s≤9223372036854775807)(W:World):Calls Tryz.prog 78 #[.agg x.enc.toArray,.agg y.enc.toArray] W fun e w'=>e=.returned (.int .i64 (PRow.cf x y))∧∃ q os',w'=Go.Sort.grow (W.drewN q) os':=by
 have H:=closure_okD hb (h:=fun _=>none) W (fun b o ho=>by cases ho)
 refine H.mono ?_
 rintro e w' ⟨v,h',rfl,_,F,rfl⟩
 refine⟨rfl,w'.drawn - W.drawn,w'.heap.extract W.heap.size w'.heap.size,?_⟩
 have eh:w'.heap=W.heap++w'.heap.extract W.heap.size w'.heap.size:=by
  apply Array.ext_getElem?
  intro i
  rw [Array.getElem?_append]
  by_cases hi:i < W.heap.size
  ·rw [if_pos hi];exact(F.keep i hi rfl).1
  ·rw [if_neg hi,Array.getElem?_extract]
   by_cases h2:i < w'.heap.size
   ·rw [if_pos (by rw [Nat.min_self];omega),show W.heap.size+(i - W.heap.size)=i by omega]
   ·rw [if_neg (by rw [Nat.min_self];omega),Array.getElem?_eq_none (by omega)]
 have ed:w'.drawn=W.drawn+(w'.drawn - W.drawn):=by have:=F.drawn;omega
 cases w' with
 | mk heap tape drawn os output=>
  have e1:os=W.os:=F.os
  have e2:tape=W.tape:=F.tape
  have e3:output=W.output:=F.output
  subst e1 e2 e3
  unfold Go.Sort.grow World.drewN
  simp only [World.mk.injEq,true_and]
  exact⟨eh,ed,trivial⟩
end Go.Proofs.YtiflgceoamkmnaaGreatDoor.D
namespace Go.Proofs.YtiflgceoamkmnaaGreatDoor
open Go Go.Vc Go.Txt
structure PR where
 k:PK
 a:Option Addr
 c:Nat
 acs:List AcS
 t:Bool
def prRow (r:PR):D.PRow:=⟨r.k.1,r.k.2,r.a,r.acs.length,r.c,r.t⟩
theorem prow_len (r:D.PRow):r.enc.length=5:=rfl
theorem one_prow (r:D.PRow):∀ u ∈ r.enc,u.oneCell'=true:=by
 intro u hu
 simp only [D.PRow.enc,List.mem_cons,List.not_mem_nil,or_false] at hu
 rcases hu with rfl|rfl|rfl|rfl|rfl<;>rfl
def accH (r:PR):Hp→(Nat→Prop)→Prop:=OwnF 139 4 r.a r.acs.length r.c (r.acs.flatMap encAc)
theorem accH_fp (r:PR):Fp (accH r):=OwnF.fp _ _ _ _ _ _
abbrev VecP:=Vec D.PRow.enc 5 79
structure Pans (h0 h:Hp)(a:Option Addr)(c:Nat)(R:List PR):Prop where
 v:VecP h0 h a c (R.map prRow)
 i:∃ F,EachP accH R h F∧(∀ b,F b→h0 b=none)∧∀ b,F b→a≠some ⟨b,0,none⟩
section
variable {h0 h:Hp}{a:Option Addr}{c:Nat}{R:List PR}
theorem Pans.nil (hl:h0.le h):Pans h0 h none 0 []:=⟨OwnV.nil hl _ _,_,EachP.nil h,fun b hb=>hb.elim,fun b hb=>hb.elim⟩
theorem Pans.le0 (N:Pans h0 h a c R):h0.le h:=N.v.le0
theorem Pans.le (N:Pans h0 h a c R){h':Hp}(l:h.le h'):Pans h0 h' a c R:=by
 obtain⟨F,E,n1,n2⟩:=N.i
 exact⟨N.v.keep0 l,F,(EachP.fp accH_fp R).keep E fun b _ o ho=>l b o ho,n1,n2⟩
theorem Pans.row (N:Pans h0 h a c R){i:Nat}{r:PR}(hr:R[i]?=some r):∃ b o,a=some ⟨b,o,none⟩∧h.row b (o+i*5) 5=some (prRow r).enc:=by
 have hx:(R.map prRow)[i]?=some (prRow r):=by rw [List.getElem?_map,hr];rfl
 exact(N.v.slp prow_len (by decide)).get prow_len (by decide) hx
theorem Pans.inner (N:Pans h0 h a c R){i:Nat}{r:PR}(hr:R[i]?=some r):VecA h0 h r.a r.c r.acs ∧
  ∀(h':Hp) (acs':List AcS),h0.le h'→VecA h0 h' r.a r.c acs'→acs'.length=r.acs.length→Beside r.a h h'→Pans h0 h' a c (R.set i { r with acs:=acs' }):=by
 obtain⟨F,E,n1,n2⟩:=N.i
 obtain⟨G,X,hGF,H⟩:=E.at accH_fp hr
 obtain⟨O,rfl⟩:=X
 refine⟨⟨N.le0,O,fun g hg=>n1 g (hGF g hg)⟩,fun h' acs' l' V' hlen F'=>?_⟩
 obtain⟨F2,E2,M⟩:=H h' (fun b=>r.a=some ⟨b,0,none⟩) { r with acs:=acs' } F'.mut ⟨V'.own,rfl⟩
 obtain⟨k,d⟩:=M.apart ((OwnF.fp _ _ _ _ _ _).al N.v.ownF) (fun b hb hb2=>n2 b hb hb2)
 refine⟨?_,F2,E2,(M.old N.le0 n1).2,fun b hb hb2=>d b hb hb2⟩
 have e:(R.set i { r with acs:=acs' }).map prRow=R.map prRow:=by
  rw [List.map_set]
  have e2:prRow { r with acs:=acs' }=prRow r:=by unfold prRow;simp [hlen]
  rw [e2]
  apply List.ext_getElem?
  intro j
  rw [List.getElem?_set]
  split
  ·rename_i hij
   subst hij
   rw [List.getElem?_map,hr]
   obtain⟨hi,_⟩:=List.getElem?_eq_some_iff.1 hr
   rw [if_pos (by simpa using hi)]
   rfl
  ·rfl
 rw [e]
 have O2:=(OwnF.fp _ _ _ _ _ _).keep N.v.ownF k
 exact⟨l',O2.1,N.v.new⟩
theorem Pans.again (N:Pans h0 h a c R){i:Nat}{r:PR}(hr:R[i]?=some r):∃ b o,a=some ⟨b,o,none⟩∧∀ K:Hp→Prop,(∀ h',Pans h0 h' a c R→h0.le h'→K h')→h.store b (o+i*5+3) [vsl r.a r.acs.length r.c] K:=by
 have hx:(R.map prRow)[i]?=some (prRow r):=by rw [List.getElem?_map,hr];rfl
 obtain⟨b,o,ea,H⟩:=N.v.putF prow_len hx (x':=prRow r) (k:=3) (vs:=[vsl r.a r.acs.length r.c]) (by simp) (by simp) (by simp [setL,prRow,D.PRow.enc])
 refine⟨b,o,ea,fun K hK=>H K fun h' V' F'=>hK h' ?_ V'.le0⟩
 obtain⟨F,E,n1,n2⟩:=N.i
 have es:(R.map prRow).set i (prRow r)=R.map prRow:=by
  apply List.ext_getElem?
  intro j
  rw [List.getElem?_set]
  split
  ·rename_i hij
   subst hij
   rw [hx,if_pos (List.getElem?_eq_some_iff.1 hx).1]
  ·rfl
 rw [es] at V'
 exact⟨V',F,(EachP.fp accH_fp R).keep E fun b hb o ho=>F'.keep b o ho (n2 b hb),n1,n2⟩
theorem elPane:ElT Tryz.prog 59 79 5 56:=.of (by kernel_rfl) (by kernel_rfl) (by decide)
theorem Pans.app (N:Pans h0 h a c R){h1:Hp}(l1:h.le h1){r:PR}(V:VecA h h1 r.a r.c r.acs)(hb:R.length+1≤1000000){b:Nat}(hbn:h1 b=none){K:Value→Hp→Prop}
  (hK:∀ a' c' h',Pans h0 h' a' c' (R++[r])→K (vsl a' (R.length+1) c') h'):SemOK Tryz.prog (Builtin.append_ #[59,59] 59 #[vsl a R.length c,vsl (some ⟨b,0,none⟩) 1 1]) (h1.set b (cellsO (prRow r).enc 79)) K:=by
 obtain⟨F,E,n1,n2⟩:=N.i
 have hR:(R.map prRow).length=R.length:=List.length_map _
 have key:=Vec.appF (ty:=59) elPane prow_len one_prow (N.v.keep0 l1) (by rw [hR];omega) (by rw [hR];omega) (x:=prRow r) hbn (K:=K) (fun a' c' h' V' M=>by
  have E1:=(EachP.fp accH_fp R).keep E fun b _ o ho=>l1 b o ho
  have hG:∀ g,r.a=some ⟨g,0,none⟩→h g=none:=V.new
  have hd:∀ b,r.a=some ⟨b,0,none⟩→¬ F b:=fun b hb hF=>(EachP.fp accH_fp R).al E b hF (hG b hb)
  have E2:=E1.snoc (P:=accH) (x:=r) (G:=fun b=>r.a=some ⟨b,0,none⟩) ⟨V.own,rfl⟩ hd
  have hna:∀ b,a=some ⟨b,0,none⟩→¬(r.a=some ⟨b,0,none⟩∨F b):=by
   intro b hb hq
   rcases hq with hq|hq
   ·exact(OwnF.fp _ _ _ _ _ _).al N.v.ownF b hb (hG b hq)
   ·exact n2 b hq hb
  obtain⟨k,d⟩:=M.apart ((EachP.fp accH_fp _).al E2) hna
  have e3:(R.map prRow++[prRow r]).length=R.length+1:=by simp
  rw [e3]
  refine hK a' c' h' ⟨by rw [List.map_append];exact V',_,(EachP.fp accH_fp _).keep E2 k,fun b hb=>?_,fun b hb hb2=>d b hb2 hb⟩
  rcases hb with hb|hb
  ·exact Hp.none_of_le N.le0 (hG b hb)
  ·exact n1 b hb)
 rw [hR] at key
 exact key
theorem batch_Answer1_ok {r:PR}{K:PK}{b1 b2:Nat}{R':Value→Hp→Prop}(h1:h.cell b1 0=some (vi K.1))(h2:h.row b2 0 2=some (encV K.2))(hK:R' (vb (decide (r.k=K))) h):CallOK Tryz.prog 74 [vag (prRow r).enc,vhp b1 0,vhp b2 0] h R':=by
 refine ok_batch_Answer_1 ?_
 unfold VC_batch_Answer_1
 refine⟨_,h1,_,_,fun _=>h2,decide (r.k.2=K.2),fun _=>rd_eqV,?_⟩
 have e:(bif (decide ((r.k.1:Int)=K.1)) then(decide (r.k.2=K.2)) else false)=decide (r.k=K):=by
  rw [cand]
  exact decide_eq_decide.2 (Prod.ext_iff).symm
 have:(prRow r).s=r.k.1:=rfl
 show R' (vb (bif (decide ((r.k.1:Int)=K.1)) then(decide (r.k.2=K.2)) else false)) h
 rw [e]
 exact hK
theorem pane_IndexFunc_ok (N:Pans h0 h a c R)(hn:R.length≤1000000){K:PK}{b1 b2:Nat}{R':Value→Hp→Prop}(h1:h.cell b1 0=some (vi K.1))(h2:h.row b2 0 2=some (encV K.2))
  (hy:∀(i:Nat) (r:PR),R[i]?=some r→r.k=K→R' (vi i) h) (hno:(∀ r ∈ R,r.k≠K)→R' (vi (-1)) h):CallOK Tryz.prog 73 [vsl a R.length c,Value.func (.func 74) #[] #[vhp b1 0,vhp b2 0]] h R':=by
 refine ok_slices_IndexFunc_panes_Pane_panes_Pane ?_
 unfold VC_slices_IndexFunc_panes_Pane_panes_Pane
 refine⟨fun vs hh=>hh=h∧∃ i:Nat,vs=[vi i]∧i≤R.length∧∀ r ∈ R.take i,r.k≠K,fun vs hh=>R.length - (vint vs 0).toNat,⟨rfl,0,rfl,Nat.zero_le _,by simp⟩,?_⟩
 rintro vs hh ⟨rfl,i,rfl,hi,hz⟩
 refine⟨i,rfl,fun e=>?_,fun e=>?_⟩
 ·have hlt:i < R.length:=by have:=of_decide_eq_true e;omega
  have hx:R[i]?=some R[i]:=List.getElem?_eq_getElem hlt
  have tk:R.take (i+1)=R.take i++[R[i]]:=List.take_succ_eq_append_getElem hlt
  obtain⟨b,o,ea,hr⟩:=N.row hx
  refine⟨b,o,⟨ea,by omega,by omega⟩,_,_,_,_,_,_,_,by rw [Int.toNat_natCast];exact hr,74,#[],#[vhp b1 0,vhp b2 0],rfl,⟨_,Tryz.func74,by kernel_rfl,rfl⟩,batch_Answer1_ok h1 h2 ⟨_,rfl,fun e2=>?_,fun e2=>?_⟩⟩
  ·exact hy i _ hx (of_decide_eq_true e2)
  ·have e2:=of_decide_eq_false e2
   refine⟨_,isW (by unfold InR;omega),⟨rfl,i+1,rfl,by omega,fun r hr=>?_⟩,by simp [vint];omega⟩
   rw [tk] at hr
   rcases List.mem_append.1 hr with h3|h3
   ·exact hz r h3
   ·rw [List.mem_singleton.1 h3];exact e2
 ·have hge:i=R.length:=by have:=of_decide_eq_false e;omega
  refine hno ?_
  rw [hge,List.take_length] at hz
  exact hz
end
theorem elValP:ElT Tryz.prog 70 41 2 16:=.of (by kernel_rfl) (by kernel_rfl) (by decide)
theorem one_v (v:Vl):∀ u ∈ encV v,u.oneCell'=true:=by
 intro u hu
 simp only [encV,List.mem_cons,List.not_mem_nil,or_false] at hu
 rcases hu with rfl|rfl<;>rfl
abbrev VecV:=Vec encV 2 41
def gOut (a:AcS):Vl:=gVal a.1 a.2
theorem pane_Out_ok {r:PR}{h:Hp}{R':Value→Hp→Prop}(S:SlP encAc h r.a r.acs.length r.acs)(hn:r.acs.length≤1000)
  (hK:∀ a c h',VecV h h' a c (r.acs.map gOut)→R' (vag [vi r.k.1,vi r.k.2.1,vi r.k.2.2,vsl a (r.acs.map gOut).length c]) h'):CallOK Tryz.prog 50 [vag (prRow r).enc] h R':=by
 refine ok_panes_Pane_Out ?_
 unfold VC_panes_Pane_Out
 intro J30
 have hJ:∀ a c h',VecV h h' a c (r.acs.map gOut)→J30 r.k.1 r.k.2.1 r.k.2.2 a (r.acs.map gOut).length c h':=hK
 clear_value J30
 refine⟨fun vs hh=>∃(i:Nat) (a:Option Addr) (c:Nat),vs=[vi i,vi r.k.1,vi r.k.2.1,vi r.k.2.2,vsl a ((r.acs.take i).map gOut).length c]∧i≤r.acs.length∧VecV h hh a c ((r.acs.take i).map gOut),fun vs hh=>r.acs.length - (vint vs 0).toNat,⟨0,none,0,rfl,Nat.zero_le _,OwnV.nil (Hp.le_refl h) _ _⟩,?_⟩
 rintro vs hh ⟨i,a,c,rfl,hi,V⟩
 refine⟨_,_,_,_,_,_,_,rfl,fun e=>?_,fun e=>?_⟩
 ·have hlt:i < r.acs.length:=by
   have:=of_decide_eq_true e
   have h2:(prRow r).n=r.acs.length:=rfl
   omega
  have hx:r.acs[i]?=some r.acs[i]:=List.getElem?_eq_getElem hlt
  have tk:r.acs.take (i+1)=r.acs.take i++[r.acs[i]]:=List.take_succ_eq_append_getElem hlt
  obtain⟨b,o,ea,hr⟩:=(S.le V.le0).get encAc_len (by decide) hx
  have h2:(prRow r).n=r.acs.length:=rfl
  refine⟨b,o,⟨ea,by omega,by omega⟩,_,_,_,_,by rw [Int.toNat_natCast];exact hr,gather_Value_ok (k:=(r.acs[i]).1) (s:=(r.acs[i]).2) ⟨_,_,rfl,?_⟩⟩
  intro b23 hb23 h24
  have hl:((r.acs.take i).map gOut).length=i:=by rw [List.length_map,List.length_take];omega
  refine Vec.app elValP (fun v=>rfl) one_v V (by rw [hl];omega) (by rw [hl];omega) (x:=gOut r.acs[i]) hb23 fun a' c' h' V'=>⟨_,_,_,rfl,_,isW (by unfold InR;omega),⟨i+1,a',c',?_,by omega,?_⟩,by simp [vint];omega⟩
  ·rw [tk,List.map_append];rfl
  ·rw [tk,List.map_append];exact V'
 ·have hge:i=r.acs.length:=by
   have:=of_decide_eq_false e
   have h2:(prRow r).n=r.acs.length:=rfl
   omega
  rw [hge,List.take_length] at V ⊢
  exact hJ a c hh V
end Go.Proofs.YtiflgceoamkmnaaGreatDoor
namespace Go.Proofs.YtiflgceoamkmnaaGreatDoor
open Go Go.Vc
theorem flatMap_at {α:Type}{enc:α→List Value}{sz:Nat}(he:∀ x,(enc x).length=sz){l:List α}{i c:Nat}{x:α}(hx:l[i]?=some x)(hc:c < sz):(l.flatMap enc)[i*sz+c]?=(enc x)[c]?:=by
 obtain⟨hi,rfl⟩:=List.getElem?_eq_some_iff.1 hx
 have h1:(l.flatMap enc)[i*sz+c]?=((l.flatMap enc).drop (i*sz))[c]?:=by rw [List.getElem?_drop]
 rw [h1,flatMap_drop he,List.drop_eq_getElem_cons hi,List.flatMap_cons,List.getElem?_append_left (by rw [he];exact hc)]
theorem flatK_list {α:Type}[Inhabited α]{enc:α→List Value}{k:Nat}(he:∀ x,(enc x).length=k)(hk:0 < k)(d:Array α):(Go.Sort.flatK enc k d).toList=d.toList.flatMap enc:=by
 apply List.ext_getElem?
 intro t
 have hlen:(d.toList.flatMap enc).length=d.size*k:=by rw [flatMap_length he];simp
 by_cases ht:t < d.size*k
 ·have hi:t / k < d.size:=Nat.div_lt_of_lt_mul (by rw [Nat.mul_comm];exact ht)
  have hm:=Nat.mod_lt t hk
  have hx:d.toList[t / k]?=some d[t / k]!:=by
   rw [getElem!_pos d (t / k) hi,List.getElem?_eq_getElem (by simpa using hi)]
   simp
  have h2:=flatMap_at he hx hm
  have e:t / k*k+t % k=t:=by rw [Nat.mul_comm];exact Nat.div_add_mod t k
  rw [e] at h2
  rw [h2]
  have h3:=Go.Sort.get_flatK enc k d t ht
  have hs:t < (Go.Sort.flatK enc k d).size:=by simpa using ht
  rw [getElem!_pos _ t hs] at h3
  rw [Array.getElem?_toList,Array.getElem?_eq_getElem hs,h3]
  have hl:t % k < (enc d[t / k]!).length:=by rw [he];exact hm
  rw [getElem!_pos (enc d[t / k]!) (t % k) hl,List.getElem?_eq_getElem hl]
 ·rw [List.getElem?_eq_none (l:=d.toList.flatMap enc) (by omega),List.getElem?_eq_none (by simp;omega)]
abbrev RowB:={ r:D.PRow // -2305843009213693952≤r.s∧r.s≤2305843009213693952 }
instance:Inhabited RowB:=⟨⟨default,by decide⟩⟩
def cfB (x y:RowB):Int:=D.PRow.cf x.1 y.1
theorem cI_spec (x y:Int):(D.cI x y < 0↔x < y)∧(D.cI x y=0↔x=y):=by
 unfold D.cI
 split
 ·constructor<;>constructor<;>intro h<;>omega
 ·split
  ·constructor<;>constructor<;>intro h<;>omega
  ·constructor<;>constructor<;>intro h<;>omega
theorem cV_neg (a b:Int × Int):D.cV a b < 0↔a.1 < b.1∨(a.1=b.1∧a.2 < b.2):=by
 have h1:=cI_spec a.1 b.1
 have h2:=cI_spec a.2 b.2
 unfold D.cV
 split
 ·rename_i h
  rw [h1.1]
  have:a.1≠b.1:=fun e=>h (h1.2.2 e)
  constructor
  ·intro q;exact .inl q
  ·intro q;rcases q with q|q
   ·exact q
   ·exact absurd q.1 this
 ·rename_i h
  have e:a.1=b.1:=h1.2.1 (Decidable.not_not.1 h)
  rw [h2.1]
  constructor
  ·intro q;exact .inr ⟨e,q⟩
  ·intro q;rcases q with q|q
   ·omega
   ·exact q.2
def aheadP (s:Int)(k:Int × Int)(s':Int)(k':Int × Int):Prop:=s < s'∨(s=s'∧(k.1 < k'.1∨(k.1=k'.1∧k.2 < k'.2)))
instance (s:Int) (k:Int × Int) (s':Int) (k':Int × Int):Decidable (aheadP s k s' k'):=by unfold aheadP;infer_instance
theorem cf_neg (x y:D.PRow):D.PRow.cf x y < 0↔aheadP x.s x.k y.s y.k:=by
 unfold D.PRow.cf aheadP
 split
 ·constructor
  ·intro h;left;omega
  ·intro h;rcases h with h|h<;>omega
 ·rename_i h
  rw [cV_neg]
  have e:x.s=y.s:=Decidable.not_not.1 h
  constructor
  ·intro q;exact .inr ⟨e,q⟩
  ·intro q;rcases q with q|q
   ·omega
   ·exact q.2
theorem ltB (x y:RowB):ltOf cfB x y=decide (aheadP x.1.s x.1.k y.1.s y.1.k):=by
 unfold ltOf cfB
 exact decide_eq_decide.2 (cf_neg x.1 y.1)
theorem swoB:Go.Sort.SWO (ltOf cfB) where
 irrefl x:=by rw [ltB];unfold aheadP;simp
 trans x y z h1 h2:=by
  rw [ltB] at *
  unfold aheadP at *
  have h1:=of_decide_eq_true h1
  have h2:=of_decide_eq_true h2
  exact decide_eq_true (by omega)
 ntrans x y z h1 h2:=by
  rw [ltB] at *
  unfold aheadP at *
  have h1:=of_decide_eq_false h1
  have h2:=of_decide_eq_false h2
  exact decide_eq_false (by omega)
theorem putC_get {cur F:Array Value}(hle:F.size≤cur.size)(i:Nat):(Go.Sort.putCells id 0 F cur)[i]?=if i < F.size then F[i]? else cur[i]?:=by
 unfold Go.Sort.putCells
 rw [Array.getElem?_mapIdx]
 by_cases hi:i < F.size
 ·have hc:i < cur.size:=by omega
  rw [if_pos hi,Array.getElem?_eq_getElem hc,Option.map_some,if_pos ⟨Nat.zero_le _,by omega⟩,Nat.sub_zero,getElem!_pos F i hi,Array.getElem?_eq_getElem hi]
  rfl
 ·rw [if_neg hi]
  by_cases hc:i < cur.size
  ·rw [Array.getElem?_eq_getElem hc,Option.map_some,if_neg (by omega)]
  ·rw [Array.getElem?_eq_none (by omega),Option.map_none]
theorem putC_size {cur F:Array Value}:(Go.Sort.putCells id 0 F cur).size=cur.size:=by
 unfold Go.Sort.putCells
 rw [Array.size_mapIdx]
theorem sortW_heap {w:World}{g m:Nat}{cur:Array Value}{T:TypeId}{d:Array RowB}{os:Array Obj}(hg:w.heap[g]?=some (.cells cur T (0,0)))(b:Nat)(hb:b < w.heap.size):(sortWorldK (fun x:RowB=>x.1.enc) 5 w g 0 m d os).heap[b]?=if b=g then some (.cells (Go.Sort.putCells id 0 (Go.Sort.flatK (fun x:RowB=>x.1.enc) 5 d) cur) T (0,0)) else w.heap[b]?:=by
 unfold sortWorldK
 rw [Go.Sort.heap_grow_old _ _ (by show b < (Go.Sort.putRow _ _ _ _ _).heap.size;rw [Go.Sort.size_putRow];exact hb)]
 show ((w.heap.modify g _):Array Obj)[b]?=_
 rw [Array.getElem?_modify]
 by_cases e:b=g
 ·subst e
  rw [if_pos rfl,if_pos rfl,hg]
  rfl
 ·rw [if_neg (fun q=>e q.symm),if_neg e]
theorem sort_panes_ok {h:Hp}{a:Option Addr}{c:Nat}{R:List D.PRow}(hB:∀ r ∈ R,-2305843009213693952≤r.s∧r.s≤2305843009213693952)(hn:R.length < 4611686018427387904)(O:OwnS h 79 5 a R.length c (R.flatMap D.PRow.enc)){K:Value→Hp→Prop}
  (hK:∀(R':List D.PRow) (h':Hp),R'.Perm R→R'.Pairwise (fun x y=>¬ aheadP y.s y.k x.s x.k)→OwnS h' 79 5 a R'.length c (R'.flatMap D.PRow.enc)→(∀ b o,h b=some o→a≠some ⟨b,0,none⟩→h' b=some o)→(∀ b,h b=none→h' b=none)→K (vtup []) h') :
  CallOK Tryz.prog 77 [vsl a R.length c,Value.func (.func 78) #[] #[]] h K:=by
 intro w hs
 obtain⟨hlen,h1⟩:=O
 rcases h1 with ⟨ha,hn0,hc0⟩|⟨g,cur,ha,hg,hnc,hcm,hcs,htk⟩
 ·have hR:R=[]:=List.length_eq_zero_iff.1 hn0
  subst hR ha
  refine(AnyF.slices_SortFunc_none Tryz.sortPanes none c _ w).mono ?_
  rintro e w' ⟨rfl,rfl⟩
  exact⟨_,h,rfl,hs,Fr.refl h _,hK [] h (List.Perm.refl _) List.Pairwise.nil ⟨hlen,.inl ⟨rfl,rfl,hc0⟩⟩ (fun b o ho _=>ho) (fun b hb=>hb)⟩
 ·subst ha
  let Rb:List RowB:=R.pmap (fun r hr=>(⟨r,hr⟩:RowB)) hB
  have hRb:Rb.map (·.1)=R:=by
   show (R.pmap (fun r hr=>(⟨r,hr⟩:RowB)) hB).map (fun x=>x.1)=R
   rw [List.map_pmap]
   simp
  have hRl:Rb.length=R.length:=by rw [←hRb,List.length_map]
  have hflat:∀ L:List RowB,L.flatMap (fun x=>x.1.enc)=(L.map (·.1)).flatMap D.PRow.enc:=fun L=>by rw [List.flatMap_map]
  clear_value Rb
  have hwg:=hs g _ hg
  have hgl:g < w.heap.size:=(Array.getElem?_eq_some_iff.1 hwg).1
  have hk:∀ x:RowB,((fun x:RowB=>x.1.enc) x).length=5:=fun x=>rfl
  have hfl:(Go.Sort.flatK (fun x:RowB=>x.1.enc) 5 Rb.toArray).toList=R.flatMap D.PRow.enc:=by
   rw [flatK_list hk (by decide),hflat,List.toList_toArray,hRb]
  have hfs:(Go.Sort.flatK (fun x:RowB=>x.1.enc) 5 Rb.toArray).size=R.length*5:=by rw [Go.Sort.size_flatK];simp [hRl]
  have hH:Go.Sort.HoldsK (fun x:RowB=>x.1.enc) 5 w g 0 Rb.toArray:=by
   intro j hj
   have hj':j < R.length*5:=by rw [←hfs];exact hj
   constructor
   ·unfold World.cell?
    simp only [hwg,Option.isSome_none,Bool.false_eq_true,if_false,Nat.zero_add]
    have e1:cur[j]?=(cur.toList.take (R.length*5))[j]?:=by rw [List.getElem?_take_of_lt hj',Array.getElem?_toList]
    rw [e1,htk,←hfl,Array.getElem?_toList,Array.getElem?_eq_getElem hj,getElem!_pos _ j hj]
    rfl
   ·unfold World.frozen?
    simp only [hwg]
    simp
  have eg:∀ args w,(callFunc 78 args).run Tryz.prog w=.ok (.enter 78 args) w:=Go.Proofs.enters_of Tryz.func78 (by kernel_rfl) rfl
  have hcon:=AnyQ.slices_SortFunc Tryz.sortPanes 5 (fun w=>by kernel_rfl) (fun w=>by kernel_rfl) (fun x:RowB=>x.1.enc) hk (fun x v hv=>by
   simp only [D.PRow.enc,List.mem_cons,List.not_mem_nil,or_false] at hv
   rcases hv with rfl|rfl|rfl|rfl|rfl<;>rfl) cfB swoB 78 #[] g 0 c Rb.toArray w eg (fun m os dk _ x y=>by
    have:=D.closure_world (x:=x.1) (y:=y.1) (by have:=x.2;have:=y.2;omega) (sortWorldK (fun x:RowB=>x.1.enc) 5 w g 0 m dk os)
    exact this) hH hgl (by simp [hRl];exact hn)
  have esz:Rb.toArray.size=R.length:=by simp [hRl]
  rw [esz] at hcon
  refine hcon.mono ?_
  rintro e w' ⟨rfl,d',m,os,hp,hso,rfl⟩
  obtain⟨p1,p2,p3⟩:=hp
  have p1:d'.size=R.length:=by rw [p1,esz]
  have hperm:(d'.toList.map (·.1)).Perm R:=by
   have q:=p3
   rw [show d'.extract 0 R.length=d' by rw [←p1];simp,show Rb.toArray.extract 0 R.length=Rb.toArray by rw [←esz];simp] at q
   have q2:=q.map (·.1)
   rw [List.toList_toArray,hRb] at q2
   exact q2
  have hsort:(d'.toList.map (·.1)).Pairwise (fun x y=>¬ aheadP y.s y.k x.s x.k):=by
   rw [List.pairwise_map,List.pairwise_iff_getElem]
   intro i j hi hj hij
   have hj':j < R.length:=by rw [←p1];simpa using hj
   have q:=hso i j (Nat.zero_le _) hij hj'
   rw [getElem!_pos d' j (by omega),getElem!_pos d' i (by omega),ltB] at q
   have q:=of_decide_eq_false q
   simpa using q
  have hfs':(Go.Sort.flatK (fun x:RowB=>x.1.enc) 5 d').size=R.length*5:=by rw [Go.Sort.size_flatK,p1]
  have hfl':(Go.Sort.flatK (fun x:RowB=>x.1.enc) 5 d').toList=(d'.toList.map (·.1)).flatMap D.PRow.enc:=by
   rw [flatK_list hk (by decide),hflat]
  have hle:(Go.Sort.flatK (fun x:RowB=>x.1.enc) 5 d').size≤cur.size:=by
   rw [hfs',hcs]
   exact Nat.mul_le_mul_right 5 hnc
  have hl':(d'.toList.map (·.1)).length=R.length:=by simp [p1]
  refine⟨_,h.set g (.cells (Go.Sort.putCells id 0 (Go.Sort.flatK (fun x:RowB=>x.1.enc) 5 d') cur) 79 (0,0)),rfl,?_,⟨rfl,rfl,rfl,?_,?_⟩,hK (d'.toList.map (·.1)) _ hperm hsort ?_ ?_ ?_⟩
  ·intro b o ho
   unfold Hp.set at ho
   split at ho
   ·rename_i e
    rw [sortW_heap hwg b (by omega),if_pos e]
    exact ho
   ·rename_i e
    have hb:=hs b o ho
    rw [sortW_heap hwg b (Array.getElem?_eq_some_iff.1 hb).1,if_neg e]
    exact hb
  ·show w.heap.size≤(Go.Sort.grow (Go.Sort.putRow _ _ _ _ _) os).heap.size
   rw [Go.Sort.size_grow,Go.Sort.size_putRow]
   exact Nat.le_add_right _ _
  ·intro b hb hnone
   have e:b≠g:=by intro q;subst q;rw [hg] at hnone;cases hnone
   exact⟨by rw [sortW_heap hwg b hb,if_neg e],by rw [Hp.set_other _ _ e];exact hnone⟩
  ·rw [hl']
   refine⟨by rw [flatMap_length (enc:=D.PRow.enc) (sz:=5) (fun x=>rfl),hl'],.inr ⟨g,_,rfl,Hp.set_same _ _ _,hnc,hcm,by rw [putC_size,hcs],?_⟩⟩
   rw [←hfl']
   apply List.ext_getElem?
   intro i
   rw [List.getElem?_take]
   by_cases hi:i < R.length*5
   ·rw [if_pos hi,Array.getElem?_toList,putC_get hle,if_pos (by rw [hfs'];exact hi),Array.getElem?_toList]
   ·rw [if_neg hi,List.getElem?_eq_none (by rw [Array.length_toList,hfs'];omega)]
  ·intro b o ho hne
   have e:b≠g:=fun q=>hne (by rw [q])
   rw [Hp.set_other _ _ e];exact ho
  ·intro b hb
   have e:b≠g:=by intro q;subst q;rw [hg] at hb;cases hb
   rw [Hp.set_other _ _ e];exact hb
theorem window_StartsN_ok {at_ size slide:Int}{h:Hp}{R:Value→Hp→Prop}(hs:1≤slide)(hsl2:slide≤1048576)(hz:0≤size)(hz2:size≤1048576)(ha:-1048576≤at_)(ha2:at_≤1048576)
  (hK:∀ a n c h',h.le h'→SlI h' a n (startsOf at_ size slide)→(∀ g o,a=some ⟨g,o,none⟩→h g=none)→R (vsl a n c) h'):CallOK Tryz.prog 46 [vi at_,vi size,vi slide] h R:=by
 refine ok_window_Starts ?_
 unfold VC_window_Starts
 have h1:at_.tdiv slide*slide+at_.tmod slide=at_:=Int.tdiv_mul_add_tmod at_ slide
 have h2:at_.tmod slide < slide:=Int.tmod_lt_of_pos at_ (by omega)
 have h3:-slide < at_.tmod slide:=Int.lt_tmod_of_pos at_ (by omega)
 have h4:mulOf slide (at_.tdiv slide*slide)=true:=mulOf_dvd.2 ⟨at_.tdiv slide,Int.mul_comm _ _⟩
 have h5:-1048576≤at_.tdiv slide∧at_.tdiv slide≤1048576:=by
  have:=Int.natAbs_tdiv_le_natAbs at_ slide
  omega
 refine⟨⟨by omega,by unfold InR;omega⟩,_,isW (by unfold InR;omega),?_⟩
 intro J5
 have fin:∀ x:Int,mulOf slide x=true→x≤at_→at_ < x+slide→J5 x:=by
  intro x hx1 hx2 hx3
  have up:∀(y:Int) (k:Nat),mulOf slide y=true→y+k < y+slide→∀ n,upto (mulOf slide) y (k+n)=upto (mulOf slide) (y+k) n:=by
   intro y k hy hk n
   exact upto_skip _ k y n fun z z1 z2=>mulOf_between hs hy z1 (by omega)
  refine⟨fun vs hh=>∃(a:Option Addr) (n c:Nat) (x:Int),vs=[vsl a n c,vi x]∧mulOf slide x=true∧x≤at_∧at_ - size < x+slide∧(SlI hh a n (upto (mulOf slide) x (at_ - x).toNat)∧∀ g o,a=some ⟨g,o,none⟩→h g=none)∧h.le hh∧-4194304≤x,
   fun vs hh=>(vint vs 1 - (at_ - size)).toNat,⟨none,0,0,x,rfl,hx1,hx2,by omega,?_,Hp.le_refl h,by omega⟩,?_⟩
  ·have:=up x (at_ - x).toNat hx1 (by omega) 0
   rw [Nat.add_zero] at this
   rw [this]
   exact⟨⟨rfl,.inl rfl⟩,fun g o e=>by cases e⟩
  rintro vs hh ⟨a,n,c,y,rfl,hy1,hy2,hy3,⟨S,hnew⟩,hle,hy4⟩
  refine⟨a,n,c,y,rfl,_,isW (by unfold InR;omega),fun e=>?_,fun e=>?_⟩
  ·have hlt:at_ - size < y:=by simpa using e
   intro b hb h16
   have hn:=S.1
   have hn2:=upto_length (mulOf slide) y (at_ - y).toNat
   refine OwnV.append (n:=1) (m:=n) (c2:=c) elInt (OwnV.mk_new hle hb _ (n:=1) [vi y] rfl (by decide)) (S.2.le (Hp.le_set (Hp.le_refl hh) hb _)) (by rw [hn,List.length_map,Nat.mul_one]) (one_ints _) (by omega) (by omega) fun a' c' h' O' _ _=>⟨_,_,_,rfl,_,isW (by unfold InR;omega),⟨a',_,c',_,rfl,?_,by omega,by omega,?_,O'.le,by omega⟩,by simp [vint];omega⟩
   ·rw [mulOf_dvd] at hy1 ⊢
    exact Int.dvd_sub hy1 (Int.dvd_refl _)
   ·have hm:mulOf slide (y - slide)=true:=by
     rw [mulOf_dvd] at hy1 ⊢
     exact Int.dvd_sub hy1 (Int.dvd_refl _)
    have e1:=up (y - slide) (slide - 1).toNat hm (by omega) ((at_ - y).toNat+1)
    have e2:(slide - 1).toNat+((at_ - y).toNat+1)=(at_ - (y - slide)).toNat:=by omega
    have e3:y - slide+((slide - 1).toNat:Int)=y - 1:=by omega
    have e4:y - 1+1=y:=by omega
    rw [e2,e3,upto_cons,e4,hy1,if_pos rfl] at e1
    rw [e1]
    exact⟨O'.sli (l:=y :: upto (mulOf slide) y (at_ - y).toNat),fun g o e=>O'.new g (by rw [e,OwnS.at0 O'.own g o e])⟩
  ·have hge:y≤at_ - size:=by simpa using e
   refine hK a n c hh hle ?_ hnew
   have e1:=up y (at_ - size - y).toNat hy1 (by omega) size.toNat
   have e2:(at_ - size - y).toNat+size.toNat=(at_ - y).toNat:=by omega
   have e3:y+((at_ - size - y).toNat:Int)=at_ - size:=by omega
   rw [e2,e3] at e1
   rw [e1] at S
   exact S
 refine⟨fun e=>?_,fun e=>?_⟩
 ·have hlt:at_ < at_.tdiv slide*slide:=by simpa using e
  refine⟨_,isW (by unfold InR;omega),fin _ ?_ (by omega) (by omega)⟩
  rw [mulOf_dvd] at h4 ⊢
  exact Int.dvd_sub h4 (Int.dvd_refl _)
 ·have hge:at_.tdiv slide*slide≤at_:=by simpa using e
  exact fin _ h4 hge (by omega)
theorem upto_mem {p:Int→Bool}{lo:Int}:∀{n:Nat} {x:Int},x ∈ upto p lo n→lo < x∧x≤lo+n
 | 0,x,h=>by cases h
 | n+1,x,h=>by
  rw [upto] at h
  rcases List.mem_append.1 h with h1|h1
  ·have:=upto_mem h1;omega
  ·split at h1
   ·rw [List.mem_singleton.1 h1];omega
   ·cases h1
theorem starts_mem {t size slide x:Int}(hz:0≤size)(h:x ∈ startsOf t size slide):t - size < x∧x≤t:=by
 have:=upto_mem h
 omega
theorem starts_len {t size slide:Int}:(startsOf t size slide).length≤size.toNat:=upto_length _ _ _
open Go.Txt
def prT (r:PR):PK × List AcS × Bool:=(r.k,r.acs,r.t)
def StA (ks:List Int)(A:List Ad)(R:List PR):Prop:=R.map prT=(keysU A).map fun k=>(k,accsOf ks (rowsOf A k),false)
section
variable {ks:List Int}{A:List Ad}{R:List PR}
theorem StA.nil:StA ks [] []:=rfl
theorem StA.keys (H:StA ks A R):R.map (·.k)=keysU A:=by
 have:=congrArg (List.map Prod.fst) H
 rw [List.map_map,List.map_map] at this
 have e:(Prod.fst ∘ fun k:PK=>(k,accsOf ks (rowsOf A k),false))=id:=rfl
 rw [e,List.map_id] at this
 exact this
theorem StA.at (H:StA ks A R){i:Nat}{r:PR}(hr:R[i]?=some r):(keysU A)[i]?=some r.k∧r.acs=accsOf ks (rowsOf A r.k)∧r.t=false:=by
 have h1:(keysU A)[i]?=some r.k:=by rw [←H.keys,List.getElem?_map,hr];rfl
 have h2:(R.map prT)[i]?=some (prT r):=by rw [List.getElem?_map,hr];rfl
 rw [H,List.getElem?_map,h1] at h2
 simp only [Option.map_some,Option.some.injEq,prT,Prod.mk.injEq,true_and] at h2
 exact⟨h1,h2.1.symm,h2.2.symm⟩
theorem StA.put (H:StA ks A R){i:Nat}{r:PR}(hr:R[i]?=some r)(v:List Vl):StA ks (A++[(r.k,v)]) (R.set i { r with acs:=accP r.acs v }):=by
 obtain⟨h1,h2,h3⟩:=H.at hr
 have hm:r.k ∈ keysU A:=List.mem_of_getElem? h1
 have hku:keysU (A++[(r.k,v)])=keysU A:=by rw [keysU_snoc,if_pos hm]
 unfold StA
 rw [hku]
 apply List.ext_getElem?
 intro j
 rw [List.getElem?_map,List.getElem?_map,List.getElem?_set]
 have hj:(R.map prT)[j]?=((keysU A).map fun k=>(k,accsOf ks (rowsOf A k),false))[j]?:=by rw [H]
 rw [List.getElem?_map,List.getElem?_map] at hj
 obtain⟨hi,_⟩:=List.getElem?_eq_some_iff.1 hr
 by_cases e:i=j
 ·subst e
  rw [if_pos rfl,if_pos hi,h1]
  simp only [Option.map_some,prT]
  rw [rowsOf_snoc,if_pos rfl,accsOf_snoc,h2,h3]
 ·rw [if_neg e,hj]
  cases hk:(keysU A)[j]? with
  | none=>rfl
  | some k=>
   simp only [Option.map_some,Option.some.injEq]
   have hne:r.k≠k:=by
    intro q
    obtain⟨hi1,q1⟩:=List.getElem?_eq_some_iff.1 h1
    obtain⟨hj1,q2⟩:=List.getElem?_eq_some_iff.1 hk
    have nd:=List.pairwise_iff_getElem.1 (keysU_nodup A)
    rcases Nat.lt_trichotomy i j with h5|h5|h5
    ·exact nd i j hi1 hj1 h5 (by rw [q1,q2,q])
    ·exact e h5
    ·exact nd j i hj1 hi1 h5 (by rw [q1,q2,q])
   rw [rowsOf_snoc,if_neg hne,List.append_nil]
theorem StA.new (H:StA ks A R){k:PK}(hk:k ∉ keysU A)(v:List Vl)(a:Option Addr)(c:Nat):StA ks (A++[(k,v)]) (R++[⟨k,a,c,accP (acc0 ks) v,false⟩]):=by
 unfold StA at H ⊢
 rw [keysU_snoc,if_neg hk,List.map_append,List.map_append,H]
 congr 1
 ·apply List.map_congr_left
  intro k' hk'
  have hne:k≠k':=fun e=>hk (e▸hk')
  rw [rowsOf_snoc,if_neg hne,List.append_nil]
 ·simp only [List.map_cons,List.map_nil,prT]
  rw [rowsOf_snoc,if_pos rfl,rowsOf_new hk]
  rfl
end
section
variable {h0 h:Hp}{a:Option Addr}{c:Nat}{R:List PR}
theorem Pans.base {h1:Hp}(N:Pans h0 h a c R)(l:h1.le h0):Pans h1 h a c R:=by
 obtain⟨F,E,n1,n2⟩:=N.i
 exact⟨OwnV.trans l N.v,F,E,fun b hb=>Hp.none_of_le l (n1 b hb),n2⟩
theorem Pans.rebase (N:Pans h0 h a c R){h1:Hp}(l1:h.le h1){g:Option Addr}(hg:∀ b o,g=some ⟨b,o,none⟩→h b=none):∃ hx:Hp,h0.le hx∧(∀{xs:List Value},HasRow h1 g xs→HasRow hx g xs)∧Pans hx h1 a c R:=by
 obtain⟨F,E,n1,n2⟩:=N.i
 have al:=(EachP.fp accH_fp R).al E
 have alo:=(OwnF.fp _ _ _ _ _ _).al N.v.ownF
 have N1:=N.le l1
 cases g with
 | none=>
  refine⟨h0,Hp.le_refl _,fun H=>?_,N1⟩
  rcases H with e|⟨b,o,e,_⟩
  ·exact .inl e
  ·cases e
 | some g=>
  have hgn:g.spot=none→h g.block=none:=fun hs=>hg g.block g.off (by obtain⟨x,y,z⟩:=g;simp only at hs;subst hs;rfl)
  by_cases hs:g.spot=none
  ·have hgn:=hgn hs
   refine⟨fun b=>if b=g.block then h1 b else h0 b,fun b o ho=>?_,fun H=>?_,?_⟩
   ·have:b≠g.block:=fun e=>by subst e;rw [N.le0 _ _ ho] at hgn;cases hgn
    simp only [if_neg this];exact ho
   ·rcases H with e|⟨b,o,e,hr⟩
    ·exact .inl e
    ·refine .inr ⟨b,o,e,?_⟩
     have hb:b=g.block:=by simp only [Option.some.injEq] at e;rw [e]
     unfold Hp.row at hr ⊢
     simp only [if_pos hb]
     exact hr
   ·have hle:Hp.le (fun b=>if b=g.block then h1 b else h0 b) h1:=by
     intro b o ho
     simp only at ho
     split at ho
     ·exact ho
     ·exact N1.le0 b o ho
    have hnew:∀ b,h b≠none→h0 b=none→(fun b=>if b=g.block then h1 b else h0 b) b=none:=by
     intro b hb hb0
     have:b≠g.block:=fun e=>by subst e;exact hb hgn
     simp only [if_neg this];exact hb0
    obtain⟨F1,E1,m1,m2⟩:=N1.i
    refine⟨⟨hle,N1.v.own,fun b hb=>hnew b (alo b hb) (N.v.new b hb)⟩,F,(EachP.fp accH_fp R).keep E fun b _ o ho=>l1 b o ho,fun b hb=>hnew b (al b hb) (n1 b hb),n2⟩
  ·refine⟨h0,Hp.le_refl _,fun H=>?_,N1⟩
   rcases H with e|⟨b,o,e,_⟩
   ·exact .inl e
   ·simp only [Option.some.injEq] at e
    rw [e] at hs
    exact absurd rfl hs
theorem perm_lift {α β:Type}{f:α→β}{l:List β}{m:List α}(p:l.Perm (m.map f)):∃ m':List α,m'.Perm m∧m'.map f=l:=by
 have key:∀{l l':List β},l.Perm l'→∀ m:List α,m.map f=l'→∃ m':List α,m'.Perm m∧m'.map f=l:=by
  intro l l' q
  induction q with
  | nil=>intro m e;exact⟨m,List.Perm.refl _,e⟩
  | cons x q ih=>
   intro m e
   match m,e with
   | y :: m,e=>
    simp only [List.map_cons,List.cons.injEq] at e
    obtain⟨m',p2,e2⟩:=ih m e.2
    exact⟨y :: m',p2.cons y,by rw [List.map_cons,e2,e.1]⟩
  | swap x y q=>
   intro m e
   match m,e with
   | g1 :: g2 :: gs,e=>
    simp only [List.map_cons,List.cons.injEq] at e
    exact⟨g2 :: g1 :: gs,List.Perm.swap _ _ _,by simp [e]⟩
  | trans q1 q2 ih1 ih2=>
   intro m e
   obtain⟨m1,p1,e1⟩:=ih2 m e
   obtain⟨m2,p2,e2⟩:=ih1 m1 e1
   exact⟨m2,p2.trans p1,e2⟩
 exact key p m rfl
theorem Pans.sort {A:List Ad}{ks:List Int}(N:Pans h0 h a c R)(H:StA ks A R)(hb:∀ r ∈ R,-2305843009213693952≤r.k.1∧r.k.1≤2305843009213693952)(hn:R.length < 4611686018427387904){K:Value→Hp→Prop}
  (hK:∀ R' h',Pans h0 h' a c R'→R'.length=R.length→R'.map (fun r=>(r.k,r.acs))=(keysS A).map (fun k=>(k,accsOf ks (rowsOf A k)))→K (vtup []) h') :
  CallOK Tryz.prog 77 [vsl a R.length c,Value.func (.func 78) #[] #[]] h K:=by
 have hl:(R.map prRow).length=R.length:=List.length_map _
 have key:=sort_panes_ok (h:=h) (a:=a) (c:=c) (R:=R.map prRow) (K:=K) (fun r hr=>by
  obtain⟨x,hx,rfl⟩:=List.mem_map.1 hr
  exact hb x hx) (by rw [hl];exact hn) N.v.own (fun R' h' p hs O F _=>by
  obtain⟨R2,p2,e2⟩:=perm_lift p
  have hl2:R2.length=R.length:=p2.length_eq
  obtain⟨F0,E,n1,n2⟩:=N.i
  have M:Mut (fun b=>a=some ⟨b,0,none⟩) h (fun b=>a=some ⟨b,0,none⟩) h':=⟨fun b o hb ho=>F b o ho hb,fun b hb=>.inl hb⟩
  obtain⟨l',_⟩:=M.old N.le0 N.v.new
  refine hK R2 h' ⟨⟨l',by rw [←e2] at O;exact O,N.v.new⟩,F0,(EachP.fp accH_fp _).keep (E.perm p2) (fun b hb o ho=>F b o ho (n2 b hb)),n1,n2⟩ hl2 ?_
  have hkeys:R2.map (·.k)=keysS A:=by
   refine sorted_eq ?_ ?_
   ·have:=p2.map (·.k)
    rw [H.keys] at this
    exact this
   ·rw [←e2,List.pairwise_map] at hs
    rw [List.pairwise_map]
    exact hs
  rw [←hkeys,List.map_map]
  apply List.map_congr_left
  intro r hr
  obtain⟨i,hi⟩:=List.getElem?_of_mem (p2.mem_iff.1 hr)
  rw [(H.at hi).2.1]
  rfl)
 rw [hl] at key
 exact key
end
def TabC {α:Type}(enc:α→List Value)(h:Hp)(a:Option Addr)(n:Nat)(L:List (List α)):Prop:=∃ R:List (TRow α),R.map Prod.snd=L∧n=L.length∧HasRow h a (R.map rowV)∧∀(j:Nat) (r:TRow α),R[j]?=some r→HasRow h r.1.1 (r.2.flatMap enc)∧r.2.length≤r.1.2
theorem TabC.r {α:Type}{enc:α→List Value}{h:Hp}{a:Option Addr}{n:Nat}{L:List (List α)}(T:TabC enc h a n L):TabR enc h a n L:=by
 obtain⟨R,e,hn,H,H2⟩:=T
 exact⟨R,e,hn,H,fun j r hr=>(H2 j r hr).1⟩
theorem TabC.le {α:Type}{enc:α→List Value}{h h':Hp}{a:Option Addr}{n:Nat}{L:List (List α)}(T:TabC enc h a n L)(hl:h.le h'):TabC enc h' a n L:=by
 obtain⟨R,e,hn,H,H2⟩:=T
 exact⟨R,e,hn,H.le hl,fun j r hr=>⟨(H2 j r hr).1.le hl,(H2 j r hr).2⟩⟩
theorem TabC.cell {α:Type}{enc:α→List Value}{h:Hp}{a:Option Addr}{n:Nat}{L:List (List α)}(D:TabC enc h a n L){j:Nat}{l:List α}(hl:L[j]?=some l):∃ b o a' c',a=some ⟨b,o,none⟩∧h.cell b (o+j*1)=some (vsl a' l.length c')∧SlP enc h a' l.length l∧l.length≤c':=by
 obtain⟨R,rfl,hn,H,H2⟩:=D
 rw [List.getElem?_map,Option.map_eq_some_iff] at hl
 obtain⟨r,hr,rfl⟩:=hl
 obtain⟨b,o,ea,hc⟩:=H.get1 (j:=j) (v:=rowV r) (by rw [List.getElem?_map,hr];rfl)
 exact⟨b,o,r.1.1,r.1.2,ea,hc,⟨rfl,(H2 j r hr).1⟩,(H2 j r hr).2⟩
end Go.Proofs.YtiflgceoamkmnaaGreatDoor
