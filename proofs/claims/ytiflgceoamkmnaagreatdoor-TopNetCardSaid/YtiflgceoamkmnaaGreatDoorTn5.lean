/-
  The statement that the last part names, proved; and all that it stands on that is not in the parts ahead. Conditions: those stated at each.
-/
import Derived.Test.YtiflgceoamkmnaaGreatDoorRows
import Derived.Test.YtiflgceoamkmnaaGreatDoorCards
import Derived.Test.YtiflgceoamkmnaaGreatDoorTie
import Derived.WalkKit
import Derived.ProofKit
import Derived.OpenShut
import Derived.LaidMore
import Derived.Stop.Joined
import Derived.Stop.LaidErr
import Derived.SevenTiedAt
import Derived.Test.YtiflgceoamkmnaaGreatDoorTn4
namespace Go.Proofs.YtiflgceoamkmnaaGreatDoor
open Go Go.Vc Go.Txt
set_option linter.unusedVariables false
def PosL (l:List Nd):Prop:=∀ n ∈ l,0≤n.v.2
def PP (P:Ps):Prop:=∀ s,PosL (P s).1
theorem pos_one {n:Nd}(h:0≤n.v.2):PosL [n]:=fun m hm=>by rw [List.mem_singleton.1 hm];exact h
theorem pos_join {op:Int}{x y:List Nd}(hx:PosL x)(hy:PosL y):PosL (joinL op x y):=by
 intro n hn
 unfold joinL at hn
 rcases List.mem_append.1 hn with h|h
 ·rcases List.mem_append.1 h with h|h
  ·exact hx n h
  ·obtain⟨m,hm,rfl⟩:=List.mem_map.1 h
   exact hy m hm
 ·rw [List.mem_singleton.1 h]
  exact Int.le_refl _
theorem pos_joinP {op:Int}{x y:List Nd}{s:RS}(hx:PosL x)(hy:PosL y):PosL (joinP op x y s).1:=by
 unfold joinP
 split
 ·exact pos_one (by decide)
 ·exact pos_join hx hy
theorem pos_nil:PosL []:=fun n h=>by cases h
theorem number_pos (s:RS)(m:Int):0≤(s.number m).1:=by
 unfold RS.number
 split
 ·exact Int.le_refl _
 ·split
  ·exact Int.le_refl _
  ·rename_i h;simp only;omega
theorem pp_down {P:Ps}(h:PP P):PP (downP P):=by
 intro s
 unfold downP
 exact h _
theorem pp_atom {o:Ps}(h:PP o):PP (atomP o):=by
 intro s
 unfold atomP
 simp only
 split
 ·exact pp_down h _
 ·split
  ·refine pos_one ?_
   simp only
   unfold constV
   split
   ·decide
   ·simp only
    split<;>decide
  ·split
   ·exact pos_one (number_pos _ _)
   ·exact pos_one (Int.le_refl _)
theorem pp_unary {u a:Ps}(hu:PP u)(ha:PP a):PP (unaryP u a):=by
 intro s
 unfold unaryP
 split
 ·exact ha s
 ·exact pos_joinP (pp_down hu _) pos_nil
theorem pp_not {u a:Ps}(hu:PP u)(ha:PP a):PP (notP u a):=by
 intro s
 unfold notP
 split
 ·exact ha s
 ·exact pos_joinP (pp_down hu _) pos_nil
theorem pp_rowL {P:Ps}(h:PP P){ops:List (Wd × Int)}:∀(k:Nat) (x:List Nd) (s:RS),PosL x→PosL (rowL P ops k x s).1
 | 0,x,s,hx=>hx
 | k+1,x,s,hx=>by
  rw [rowL]
  split
  ·exact hx
  ·simp only
   split
   ·exact hx
   ·exact pp_rowL h k _ _ (pos_joinP hx (h _))
theorem pp_row {P:Ps}(h:PP P){ops:List (Wd × Int)}:PP (rowP P ops):=fun s=>pp_rowL h _ _ _ (h s)
theorem pp_cmp {P:Ps}(h:PP P):PP (cmpP P):=by
 intro s
 unfold cmpP
 simp only
 split
 ·exact pos_joinP (h _) (h _)
 ·split
  ·exact pos_joinP (h _) (h _)
  ·split
   ·exact pos_joinP (pos_joinP (h _) (h _)) pos_nil
   ·split
    ·exact pos_joinP (pos_joinP (h _) (h _)) pos_nil
    ·split
     ·exact pos_joinP (h _) (h _)
     ·split
      ·exact pos_joinP (pos_joinP (h _) (h _)) pos_nil
      ·split
       ·split
        ·exact pos_joinP (pos_joinP (h _) pos_nil) pos_nil
        ·exact pos_joinP (h _) pos_nil
       ·exact h _
theorem pp_S {t:Three}(ho:PP t.o)(hn:PP t.n)(hu:PP t.u):PP (orS t)∧PP (notS t)∧PP (unS t):=by
 have h1:PP (unS t):=pp_unary hu (pp_atom ho)
 have h3:PP (sumS t):=pp_row (pp_row h1)
 have h5:PP (notS t):=pp_not hn (pp_cmp h3)
 exact⟨pp_row (pp_row h5),h5,h1⟩
theorem pp_noP:PP noP:=fun s=>pos_one (by decide)
theorem pp_all (n:Nat):PP (allP n).o∧PP (allP n).n∧PP (allP n).u:=by
 induction n with
 | zero=>exact⟨pp_noP,pp_noP,pp_noP⟩
 | succ n ih=>
  rw [allP_succ]
  exact pp_S ih.1 ih.2.1 ih.2.2
structure PosQ (q:Qy):Prop where
 g:∀ a ∈ q.aggs,PosL a.2
 w:PosL q.wh
 b:PosL q.by_
theorem pos_ite {c:Prop}[Decidable c]{x y:Ag × RS}(hx:PosL x.1.2)(hy:PosL y.1.2):PosL (if c then x else y).1.2:=by
 split
 ·exact hx
 ·exact hy
theorem pp_agg {o:Ps}(h:PP o)(s:RS):PosL (aggP o s).1.2:=by
 unfold aggP
 exact pos_ite pos_nil (h _)
theorem pp_aggs {o:Ps}(h:PP o):∀(k:Nat) (l:List Ag) (s:RS),(∀ a ∈ l,PosL a.2)→∀ a ∈ (aggsP o k l s).1,PosL a.2
 | 0,l,s,hl=>hl
 | k+1,l,s,hl=>by
  rw [aggsP]
  split
  ·exact hl
  ·refine pp_aggs h k _ _ fun a ha=>?_
   rcases List.mem_append.1 ha with h1|h1
   ·exact hl a h1
   ·rw [List.mem_singleton.1 h1];exact pp_agg h _
theorem pp_opt {P:Ps}(h:PP P){w:Wd}{s:RS}:PosL (optP w P s).1:=by
 unfold optP
 split
 ·exact pos_nil
 ·exact h _
theorem posQ_read (ws:List Wd):PosQ (readQ ws).1:=by
 have ho:=(pp_all (ws.length+1)).1
 rw [readQ_eq]
 generalize (allP (ws.length+1)).o=o at ho ⊢
 refine⟨pp_aggs ho _ _ _ fun a ha=>?_,pp_opt ho,pp_opt (fun s=>ho _)⟩
 rw [List.mem_singleton.1 ha];exact pp_agg ho _
theorem posQ_parse {s:List UInt8}(h:(parseQ s).2=0):QOk (parseQ s).1∧PosQ (parseQ s).1:=by
 unfold parseQ at h ⊢
 split at h
 ·rename_i h1;exact absurd h h1
 ·rename_i h1
  rw [if_neg h1]
  unfold parseW at h ⊢
  split at h
  ·rename_i h2;exact absurd h h2
  ·rename_i h2
   rw [if_neg h2]
   split at h
   ·rename_i h3;exact absurd h h3
   ·rename_i h3
    rw [if_neg h3]
    exact⟨qok_of (Decidable.not_not.1 h3),posQ_read _⟩
def tkN (q:Qy):List Wd:=[wWindow,Lib.itoa q.size,wSlide,Lib.itoa q.slide,wDelay,Lib.itoa q.delay,wLate,Lib.itoa q.late]
end Go.Proofs.YtiflgceoamkmnaaGreatDoor
namespace Go.Proofs.YtiflgceoamkmnaaGreatDoor
open Go Go.Vc
set_option maxRecDepth 100000
set_option linter.unusedVariables false
def VC_top_asked (u_s:ByteArray)(h:Hp)(R:Value→Hp→Prop):Prop:=
 (((decide ((((ByteArray.size u_s:Nat):Int):Int) > 400))=true→R (vtup [(vag [(vsl none 0 0),(vsl none 0 0),(vsl none 0 0),(vi 0),(vi 0),(vi 0),(vi 0)]),(vb false)]) h)∧((decide ((((ByteArray.size u_s:Nat):Int):Int) > 400))=false→(CallOK Tryz.prog 40 [(vs u_s)] h fun v2 h3=>∃(a4:Option Addr) (n4 c4:Nat) (a5:Option Addr) (n5 c5:Nat) (a6:Option Addr) (n6 c6:Nat) (x7:Int) (x8:Int) (x9:Int) (x10:Int) (e11:Option (TypeId × Value)),v2=(vtup [(vag [(vsl a4 n4 c4),(vsl a5 n5 c5),(vsl a6 n6 c6),(vi x7),(vi x8),(vi x9),(vi x10)]),(ifv e11)])∧R (vtup [(vag [(vsl a4 n4 c4),(vsl a5 n5 c5),(vsl a6 n6 c6),(vi x7),(vi x8),(vi x9),(vi x10)]),(vb (Option.isNone e11))]) h3)))
theorem ok_top_asked {u_s:ByteArray}{h:Hp}{R:Value→Hp→Prop}(H:VC_top_asked u_s h R):CallOK Tryz.prog 21 [(vs u_s)] h R:=
 call_of (cfg:=⟨[],[],[(4,[0,1,2,3,4])]⟩) noNG mixed Tryz.func21 [.one (.v (vs u_s))] (by kernel_rfl) rfl (by kernel_rfl) H
end Go.Proofs.YtiflgceoamkmnaaGreatDoor
namespace Go.Proofs.YtiflgceoamkmnaaGreatDoor
open Go Go.Vc Go.Txt
set_option linter.unusedVariables false
theorem top_asked_ok {s:Wd}{h:Hp}(T:TabQ h){R:Value→Hp→Prop}(bad:∀ a1 n1 c1 a2 n2 c2 a3 n3 c3 x4 x5 x6 x7 h',h.le h'→R (vtup [vag [vsl a1 n1 c1,vsl a2 n2 c2,vsl a3 n3 c3,vi x4,vi x5,vi x6,vi x7],vb false]) h')
  (hK:(parseQ s).2=0→QOk (parseQ s).1→∀ a1 n1 c1 a2 n2 c2 a3 n3 c3 h',h.le h'→QAt h' (parseQ s).1 a1 n1 a2 n2 a3 n3→R (vtup [qV a1 n1 c1 a2 n2 c2 a3 n3 c3 (parseQ s).1,vb true]) h'):CallOK Tryz.prog 21 [vs (bs s)] h R:=by
 refine ok_top_asked ?_
 unfold VC_top_asked
 refine⟨fun e=>bad _ _ _ _ _ _ _ _ _ _ _ _ _ h (Hp.le_refl _),fun _=>?_⟩
 refine query_Parse_ok T fun a1 n1 c1 a2 n2 c2 a3 n3 c3 h' l' Q=>⟨_,_,_,_,_,_,_,_,_,_,_,_,_,_,rfl,?_⟩
 rw [errV_none]
 by_cases hf:(parseQ s).2=0
 ·rw [decide_eq_true hf]
  exact hK hf (posQ_parse hf).1 a1 n1 c1 a2 n2 c2 a3 n3 c3 h' l' Q
 ·rw [decide_eq_false hf]
  exact bad _ _ _ _ _ _ _ _ _ _ _ _ _ h' l'
end Go.Proofs.YtiflgceoamkmnaaGreatDoor
namespace Go.Proofs.YtiflgceoamkmnaaGreatDoor
open Go Go.Vc Go.Txt Go.RowKit
set_option linter.unusedVariables false
set_option maxRecDepth 100000
abbrev encI1 (x:Int):List Value:=[vi x]
def tWk:Wd:=[115,101,108,101,99,116,32,99,111,117,110,116,40,42,41,32,102,114,111,109,32,101,118,101,110,116,115,32,119,105,110,100,111,119,32,49,48]
def evW (t:Int):EvL:=(t,(0,0),(0,0),(0,0))
theorem tWk_read:(parseQ tWk).2=0∧(stepE (parseQ tWk).1 0 (evW 12) (stepE (parseQ tWk).1 0 (evW 3) (newE 1))).rows=[(false,(0,(0,0)),[(1,1)])]:=by decide +kernel
theorem top_works_ok {h:Hp}(T:TabQ h){R:Value→Hp→Prop}(hK:∀ h',h.le h'→R (vb true) h'):CallOK Tryz.prog 20 [] h R:=by
 refine ok_top_works ?_
 unfold VC_top_works
 obtain⟨e0,e1⟩:=tWk_read
 have Qk:=(posQ_parse e0).1
 refine query_Parse_ok (l:=tWk) T fun a1 n1 c1 a2 n2 c2 a3 n3 c3 h2 l2 Q=>⟨_,_,_,_,_,_,_,_,_,_,_,_,_,_,rfl,?_⟩
 rw [errV_some,decide_eq_true e0]
 refine⟨fun e=>(by cases e),fun _=>?_⟩
 generalize (parseQ tWk).1=q at *
 refine engine_New_ok Q Qk (fun e=>absurd ⟨by decide,by decide⟩ e) fun _ _ g h13 l13 X=>⟨some ⟨g,0,none⟩,none,rfl,_,fun _=>rd_eqNilP (e:=64) (by kernel_rfl),fun e=>(by cases e),fun _=>?_⟩
 have hB:=newE_ok q 1
 have E1:EvOK (evW 3):=chkE_ok (by decide)
 have E2:EvOK (evW 12):=chkE_ok (by decide)
 have hB1:=stepE_ok Qk hB (p:=0) (by decide) E1
 refine engine_Step_ok (p:=0) (e:=evW 3) X Qk E1 hB (by decide) (by decide) (by decide) fun h19 l19 X1=>⟨rfl,?_⟩
 refine engine_Step_ok (p:=0) (e:=evW 12) X1 Qk E2 hB1 (by decide) (by decide) (by decide) fun h21 l21 X2=>⟨rfl,?_⟩
 obtain⟨a1,n1,c1,a2,n2,c2,a3,n3,c3,qf,ak,nk,ck,ar,cr,ac,cc,tb,tc,aw,cw,RP,k1,s1,s2,g1,_⟩:=X2.seen
 rw [show (newE (1:Int).toNat)=newE 1 from rfl] at *
 rw [e1] at k1 g1
 obtain⟨b,o,a',c',ea,hr,hS⟩:=g1.row rwRow_len (by decide) (j:=0) (x:=(false,(0,(0,0)))) (l:=[(1,1)]) rfl
 obtain⟨b2,o2,ea2,hr2⟩:=hS.get (sz:=2) (fun _=>rfl) (by decide) (i:=0) (x:=(1,1)) rfl
 refine⟨g,0,rfl,_,_,_,cell_cells k1 rfl,g,0,fun _=>rfl,_,_,_,fun _=>cell_cells k1 rfl,b,o,fun _=>⟨ea,by decide,by decide⟩,a',_,c',fun _=>Hp.row_cell hr (i:=4) rfl,b2,o2,fun _=>⟨ea2,by decide,by decide⟩,1,fun _=>Hp.row_cell hr2 (i:=1) rfl,?_⟩
 exact hK h21 (Hp.le_trans l2 l21)
theorem RunS.net_ok {q:Qy}{ps:List (List EvL)}{cs:List Nat}{h0 h:Hp}{g N:Nat}{st:En}{parts:Nat}(X:EngX q h0 h g st)(B:QOk q)(RS:RunS q ps cs st)(HB:EnB q parts N st)(hN:N≤300000):∃(a:Option Addr) (c:Nat) (L:List (PK × List Vl)),
  h.cell g (0+12)=some (vsl a (st.rows.map rowG).length c)∧netR st.rows=some L∧L.Perm ((ansQ q (preO ps cs)).filter fun x=>dueU q (farC q.delay ((preO ps cs).map farL)) x.1)∧L.length≤900000∧(∀ x ∈ L,x.2.length≤1000) ∧
  ∀{R':Value→Hp→Prop} {h2:Hp},h.le h2→(∀ a' c' h',h2.le h'→GTab encV pkRw h' a' L.length L→R' (vtup [vsl a' L.length c',vb true]) h')→CallOK Tryz.prog 25 [vsl a (st.rows.map rowG).length c] h2 R':=by
 obtain⟨a1,n1,c1,a2,n2,c2,a3,n3,c3,qf,ak,nk,ck,ar,cr,ac,cc,tb,tc,aw,cw,RP,k1,s1,s2,g1,_⟩:=X.seen
 obtain⟨L,hL,hp⟩:=RS.en.net B
 have hwl:=HB.wl
 have hwo:=HB.wo
 have hn4:=B.n2
 have hlen:=(fold_keys (by simp) hL).2
 simp only [List.length_nil] at hlen
 refine⟨aw,cw,L,cell_cells k1 rfl,hL,hp,by omega,fun x hx=>?_,fun l hK=>top_net_ok hL (g1.le l) (by omega) (fun w hw=>by have:=hwo w hw;omega) hK⟩
 have hx2:=(List.mem_filter.1 (hp.mem_iff.1 hx)).1
 have h3:x.2.length=q.aggs.length:=by
  unfold ansQ ansA at hx2
  obtain⟨k,_,rfl⟩:=List.mem_map.1 hx2
  unfold outV
  rw [List.length_map,←kindsQ_len]
  have:=congrArg List.length (accsOf_kinds (ks:=kindsQ q) (rs:=rowsOf (addA q (preO ps cs)) k) fun r hr=>by rw [rowsOf_len addA_len k r hr,kindsQ_len])
  rw [List.length_map] at this
  exact this
 omega
theorem tabc_of3 {α:Type}{enc:α→List Value}{h:Hp}{a:Option Addr}{n:Nat}{R:List (TRow α)}(S:SlP (fun r=>[rowV r]) h a n R)(hr:∀ r ∈ R,HasRow h r.1.1 (r.2.flatMap enc)∧r.2.length≤r.1.2):TabC enc h a n (R.map Prod.snd):=by
 have e:(R.flatMap fun r=>[rowV r])=R.map rowV:=by
  clear S hr
  induction R with
  | nil=>rfl
  | cons r R ih=>rw [List.flatMap_cons,ih];rfl
 refine⟨R,rfl,by rw [S.1];simp,?_,fun j r hj=>hr r (List.mem_of_getElem? hj)⟩
 have:=S.2
 rw [e] at this
 exact this
end Go.Proofs.YtiflgceoamkmnaaGreatDoor
namespace Go.Proofs.YtiflgceoamkmnaaGreatDoor
open Go Go.Vc Go.Txt Go.RowKit
set_option linter.unusedVariables false
set_option maxRecDepth 100000
theorem law_TopNet_ok {s:Wd}{ps:List (List EvL)}{pa:Option Addr}{pn pc:Nat}{ts:List Int}{ta:Option Addr}{tn tc:Nat}{h:Hp}(TP:TabC encE h pa pn ps)(ST:SlI h ta tn ts)(T:TabQ h):CallOK Tryz.prog 4 [vs (bs s),vsl pa pn pc,vsl ta tn tc] h fun v h'=>v=vb true∧h.le h':=by
 refine ok_top_TopNet ?_
 unfold VC_top_TopNet
 have hpn:pn=ps.length:=TP.r.choose_spec.2.1
 subst hpn
 refine top_works_ok T fun h2 l2=>⟨_,rfl,fun e=>(by cases e),fun _=>?_⟩
 refine top_asked_ok (T.le l2) (fun a1 n1 c1 a2 n2 c2 a3 n3 c3 x4 x5 x6 x7 h' l'=>⟨_,_,_,_,_,_,_,_,_,_,_,_,_,_,rfl,fun x hh=>h.le hh,fun e=>(by cases e),fun _=>Hp.le_trans l2 l',fun h19 p20 l19=>⟨fun _=>⟨rfl,l19⟩,fun e=>(by cases e)⟩⟩) ?_
 intro hf B a7 n7 c7 a8 n8 c8 a9 n9 c9 h6 l6 Q
 have l06:=Hp.le_trans l2 l6
 refine⟨_,_,_,_,_,_,_,_,_,_,_,_,_,_,rfl,?_⟩
 refine⟨fun x hh=>h6.le hh∧∃ p,x=.t (.one (.v (vb p)))∧(p=true→1≤ps.length∧ps.length≤3∧tn≤200∧∀ x ∈ ps,x.length≤40∧∀ e ∈ x,EvOK e),fun _=>top_few_ok (TP.le l06) fun p h' l' hp=>⟨_,rfl,l',p,rfl,hp⟩,fun e=>absurd rfl e,?_⟩
 rintro h19 p20 ⟨l19,p,e,hp⟩
 cases e
 have l019:=Hp.le_trans l06 l19
 refine⟨fun _=>⟨rfl,l019⟩,fun e=>?_⟩
 have hpt:p20=true:=by cases p20 with|true=>rfl|false=>cases e
 obtain⟨h1,h3,ht,hE⟩:=hp hpt
 refine top_run_ok (Q.le l19) B (TP.le l019) h1 h3 hE (ST.le l019) ht (fun g hh st cs N X RS HB hN=>?_) fun g h' st N X RS HB hN=>⟨_,_,rfl,rfl,Hp.le_trans l019 X.le0⟩
 refine⟨24,#[],#[],rfl,⟨_,Tryz.func24,by kernel_rfl,rfl⟩,?_⟩
 refine ok_top_TopNet_1 ?_
 unfold VC_top_TopNet_1
 obtain⟨a,c,L,hc,hL,hp,hl,hv,hnet⟩:=RS.net_ok X B HB hN
 exact⟨_,_,_,hc,hnet (Hp.le_refl hh) fun a' c' h' l' G'=>⟨_,_,_,_,rfl,rfl,l'⟩⟩
end Go.Proofs.YtiflgceoamkmnaaGreatDoor
namespace Go.Proofs.YtiflgceoamkmnaaGreatDoor.topNet
open Go.ChangeShapes Go.WideShapes Go.ChangeAt Go.RowKit Go.Vc
set_option linter.unusedVariables false
set_option maxRecDepth 100000
theorem own:ownKnob Tryz.prog.godebug=none:=by kernel_rfl
theorem open0 {H:Type}{enc:TypeId × Value→H}{W:World}{cs:List Value}(L:LeafL Tryz.prog enc W (fun _=>True) (flatIds Tryz.prog 4 43) cs):∃(x0:Int) (x1:Int) (x2:Int) (x3:Int) (x4:Int) (x5:Int) (x6:Int),cs=encE (x0,(x1,x2),(x3,x4),(x5,x6))∧InR x0∧InR x1∧InR x2∧InR x3∧InR x4∧InR x5∧InR x6:=by
 have e:flatIds Tryz.prog 4 43=[3,3,3,3,3,3,3]:=by kernel_rfl
 rw [e] at L
 match cs,L with
 | [v0,v1,v2,v3,v4,v5,v6],L=>
  obtain⟨x0,h0,g0⟩:=leaf_i64 Tryz.underlying3 (L.1)
  cases h0
  obtain⟨x1,h1,g1⟩:=leaf_i64 Tryz.underlying3 (L.2.1)
  cases h1
  obtain⟨x2,h2,g2⟩:=leaf_i64 Tryz.underlying3 (L.2.2.1)
  cases h2
  obtain⟨x3,h3,g3⟩:=leaf_i64 Tryz.underlying3 (L.2.2.2.1)
  cases h3
  obtain⟨x4,h4,g4⟩:=leaf_i64 Tryz.underlying3 (L.2.2.2.2.1)
  cases h4
  obtain⟨x5,h5,g5⟩:=leaf_i64 Tryz.underlying3 (L.2.2.2.2.2.1)
  cases h5
  obtain⟨x6,h6,g6⟩:=leaf_i64 Tryz.underlying3 (L.2.2.2.2.2.2.1)
  cases h6
  exact⟨x0,x1,x2,x3,x4,x5,x6,rfl,g0,g1,g2,g3,g4,g5,g6⟩
theorem open1 {H:Type}{enc:TypeId × Value→H}{W:World}{cs:List Value}(L:LeafL Tryz.prog enc W (fun _=>True) (flatIds Tryz.prog 4 3) cs):∃(x0:Int),cs=encI1 x0∧InR x0:=by
 have e:flatIds Tryz.prog 4 3=[3]:=by kernel_rfl
 rw [e] at L
 match cs,L with
 | [v0],L=>
  obtain⟨x0,h0,g0⟩:=leaf_i64 Tryz.underlying3 (L.1)
  cases h0
  exact⟨x0,rfl,g0⟩
abbrev lay:=Rows.topNetRow.laid
theorem tabs {W:World}(hL:laidMetH Tryz.prog lay W):TabP (hpOf W):=by
 rw [MakeChecks.laidMetH_plain _ _ _ (by kernel_rfl)] at hL
 have h3:laidMet Tryz.prog (("internal/strconv.uint64pow10",Lib.tabData .u64 Lib.pow10Tab) :: lay.drop 3) W:=hL.tail.tail
 have hT:=Lib.tabIs_of_head (g:=5) (n:=20) (by kernel_rfl) (t:=274) (by kernel_rfl) (e:=223) (by kernel_rfl) (by kernel_rfl) (by kernel_rfl) (by kernel_rfl) h3
 intro w hs
 exact var_sub hT hs
theorem star: "*"++"errors.errorString"= "*errors.errorString":=by decide
theorem rowE (u:TypeId)(h:Tryz.prog.typeName? 3 u=some "*errors.errorString"):u=263:=
 typeName_ptr_named (nm:= "errors.errorString") (by rw [star];kernel_rfl) (by kernel_rfl) (by decide) u (by rw [star];exact h)
theorem errs {W:World}(hL:laidMetH Tryz.prog lay W):TabE (hpOf W):=by
 rw [MakeChecks.laidMetH_plain _ _ _ (by kernel_rfl)] at hL
 have h4:laidMet Tryz.prog (("strconv.ErrRange",_) :: ("strconv.ErrSyntax",_) :: lay.drop 5) W:=hL.tail.tail.tail
 obtain⟨a0,s0,hv0,_⟩:=laid_sentinel (g:=2) (ti:=33) h4 (by kernel_rfl) (by kernel_rfl) Tryz.underlying33 rowE Tryz.underlying263 Tryz.underlying265 rfl rfl Tryz.underlying9 (by kernel_rfl) (by kernel_rfl)
 obtain⟨a1,s1,hv1,_⟩:=laid_sentinel (g:=1) (ti:=33) h4.tail (by kernel_rfl) (by kernel_rfl) Tryz.underlying33 rowE Tryz.underlying263 Tryz.underlying265 rfl rfl Tryz.underlying9 (by kernel_rfl) (by kernel_rfl)
 exact⟨⟨_,_,fun w hs=>vars_sub hv1 hs⟩,⟨_,_,fun w hs=>vars_sub hv0 hs⟩⟩
theorem names {W:World}(hL:laidMetH Tryz.prog lay W):TabQ (hpOf W):=by
 have T:=tabs hL
 have E:=errs hL
 rw [MakeChecks.laidMetH_plain _ _ _ (by kernel_rfl)] at hL
 have h6:laidMet Tryz.prog (("penstock/query.fields",_) :: ("penstock/query.aggs",_) :: lay.drop 7) W:=hL.tail.tail.tail.tail.tail
 exact⟨T,E,laid_texts (texts:=fieldW) (g:=4) (t:=145) (e:=9) h6 (by kernel_rfl) (by kernel_rfl) (by kernel_rfl) (by kernel_rfl) (by kernel_rfl) (by decide),laid_texts (texts:=aggsW) (g:=0) (t:=145) (e:=9) h6.tail (by kernel_rfl) (by kernel_rfl) (by kernel_rfl) (by kernel_rfl) (by kernel_rfl) (by decide)⟩
theorem door_met (os:Os)(args:Array Value):laidMetH Tryz.prog lay ((World.doorLaid Tryz.prog 400 os).forCall (fun _ _=>0) ⟨#[],args,[]⟩).memory:=
 laidMetH_of_parts3 (fuel:=8) (laidMet_of_run' 8 (by kernel_rfl) (by kernel_rfl)) (by kernel_rfl) (by kernel_rfl)
set_option maxRecDepth 100000 in
theorem lifted (os:Os)(started:os.Started)(H:Type)(enc:TypeId × Value→H) :
  ReturnsInHanded {} Tryz.checked os 4 .any (fun w args=>(Rows.topNetSpec.pre enc Tryz.prog Tryz.f4 Rows.topNetRow.domain false w args∧laidMetH Tryz.prog lay w)∧sizedMet enc Tryz.prog Tryz.f4 (OpenSpec.ofChange Rows.topNetSpec) false w args) (Rows.topNetSpec.post enc Tryz.prog Tryz.f4 false true false false):=by
 refine returnsInHanded_of_change_and (C:=Tryz.checked) (X:=fun w _=>laidMetH Tryz.prog lay w) (fun _ _ _ hh h=>h.of_heap hh) own started (by kernel_rfl) Tryz.func4
  (ChangeSpec.witness_shaped (enc:=enc) (C:=Tryz.checked) (os:=os) (X:=fun w _=>laidMetH Tryz.prog lay w) false (World.doorLaid Tryz.prog 400 os) #[.string ⟨#[]⟩,.slice none 0 0,.slice none 0 0] 8 rfl (World.shaped_of_RefB (by kernel_rfl) (by kernel_rfl)) (by kernel_rfl) (by kernel_rfl) (by kernel_rfl) (door_met os _)) ?_
 intro W base args ds gs before hval0 hW hcnd _ hL _
 have T:=tabs hL
 have E:=errs hL
 have TQ:=names hL
 have hval:∀(j:Nat) t v,Tryz.f4.params[j]?=some t→args[j]?=some v→Value.okWide Tryz.prog W .any base t v:=hval0
 have hW':=hW
 obtain⟨p,q,hA0,hV,rfl,hfz,hnd⟩:=hW
 have hA:DataW.TrodAll enc Tryz.prog W 0 (fun _=>true) true Tryz.f4.params.toList args.toList ds p:=hA0
 rw [Tryz.params4] at hA hval
 obtain⟨v0,vs0,d0,ds0,p0,q0,hargs,rfl,rfl,h0,r0⟩:=trodAll_cons hA
 obtain⟨v1,vs1,d1,ds1,p1,q1,rfl,rfl,rfl,h1,r1⟩:=trodAll_cons r0
 obtain⟨v2,vs2,d2,ds2,p2,q2,rfl,rfl,rfl,h2,r2⟩:=trodAll_cons r1
 obtain⟨rfl,rfl,rfl⟩:=trodAll_nil r2
 obtain rfl:args=#[v0,v1,v2]:=by cases args;simp_all
 obtain⟨rfl,rfl⟩:=trodVars_none hV
 obtain⟨s0,rfl⟩:=okWide_string Tryz.underlying9 (hval 0 9 v0 rfl rfl)
 obtain⟨b0,e0,_,z0⟩:=leaf_string smTrue Tryz.underlying9 (leafC_of (Sm:=fun _=>True) h0 trivial)
 cases e0
 obtain⟨w1,w2,w3,rfl⟩:=okWide_slice (e:=69) (by kernel_rfl) (hval 1 49 v1 rfl rfl)
 obtain⟨p1,n1,c1,R1,e1,S1,hc1,hm1,_,g1⟩:=leaf_slice (enc:=fun r=>[rowV r]) (sz:=1) (good:=fun r:TRow _=>HasRow (hpOf W) r.1.1 (r.2.flatMap encE)∧r.2.length≤r.1.2∧r.1.2≤maxLen∧∀ y ∈ r.2,True) smTrue (e:=69) (by kernel_rfl) (by kernel_rfl) (by decide) (fun _=>rfl)
  (fun cs L=>by
   obtain⟨a,n,c,l,e,S,hc,hm,_,hg⟩:=leaf_slice (enc:=encE) (sz:=7) (good:=fun y=>True) smTrue (e:=43) (by kernel_rfl) (by kernel_rfl) (by decide) (fun _=>rfl) (fun cs L=>by
    have hf:=leaf_flat smTrue 4 (by kernel_rfl) L
    obtain⟨x0,x1,x2,x3,x4,x5,x6,hy,hg⟩:=open0 hf
    exact⟨(x0,(x1,x2),(x3,x4),(x5,x6)),hy,trivial⟩) L
   cases e
   obtain rfl:=S.1
   exact⟨((a,c),l),rfl,S.2,hc,hm,hg⟩) (leafC_of (Sm:=fun _=>True) h1 trivial)
 cases e1
 obtain⟨w1,w2,w3,rfl⟩:=okWide_slice (e:=3) (by kernel_rfl) (hval 2 50 v2 rfl rfl)
 obtain⟨p2,n2,c2,l2,e2,S2,hc2,hm2,_,g2⟩:=leaf_slice (enc:=encI1) (sz:=1) (good:=fun y=>True) smTrue (e:=3) (by kernel_rfl) (by kernel_rfl) (by decide) (fun _=>rfl)
  (fun cs L=>by
   have hf:=leaf_flat smTrue 4 (by kernel_rfl) L
   obtain⟨x0,hy,hg⟩:=open1 hf
   exact⟨x0,hy,trivial⟩) (leafC_of (Sm:=fun _=>True) h2 trivial)
 cases e2
 refine(calls_law (law_TopNet_ok (s:=s0.data.toList) (tabc_of3 S1 (fun r hr=>⟨(g1 r hr).1,(g1 r hr).2.1⟩)) (SlI.of_slp S2) TQ)).mono fun e W' ⟨he,hg⟩=>?_
 subst he
 exact⟨_,rfl,law_post big hW' hg (by kernel_rfl) (tb:=4) (by kernel_rfl) (by kernel_rfl) rfl⟩
theorem over:Rows.topNetRow.holds Tryz.pinned (OpenSpec.ofChange Rows.topNetSpec):=
 OpenClaim.holds_of_wide 4 Tryz.f4 rfl rfl rfl rfl rfl rfl rfl ⟨rfl,rfl,rfl,rfl,rfl⟩ rfl rfl rfl rfl rfl (by kernel_rfl) Tryz.func4 (by kernel_rfl)
  (of_decide_eq_true (by kernel_rfl)) (by unfold Func.isWrapper;first|(rw [if_pos (by decide +kernel)];kernel_rfl)|(rw [if_neg (by decide +kernel)];exact⟨rfl,rfl⟩))
  (fun os started H enc _=>lifted os started H enc)
theorem proved:Rows.TopNetCardSaid:=
 Claim7.holds_tied_plain_at .later [] _ true _ true
  over (fun _ h=>by cases h) (by kernel_rfl) (fun _ h=>by cases h) topNet_row_tie rfl ⟨rfl,rfl⟩ (by kernel_rfl) rfl
  (fun f fn hf hfn=>by
   obtain rfl:f=4:=Option.some.inj ((show Tryz.prog.funcNamed "penstock/penstocktop.TopNet"=some 4 by kernel_rfl).symm.trans hf) |>.symm
   obtain rfl:fn=Tryz.f4:=(Option.some.inj (Tryz.func4.symm.trans hfn)).symm
   exact⟨by kernel_rfl,fun j t ht=>by
    rw [Tryz.params4] at ht
    have hm:t ∈ [9,49,50]:=by simpa using Array.mem_of_getElem? ht
    have hall:([9,49,50].all fun u=>!Tryz.prog.wantsStandIn u)=true:=by kernel_rfl
    exact(show Tryz.prog.wantsStandIn t=false by simpa using List.all_eq_true.1 hall t hm)⟩)
  (by kernel_rfl)
end Go.Proofs.YtiflgceoamkmnaaGreatDoor.topNet
