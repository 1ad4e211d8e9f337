/-
  The statement that the last part names, proved; and all that it stands on that is not in the parts ahead. Conditions: those stated at each.
-/
import Derived.Test.YtejefijpcggkfaaGreatDoorRows
import Derived.Test.YtejefijpcggkfaaGreatDoorCards
import Derived.Test.YtejefijpcggkfaaGreatDoorTie
import Derived.WalkKit
import Derived.ProofKit
import Derived.OpenShut
import Derived.LaidMore
import Derived.Stop.Joined
import Derived.Stop.LaidErr
import Derived.SevenTiedAt
import Derived.Test.YtejefijpcggkfaaGreatDoorBk3
namespace Go.Proofs.YtejefijpcggkfaaGreatDoor
open Go Go.Vc Go.Txt
set_option linter.unusedVariables false
set_option maxRecDepth 100000
theorem store_new {h:Hp}{b:Nat}{xs ys:List Value}{t:TypeId}(hl:ys.length=xs.length){K:Hp→Prop}(hK:K (h.set b (cellsO ys t))):Hp.store (h.set b (cellsO xs t)) b 0 ys K:=by
 refine⟨xs.toArray,t,Hp.set_same _ _ _,by simp [hl],?_⟩
 rw [Hp.set_set]
 have e:setL xs.toArray.toList 0 ys=ys:=by
  unfold setL
  rw [List.take_zero,List.nil_append,List.toList_toArray,Nat.zero_add,List.drop_of_length_le (by omega),List.append_nil]
 rw [e]
 exact hK
theorem cell_new {h:Hp}{b i:Nat}{xs:List Value}{t:TypeId}{v:Value}(hv:xs[i]?=some v):Hp.cell (h.set b (cellsO xs t)) b i=some v:=by
 unfold Hp.cell
 rw [Hp.set_same]
 simpa using hv
theorem cell_le {h h':Hp}(l:h.le h'){b i:Nat}{v:Value}(hc:h.cell b i=some v):h'.cell b i=some v:=by
 unfold Hp.cell at hc ⊢
 cases hb:h b with
 | none=>rw [hb] at hc;cases hc
 | some o=>rw [l b o hb];rw [hb] at hc;exact hc
def pkRw (k:PK)(v:Value):List Value:=[vi k.1,vi k.2.1,vi k.2.2,v]
theorem pkRw_len (k:PK)(v:Value):(pkRw k v).length=4:=rfl
theorem elOut:ElT Tryz.prog 36 51 4 48:=.of (by kernel_rfl) (by kernel_rfl) (by decide)
set_option maxHeartbeats 4000000 in
theorem batch_Answer_ok {q:Qy}{a1:Option Addr}{n1 c1:Nat}{a2:Option Addr}{n2 c2:Nat}{a3:Option Addr}{n3 c3:Nat}{h:Hp}{R':Value→Hp→Prop}{ps:List (List EvL)}{pa:Option Addr}{pn pc:Nat}(Q:QAt h q a1 n1 a2 n2 a3 n3)(B:QOk q)(T:TabC encE h pa pn ps)
  (hp:ps.length≤5) (hl:∀ p ∈ ps,p.length≤100) (hE:∀ p ∈ ps,∀ e ∈ p,EvOK e)
  (hK:∀ a c h',h.le h'→GTab encV pkRw h' a (ansQ q ps).length (ansQ q ps)→R' (vtup [vsl a (ansQ q ps).length c,vi (lateA q ps:Nat)]) h'):CallOK Tryz.prog 9 [qV a1 n1 c1 a2 n2 c2 a3 n3 c3 q,vsl pa pn pc] h R':=by
 refine ok_batch_Answer ?_
 unfold VC_batch_Answer
 have hpn:pn=ps.length:=T.r.choose_spec.2.1
 have s1:=B.s
 have s2:=B.l
 have s3:=B.n2
 refine⟨fun vs hh=>∃(i:Nat) (a:Option Addr) (c:Nat) (R:List PR),vs=[vsl a R.length c,vi (lateA q (ps.take i):Nat),vi i]∧i≤ps.length∧Pans h hh a c R∧StA (kindsQ q) (addA q (ps.take i)) R,fun vs hh=>ps.length - (vint vs 2).toNat,⟨0,none,0,[],rfl,Nat.zero_le _,Pans.nil (Hp.le_refl h),StA.nil⟩,?_⟩
 rintro vs hh ⟨i,a,c,R,rfl,hi,N,S⟩
 refine⟨a,R.length,c,_,_,rfl,fun e=>?_,fun e=>?_⟩
 ·have hlt:i < ps.length:=by have:=of_decide_eq_true e;omega
  have hx:ps[i]?=some ps[i]:=List.getElem?_eq_getElem hlt
  have tk:ps.take (i+1)=ps.take i++[ps[i]]:=List.take_succ_eq_append_getElem hlt
  have hmem:ps[i] ∈ ps:=List.getElem_mem hlt
  have hEp:=hE _ hmem
  have hlp:=hl _ hmem
  have hAi:=addA_ok B (ps:=ps.take i) fun p hp'=>hE p (List.mem_of_mem_take hp')
  have hmi:=addA_many B (ps.take i) fun p hp'=>hl p (List.mem_of_mem_take hp')
  have hti:(ps.take i).length=i:=by rw [List.length_take];omega
  generalize ps[i]=part at *
  obtain⟨b,o,a',c',ea,hc,SP,hcap⟩:=T.cell hx
  refine⟨b,o,⟨ea,by omega,by omega⟩,a',part.length,c',by rw [Int.toNat_natCast];exact cell_le N.le0 hc,?_⟩
  clear e
  refine⟨fun vs hh=>∃(j:Nat) (a:Option Addr) (c:Nat) (R:List PR),vs=[vsl a R.length c,vi (lateA q (ps.take i)+lateP q (-1) (part.take j):Nat),vi j]∧j≤part.length∧Pans h hh a c R∧StA (kindsQ q) (addA q (ps.take i)++addP q (-1) (part.take j)) R,fun vs hh=>part.length - (vint vs 2).toNat,⟨0,a,c,R,by simp [lateP],Nat.zero_le _,N,by simpa [addP] using S⟩,?_⟩
  rintro vs hh2 ⟨j,a,c,R,rfl,hj,N,S⟩
  refine⟨a,R.length,c,_,_,rfl,fun e=>?_,fun e=>?_⟩
  ·have hltj:j < part.length:=by have:=of_decide_eq_true e;omega
   have hxj:part[j]?=some part[j]:=List.getElem?_eq_getElem hltj
   have tkj:part.take (j+1)=part.take j++[part[j]]:=List.take_succ_eq_append_getElem hltj
   have hEv:=hEp _ (List.getElem_mem hltj)
   have hAj:=addP_ok B (part.take j) (-1) fun e he=>hEp e (List.mem_of_mem_take he)
   have hmj:=addP_many B (part.take j) (-1)
   have htj:(part.take j).length=j:=by rw [List.length_take];omega
   have hAA:∀ x ∈ addA q (ps.take i)++addP q (-1) (part.take j),AdOK q x:=by
    intro x hx
    rcases List.mem_append.1 hx with h1|h1
    ·exact hAi x h1
    ·exact hAj x h1
   have hAn:(addA q (ps.take i)++addP q (-1) (part.take j)).length≤499000∧lateA q (ps.take i)+lateP q (-1) (part.take j)≤499000:=by
    rw [List.length_append]
    omega
   generalize part[j]=ev at *
   intro J173
   have hJ:∀(a:Option Addr) (c:Nat) (R:List PR) (hh':Hp),Pans h hh' a c R→StA (kindsQ q) ((addA q (ps.take i)++addP q (-1) (part.take j))++addE q (farL (part.take j)) ev) R→J173 a R.length c ((lateA q (ps.take i)+lateP q (-1) (part.take j)+lateE q (farL (part.take j)) ev:Nat):Int) hh':=by
    intro a c R hh' N S
    refine⟨_,isW (by unfold InR;omega),⟨j+1,a,c,R,?_,by omega,N,?_⟩,by simp [vint];omega⟩
    ·rw [tkj,lateP_snoc,←Nat.add_assoc];rfl
    ·rw [tkj,addP_snoc,←List.append_assoc];exact S
   clear_value J173
   have hAi2:=hAn
   generalize addA q (ps.take i)++addP q (-1) (part.take j)=Aj at *
   generalize lateA q (ps.take i)+lateP q (-1) (part.take j)=cj at *
   obtain⟨b2,o2,ea2,hr2⟩:=(SP.le N.le0).get (sz:=7) (fun _=>rfl) (by decide) hxj
   refine⟨b2,o2,⟨ea2,by omega,by omega⟩,_,_,_,_,_,_,_,by rw [Int.toNat_natCast];exact hr2,?_⟩
   refine batch_is_ok (e:=ev) (Q.le N.le0) B fun h34 l34=>⟨_,rfl,fun e1=>?_,fun e1=>?_⟩
   ·have e1:asksQ q ev=false:=by simpa using e1
    have:=hJ a c R h34 (N.le l34) (by unfold addE;rw [e1];simpa using S)
    have e2:lateE q (farL (part.take j)) ev=0:=by unfold lateE;rw [e1];rfl
    rw [e2,Nat.add_zero] at this
    exact this
   ·have e1:asksQ q ev=true:=by simpa using e1
    have eA:addE q (farL (part.take j)) ev=addS q (farL (part.take j)) ev (startsOf ev.1 q.size q.slide):=by unfold addE;rw [if_pos e1]
    have eL:lateE q (farL (part.take j)) ev=lateS q (farL (part.take j)) (startsOf ev.1 q.size q.slide):=by unfold lateE;rw [if_pos e1]
    rw [eA,eL] at hJ
    have ht:=hEv.t
    have hsb:=starts_ok B hEv
    have hsn:=starts_many B (e:=ev)
    refine window_StartsN_ok (by omega) (by omega) (by omega) (by omega) (by omega) (by omega) fun a40 n40 c40 h39 l39 SS hnew=>⟨_,_,_,rfl,?_⟩
    generalize startsOf ev.1 q.size q.slide=ss at *
    have N34:=N.le l34
    obtain⟨hx0,lx,hrow,Nx⟩:=N34.rebase l39 (g:=a40) (fun b o eb=>hnew b o eb)
    have SSx:SlI hx0 a40 n40 ss:=⟨SS.1,hrow SS.2⟩
    have hn40:=SS.1
    refine⟨fun vs hh=>∃(k:Nat) (a:Option Addr) (c:Nat) (R:List PR),vs=[vsl a R.length c,vi (cj+lateS q (farL (part.take j)) (ss.take k):Nat),vi k]∧k≤ss.length∧Pans hx0 hh a c R∧StA (kindsQ q) (Aj++addS q (farL (part.take j)) ev (ss.take k)) R,fun vs hh=>ss.length - (vint vs 2).toNat,⟨0,a,c,R,by simp [lateS],Nat.zero_le _,Nx,by simpa [addS] using S⟩,?_⟩
    clear N34 Nx N S hrow
    rintro vs hh3 ⟨k,a,c,R,rfl,hk,N,S⟩
    refine⟨a,R.length,c,_,_,rfl,fun e=>?_,fun e=>?_⟩
    ·have hltk:k < ss.length:=by have:=of_decide_eq_true e;omega
     have hxk:ss[k]?=some ss[k]:=List.getElem?_eq_getElem hltk
     have tkk:ss.take (k+1)=ss.take k++[ss[k]]:=List.take_succ_eq_append_getElem hltk
     have hsk:=hsb _ (List.getElem_mem hltk)
     have hgd:ss.getD k 0=ss[k]:=by rw [List.getD_eq_getElem?_getD,hxk];rfl
     have hSk:=addS_ok B hEv (far:=farL (part.take j)) (ss:=ss.take k) fun s hs=>hsb s (List.mem_of_mem_take hs)
     have hSm:=addS_many (q:=q) (far:=farL (part.take j)) (e:=ev) (ss:=ss.take k)
     have hSl:=lateS_many (q:=q) (far:=farL (part.take j)) (ss:=ss.take k)
     have htk:(ss.take k).length=k:=by rw [List.length_take];omega
     obtain⟨b51,o51,e51,c51⟩:=SSx.get (i:=k) (by omega)
     rw [hgd] at c51
     generalize ss[k]=sk at *
     have hAk:∀ x ∈ Aj++addS q (farL (part.take j)) ev (ss.take k),AdOK q x:=by
      intro x hx
      rcases List.mem_append.1 hx with h1|h1
      ·exact hAA x h1
      ·exact hSk x h1
     have hAkn:(Aj++addS q (farL (part.take j)) ev (ss.take k)).length≤500000:=by rw [List.length_append];omega
     intro J163
     have hJ2:∀(a:Option Addr) (c:Nat) (R:List PR) (hh':Hp) (x:Int),Pans hx0 hh' a c R→StA (kindsQ q) ((Aj++addS q (farL (part.take j)) ev (ss.take k))++if lateQ q (farL (part.take j)) sk then [] else [((sk,keyQ q ev),valsQ q ev)]) R→x=((cj+lateS q (farL (part.take j)) (ss.take k)+if lateQ q (farL (part.take j)) sk then 1 else 0:Nat):Int)→J163 a R.length c x hh':=by
      intro a c R hh' x N S hx
      refine⟨_,isW (by unfold InR;omega),⟨k+1,a,c,R,?_,by omega,N,?_⟩,by simp [vint];omega⟩
      ·rw [tkk,lateS_snoc,hx,←Nat.add_assoc];rfl
      ·rw [tkk,addS_snoc,←List.append_assoc];exact S
     clear_value J163
     refine⟨b51,o51,⟨e51,by omega,by omega⟩,sk,by rw [Int.toNat_natCast];exact cell_le N.le0 c51,?_⟩
     intro b54 hb54 h55
     show Hp.store (Hp.set hh3 b54 (cellsO [vi 0] 3)) b54 0 [vi sk] _
     refine store_new (xs:=[vi 0]) (by rfl) ?_
     refine⟨sk,cell_new rfl,?_⟩
     have l56:hh3.le (hh3.set b54 (cellsO [vi sk] 3)):=Hp.le_set (Hp.le_refl _) hb54 _
     have c56:Hp.cell (hh3.set b54 (cellsO [vi sk] 3)) b54 0=some (vi sk):=cell_new rfl
     generalize hh3.set b54 (cellsO [vi sk] 3)=h56 at l56 c56
     have N56:=N.le l56
     have lh56:=Hp.le_trans lx N56.le0
     refine batch_late_ok (i:=j) (SP.le lh56) (by omega) hcap (by omega) (fun e he=>(hEp e he).t) (by omega) B ⟨_,rfl,fun e2=>?_,fun e2=>?_⟩
     ·refine⟨_,isW (by unfold InR;omega),hJ2 a c R h56 _ N56 (by rw [if_pos e2,List.append_nil];exact S) ?_⟩
      rw [if_pos e2]
      push_cast
      rfl
     ·have hnl:¬ lateQ q (farL (part.take j)) sk=true:=by rw [e2];decide
      simp only [if_neg hnl,Nat.add_zero] at hJ2
      refine batch_key_ok (e:=ev) (Q.le lh56) B fun h65 l65=>⟨_,_,rfl,?_⟩
      intro b68 hb68 h69
      show Hp.store (Hp.set h65 b68 (cellsO [vi 0,vi 0] 33)) b68 0 [vi (keyQ q ev).1,vi (keyQ q ev).2] _
      refine store_new (xs:=[vi 0,vi 0]) (by rfl) ?_
      have l70:h65.le (h65.set b68 (cellsO [vi (keyQ q ev).1,vi (keyQ q ev).2] 33)):=Hp.le_set (Hp.le_refl _) hb68 _
      have r70:Hp.row (h65.set b68 (cellsO [vi (keyQ q ev).1,vi (keyQ q ev).2] 33)) b68 0 2=some (encV (keyQ q ev)):=row_cells' (Hp.set_same _ _ _) (by simp)
      generalize h65.set b68 (cellsO [vi (keyQ q ev).1,vi (keyQ q ev).2] 33)=h70 at l70 r70
      have l5670:=Hp.le_trans l65 l70
      have N70:=N56.le l5670
      have c70:=cell_le l5670 c56
      have hRl:=S.len
      have hRk:=keysU_many (Aj++addS q (farL (part.take j)) ev (ss.take k))
      -- behind the pane's being there
      have hJ3:∀(J146:Option Addr→Nat→Nat→Int→Hp→Prop),(∀(a150:Option Addr) (n150 c150:Nat) (x151:Int) (h152:Hp),J146 a150 n150 c150 x151 h152=(∃(b153 o154:Nat),(a150=some ⟨b153,o154,none⟩∧(0:Int)≤x151∧x151 < ((n150:Nat):Int))∧(∃(a155:Option Addr) (n155 c155:Nat),(Hp.cell h152 b153 ((o154+x151.toNat*5)+3)=some (vsl a155 n155 c155))∧(CallOK Tryz.prog 26 [(vsl a155 n155 c155),qV a1 n1 c1 a2 n2 c2 a3 n3 c3 q,vag (encE ev)] h152 fun v156 h157=>∃(a158:Option Addr) (n158 c158:Nat),v156=(vsl a158 n158 c158)∧(∃(b159 o160:Nat),(a150=some ⟨b159,o160,none⟩∧(0:Int)≤x151∧x151 < ((n150:Nat):Int))∧(Hp.store h157 b159 ((o160+x151.toNat*5)+3) [(vsl a158 n158 c158)] fun h161=>(J163 a150 n150 c150 ((cj+lateS q (farL (part.take j)) (ss.take k):Nat):Int) h161))))))) →
        ∀(a:Option Addr) (c:Nat) (R:List PR) (m:Nat) (r:PR) (hh':Hp),Pans hx0 hh' a c R→R[m]?=some r→r.acs.map (·.1)=kindsQ q→(∀ x ∈ r.acs,AcB x)→StA (kindsQ q) ((Aj++addS q (farL (part.take j)) ev (ss.take k))++[((sk,keyQ q ev),valsQ q ev)]) (R.set m { r with acs:=accP r.acs (valsQ q ev) })→J146 a R.length c (m:Int) hh':=by
       intro J146 hdef a c R m r hh' N hr hkd hbd S'
       rw [hdef]
       obtain⟨hm,_⟩:=List.getElem?_eq_some_iff.1 hr
       obtain⟨b,o,ea,hrw⟩:=N.row hr
       obtain⟨V,H⟩:=N.inner hr
       have hcl:=Hp.row_cell hrw (i:=3) (x:=vsl r.a r.acs.length r.c) rfl
       refine⟨b,o,⟨ea,by omega,by omega⟩,r.a,r.acs.length,r.c,by rw [Int.toNat_natCast];exact hcl,?_⟩
       refine batch_add_ok (e:=ev) (Q.le lx) B hEv V hkd hbd fun h157 V' F'=>⟨_,_,_,rfl,?_⟩
       have hlen:(valsQ q ev).length=r.acs.length:=by
        have:=congrArg List.length hkd
        rw [List.length_map,kindsQ_len] at this
        unfold valsQ
        rw [List.length_map,this]
       have hpl:=accP_len hlen
       have N':=H h157 _ V'.le0 V' hpl F'
       have hr':(R.set m { r with acs:=accP r.acs (valsQ q ev) })[m]?=some { r with acs:=accP r.acs (valsQ q ev) }:=by rw [List.getElem?_set,if_pos rfl,if_pos hm]
       obtain⟨b',o',ea',HS⟩:=N'.again hr'
       refine⟨b',o',⟨ea',by omega,by omega⟩,?_⟩
       rw [Int.toNat_natCast]
       simp only [hpl] at HS
       refine HS _ fun h161 N161 l161=>?_
       have:=hJ2 a c _ h161 _ N161 S' rfl
       rw [List.length_set] at this
       exact this
      refine pane_IndexFunc_ok N70 (by omega) (K:=(sk,keyQ q ev)) c70 r70 (fun m r hr hkr=>⟨_,rfl,?_⟩) (fun hno=>⟨_,rfl,?_⟩)
      ·intro J146
       have hdef:∀(a150:Option Addr) (n150 c150:Nat) (x151:Int) (h152:Hp),J146 a150 n150 c150 x151 h152=_:=fun _ _ _ _ _=>rfl
       have hJ4:=hJ3 J146 (fun _ _ _ _ _=>rfl)
       clear hdef
       clear_value J146
       refine⟨fun e3=>absurd (of_decide_eq_true e3) (by omega),fun _=>?_⟩
       obtain⟨f1,f2,_⟩:=S.facts hAk (by omega) hr
       refine hJ4 a c R m r h70 N70 hr f1 f2 ?_
       have:=S.put hr (valsQ q ev)
       rw [←hkr]
       exact this
      ·intro J146
       have hJ4:=hJ3 J146 (fun _ _ _ _ _=>rfl)
       clear_value J146
       refine⟨fun _=>?_,fun e3=>absurd (of_decide_eq_false e3) (by omega)⟩
       refine⟨sk,c70,_,_,r70,?_⟩
       intro J107
       have hkn:(sk,keyQ q ev) ∉ keysU (Aj++addS q (farL (part.take j)) ev (ss.take k)):=by
        rw [←S.keys]
        intro hm
        obtain⟨r,hr,e4⟩:=List.mem_map.1 hm
        exact hno r hr e4
       have hJ5:∀(a86:Option Addr) (c86:Nat) (h81:Hp),VecA h70 h81 a86 c86 (acc0 (kindsQ q))→J107 sk (keyQ q ev).1 (keyQ q ev).2 a86 (acc0 (kindsQ q)).length c86 false h81:=by
        intro a86 c86 h81 V b139 hb139 h140
        refine N70.app V.le0 (r:=⟨(sk,keyQ q ev),a86,c86,acc0 (kindsQ q),false⟩) V (by omega) hb139 fun a' c' h' N'=>⟨_,_,_,rfl,?_⟩
        have hr:(R++[(⟨(sk,keyQ q ev),a86,c86,acc0 (kindsQ q),false⟩:PR)])[R.length]?=some ⟨(sk,keyQ q ev),a86,c86,acc0 (kindsQ q),false⟩:=by simp
        obtain⟨g1,g2⟩:=acc0_small q
        have:=hJ4 a' c' _ R.length _ h' N' hr g1 g2 (by
         rw [List.set_append_right _ _ (Nat.le_refl _),Nat.sub_self]
         exact S.new hkn (valsQ q ev) a86 c86)
        rw [List.length_append,List.length_singleton] at this
        exact this
       clear_value J107
       have hna:=Q.g.len
       refine⟨fun vs hh=>∃(m:Nat) (a:Option Addr) (c:Nat),vs=[vi m,vi sk,vi (keyQ q ev).1,vi (keyQ q ev).2,vsl a (acc0 ((kindsQ q).take m)).length c,vb false]∧m≤n1∧VecA h70 hh a c (acc0 ((kindsQ q).take m)),fun vs hh=>n1 - (vint vs 0).toNat,⟨0,none,0,rfl,Nat.zero_le _,OwnV.nil (Hp.le_refl _) _ _⟩,?_⟩
       rintro vs hh4 ⟨m,a86,c86,rfl,hm,V⟩
       refine⟨_,_,_,_,a86,_,c86,false,rfl,fun e5=>?_,fun e5=>?_⟩
       ·have hltm:m < n1:=by have:=of_decide_eq_true e5;omega
        have hxm:q.aggs[m]?=some q.aggs[m]:=List.getElem?_eq_getElem (by omega)
        have hkl:=kindsQ_len q
        have tkm:(kindsQ q).take (m+1)=(kindsQ q).take m++[(q.aggs[m]'(by omega)).1]:=by
         rw [List.take_succ_eq_append_getElem (by omega)]
         congr 2
         unfold kindsQ
         rw [List.getElem_map]
        have hal:(acc0 ((kindsQ q).take m)).length=m:=by unfold acc0;rw [List.length_map,List.length_take];omega
        obtain⟨b,o,a',c',ha,hrow,hS⟩:=(Q.g.le (Hp.le_trans lx (Hp.le_trans N70.le0 V.le0))).row aggRw_len (by decide) hxm
        refine⟨b,o,⟨ha,by omega,by omega⟩,(q.aggs[m]'(by omega)).1,a',(q.aggs[m]'(by omega)).2.length,c',by rw [Int.toNat_natCast];exact hrow,gather_New_ok ⟨_,_,_,_,rfl,?_⟩⟩
        intro b100 hb100 h101
        refine Vec.app elAcc encAc_len one_ac V (by rw [hal];omega) (by rw [hal];omega) (x:=((q.aggs[m]'(by omega)).1,(0,0,0))) hb100 fun a' c' h' V'=>⟨_,_,_,rfl,_,isW (by unfold InR;omega),⟨m+1,a',c',?_,by omega,?_⟩,by simp [vint];omega⟩
        ·rw [tkm];unfold acc0;rw [List.map_append];rfl
        ·rw [tkm];unfold acc0 at V' ⊢;rw [List.map_append];exact V'
       ·have hge:m=n1:=by have:=of_decide_eq_false e5;omega
        rw [List.take_of_length_le (by rw [kindsQ_len];omega)] at V ⊢
        exact hJ5 a86 c86 hh4 V
    ·have hge:k=ss.length:=by have:=of_decide_eq_false e;omega
     rw [hge,List.take_length] at S ⊢
     exact hJ a c R hh3 (N.base lx) S
  ·have hge:j=part.length:=by have:=of_decide_eq_false e;omega
   rw [hge,List.take_length] at S ⊢
   refine⟨_,isW (by unfold InR;omega),⟨i+1,a,c,R,?_,by omega,N,?_⟩,by simp [vint];omega⟩
   ·rw [tk,lateA_snoc];rfl
   ·rw [tk,addA_snoc];exact S
 ·have hge:i=ps.length:=by have:=of_decide_eq_false e;omega
  rw [hge,List.take_length] at S ⊢
  have hA:=addA_ok B hE
  have hm:=addA_many B ps hl
  have hRl:=S.len
  have hRk:=keysU_many (addA q ps)
  refine N.sort S (fun r hr=>?_) (by omega) fun R2 h185 N2 hl2 hR2=>⟨rfl,?_⟩
  ·obtain⟨m,hr⟩:=List.getElem?_of_mem hr
   have:=S.facts hA (by omega) hr
   omega
  have hans:R2.map (fun r=>(r.k,r.acs.map gOut))=ansQ q ps:=by
   have:=congrArg (List.map fun x:PK × List AcS=>(x.1,x.2.map gOut)) hR2
   rw [List.map_map,List.map_map] at this
   exact this
  refine⟨fun vs hh=>∃(m:Nat) (a:Option Addr) (c:Nat),vs=[vsl a ((ansQ q ps).take m).length c,vi m]∧m≤R.length∧GTabB encV pkRw 4 51 (fun _=>False) h185 hh a c ((ansQ q ps).take m),fun vs hh=>R.length - (vint vs 1).toNat,⟨0,none,0,rfl,Nat.zero_le _,GTabB.nil (Hp.le_refl _)⟩,?_⟩
  rintro vs hh5 ⟨m,a5,c5,rfl,hm5,G⟩
  have hal:(ansQ q ps).length=R.length:=by rw [←hans,List.length_map,hl2]
  refine⟨a5,_,c5,_,rfl,fun e=>?_,fun e=>?_⟩
  ·have hltm:m < R.length:=by have:=of_decide_eq_true e;omega
   have hxm:R2[m]?=some R2[m]:=List.getElem?_eq_getElem (by omega)
   have hxa:(ansQ q ps)[m]?=some ((R2[m]'(by omega)).k,(R2[m]'(by omega)).acs.map gOut):=by rw [←hans,List.getElem?_map,hxm];rfl
   have tkm:(ansQ q ps).take (m+1)=(ansQ q ps).take m++[((R2[m]'(by omega)).k,(R2[m]'(by omega)).acs.map gOut)]:=by
    rw [List.take_add_one,hxa];rfl
   have htm:((ansQ q ps).take m).length=m:=by rw [List.length_take];omega
   have N5:=N2.le G.le0
   obtain⟨b,o,ea,hrw⟩:=N5.row hxm
   obtain⟨V,_⟩:=N5.inner hxm
   have hacs:(R2[m]'(by omega)).acs.length≤1000:=by
    have h1:(R2.map fun r=>(r.k,r.acs))[m]?=some ((R2[m]'(by omega)).k,(R2[m]'(by omega)).acs):=by rw [List.getElem?_map,hxm];rfl
    rw [hR2,List.getElem?_map] at h1
    cases hkk:(keysS (addA q ps))[m]? with
    | none=>rw [hkk] at h1;cases h1
    | some kk=>
     rw [hkk] at h1
     simp only [Option.map_some,Option.some.injEq,Prod.mk.injEq] at h1
     have:=congrArg List.length (accsOf_kinds (rowsOf_ok hA kk).1)
     rw [List.length_map,h1.2,kindsQ_len] at this
     omega
   refine⟨b,o,⟨ea,by omega,by omega⟩,_,_,_,_,_,_,_,by rw [Int.toNat_natCast];exact hrw,?_⟩
   refine pane_Out_ok (r:=R2[m]'(by omega)) (V.slp encAc_len (by decide)) hacs fun a2' c2' h203 V2=>⟨_,_,_,_,_,_,rfl,?_⟩
   intro b208 hb208 h209
   refine GTabB.app elOut G (hB:=hh5) (h1:=h203) V2.le0 (fun _ hf=>hf.elim) (fun g hg=>G.al hg) (x:=(R2[m]'(by omega)).k) (a2:=a2') (c2:=c2') (l:=(R2[m]'(by omega)).acs.map gOut) (OwnV.row V2) (fun b o eb=>V2.new b (by rw [eb,OwnS.at0 (OwnV.own V2) b o eb])) ?_ rfl (fun _ hf=>hf.elim) (by rw [htm];omega) (by rw [htm];omega) hb208 fun a' c' h' G' _=>⟨_,_,_,rfl,_,isW (by unfold InR;omega),⟨m+1,a',c',?_,by omega,?_⟩,by simp [vint];omega⟩
   ·intro u hu
    simp only [pkRw,List.mem_cons,List.not_mem_nil,or_false] at hu
    rcases hu with rfl|rfl|rfl|rfl<;>rfl
   ·rw [tkm,List.length_append,List.length_singleton];rfl
   ·rw [tkm];exact G'
  ·have hge5:m=R.length:=by have:=of_decide_eq_false e;omega
   rw [List.take_of_length_le (by omega)] at G ⊢
   exact hK a5 c5 hh5 (Hp.le_trans N2.le0 G.le0) G.tab
end Go.Proofs.YtejefijpcggkfaaGreatDoor
namespace Go.Proofs.YtejefijpcggkfaaGreatDoor
open Go Go.Vc
set_option maxRecDepth 100000
set_option linter.unusedVariables false
def VC_R_SameValues (u_aa:Option Addr)(u_an u_ac:Nat)(u_ba:Option Addr)(u_bn u_bc:Nat)(h:Hp)(R:Value→Hp→Prop):Prop:=
 (((decide ((((u_an:Nat):Int):Int)≠((u_bn:Nat):Int)))=true→R (vb false) h)∧((decide ((((u_an:Nat):Int):Int)≠((u_bn:Nat):Int)))=false→(∃(I3:List Value→Hp→Prop) (m4:List Value→Hp→Nat),I3 [(vi 0)] h∧∀(vs5:List Value) (h6:Hp),I3 vs5 h6→∃(x7:Int),vs5=[(vi x7)]∧(((decide ((x7:Int) < ((u_an:Nat):Int)))=true→(∃(b10 o11:Nat),(u_aa=some ⟨b10,o11,none⟩∧(0:Int)≤x7∧x7 < ((u_an:Nat):Int))∧(∃(x12:Int) (x13:Int),(Hp.row h6 b10 (o11+x7.toNat*2) 2=some [(vi x12),(vi x13)])∧(∃(b14 o15:Nat),(u_ba=some ⟨b14,o15,none⟩∧(0:Int)≤x7∧x7 < ((u_bn:Nat):Int))∧(∃(x16:Int) (x17:Int),(Hp.row h6 b14 (o15+x7.toNat*2) 2=some [(vi x16),(vi x17)])∧(∃(p18:Bool),(Rd Tryz.prog ((eqGuard .neq 33 (.tmp 20) (.tmp 24) (vag [(vi x12),(vi x13)]) (vag [(vi x16),(vi x17)]) >>= fun _=>binOp .neq 33 (vag [(vi x12),(vi x13)]) (vag [(vi x16),(vi x17)]))) h6 (vb p18))∧((p18=true→R (vb false) h6)∧(p18=false→(∃(x20:Int),(IsW x20 (x7+1))∧(I3 [(vi x20)] h6∧m4 [(vi x20)] h6 < m4 vs5 h6))))))))))∧((decide ((x7:Int) < ((u_an:Nat):Int)))=false→R (vb true) h6)))))
theorem ok_R_SameValues {u_aa:Option Addr}{u_an u_ac:Nat}{u_ba:Option Addr}{u_bn u_bc:Nat}{h:Hp}{R:Value→Hp→Prop}(H:VC_R_SameValues u_aa u_an u_ac u_ba u_bn u_bc h R):CallOK Tryz.prog 66 [(vsl u_aa u_an u_ac),(vsl u_ba u_bn u_bc)] h R:=
 call_of (cfg:=⟨[],[(4,([5],[.one (.int .i64)],[]))],[(6,[0,1,2,3,4,5,6,7,8])]⟩) noNG mixed Tryz.func66 [.one (.v (vsl u_aa u_an u_ac)),.one (.v (vsl u_ba u_bn u_bc))] (by kernel_rfl) rfl (by kernel_rfl) H
def VC_R_SamePane (u_aStart:Int)(u_aKeyKind:Int)(u_aKeyN:Int)(u_aValsa:Option Addr)(u_aValsn u_aValsc:Nat)(u_bStart:Int)(u_bKeyKind:Int)(u_bKeyN:Int)(u_bValsa:Option Addr)(u_bValsn u_bValsc:Nat)(h:Hp)(R:Value→Hp→Prop):Prop:=
 (CallOK Tryz.prog 66 [(vsl u_aValsa u_aValsn u_aValsc),(vsl u_bValsa u_bValsn u_bValsc)] h fun v1 h2=>∃(p3:Bool),v1=(vb p3)∧(∃(p4:Bool),((decide ((u_aStart:Int)=u_bStart))=true→Rd Tryz.prog ((eqGuard .eql 33 (.tmp 18) (.tmp 20) (vag [(vi u_aKeyKind),(vi u_aKeyN)]) (vag [(vi u_bKeyKind),(vi u_bKeyN)]) >>= fun _=>binOp .eql 33 (vag [(vi u_aKeyKind),(vi u_aKeyN)]) (vag [(vi u_bKeyKind),(vi u_bKeyN)]))) h2 (vb p4))∧R (vb (bif (bif (decide ((u_aStart:Int)=u_bStart)) then p4 else false) then p3 else false)) h2))
theorem ok_R_SamePane {u_aStart:Int}{u_aKeyKind:Int}{u_aKeyN:Int}{u_aValsa:Option Addr}{u_aValsn u_aValsc:Nat}{u_bStart:Int}{u_bKeyKind:Int}{u_bKeyN:Int}{u_bValsa:Option Addr}{u_bValsn u_bValsc:Nat}{h:Hp}{R:Value→Hp→Prop}(H:VC_R_SamePane u_aStart u_aKeyKind u_aKeyN u_aValsa u_aValsn u_aValsc u_bStart u_bKeyKind u_bKeyN u_bValsa u_bValsn u_bValsc h R):CallOK Tryz.prog 37 [(vag [(vi u_aStart),(vi u_aKeyKind),(vi u_aKeyN),(vsl u_aValsa u_aValsn u_aValsc)]),(vag [(vi u_bStart),(vi u_bKeyKind),(vi u_bKeyN),(vsl u_bValsa u_bValsn u_bValsc)])] h R:=
 call_of (cfg:=⟨[],[],[]⟩) noNG mixed Tryz.func37 [.ag [.v (vi u_aStart),.v (vi u_aKeyKind),.v (vi u_aKeyN),.v (vsl u_aValsa u_aValsn u_aValsc)],.ag [.v (vi u_bStart),.v (vi u_bKeyKind),.v (vi u_bKeyN),.v (vsl u_bValsa u_bValsn u_bValsc)]] (by kernel_rfl) rfl (by kernel_rfl) H
def VC_R_SamePanes (u_aa:Option Addr)(u_an u_ac:Nat)(u_ba:Option Addr)(u_bn u_bc:Nat)(h:Hp)(R:Value→Hp→Prop):Prop:=
 (((decide ((((u_an:Nat):Int):Int)≠((u_bn:Nat):Int)))=true→R (vb false) h)∧((decide ((((u_an:Nat):Int):Int)≠((u_bn:Nat):Int)))=false→(∃(I3:List Value→Hp→Prop) (m4:List Value→Hp→Nat),I3 [(vi 0)] h∧∀(vs5:List Value) (h6:Hp),I3 vs5 h6→∃(x7:Int),vs5=[(vi x7)]∧(((decide ((x7:Int) < ((u_an:Nat):Int)))=true→(∃(b10 o11:Nat),(u_aa=some ⟨b10,o11,none⟩∧(0:Int)≤x7∧x7 < ((u_an:Nat):Int))∧(∃(x12:Int) (x13:Int) (x14:Int) (a15:Option Addr) (n15 c15:Nat),(Hp.row h6 b10 (o11+x7.toNat*4) 4=some [(vi x12),(vi x13),(vi x14),(vsl a15 n15 c15)])∧(∃(b16 o17:Nat),(u_ba=some ⟨b16,o17,none⟩∧(0:Int)≤x7∧x7 < ((u_bn:Nat):Int))∧(∃(x18:Int) (x19:Int) (x20:Int) (a21:Option Addr) (n21 c21:Nat),(Hp.row h6 b16 (o17+x7.toNat*4) 4=some [(vi x18),(vi x19),(vi x20),(vsl a21 n21 c21)])∧(CallOK Tryz.prog 37 [(vag [(vi x12),(vi x13),(vi x14),(vsl a15 n15 c15)]),(vag [(vi x18),(vi x19),(vi x20),(vsl a21 n21 c21)])] h6 fun v22 h23=>∃(p24:Bool),v22=(vb p24)∧(((!p24)=true→R (vb false) h23)∧((!p24)=false→(∃(x26:Int),(IsW x26 (x7+1))∧(I3 [(vi x26)] h23∧m4 [(vi x26)] h23 < m4 vs5 h6))))))))))∧((decide ((x7:Int) < ((u_an:Nat):Int)))=false→R (vb true) h6)))))
theorem ok_R_SamePanes {u_aa:Option Addr}{u_an u_ac:Nat}{u_ba:Option Addr}{u_bn u_bc:Nat}{h:Hp}{R:Value→Hp→Prop}(H:VC_R_SamePanes u_aa u_an u_ac u_ba u_bn u_bc h R):CallOK Tryz.prog 11 [(vsl u_aa u_an u_ac),(vsl u_ba u_bn u_bc)] h R:=
 call_of (cfg:=⟨[],[(4,([5],[.one (.int .i64)],[]))],[(6,[0,1,2,3,4,5,6,7,8,9])]⟩) noNG mixed Tryz.func11 [.one (.v (vsl u_aa u_an u_ac)),.one (.v (vsl u_ba u_bn u_bc))] (by kernel_rfl) rfl (by kernel_rfl) H
end Go.Proofs.YtejefijpcggkfaaGreatDoor
namespace Go.Proofs.YtejefijpcggkfaaGreatDoor
open Go Go.Vc
set_option linter.unusedVariables false
section
variable {h:Hp}{R':Value→Hp→Prop}
theorem R_SameValues_ok {l:List Vl}{a b:Option Addr}{c d:Nat}(S:SlP encV h a l.length l)(S2:SlP encV h b l.length l)(hn:l.length≤1000000)(hK:R' (vb true) h):CallOK Tryz.prog 66 [vsl a l.length c,vsl b l.length d] h R':=by
 refine ok_R_SameValues ?_
 unfold VC_R_SameValues
 refine⟨fun e=>absurd rfl (of_decide_eq_true e),fun _=>?_⟩
 refine⟨fun vs hh=>hh=h∧∃ i:Nat,vs=[vi i]∧i≤l.length,fun vs hh=>l.length - (vint vs 0).toNat,⟨rfl,0,rfl,Nat.zero_le _⟩,?_⟩
 rintro vs hh ⟨rfl,i,rfl,hi⟩
 refine⟨i,rfl,fun e=>?_,fun _=>hK⟩
 have hlt:i < l.length:=by have:=of_decide_eq_true e;omega
 have hx:l[i]?=some l[i]:=List.getElem?_eq_getElem hlt
 obtain⟨b1,o1,e1,r1⟩:=S.get (sz:=2) (fun _=>rfl) (by decide) hx
 obtain⟨b2,o2,e2,r2⟩:=S2.get (sz:=2) (fun _=>rfl) (by decide) hx
 refine⟨b1,o1,⟨e1,by omega,by omega⟩,_,_,by rw [Int.toNat_natCast];exact r1,b2,o2,⟨e2,by omega,by omega⟩,_,_,by rw [Int.toNat_natCast];exact r2,!decide (l[i]=l[i]),rd_neqV,fun e3=>(by simp at e3),fun _=>⟨_,isW (by unfold InR;omega),⟨rfl,i+1,rfl,by omega⟩,by simp [vint];omega⟩⟩
theorem R_SamePane_ok {k:PK}{l:List Vl}{a b:Option Addr}{c d:Nat}(S:SlP encV h a l.length l)(S2:SlP encV h b l.length l)(hn:l.length≤1000000)(hK:R' (vb true) h):CallOK Tryz.prog 37 [vag (pkRw k (vsl a l.length c)),vag (pkRw k (vsl b l.length d))] h R':=by
 refine ok_R_SamePane ?_
 unfold VC_R_SamePane
 refine R_SameValues_ok S S2 hn ⟨_,rfl,decide (k.2=k.2),fun _=>rd_eqV,?_⟩
 rw [decide_eq_true (rfl:k.1=k.1),decide_eq_true (rfl:k.2=k.2)]
 exact hK
theorem R_SamePanes_ok {L:List (PK × List Vl)}{a b:Option Addr}{c d:Nat}(T:GTab encV pkRw h a L.length L)(T2:GTab encV pkRw h b L.length L)(hn:L.length≤1000000)(hl:∀ x ∈ L,x.2.length≤1000000)(hK:R' (vb true) h):CallOK Tryz.prog 11 [vsl a L.length c,vsl b L.length d] h R':=by
 refine ok_R_SamePanes ?_
 unfold VC_R_SamePanes
 refine⟨fun e=>absurd rfl (of_decide_eq_true e),fun _=>?_⟩
 refine⟨fun vs hh=>hh=h∧∃ i:Nat,vs=[vi i]∧i≤L.length,fun vs hh=>L.length - (vint vs 0).toNat,⟨rfl,0,rfl,Nat.zero_le _⟩,?_⟩
 rintro vs hh ⟨rfl,i,rfl,hi⟩
 refine⟨i,rfl,fun e=>?_,fun _=>hK⟩
 have hlt:i < L.length:=by have:=of_decide_eq_true e;omega
 have hx:L[i]?=some L[i]:=List.getElem?_eq_getElem hlt
 have hm:=hl _ (List.getElem_mem hlt)
 generalize L[i]=x at hx hm
 obtain⟨k,l⟩:=x
 obtain⟨b1,o1,a1,c1,e1,r1,S1⟩:=T.row pkRw_len (by decide) hx
 obtain⟨b2,o2,a2,c2,e2,r2,S2⟩:=T2.row pkRw_len (by decide) hx
 refine⟨b1,o1,⟨e1,by omega,by omega⟩,_,_,_,_,_,_,by rw [Int.toNat_natCast];exact r1,b2,o2,⟨e2,by omega,by omega⟩,_,_,_,_,_,_,by rw [Int.toNat_natCast];exact r2,R_SamePane_ok S1 S2 hm ⟨_,rfl,fun e3=>(by cases e3),fun _=>⟨_,isW (by unfold InR;omega),⟨rfl,i+1,rfl,by omega⟩,by simp [vint];omega⟩⟩⟩
end
theorem outV_len {q:Qy}{A:List Ad}(hA:∀ x ∈ A,AdOK q x)(k:PK):(outV (kindsQ q) (rowsOf A k)).length=q.aggs.length:=by
 unfold outV
 rw [List.length_map,←kindsQ_len]
 have:=congrArg List.length (accsOf_kinds (rowsOf_ok hA k).1)
 rw [List.length_map] at this
 exact this
theorem ansQ_many {q:Qy}(B:QOk q){ps:List (List EvL)}(hp:ps.length≤5)(hl:∀ p ∈ ps,p.length≤100)(hE:∀ p ∈ ps,∀ e ∈ p,EvOK e):(ansQ q ps).length≤500000∧∀ x ∈ ansQ q ps,x.2.length≤1000000:=by
 have h1:=addA_many B ps hl
 have h2:=keysU_many (addA q ps)
 have h3:=(keys_perm (addA q ps)).length_eq
 have h4:=B.n2
 constructor
 ·unfold ansQ ansA
  rw [List.length_map]
  omega
 ·intro x hx
  unfold ansQ ansA at hx
  obtain⟨k,_,rfl⟩:=List.mem_map.1 hx
  simp only
  rw [outV_len (addA_ok B hE)]
  omega
end Go.Proofs.YtejefijpcggkfaaGreatDoor
namespace Go.Proofs.YtejefijpcggkfaaGreatDoor
open Go Go.Vc
set_option maxRecDepth 100000
set_option linter.unusedVariables false
def VC_source_Check (u_eTime:Int)(u_eKKind:Int)(u_eKN:Int)(u_eAKind:Int)(u_eAN:Int)(u_eBKind:Int)(u_eBN:Int)(h:Hp)(R:Value→Hp→Prop):Prop:=
 (((bif (decide ((u_eTime:Int) < 0)) then true else(decide ((u_eTime:Int) > 9999)))=true→R (ifv (some (95,(vi 1)))) h)∧((bif (decide ((u_eTime:Int) < 0)) then true else(decide ((u_eTime:Int) > 9999)))=false→(∀(b2:Nat),h b2=none→let h3:Hp:=Hp.set h b2 (cellsO [(vi u_eKKind),(vi u_eKN),(vi u_eAKind),(vi u_eAN),(vi u_eBKind),(vi u_eBN)] 33);(∃(I5:List Value→Hp→Prop) (m6:List Value→Hp→Nat),I5 [(vi 0)] h3∧∀(vs7:List Value) (h8:Hp),I5 vs7 h8→∃(x9:Int),vs7=[(vi x9)]∧(((decide ((x9:Int) < ((3:Nat):Int)))=true→(∃(b12 o13:Nat),((some (⟨b2,0,none⟩:Addr))=some ⟨b12,o13,none⟩∧(0:Int)≤x9∧x9 < ((3:Nat):Int))∧(∃(x14:Int) (x15:Int),(Hp.row h8 b12 (o13+x9.toNat*2) 2=some [(vi x14),(vi x15)])∧(CallOK Tryz.prog 77 [(vag [(vi x14),(vi x15)])] h8 fun v16 h17=>∃(e18:Option (TypeId × Value)),v16=(ifv e18)∧(((Option.isSome e18)=true→R (ifv e18) h17)∧((Option.isSome e18)=false→(((decide ((x14:Int)=2))=true→R (ifv (some (95,(vi 3)))) h17)∧((decide ((x14:Int)=2))=false→(((bif (decide ((x15:Int) < (-1000))) then true else(decide ((x15:Int) > 1000)))=true→R (ifv (some (95,(vi 1)))) h17)∧((bif (decide ((x15:Int) < (-1000))) then true else(decide ((x15:Int) > 1000)))=false→(∃(x22:Int),(IsW x22 (x9+1))∧(I5 [(vi x22)] h17∧m6 [(vi x22)] h17 < m6 vs7 h8))))))))))))∧((decide ((x9:Int) < ((3:Nat):Int)))=false→R (ifv none) h8))))))
theorem ok_source_Check {u_eTime:Int}{u_eKKind:Int}{u_eKN:Int}{u_eAKind:Int}{u_eAN:Int}{u_eBKind:Int}{u_eBN:Int}{h:Hp}{R:Value→Hp→Prop}(H:VC_source_Check u_eTime u_eKKind u_eKN u_eAKind u_eAN u_eBKind u_eBN h R):CallOK Tryz.prog 46 [(vag [(vi u_eTime),(vi u_eKKind),(vi u_eKN),(vi u_eAKind),(vi u_eAN),(vi u_eBKind),(vi u_eBN)])] h R:=
 call_of (cfg:=⟨[],[(4,([23],[.one (.int .i64)],[]))],[]⟩) noNG mixed Tryz.func46 [.ag [.v (vi u_eTime),.v (vi u_eKKind),.v (vi u_eKN),.v (vi u_eAKind),.v (vi u_eAN),.v (vi u_eBKind),.v (vi u_eBN)]] (by kernel_rfl) rfl (by kernel_rfl) H
end Go.Proofs.YtejefijpcggkfaaGreatDoor
namespace Go.Proofs.YtejefijpcggkfaaGreatDoor
open Go Go.Vc
set_option linter.unusedVariables false
set_option maxRecDepth 100000
theorem elEv:ElT Tryz.prog 30 35 7 56:=.of (by kernel_rfl) (by kernel_rfl) (by decide)
end Go.Proofs.YtejefijpcggkfaaGreatDoor
namespace Go.Proofs.YtejefijpcggkfaaGreatDoor
open Go Go.Vc
set_option linter.unusedVariables false
set_option maxRecDepth 100000
theorem source_Check_ok {e:EvL}{h:Hp}{R:Value→Hp→Prop}(hK:∀ h',h.le h'→R (ifv (errV (chkE e))) h'):CallOK Tryz.prog 46 [vag (encE e)] h R:=by
 refine ok_source_Check ?_
 unfold VC_source_Check
 refine⟨fun q=>?_,fun q=>?_⟩
 ·have:chkE e=1:=by unfold chkE;rw [if_pos (by simp [Bool.cond_eq_ite] at q;omega)]
  rw [this] at hK;exact hK h (Hp.le_refl h)
 have e1:chkE e=chkL [e.2.1,e.2.2.1,e.2.2.2]:=by unfold chkE;rw [if_neg (by simp [Bool.cond_eq_ite] at q;omega)]
 rw [e1] at hK
 clear e1 q
 intro b2 hb2 h3
 have l3:h.le h3:=Hp.le_set (Hp.le_refl h) hb2 _
 have S:SlP encV h3 (some ⟨b2,0,none⟩) 3 [e.2.1,e.2.2.1,e.2.2.2]:=⟨rfl,HasRow.new _ _ [vi e.2.1.1,vi e.2.1.2,vi e.2.2.1.1,vi e.2.2.1.2,vi e.2.2.2.1,vi e.2.2.2.2] _⟩
 clear_value h3
 have hl:[e.2.1,e.2.2.1,e.2.2.2].length=3:=rfl
 generalize [e.2.1,e.2.2.1,e.2.2.2]=l at *
 refine⟨fun vs hh=>hh=h3∧∃ i:Nat,vs=[vi i]∧i≤3∧chkL l=chkL (l.drop i),fun vs hh=>3 - (vint vs 0).toNat,⟨rfl,0,rfl,by decide,rfl⟩,?_⟩
 rintro vs hh ⟨rfl,i,rfl,hi,hc⟩
 refine⟨i,rfl,fun q=>?_,fun q=>?_⟩
 ·have hlt:i < 3:=by have:=of_decide_eq_true q;omega
  have hx:l[i]?=some (l[i]'(by omega)):=List.getElem?_eq_getElem (by omega)
  rw [drop_get (by omega:i < l.length),chkL] at hc
  obtain⟨b,o,ha,hr⟩:=S.get encV_len (by decide) hx
  generalize l[i]'(by omega)=v at *
  have A:(some ⟨b2,0,none⟩:Option Addr)=some ⟨b,o,none⟩∧(0:Int)≤i∧(i:Int) < (3:Nat):=⟨ha,by omega,by omega⟩
  refine⟨b,o,A,_,_,hr,value_Check_ok (v:=v) ⟨_,rfl,fun q2=>?_,fun q2=>⟨fun q3=>?_,fun q3=>⟨fun q4=>?_,fun q4=>?_⟩⟩⟩⟩
  ·rw [errV_some] at q2
   have hg:¬ goodV v:=fun hg=>by simp [hg] at q2
   have:chkV v=3:=by unfold chkV;rw [if_pos (.inl hg)]
   rw [this,if_neg (by decide)] at hc
   rw [if_neg hg]
   rw [hc] at hK;exact hK hh l3
  ·have:chkV v=3:=by unfold chkV;rw [if_pos (.inr (of_decide_eq_true q3))]
   rw [this,if_neg (by decide)] at hc
   rw [hc] at hK;exact hK hh l3
  ·rw [errV_some] at q2
   have hg:goodV v:=by
    by_cases hg:goodV v
    ·exact hg
    ·simp [hg] at q2
   have h2:¬ v.1=2:=of_decide_eq_false q3
   have:chkV v=1:=by unfold chkV;rw [if_neg (by simp [hg,h2]),if_pos (by simp [Bool.cond_eq_ite] at q4;omega)]
   rw [this,if_neg (by decide)] at hc
   rw [hc] at hK;exact hK hh l3
  ·rw [errV_some] at q2
   have hg:goodV v:=by
    by_cases hg:goodV v
    ·exact hg
    ·simp [hg] at q2
   have h2:¬ v.1=2:=of_decide_eq_false q3
   have:chkV v=0:=by unfold chkV;rw [if_neg (by simp [hg,h2]),if_neg (by simp [Bool.cond_eq_ite] at q4;omega)]
   rw [this,if_pos rfl] at hc
   exact⟨_,isW (by unfold InR;omega),⟨rfl,i+1,rfl,by omega,hc⟩,by simp [vint];omega⟩
 ·have hge:i=3:=by have:=of_decide_eq_false q;omega
  subst hge
  rw [List.drop_eq_nil_of_le (by omega)] at hc
  rw [hc] at hK;exact hK hh l3
section
variable {h:Hp}{F:Nat→Prop}{g:Nat}{L:List (List EvL)}
end
end Go.Proofs.YtejefijpcggkfaaGreatDoor
namespace Go.Proofs.YtejefijpcggkfaaGreatDoor
open Go Go.Vc
set_option linter.unusedVariables false
theorem sorted_ext {l l':List PK}(h:l.Pairwise aheadK)(h':l'.Pairwise aheadK)(e:∀ k,k ∈ l↔k ∈ l'):l=l':=by
 have p:=(List.perm_ext_iff_of_nodup (sorted_nodup h) (sorted_nodup h')).2 e
 exact p.eq_of_pairwise (fun a b _ _ h1 h2=>absurd (aheadK_trans h1 h2) (aheadK_irr a)) h h'
theorem addP_append (q:Qy):∀(l m:List EvL) (far:Int),addP q far (l++m)=addP q far l++addP q (l.foldl (fun m e=>max m e.1) far) m
 | [],m,far=>rfl
 | e :: l,m,far=>by rw [List.cons_append,addP,addP,addP_append q l m,List.append_assoc];rfl
def known (q:Qy)(far:Int)(k:PK):Bool:=decide (k.1+(q.size+q.late)≤far - q.delay)
theorem addP_known {q:Qy}{f0:Int}(h0:0≤f0):∀(l:List EvL) {far:Int},f0≤far→∀ a ∈ addP q far l,known q f0 a.1=false
 | [],far,hf,a,ha=>by cases ha
 | e :: l,far,hf,a,ha=>by
  rw [addP] at ha
  rcases List.mem_append.1 ha with h|h
  ·unfold addE at h
   split at h
   ·unfold addS at h
    obtain⟨s,hs,rfl⟩:=List.mem_map.1 h
    have:=(List.mem_filter.1 hs).2
    unfold lateQ at this
    unfold known
    simp only [Bool.not_eq_true',Bool.and_eq_false_iff,decide_eq_false_iff_not] at this ⊢
    omega
   ·cases h
  ·exact addP_known h0 l (far:=max far e.1) (by omega) a h
theorem ansA_filter {q:Qy}{P:PK→Bool}{A B:List Ad}(h:∀ b ∈ B,P b.1=false):(ansA q (A++B)).filter (fun x=>P x.1)=(ansA q A).filter (fun x=>P x.1):=by
 unfold ansA
 rw [List.filter_map,List.filter_map]
 have e:(keysS (A++B)).filter P=(keysS A).filter P:=by
  refine sorted_ext ((keysS_sorted _).filter _) ((keysS_sorted _).filter _) fun k=>?_
  rw [List.mem_filter,List.mem_filter,keysS_mem,keysS_mem]
  constructor
  ·rintro⟨⟨a,ha,rfl⟩,hp⟩
   rcases List.mem_append.1 ha with h1|h1
   ·exact⟨⟨a,h1,rfl⟩,hp⟩
   ·rw [h a h1] at hp;cases hp
  ·rintro⟨⟨a,ha,rfl⟩,hp⟩
   exact⟨⟨a,List.mem_append_left _ ha,rfl⟩,hp⟩
 show List.map _ (List.filter P (keysS (A++B)))=List.map _ (List.filter P (keysS A))
 rw [e]
 refine List.map_congr_left fun k hk=>?_
 have hp:=(List.mem_filter.1 hk).2
 have:rowsOf (A++B) k=rowsOf A k:=by
  unfold rowsOf
  rw [List.filter_append,List.map_append]
  have:B.filter (fun a=>decide (a.1=k))=[]:=by
   rw [List.filter_eq_nil_iff]
   intro b hb e
   have e:b.1=k:=of_decide_eq_true e
   have:=h b hb
   rw [e,hp] at this
   cases this
  rw [this]
  simp
 rw [this]
theorem ansQ_keep {q:Qy}{p m:List EvL}(h0:0≤farL p):(ansQ q [p++m]).filter (fun x=>known q (farL p) x.1)=(ansQ q [p]).filter (fun x=>known q (farL p) x.1):=by
 have e:∀ l,addA q [l]=addP q (-1) l:=fun l=>by simp [addA]
 unfold ansQ
 rw [e,e,addP_append]
 exact ansA_filter (addP_known h0 m (Int.le_refl _))
end Go.Proofs.YtejefijpcggkfaaGreatDoor
namespace Go.Proofs.YtejefijpcggkfaaGreatDoor
open Go Go.Vc
set_option maxRecDepth 100000
set_option linter.unusedVariables false
def VC_top_light (u_partsa:Option Addr)(u_partsn u_partsc:Nat)(h:Hp)(R:Value→Hp→Prop):Prop:=
 (((decide ((((u_partsn:Nat):Int):Int) > 3))=true→R (vb false) h)∧((decide ((((u_partsn:Nat):Int):Int) > 3))=false→(∃(I3:List Value→Hp→Prop) (m4:List Value→Hp→Nat),I3 [(vi 0)] h∧∀(vs5:List Value) (h6:Hp),I3 vs5 h6→∃(x7:Int),vs5=[(vi x7)]∧(((decide ((x7:Int) < ((u_partsn:Nat):Int)))=true→(∃(b10 o11:Nat),(u_partsa=some ⟨b10,o11,none⟩∧(0:Int)≤x7∧x7 < ((u_partsn:Nat):Int))∧(∃(a12:Option Addr) (n12 c12:Nat),(Hp.cell h6 b10 (o11+x7.toNat*1)=some (vsl a12 n12 c12))∧(((decide ((((n12:Nat):Int):Int) > 40))=true→R (vb false) h6)∧((decide ((((n12:Nat):Int):Int) > 40))=false→(∃(I15:List Value→Hp→Prop) (m16:List Value→Hp→Nat),I15 [(vi 0)] h6∧∀(vs17:List Value) (h18:Hp),I15 vs17 h18→∃(x19:Int),vs17=[(vi x19)]∧(∃(b20 o21:Nat),(u_partsa=some ⟨b20,o21,none⟩∧(0:Int)≤x7∧x7 < ((u_partsn:Nat):Int))∧(∃(a22:Option Addr) (n22 c22:Nat),(Hp.cell h18 b20 (o21+x7.toNat*1)=some (vsl a22 n22 c22))∧(((decide ((x19:Int) < ((n22:Nat):Int)))=true→(∃(b25 o26:Nat),(u_partsa=some ⟨b25,o26,none⟩∧(0:Int)≤x7∧x7 < ((u_partsn:Nat):Int))∧(∃(a27:Option Addr) (n27 c27:Nat),(Hp.cell h18 b25 (o26+x7.toNat*1)=some (vsl a27 n27 c27))∧(∃(b28 o29:Nat),(a27=some ⟨b28,o29,none⟩∧(0:Int)≤x19∧x19 < ((n27:Nat):Int))∧(∃(x30:Int) (x31:Int) (x32:Int) (x33:Int) (x34:Int) (x35:Int) (x36:Int),(Hp.row h18 b28 (o29+x19.toNat*7) 7=some [(vi x30),(vi x31),(vi x32),(vi x33),(vi x34),(vi x35),(vi x36)])∧(CallOK Tryz.prog 46 [(vag [(vi x30),(vi x31),(vi x32),(vi x33),(vi x34),(vi x35),(vi x36)])] h18 fun v37 h38=>∃(e39:Option (TypeId × Value)),v37=(ifv e39)∧(((Option.isSome e39)=true→R (vb false) h38)∧((Option.isSome e39)=false→(∃(x41:Int),(IsW x41 (x19+1))∧(I15 [(vi x41)] h38∧m16 [(vi x41)] h38 < m16 vs17 h18))))))))))∧((decide ((x19:Int) < ((n22:Nat):Int)))=false→(∃(x42:Int),(IsW x42 (x7+1))∧(I3 [(vi x42)] h18∧m4 [(vi x42)] h18 < m4 vs5 h6))))))))))))∧((decide ((x7:Int) < ((u_partsn:Nat):Int)))=false→R (vb true) h6)))))
theorem ok_top_light {u_partsa:Option Addr}{u_partsn u_partsc:Nat}{h:Hp}{R:Value→Hp→Prop}(H:VC_top_light u_partsa u_partsn u_partsc h R):CallOK Tryz.prog 14 [(vsl u_partsa u_partsn u_partsc)] h R:=
 call_of (cfg:=⟨[],[(9,([4],[.one (.int .i64)],[])),(4,([3],[.one (.int .i64)],[]))],[]⟩) noNG mixed Tryz.func14 [.one (.v (vsl u_partsa u_partsn u_partsc))] (by kernel_rfl) rfl (by kernel_rfl) H
def VC_top_upto (u_la:Option Addr)(u_ln u_lc:Nat)(u_size:Int)(u_far:Int)(h:Hp)(R:Value→Hp→Prop):Prop:=
 (∃(I2:List Value→Hp→Prop) (m3:List Value→Hp→Nat),I2 [(vsl none 0 0),(vi 0)] h∧∀(vs4:List Value) (h5:Hp),I2 vs4 h5→∃(a6:Option Addr) (n6 c6:Nat) (x7:Int),vs4=[(vsl a6 n6 c6),(vi x7)]∧(((decide ((x7:Int) < ((u_ln:Nat):Int)))=true→(let J27:Option Addr→Nat→Nat→Hp→Prop:=fun(a30:Option Addr) (n30 c30:Nat) (h31:Hp)=>(∃(x32:Int),(IsW x32 (x7+1))∧(I2 [(vsl a30 n30 c30),(vi x32)] h31∧m3 [(vsl a30 n30 c30),(vi x32)] h31 < m3 vs4 h5));(∃(b10 o11:Nat),(u_la=some ⟨b10,o11,none⟩∧(0:Int)≤x7∧x7 < ((u_ln:Nat):Int))∧(∃(x12:Int),(Hp.cell h5 b10 (o11+x7.toNat*4)=some (vi x12))∧(∃(x13:Int),(IsW x13 (x12+u_size))∧(((decide ((x13:Int)≤u_far))=true→(∃(b14 o15:Nat),(u_la=some ⟨b14,o15,none⟩∧(0:Int)≤x7∧x7 < ((u_ln:Nat):Int))∧(∃(x16:Int) (x17:Int) (x18:Int) (a19:Option Addr) (n19 c19:Nat),(Hp.row h5 b14 (o15+x7.toNat*4) 4=some [(vi x16),(vi x17),(vi x18),(vsl a19 n19 c19)])∧(∀(b20:Nat),h5 b20=none→let h21:Hp:=Hp.set h5 b20 (cellsO [(vi x16),(vi x17),(vi x18),(vsl a19 n19 c19)] 51);(SemOK Tryz.prog (Builtin.append_ #[36,36] 36 #[(vsl a6 n6 c6),(vsl (some (⟨b20,0,none⟩:Addr)) 1 1)]) h21 fun v22 h23=>∃(a24:Option Addr) (n24 c24:Nat),v22=(vsl a24 n24 c24)∧(J27 a24 n24 c24 h23))))))∧((decide ((x13:Int)≤u_far))=false→(J27 a6 n6 c6 h5))))))))∧((decide ((x7:Int) < ((u_ln:Nat):Int)))=false→R (vsl a6 n6 c6) h5)))
theorem ok_top_upto {u_la:Option Addr}{u_ln u_lc:Nat}{u_size:Int}{u_far:Int}{h:Hp}{R:Value→Hp→Prop}(H:VC_top_upto u_la u_ln u_lc u_size u_far h R):CallOK Tryz.prog 16 [(vsl u_la u_ln u_lc),(vi u_size),(vi u_far)] h R:=
 call_of (cfg:=⟨[],[(3,([7,8],[.one (.slice),.one (.int .i64)],[]))],[]⟩) noNG mixed Tryz.func16 [.one (.v (vsl u_la u_ln u_lc)),.one (.v (vi u_size)),.one (.v (vi u_far))] (by kernel_rfl) rfl (by kernel_rfl) H
def VC_top_TopKeep (u_s:ByteArray)(u_parta:Option Addr)(u_partn u_partc:Nat)(u_morea:Option Addr)(u_moren u_morec:Nat)(h:Hp)(R:Value→Hp→Prop):Prop:=
 (CallOK Tryz.prog 12 [(vs ⟨#[115,101,108,101,99,116,32,99,111,117,110,116,40,42,41,32,102,114,111,109,32,101,118,101,110,116,115,32,119,105,110,100,111,119,32,55]⟩)] h fun v1 h2=>∃(a3:Option Addr) (n3 c3:Nat) (a4:Option Addr) (n4 c4:Nat) (a5:Option Addr) (n5 c5:Nat) (x6:Int) (x7:Int) (x8:Int) (x9:Int) (e10:Option (TypeId × Value)),v1=(vtup [(vag [(vsl a3 n3 c3),(vsl a4 n4 c4),(vsl a5 n5 c5),(vi x6),(vi x7),(vi x8),(vi x9)]),(ifv e10)])∧(((Option.isSome e10)=true→R (vb false) h2)∧((Option.isSome e10)=false→(∀(b12:Nat),h2 b12=none→let h13:Hp:=Hp.set h2 b12 (cellsO [(vi 3),(vi 0),(vi 0),(vi 0),(vi 0),(vi 0),(vi 0)] 35);(∀(b14:Nat),h13 b14=none→let h15:Hp:=Hp.set h13 b14 (cellsO [(vsl (some (⟨b12,0,none⟩:Addr)) 1 1)] 30);(CallOK Tryz.prog 9 [(vag [(vsl a3 n3 c3),(vsl a4 n4 c4),(vsl a5 n5 c5),(vi x6),(vi x7),(vi x8),(vi x9)]),(vsl (some (⟨b14,0,none⟩:Addr)) 1 1)] h15 fun v16 h17=>∃(a18:Option Addr) (n18 c18:Nat) (x19:Int),v16=(vtup [(vsl a18 n18 c18),(vi x19)])∧(((decide ((((n18:Nat):Int):Int)≠1))=true→R (vb false) h17)∧((decide ((((n18:Nat):Int):Int)≠1))=false→(CallOK Tryz.prog 13 [(vs u_s)] h17 fun v21 h22=>∃(a23:Option Addr) (n23 c23:Nat) (a24:Option Addr) (n24 c24:Nat) (a25:Option Addr) (n25 c25:Nat) (x26:Int) (x27:Int) (x28:Int) (x29:Int) (p30:Bool),v21=(vtup [(vag [(vsl a23 n23 c23),(vsl a24 n24 c24),(vsl a25 n25 c25),(vi x26),(vi x27),(vi x28),(vi x29)]),(vb p30)])∧(((!p30)=false→(∀(b31:Nat),h22 b31=none→let h32:Hp:=Hp.set h22 b31 (cellsO [(vsl u_parta u_partn u_partc),(vsl u_morea u_moren u_morec)] 30);(∃(J33:SV→Hp→Prop),((!p30)=false→(CallOK Tryz.prog 14 [(vsl (some (⟨b31,0,none⟩:Addr)) 2 2)] h32 fun v34 h35=>∃(p36:Bool),v34=(vb p36)∧J33 (.t (.one (.v (vb p36)))) h35))∧(¬((!p30)=false)→J33 (.t (.one (.v (vb false)))) h32)∧∀(h37:Hp) (p38:Bool),J33 (.t (.one (.v (vb p38)))) h37→(((bif (!p30) then true else(!p38))=true→R (vb true) h37)∧((bif (!p30) then true else(!p38))=false→(∃(I41:List Value→Hp→Prop) (m42:List Value→Hp→Nat),I41 [(vi (-1)),(vi 0)] h37∧∀(vs43:List Value) (h44:Hp),I41 vs43 h44→∃(x45:Int) (x46:Int),vs43=[(vi x45),(vi x46)]∧(((decide ((x46:Int) < ((u_partn:Nat):Int)))=true→(∃(b49 o50:Nat),(u_parta=some ⟨b49,o50,none⟩∧(0:Int)≤x46∧x46 < ((u_partn:Nat):Int))∧(∃(x51:Int),(Hp.cell h44 b49 (o50+x46.toNat*7)=some (vi x51))∧(∃(x52:Int),(Rd Tryz.prog (Builtin.max_ #[3,3] 3 #[(vi x45),(vi x51)]) h44 (vi x52))∧(∃(x54:Int),(IsW x54 (x46+1))∧(I41 [(vi x52),(vi x54)] h44∧m42 [(vi x52),(vi x54)] h44 < m42 vs43 h44))))))∧((decide ((x46:Int) < ((u_partn:Nat):Int)))=false→(SemOK Tryz.prog (Builtin.append_ #[30,30] 30 #[(vsl none 0 0),(vsl u_parta u_partn u_partc)]) h44 fun v55 h56=>∃(a57:Option Addr) (n57 c57:Nat),v55=(vsl a57 n57 c57)∧(SemOK Tryz.prog (Builtin.append_ #[30,30] 30 #[(vsl a57 n57 c57),(vsl u_morea u_moren u_morec)]) h56 fun v58 h59=>∃(a60:Option Addr) (n60 c60:Nat),v58=(vsl a60 n60 c60)∧(∀(b61:Nat),h59 b61=none→let h62:Hp:=Hp.set h59 b61 (cellsO [(vsl u_parta u_partn u_partc)] 30);(CallOK Tryz.prog 9 [(vag [(vsl a23 n23 c23),(vsl a24 n24 c24),(vsl a25 n25 c25),(vi x26),(vi x27),(vi x28),(vi x29)]),(vsl (some (⟨b61,0,none⟩:Addr)) 1 1)] h62 fun v63 h64=>∃(a65:Option Addr) (n65 c65:Nat) (x66:Int),v63=(vtup [(vsl a65 n65 c65),(vi x66)])∧(∀(b67:Nat),h64 b67=none→let h68:Hp:=Hp.set h64 b67 (cellsO [(vsl a60 n60 c60)] 30);(CallOK Tryz.prog 9 [(vag [(vsl a23 n23 c23),(vsl a24 n24 c24),(vsl a25 n25 c25),(vi x26),(vi x27),(vi x28),(vi x29)]),(vsl (some (⟨b67,0,none⟩:Addr)) 1 1)] h68 fun v69 h70=>∃(a71:Option Addr) (n71 c71:Nat) (x72:Int),v69=(vtup [(vsl a71 n71 c71),(vi x72)])∧(∃(x73:Int),((decide ((x45:Int) < 0))=false→IsW x73 (x26+x29))∧(∃(x74:Int),((decide ((x45:Int) < 0))=false→IsW x74 (x45 - x28))∧(∃(x75:Int),((decide ((x45:Int) < 0))=false→IsW x75 (x26+x29))∧(∃(x76:Int),((decide ((x45:Int) < 0))=false→IsW x76 (x45 - x28))∧(∃(J77:SV→Hp→Prop),((decide ((x45:Int) < 0))=false→(CallOK Tryz.prog 16 [(vsl a65 n65 c65),(vi x73),(vi x74)] h70 fun v78 h79=>∃(a80:Option Addr) (n80 c80:Nat),v78=(vsl a80 n80 c80)∧J77 (.t (.one (.v (vsl a80 n80 c80)))) h79))∧(¬((decide ((x45:Int) < 0))=false)→J77 (.t (.one (.v (vsl none 0 0)))) h70)∧∀(h81:Hp) (a82:Option Addr) (n82 c82:Nat),J77 (.t (.one (.v (vsl a82 n82 c82)))) h81→(∃(J83:SV→Hp→Prop),((decide ((x45:Int) < 0))=false→(CallOK Tryz.prog 16 [(vsl a71 n71 c71),(vi x75),(vi x76)] h81 fun v84 h85=>∃(a86:Option Addr) (n86 c86:Nat),v84=(vsl a86 n86 c86)∧J83 (.t (.one (.v (vsl a86 n86 c86)))) h85))∧(¬((decide ((x45:Int) < 0))=false)→J83 (.t (.one (.v (vsl none 0 0)))) h81)∧∀(h87:Hp) (a88:Option Addr) (n88 c88:Nat),J83 (.t (.one (.v (vsl a88 n88 c88)))) h87→(∃(J89:SV→Hp→Prop),((decide ((x45:Int) < 0))=false→(CallOK Tryz.prog 11 [(vsl a82 n82 c82),(vsl a88 n88 c88)] h87 fun v90 h91=>∃(p92:Bool),v90=(vb p92)∧J89 (.t (.one (.v (vb p92)))) h91))∧(¬((decide ((x45:Int) < 0))=false)→J89 (.t (.one (.v (vb false)))) h87)∧∀(h93:Hp) (p94:Bool),J89 (.t (.one (.v (vb p94)))) h93→R (vb (bif (decide ((x45:Int) < 0)) then true else p94)) h93)))))))))))))))))))))∧(¬((!p30)=false)→(∃(J95:SV→Hp→Prop),((!p30)=false→(CallOK Tryz.prog 14 [(vsl none 0 0)] h22 fun v96 h97=>∃(p98:Bool),v96=(vb p98)∧J95 (.t (.one (.v (vb p98)))) h97))∧(¬((!p30)=false)→J95 (.t (.one (.v (vb false)))) h22)∧∀(h99:Hp) (p100:Bool),J95 (.t (.one (.v (vb p100)))) h99→(((bif (!p30) then true else(!p100))=true→R (vb true) h99)∧((bif (!p30) then true else(!p100))=false→(∃(I103:List Value→Hp→Prop) (m104:List Value→Hp→Nat),I103 [(vi (-1)),(vi 0)] h99∧∀(vs105:List Value) (h106:Hp),I103 vs105 h106→∃(x107:Int) (x108:Int),vs105=[(vi x107),(vi x108)]∧(((decide ((x108:Int) < ((u_partn:Nat):Int)))=true→(∃(b111 o112:Nat),(u_parta=some ⟨b111,o112,none⟩∧(0:Int)≤x108∧x108 < ((u_partn:Nat):Int))∧(∃(x113:Int),(Hp.cell h106 b111 (o112+x108.toNat*7)=some (vi x113))∧(∃(x114:Int),(Rd Tryz.prog (Builtin.max_ #[3,3] 3 #[(vi x107),(vi x113)]) h106 (vi x114))∧(∃(x116:Int),(IsW x116 (x108+1))∧(I103 [(vi x114),(vi x116)] h106∧m104 [(vi x114),(vi x116)] h106 < m104 vs105 h106))))))∧((decide ((x108:Int) < ((u_partn:Nat):Int)))=false→(SemOK Tryz.prog (Builtin.append_ #[30,30] 30 #[(vsl none 0 0),(vsl u_parta u_partn u_partc)]) h106 fun v117 h118=>∃(a119:Option Addr) (n119 c119:Nat),v117=(vsl a119 n119 c119)∧(SemOK Tryz.prog (Builtin.append_ #[30,30] 30 #[(vsl a119 n119 c119),(vsl u_morea u_moren u_morec)]) h118 fun v120 h121=>∃(a122:Option Addr) (n122 c122:Nat),v120=(vsl a122 n122 c122)∧(∀(b123:Nat),h121 b123=none→let h124:Hp:=Hp.set h121 b123 (cellsO [(vsl u_parta u_partn u_partc)] 30);(CallOK Tryz.prog 9 [(vag [(vsl a23 n23 c23),(vsl a24 n24 c24),(vsl a25 n25 c25),(vi x26),(vi x27),(vi x28),(vi x29)]),(vsl (some (⟨b123,0,none⟩:Addr)) 1 1)] h124 fun v125 h126=>∃(a127:Option Addr) (n127 c127:Nat) (x128:Int),v125=(vtup [(vsl a127 n127 c127),(vi x128)])∧(∀(b129:Nat),h126 b129=none→let h130:Hp:=Hp.set h126 b129 (cellsO [(vsl a122 n122 c122)] 30);(CallOK Tryz.prog 9 [(vag [(vsl a23 n23 c23),(vsl a24 n24 c24),(vsl a25 n25 c25),(vi x26),(vi x27),(vi x28),(vi x29)]),(vsl (some (⟨b129,0,none⟩:Addr)) 1 1)] h130 fun v131 h132=>∃(a133:Option Addr) (n133 c133:Nat) (x134:Int),v131=(vtup [(vsl a133 n133 c133),(vi x134)])∧(∃(x135:Int),((decide ((x107:Int) < 0))=false→IsW x135 (x26+x29))∧(∃(x136:Int),((decide ((x107:Int) < 0))=false→IsW x136 (x107 - x28))∧(∃(x137:Int),((decide ((x107:Int) < 0))=false→IsW x137 (x26+x29))∧(∃(x138:Int),((decide ((x107:Int) < 0))=false→IsW x138 (x107 - x28))∧(∃(J139:SV→Hp→Prop),((decide ((x107:Int) < 0))=false→(CallOK Tryz.prog 16 [(vsl a127 n127 c127),(vi x135),(vi x136)] h132 fun v140 h141=>∃(a142:Option Addr) (n142 c142:Nat),v140=(vsl a142 n142 c142)∧J139 (.t (.one (.v (vsl a142 n142 c142)))) h141))∧(¬((decide ((x107:Int) < 0))=false)→J139 (.t (.one (.v (vsl none 0 0)))) h132)∧∀(h143:Hp) (a144:Option Addr) (n144 c144:Nat),J139 (.t (.one (.v (vsl a144 n144 c144)))) h143→(∃(J145:SV→Hp→Prop),((decide ((x107:Int) < 0))=false→(CallOK Tryz.prog 16 [(vsl a133 n133 c133),(vi x137),(vi x138)] h143 fun v146 h147=>∃(a148:Option Addr) (n148 c148:Nat),v146=(vsl a148 n148 c148)∧J145 (.t (.one (.v (vsl a148 n148 c148)))) h147))∧(¬((decide ((x107:Int) < 0))=false)→J145 (.t (.one (.v (vsl none 0 0)))) h143)∧∀(h149:Hp) (a150:Option Addr) (n150 c150:Nat),J145 (.t (.one (.v (vsl a150 n150 c150)))) h149→(∃(J151:SV→Hp→Prop),((decide ((x107:Int) < 0))=false→(CallOK Tryz.prog 11 [(vsl a144 n144 c144),(vsl a150 n150 c150)] h149 fun v152 h153=>∃(p154:Bool),v152=(vb p154)∧J151 (.t (.one (.v (vb p154)))) h153))∧(¬((decide ((x107:Int) < 0))=false)→J151 (.t (.one (.v (vb false)))) h149)∧∀(h155:Hp) (p156:Bool),J151 (.t (.one (.v (vb p156)))) h155→R (vb (bif (decide ((x107:Int) < 0)) then true else p156)) h155))))))))))))))))))))))))))))))
theorem ok_top_TopKeep {u_s:ByteArray}{u_parta:Option Addr}{u_partn u_partc:Nat}{u_morea:Option Addr}{u_moren u_morec:Nat}{h:Hp}{R:Value→Hp→Prop}(H:VC_top_TopKeep u_s u_parta u_partn u_partc u_morea u_moren u_morec h R):CallOK Tryz.prog 5 [(vs u_s),(vsl u_parta u_partn u_partc),(vsl u_morea u_moren u_morec)] h R:=
 call_of (cfg:=⟨[],[(12,([12,13],[.one (.int .i64),.one (.int .i64)],[]))],[(18,[0,1,2,3,4,5,6,7,8,9,10,11,12,14,15,16,17,18,19,20,21,22,23,13,24,25,26,27])]⟩) noNG mixed Tryz.func5 [.one (.v (vs u_s)),.one (.v (vsl u_parta u_partn u_partc)),.one (.v (vsl u_morea u_moren u_morec))] (by kernel_rfl) rfl (by kernel_rfl) H
end Go.Proofs.YtejefijpcggkfaaGreatDoor
namespace Go.Proofs.YtejefijpcggkfaaGreatDoor
open Go Go.Vc
set_option linter.unusedVariables false
set_option maxRecDepth 100000
section
variable {h:Hp}{R':Value→Hp→Prop}
theorem top_light_ok {ps:List (List EvL)}{pa:Option Addr}{pn pc:Nat}(TP:TabC encE h pa pn ps)(hK:∀ p h',h.le h'→(p=true→ps.length≤3∧∀ x ∈ ps,x.length≤40∧∀ e ∈ x,EvOK e)→R' (vb p) h'):CallOK Tryz.prog 14 [vsl pa pn pc] h R':=by
 refine ok_top_light ?_
 unfold VC_top_light
 have hpn:pn=ps.length:=TP.r.choose_spec.2.1
 refine⟨fun e=>hK false h (Hp.le_refl h) (fun q=>by cases q),fun e=>?_⟩
 have h3:ps.length≤3:=by have:=of_decide_eq_false e;omega
 refine⟨fun vs hh=>∃ i:Nat,vs=[vi i]∧i≤ps.length∧h.le hh∧∀ x ∈ ps.take i,x.length≤40∧∀ e ∈ x,EvOK e,fun vs hh=>ps.length - (vint vs 0).toNat,⟨0,rfl,Nat.zero_le _,Hp.le_refl h,by simp⟩,?_⟩
 rintro vs hh ⟨i,rfl,hi,lh,hz⟩
 refine⟨i,rfl,fun e1=>?_,fun e1=>?_⟩
 ·have hlt:i < ps.length:=by have:=of_decide_eq_true e1;omega
  have hx:ps[i]?=some ps[i]:=List.getElem?_eq_getElem hlt
  have tk:ps.take (i+1)=ps.take i++[ps[i]]:=List.take_succ_eq_append_getElem hlt
  generalize ps[i]=part at *
  obtain⟨b,o,a',c',ea,hcl,SP,_⟩:=TP.cell hx
  have hb1:pa=some ⟨b,o,none⟩∧(0:Int)≤i∧(i:Int) < ((pn:Nat):Int):=⟨ea,by omega,by omega⟩
  refine⟨b,o,hb1,a',part.length,c',by rw [Int.toNat_natCast];exact cell_le lh hcl,fun e2=>hK false hh lh (fun q=>by cases q),fun e2=>?_⟩
  have h40:part.length≤40:=by have:=of_decide_eq_false e2;omega
  refine⟨fun vs hh'=>∃ j:Nat,vs=[vi j]∧j≤part.length∧hh.le hh'∧∀ e ∈ part.take j,EvOK e,fun vs hh=>part.length - (vint vs 0).toNat,⟨0,rfl,Nat.zero_le _,Hp.le_refl _,by simp⟩,?_⟩
  rintro vs hh3 ⟨j,rfl,hj,lh3,hc3⟩
  have lh3':=Hp.le_trans lh lh3
  have hc1:=cell_le lh3' hcl
  refine⟨j,rfl,b,o,hb1,a',part.length,c',by rw [Int.toNat_natCast];exact hc1,fun e3=>?_,fun e3=>?_⟩
  ·have hltj:j < part.length:=by have:=of_decide_eq_true e3;omega
   have hxj:part[j]?=some part[j]:=List.getElem?_eq_getElem hltj
   have tkj:part.take (j+1)=part.take j++[part[j]]:=List.take_succ_eq_append_getElem hltj
   obtain⟨b2,o2,ea2,hr2⟩:=(SP.le lh3').get (sz:=7) (fun _=>rfl) (by decide) hxj
   generalize part[j]=ev at *
   refine⟨b,o,hb1,a',part.length,c',by rw [Int.toNat_natCast];exact hc1,b2,o2,⟨ea2,by omega,by omega⟩,_,_,_,_,_,_,_,by rw [Int.toNat_natCast];exact hr2,?_⟩
   refine source_Check_ok (e:=ev) fun h54 l54=>⟨_,rfl,fun e4=>hK false h54 (Hp.le_trans lh3' l54) (fun q=>by cases q),fun e4=>?_⟩
   rw [errV_some] at e4
   have hev:chkE ev=0:=by simpa using e4
   refine⟨_,isW (by unfold InR;omega),⟨j+1,rfl,by omega,Hp.le_trans lh3 l54,fun e he=>?_⟩,by simp [vint];omega⟩
   rw [tkj] at he
   rcases List.mem_append.1 he with h1|h1
   ·exact hc3 e h1
   ·rw [List.mem_singleton.1 h1];exact chkE_ok hev
  ·have hge:j=part.length:=by have:=of_decide_eq_false e3;omega
   rw [hge,List.take_length] at hc3
   refine⟨_,isW (by unfold InR;omega),⟨i+1,rfl,by omega,lh3',fun x hx=>?_⟩,by simp [vint];omega⟩
   rw [tk] at hx
   rcases List.mem_append.1 hx with h1|h1
   ·exact hz x h1
   ·rw [List.mem_singleton.1 h1];exact⟨h40,hc3⟩
 ·have hge:i=ps.length:=by have:=of_decide_eq_false e1;omega
  rw [hge,List.take_length] at hz
  exact hK true hh lh fun _=>⟨h3,hz⟩
def uptoL (size far:Int)(L:List (PK × List Vl)):List (PK × List Vl):=L.filter fun x=>decide (x.1.1+size≤far)
theorem growL_snoc {α β:Type}(R:List (GRow α β))(r:GRow α β):growL (R++[r])=growL R++[(r.1,r.2.2)]:=by unfold growL;rw [List.map_append];rfl
theorem top_upto_ok {L:List (PK × List Vl)}{a:Option Addr}{n c:Nat}{size far:Int}(G:GTab encV pkRw h a n L)(hn:n≤1000000)(hb:∀ x ∈ L,InR (x.1.1+size))(hK:∀ a' c' h',h.le h'→GTab encV pkRw h' a' (uptoL size far L).length (uptoL size far L)→R' (vsl a' (uptoL size far L).length c') h'):CallOK Tryz.prog 16 [vsl a n c,vi size,vi far] h R':=by
 obtain⟨R,rfl,hl,H,H2⟩:=G
 have hRl:n=R.length:=by rw [hl];simp [growL]
 subst hRl
 clear hl
 refine ok_top_upto ?_
 unfold VC_top_upto
 have S:SlP (growV pkRw) h a R.length R:=⟨rfl,H⟩
 refine⟨fun vs hh=>∃(i:Nat) (a':Option Addr) (c':Nat) (Q:List (GRow Vl PK)),vs=[vsl a' Q.length c',vi i]∧i≤R.length∧Q.length≤i∧growL Q=uptoL size far (growL (R.take i))∧OwnV h hh 51 4 a' Q.length c' (Q.flatMap (growV pkRw))∧∀ r ∈ Q,HasRow h r.2.1.1 (r.2.2.flatMap encV),fun vs hh=>R.length - (vint vs 1).toNat,⟨0,none,0,[],rfl,Nat.zero_le _,Nat.le_refl _,rfl,OwnV.nil (Hp.le_refl h) _ _,fun r hr=>by cases hr⟩,?_⟩
 rintro vs hh ⟨i,a',c',Q,rfl,hi,hQi,eQ,O,HQ⟩
 refine⟨a',_,c',_,rfl,fun e=>?_,fun e=>?_⟩
 ·have hlt:i < R.length:=by have:=of_decide_eq_true e;omega
  have hx:R[i]?=some R[i]:=List.getElem?_eq_getElem hlt
  have tk:R.take (i+1)=R.take i++[R[i]]:=List.take_succ_eq_append_getElem hlt
  have hm:R[i] ∈ R:=List.getElem_mem hlt
  generalize R[i]=r at *
  have hbr:InR (r.1.1+size):=hb (r.1,r.2.2) (List.mem_map.2 ⟨r,hm,rfl⟩)
  obtain⟨b,o,ea,hr⟩:=S.get (sz:=4) (fun r=>pkRw_len _ _) (by decide) hx
  have hr':=Hp.row_le O.le hr
  have tkU:uptoL size far (growL (R.take (i+1)))=uptoL size far (growL (R.take i))++if r.1.1+size≤far then [(r.1,r.2.2)] else []:=by
   rw [tk,growL_snoc]
   unfold uptoL
   rw [List.filter_append,List.filter_cons,List.filter_nil]
   by_cases hq:r.1.1+size≤far<;>simp [hq]
  intro J27
  have hJ:∀ a2 c2 (Q2:List (GRow Vl PK)) h2,Q2.length≤i+1→growL Q2=uptoL size far (growL (R.take (i+1)))→OwnV h h2 51 4 a2 Q2.length c2 (Q2.flatMap (growV pkRw))→(∀ r ∈ Q2,HasRow h r.2.1.1 (r.2.2.flatMap encV))→J27 a2 Q2.length c2 h2:=by
   intro a2 c2 Q2 h2 q1 q2 q3 q4
   exact⟨_,isW (by unfold InR;omega),⟨i+1,a2,c2,Q2,rfl,by omega,q1,q2,q3,q4⟩,by simp [vint];omega⟩
  clear_value J27
  refine⟨b,o,⟨ea,by omega,by omega⟩,r.1.1,Hp.row_cell (by rw [Int.toNat_natCast];exact hr') (i:=0) rfl,_,isW hbr,fun e2=>?_,fun e2=>?_⟩
  ·have e2:=of_decide_eq_true e2
   refine⟨b,o,⟨ea,by omega,by omega⟩,_,_,_,_,_,_,by rw [Int.toNat_natCast];exact hr',?_⟩
   intro b20 hb20 h21
   refine OwnV.append elOut (OwnV.set hb20 _ O) (HasRow.new _ _ (growV pkRw r) _) (m:=1) rfl ?_ (by omega) (by omega) fun a2 c2 h2 O2 _ _=>⟨_,_,_,rfl,?_⟩
   ·intro u hu
    simp only [growV,pkRw,List.mem_cons,List.not_mem_nil,or_false] at hu
    rcases hu with rfl|rfl|rfl|rfl<;>rfl
   ·have:=hJ a2 c2 (Q++[r]) h2 (by simp;omega) (by rw [growL_snoc,eQ,tkU,if_pos e2]) (by rw [List.flatMap_append,List.length_append,List.flatMap_singleton];exact O2) (by
     intro r' hr2
     rcases List.mem_append.1 hr2 with h1|h1
     ·exact HQ r' h1
     ·rw [List.mem_singleton.1 h1];exact H2 r hm)
    rw [List.length_append] at this
    exact this
  ·have e2:=of_decide_eq_false e2
   exact hJ a' c' Q hh (by omega) (by rw [eQ,tkU,if_neg e2,List.append_nil]) O HQ
 ·have hge:i=R.length:=by have:=of_decide_eq_false e;omega
  subst hge
  rw [List.take_length] at eQ
  have hlen:Q.length=(uptoL size far (growL R)).length:=by rw [←eQ];simp [growL]
  have:=hK a' c' hh O.le ⟨Q,eQ,rfl,O.row,fun r hr=>(HQ r hr).le O.le⟩
  rw [←hlen] at this
  exact this
end
end Go.Proofs.YtejefijpcggkfaaGreatDoor
namespace Go.Proofs.YtejefijpcggkfaaGreatDoor
open Go Go.Vc Go.Txt
set_option linter.unusedVariables false
set_option maxRecDepth 100000
theorem slb_lit (h:Hp)(b:Nat)(l:List Wd)(hl:l.length≤maxLen):SlB (h.set b (cellsO (l.flatMap encB) 9)) (some ⟨b,0,none⟩) l.length l:=⟨rfl,(OwnS.new h b 9 (sz:=1) (n:=l.length) (l.flatMap encB) (by induction l with
 | nil=>rfl
 | cons w l ih=>have:=ih (by simp at hl;omega);simp [encB] at this ⊢;omega) hl).row⟩
theorem number_range {s:RS}{most:Int}(hm:0≤most):0≤(s.number most).1∧(s.number most).1≤most:=by
 unfold RS.number
 split
 ·exact⟨Int.le_refl _,hm⟩
 ·split
  ·exact⟨Int.le_refl _,hm⟩
  ·rename_i h
   exact⟨by omega,(natF_low hm).2⟩
theorem joinP_le (op:Int)(x y:List Nd)(s:RS):(joinP op x y s).1.length≤40:=by
 unfold joinP
 split
 ·simp
 ·rw [joinL_length];omega
theorem read_const {w:Wd}(h:w ∈ constW):(readV w).1=constV w:=by
 have h2:w=wNull∨w=wTrue∨w=wFalse:=by simpa [constW] using h
 rcases h2 with rfl|rfl|rfl<;>rfl
theorem reader_atom_ok {P:Ps}{n:Nat}(F:Reads 42 P n)(kp:KP P n):Reads 152 (atomP P) (n+1):=by
 intro h0 h g s D E S R hK
 refine ok_query_reader_atom ?_
 unfold VC_query_reader_atom
 intro b1 hb1 h2
 have hl:h.le h2:=Hp.le_set (Hp.le_refl h) hb1 _
 have hb:=S.big
 have tk:=@taken s ([wOpen]++constW++fieldW)
 have sp:=s.is_spec ([wOpen]++constW++fieldW)
 have gi:=goes_is S.good ([wOpen]++constW++fieldW)
 have nr:=@number_range
 unfold atomP at hK
 simp only at hK
 refine reader_is_ok (D.le hl) (l:=[wOpen]++constW++fieldW) (slb_lit h b1 ([wOpen]++constW++fieldW) (by decide)) (by decide) (by omega) fun h4 D4 M4=>⟨_,rfl,?_⟩
 have M04:Mut (At g) h (At g) h4:=(Mut.of_le hl).trans M4
 generalize s.is ([wOpen]++constW++fieldW)=A at *
 obtain⟨w,s1⟩:=A
 simp -zeta only at hK D4 tk sp gi ⊢
 have hS1:=S.goes gi
 have E4:=E.mut M04
 refine⟨_,rd_eqBs (b:=wOpen),fun e=>?_,fun e1=>?_⟩
 ·have ew:w=wOpen:=of_decide_eq_true e
  have tk:=tk (by rw [ew];decide)
  rw [if_pos ew] at hK
  have d1:=S.d1
  have hdp:=gi.deep
  have Sn:SOk n s1:=⟨hS1.good,by have:=S.len;omega,hS1.big,hS1.d0,hS1.d1⟩
  have kd:=keeps_down kp (Goes.refl hS1.good) (Nat.le_of_lt Sn.len)
  refine reader_down_ok ⟨_,Tryz.func42,by kernel_rfl,by kernel_rfl⟩ F kp D4 E4 Sn (by omega) fun a c h8 D8 N8 M8=>⟨_,_,_,rfl,?_⟩
  refine reader_must_ok D8 (by have:=kd.len;have:=hS1.big;omega) fun h11 D11 M11=>⟨rfl,?_⟩
  exact hK a c h11 D11 ((N8.base (M04.up D4.al)).mut D.al M11) ((M04.trans M8).trans M11)
 have e1:¬ w=wOpen:=of_decide_eq_false e1
 rw [if_neg e1] at hK
 have hwc:w ∈ constW↔w=wNull∨w=wTrue∨w=wFalse:=by simp [constW]
 refine⟨_,rd_eqBs (b:=wNull),?_⟩
 intro J18
 have yes:w ∈ constW→J18 true:=by
  intro hw
  rw [if_pos hw] at hK
  have hwl:w.length≤1000000:=by
   have:w=wNull∨w=wTrue∨w=wFalse:=hwc.1 hw
   rcases this with rfl|rfl|rfl<;>decide
  refine⟨fun _=>?_,fun e=>by cases e⟩
  refine value_Parse_ok hwl E4.now.p E4.now.e ⟨_,_,_,rfl,?_⟩
  rw [read_const hw]
  refine query_leaf_ok ⟨1,0,0,0,constV w⟩ fun a c h26 N26 _ l26=>⟨_,_,_,rfl,?_⟩
  exact hK a c h26 (D4.le l26) (N26.base (M04.up D4.al)) (M04.trans (Mut.of_le l26))
 have no:¬ w ∈ constW→J18 false:=by
  intro hw
  rw [if_neg hw] at hK
  refine⟨fun e=>by (cases e),fun _=>⟨_,rd_eqBs (b:=[]),fun e=>?_,fun e=>?_⟩⟩
  ·rw [if_pos (of_decide_eq_true e)] at hK
   have nr1:=nr (s:=s1) (most:=1000000000) (by decide)
   refine reader_number_ok D4 E4 (by have:=hS1.big;omega) (by decide) (by decide) fun h30 D30 M30=>⟨_,rfl,value_Number_ok ⟨_,_,rfl,?_⟩⟩
   have en:numV (s1.number 1000000000).1=(1,(s1.number 1000000000).1):=by unfold numV;rw [if_neg (by omega)]
   rw [en]
   refine query_leaf_ok ⟨1,0,0,0,(1,(s1.number 1000000000).1)⟩ fun a c h37 N37 _ l37=>⟨_,_,_,rfl,?_⟩
   exact hK a c h37 (D30.le l37) (N37.base ((M04.trans M30).up D30.al)) ((M04.trans M30).trans (Mut.of_le l37))
  ·have e3:=of_decide_eq_false e
   rw [if_neg e3] at hK
   have hm:w ∈ fieldW:=by
    rcases sp with ⟨q,_⟩|⟨w',r,_,hm,q,_⟩
    ·exact absurd q e3
    ·rw [←q] at hm
     rcases List.mem_append.1 hm with h4|h4
     ·rcases List.mem_append.1 h4 with h5|h5
      ·exact absurd (by simpa using h5) e1
      ·exact absurd h5 hw
     ·exact h4
   obtain⟨fa,fc,hf,hfs⟩:=E4.now.f
   refine⟨_,_,_,hf,slices_Index_ok hfs (by decide) ⟨_,rfl,?_⟩⟩
   rw [if_pos hm]
   refine query_leaf_ok ⟨2,0,0,fieldW.idxOf w,(0,0)⟩ fun a c h44 N44 _ l44=>⟨_,_,_,rfl,?_⟩
   exact hK a c h44 (D4.le l44) (N44.base (M04.up D4.al)) (M04.trans (Mut.of_le l44))
 clear_value J18
 refine⟨fun e=>?_,fun e2=>⟨_,rd_eqBs (b:=wTrue),fun e=>?_,fun e3=>⟨_,rd_eqBs (b:=wFalse),?_⟩⟩⟩
 ·rw [e];exact yes (hwc.2 (.inl (of_decide_eq_true e)))
 ·rw [e];exact yes (hwc.2 (.inr (.inl (of_decide_eq_true e))))
 ·have e2:=of_decide_eq_false e2
  have e3:=of_decide_eq_false e3
  by_cases hf:w=wFalse
  ·rw [decide_eq_true hf];exact yes (hwc.2 (.inr (.inr hf)))
  ·rw [decide_eq_false hf]
   refine no fun h=>?_
   rcases hwc.1 h with h|h|h
   ·exact e2 h
   ·exact e3 h
   ·exact hf h
theorem reader_unary_ok {U A:Ps}{n:Nat}(F:Reads 150 U n)(ku:KP U n)(FA:Reads 152 A (n+1)):Reads 150 (unaryP U A) (n+1):=by
 intro h0 h g s D E S R hK
 refine ok_query_reader_unary ?_
 unfold VC_query_reader_unary
 intro b1 hb1 h2
 have hl:h.le h2:=Hp.le_set (Hp.le_refl h) hb1 _
 have hb:=S.big
 have tk:=@taken s [wMinus]
 have gi:=goes_is S.good [wMinus]
 unfold unaryP at hK
 have hi:=@RS.is_spec s [wMinus]
 refine reader_is_ok (D.le hl) (slb_one h b1 wMinus) (by decide) (by omega) fun h4 D4 M4=>⟨_,rfl,?_⟩
 have M04:Mut (At g) h (At g) h4:=(Mut.of_le hl).trans M4
 generalize s.is [wMinus]=B at *
 obtain⟨w,s1⟩:=B
 simp -zeta only at hK D4 tk gi hi ⊢
 have hS1:=S.goes gi
 have E4:=E.mut M04
 refine⟨_,rd_eqBs (b:=[]),fun e=>?_,fun e=>?_⟩
 ·have ew:=of_decide_eq_true e
  rw [if_pos ew] at hK
  have es:s1=s:=by
   rcases hi with ⟨_,q⟩|⟨w',r,_,hm,q,_⟩
   ·exact q
   ·rw [ew] at q;rw [←q] at hm;exact absurd hm (by decide)
  subst es
  exact FA D4 E4 hS1 fun a c h8 D8 N8 M8=>⟨_,_,_,rfl,hK a c h8 D8 (N8.base (M04.up D4.al)) (M04.trans M8)⟩
 ·have ew:=of_decide_eq_false e
  rw [if_neg ew] at hK
  have tk:=tk ew
  have d1:=S.d1
  have hdp:=gi.deep
  have Sn:SOk n s1:=⟨hS1.good,by have:=S.len;omega,hS1.big,hS1.d0,hS1.d1⟩
  have kd:=keeps_down ku (Goes.refl hS1.good) (Nat.le_of_lt Sn.len)
  refine reader_down_ok ⟨_,Tryz.func150,by kernel_rfl,by kernel_rfl⟩ F ku D4 E4 Sn (by omega) fun a c h8 D8 N8 M8=>⟨_,_,_,rfl,?_⟩
  refine reader_join_ok D8 N8.s (nd_nil h8 h8).s wf_nil (by have:=kd.le;omega) (by simp) fun a c h15 D15 N15 M15=>⟨_,_,_,rfl,?_⟩
  exact hK a c h15 D15 (N15.base ((M04.trans M8).up D8.al)) ((M04.trans M8).trans M15)
theorem reader_not_ok {U A:Ps}{n:Nat}(F:Reads 106 U n)(ku:KP U n)(FA:Reads 127 A (n+1)):Reads 106 (notP U A) (n+1):=by
 intro h0 h g s D E S R hK
 refine ok_query_reader_not ?_
 unfold VC_query_reader_not
 intro b1 hb1 h2
 have hl:h.le h2:=Hp.le_set (Hp.le_refl h) hb1 _
 have hb:=S.big
 have tk:=@taken s [wNot]
 have gi:=goes_is S.good [wNot]
 unfold notP at hK
 have hi:=@RS.is_spec s [wNot]
 refine reader_is_ok (D.le hl) (slb_one h b1 wNot) (by decide) (by omega) fun h4 D4 M4=>⟨_,rfl,?_⟩
 have M04:Mut (At g) h (At g) h4:=(Mut.of_le hl).trans M4
 generalize s.is [wNot]=B at *
 obtain⟨w,s1⟩:=B
 simp -zeta only at hK D4 tk gi hi ⊢
 have hS1:=S.goes gi
 have E4:=E.mut M04
 refine⟨_,rd_eqBs (b:=[]),fun e=>?_,fun e=>?_⟩
 ·have ew:=of_decide_eq_true e
  rw [if_pos ew] at hK
  have es:s1=s:=by
   rcases hi with ⟨_,q⟩|⟨w',r,_,hm,q,_⟩
   ·exact q
   ·rw [ew] at q;rw [←q] at hm;exact absurd hm (by decide)
  subst es
  exact FA D4 E4 hS1 fun a c h8 D8 N8 M8=>⟨_,_,_,rfl,hK a c h8 D8 (N8.base (M04.up D4.al)) (M04.trans M8)⟩
 ·have ew:=of_decide_eq_false e
  rw [if_neg ew] at hK
  have tk:=tk ew
  have d1:=S.d1
  have hdp:=gi.deep
  have Sn:SOk n s1:=⟨hS1.good,by have:=S.len;omega,hS1.big,hS1.d0,hS1.d1⟩
  have kd:=keeps_down ku (Goes.refl hS1.good) (Nat.le_of_lt Sn.len)
  refine reader_down_ok ⟨_,Tryz.func106,by kernel_rfl,by kernel_rfl⟩ F ku D4 E4 Sn (by omega) fun a c h8 D8 N8 M8=>⟨_,_,_,rfl,?_⟩
  refine reader_join_ok D8 N8.s (nd_nil h8 h8).s wf_nil (by have:=kd.le;omega) (by simp) fun a c h15 D15 N15 M15=>⟨_,_,_,rfl,?_⟩
  exact hK a c h15 D15 (N15.base ((M04.trans M8).up D8.al)) ((M04.trans M8).trans M15)
theorem reader_compare_ok {P:Ps}{n:Nat}(F:Reads 141 P n)(kp:KP P n):Reads 127 (cmpP P) n:=by
 intro h0 h g s D E S R hK
 refine ok_query_reader_compare ?_
 unfold VC_query_reader_compare
 have k:=kp s S.good (Nat.le_of_lt S.len)
 unfold cmpP at hK
 simp only at hK
 refine F D E S fun a3 c3 h2 D2 N2 M2=>⟨_,_,_,rfl,?_⟩
 intro b4 hb4 h5
 have l5:h2.le h5:=Hp.le_set (Hp.le_refl h2) hb4 _
 have S2:=S.goes k.goes
 have G0:=k.goes
 have k0:=k.le
 generalize P s=X at *
 obtain⟨x,s0⟩:=X
 simp only at hK D2 N2 S2 G0 k0
 have gi:=goes_is S2.good [wLt,wGt,wLe,wGe,wEq,wNe,wIs]
 refine reader_is_ok (D2.le l5) (slb_lit h2 b4 [wLt,wGt,wLe,wGe,wEq,wNe,wIs] (by decide)) (by decide) (by have:=S2.big;omega) fun h7 D7 M7=>⟨_,rfl,?_⟩
 have M57:Mut (At g) h2 (At g) h7:=(Mut.of_le l5).trans M7
 have M07:Mut (At g) h (At g) h7:=M2.trans M57
 have N7:=N2.mut D.al M57
 generalize s0.is [wLt,wGt,wLe,wGe,wEq,wNe,wIs]=B at *
 obtain⟨w,s1⟩:=B
 simp -zeta only at hK D7 gi ⊢
 have S7:=S2.goes gi
 have k2:=kp s1 S7.good (Nat.le_of_lt S7.len)
 have kw:=k2.wf
 have kl:=k2.le
 have E7:=E.mut M07
 have sumK:∀{R2:Value→Hp→Prop},(∀ a c h',RdAt h0 h' g (P s1).2→NdAt h7 h' a (P s1).1.length (P s1).1→Mut (At g) h7 (At g) h'→R2 (vsl a (P s1).1.length c) h')→CallOK Tryz.prog 141 [vhp g 0] h7 R2:=fun H=>F D7 E7 S7 H
 have kx:=k.wf
 intro J78
 generalize P s1=Y at *
 obtain⟨y,s2⟩:=Y
 simp -zeta only at hK sumK kw kl ⊢
 refine⟨_,rd_eqBs (b:=wLt),fun e=>?_,fun e1=>⟨_,rd_eqBs (b:=wGt),fun e=>?_,fun e2=>⟨_,rd_eqBs (b:=wLe),fun e=>?_,fun e3=>⟨_,rd_eqBs (b:=wGe),fun e=>?_,fun e4=>⟨_,rd_eqBs (b:=wEq),fun e=>?_,fun e5=>⟨_,rd_eqBs (b:=wNe),fun e=>?_,fun e6=>⟨_,rd_eqBs (b:=wIs),fun e=>?_,fun e7=>?_⟩⟩⟩⟩⟩⟩⟩
 ·rw [if_pos (of_decide_eq_true e)] at hK
  exact sumK fun a c h11 D11 N11 M11=>⟨_,_,_,rfl,reader_join_ok D11 (N7.mut D.al M11).s N11.s kw (by omega) (by omega) fun a c h14 D14 N14 M14=>⟨_,_,_,rfl,hK a c h14 D14 (N14.base ((M07.trans M11).up D11.al)) ((M07.trans M11).trans M14)⟩⟩
 ·rw [if_neg (of_decide_eq_false e1),if_pos (of_decide_eq_true e)] at hK
  exact sumK fun a c h11 D11 N11 M11=>⟨_,_,_,rfl,reader_join_ok D11 N11.s (N7.mut D.al M11).s kx (by omega) (by omega) fun a c h14 D14 N14 M14=>⟨_,_,_,rfl,hK a c h14 D14 (N14.base ((M07.trans M11).up D11.al)) ((M07.trans M11).trans M14)⟩⟩
 ·rw [if_neg (of_decide_eq_false e1),if_neg (of_decide_eq_false e2),if_pos (of_decide_eq_true e)] at hK
  have jl:=joinP_le 11 y x s2
  exact sumK fun a c h11 D11 N11 M11=>⟨_,_,_,rfl,reader_join_ok D11 N11.s (N7.mut D.al M11).s kx (by omega) (by omega) fun a c h14 D14 N14 M14=>⟨_,_,_,rfl,reader_join_ok D14 N14.s (nd_nil h14 h14).s wf_nil (by omega) (by simp) fun a c h17 D17 N17 M17=>⟨_,_,_,rfl,hK a c h17 D17 (N17.base (((M07.trans M11).trans M14).up D14.al)) (((M07.trans M11).trans M14).trans M17)⟩⟩⟩
 ·rw [if_neg (of_decide_eq_false e1),if_neg (of_decide_eq_false e2),if_neg (of_decide_eq_false e3),if_pos (of_decide_eq_true e)] at hK
  have jl:=joinP_le 11 x y s2
  exact sumK fun a c h11 D11 N11 M11=>⟨_,_,_,rfl,reader_join_ok D11 (N7.mut D.al M11).s N11.s kw (by omega) (by omega) fun a c h14 D14 N14 M14=>⟨_,_,_,rfl,reader_join_ok D14 N14.s (nd_nil h14 h14).s wf_nil (by omega) (by simp) fun a c h17 D17 N17 M17=>⟨_,_,_,rfl,hK a c h17 D17 (N17.base (((M07.trans M11).trans M14).up D14.al)) (((M07.trans M11).trans M14).trans M17)⟩⟩⟩
 ·rw [if_neg (of_decide_eq_false e1),if_neg (of_decide_eq_false e2),if_neg (of_decide_eq_false e3),if_neg (of_decide_eq_false e4),if_pos (of_decide_eq_true e)] at hK
  exact sumK fun a c h11 D11 N11 M11=>⟨_,_,_,rfl,reader_join_ok D11 (N7.mut D.al M11).s N11.s kw (by omega) (by omega) fun a c h14 D14 N14 M14=>⟨_,_,_,rfl,hK a c h14 D14 (N14.base ((M07.trans M11).up D11.al)) ((M07.trans M11).trans M14)⟩⟩
 ·rw [if_neg (of_decide_eq_false e1),if_neg (of_decide_eq_false e2),if_neg (of_decide_eq_false e3),if_neg (of_decide_eq_false e4),if_neg (of_decide_eq_false e5),if_pos (of_decide_eq_true e)] at hK
  have jl:=joinP_le 12 x y s2
  exact sumK fun a c h11 D11 N11 M11=>⟨_,_,_,rfl,reader_join_ok D11 (N7.mut D.al M11).s N11.s kw (by omega) (by omega) fun a c h14 D14 N14 M14=>⟨_,_,_,rfl,reader_join_ok D14 N14.s (nd_nil h14 h14).s wf_nil (by omega) (by simp) fun a c h17 D17 N17 M17=>⟨_,_,_,rfl,hK a c h17 D17 (N17.base (((M07.trans M11).trans M14).up D14.al)) (((M07.trans M11).trans M14).trans M17)⟩⟩⟩
 ·rw [if_neg (of_decide_eq_false e1),if_neg (of_decide_eq_false e2),if_neg (of_decide_eq_false e3),if_neg (of_decide_eq_false e4),if_neg (of_decide_eq_false e5),if_neg (of_decide_eq_false e6),if_pos (of_decide_eq_true e)] at hK
  intro b61 hb61 h62
  have l62:h7.le h62:=Hp.le_set (Hp.le_refl h7) hb61 _
  have g3:=goes_is S7.good [wNot]
  refine reader_is_ok (D7.le l62) (slb_one h7 b61 wNot) (by decide) (by have:=S7.big;omega) fun h64 D64 M64=>⟨_,rfl,?_⟩
  have M64':Mut (At g) h7 (At g) h64:=(Mut.of_le l62).trans M64
  have S8:=S7.goes g3
  generalize s1.is [wNot]=C at *
  obtain⟨v,s3⟩:=C
  simp -zeta only at hK D64 S8 ⊢
  refine reader_must_ok D64 (by have:=S8.big;omega) fun h67 D67 M67=>⟨rfl,?_⟩
  have M67':=M64'.trans M67
  refine reader_join_ok D67 (N7.mut D.al M67').s (nd_nil h67 h67).s wf_nil (by omega) (by simp) fun a c h69 D69 N69 M69=>⟨_,_,_,rfl,?_⟩
  have jl:=joinP_le 5 x [] (s3.must wNull)
  refine⟨_,rd_neBs (b:=[]),fun q=>?_,fun q=>?_⟩
  ·have q:v≠[]:=by simpa using q
   rw [if_pos q] at hK
   exact reader_join_ok D69 N69.s (nd_nil h69 h69).s wf_nil (Nat.le_trans jl (by decide)) (by simp) fun a c h73 D73 N73 M73=>⟨_,_,_,rfl,hK a c h73 D73 (N73.base (((M07.trans M67').trans M69).up D69.al)) (((M07.trans M67').trans M69).trans M73)⟩
  ·have q:¬ v≠[]:=by simpa using q
   rw [if_neg q] at hK
   exact hK a c h69 D69 (N69.base ((M07.trans M67').up D67.al)) ((M07.trans M67').trans M69)
 ·rw [if_neg (of_decide_eq_false e1),if_neg (of_decide_eq_false e2),if_neg (of_decide_eq_false e3),if_neg (of_decide_eq_false e4),if_neg (of_decide_eq_false e5),if_neg (of_decide_eq_false e6),if_neg (of_decide_eq_false e7)] at hK
  exact hK _ _ h7 D7 N7 M07
def wordsN (h:Hp)(g:Nat):Nat:=match h.cell g 0 with|some (.slice _ n _)=>n|_=>0
theorem RdAt.wn {h0 h:Hp}{g:Nat}{s:RS}(D:RdAt h0 h g s):wordsN h g=s.ws.length:=by
 obtain⟨a,c,e⟩:=D.c0
 unfold wordsN
 rw [e]
theorem reader_row_ok {f:FuncId}{P:Ps}{n:Nat}(B:Bodied f)(F:Reads f P n)(kp:KP P n){ops:List (Wd × Int)}(ho:∀ q ∈ ops,Opr q.2)(hne:∀ q ∈ ops,q.1≠[])(hol:ops.length≤100){h0 h:Hp}{g:Nat}{s:RS}(D:RdAt h0 h g s)(E:EnvQ h0 h g)(S:SOk n s){y:Value}{wa:Option Addr}{wn wc:Nat}(W:ElAt encB h g wa wn (ops.map (·.1)))
  (hop:∀ h',Mut (At g) h (At g) h'→∀ w ∈ ops.map (·.1),Rd Tryz.prog (Instr.lookup 127 y (vs (bs w)) false) h' (vi (opOf ops w)))
  {R:Value→Hp→Prop} (hK:∀ a c h',RdAt h0 h' g (rowP P ops s).2→NdAt h h' a (rowP P ops s).1.length (rowP P ops s).1→Mut (At g) h (At g) h'→R (vsl a (rowP P ops s).1.length c) h'):CallOK Tryz.prog 72 [vhp g 0,.func (.func f) #[vhp g 0] #[],y,vsl wa wn wc] h R:=by
 refine ok_query_reader_row ?_
 unfold VC_query_reader_row
 have k:=kp s S.good (Nat.le_of_lt S.len)
 have Sx:=S.goes k.goes
 have kx:=k.wf
 have kl:=k.le
 have kp1:=k.pos
 unfold rowP at hK
 have hwn:wn=ops.length:=by have:=W.s.1;simpa using this
 refine inv_of B (F D E S fun a3 c3 h2 D2 N2 M2=>⟨_,_,_,rfl,?_⟩)
 generalize P s=X at *
 obtain⟨x0,s0⟩:=X
 simp -zeta only at hK D2 N2 Sx kx kl kp1 ⊢
 intro J26
 refine⟨fun vs' hh=>∃(k:Nat) (x:List Nd) (t:RS) (a:Option Addr) (c:Nat),vs'=[vsl a x.length c]∧RdAt h0 hh g t∧NdAt h hh a x.length x∧Mut (At g) h (At g) hh∧SOk n t∧1≤x.length∧x.length≤40∧WfL x∧t.ws.length < k∧rowL P ops k x t=rowL P ops (s0.ws.length+1) x0 s0,fun _ hh=>wordsN hh g,⟨_,x0,s0,a3,c3,rfl,D2,N2,M2,Sx,kp1,kl,kx,Nat.lt_succ_self _,rfl⟩,?_⟩
 rintro vs' hh ⟨k,x,t,a,c,rfl,Dt,Nt,Mt,St,hx1,hx,Wx,hk,hrow⟩
 obtain⟨k,rfl⟩:∃ j,k=j+1:=⟨k - 1,by omega⟩
 rw [rowL] at hrow
 refine⟨_,_,_,rfl,_,Dt.c2,fun e=>?_,fun e=>?_⟩
 ·have f0:¬ t.f≠0:=by rw [errV_none] at e;simpa using e
  rw [if_neg f0] at hrow
  have gi:=goes_is St.good (ops.map (·.1))
  have gm:=@is_mem t (ops.map (·.1))
  have tk:=@taken t (ops.map (·.1))
  have hDt:=Dt.wn
  refine reader_is_ok Dt (W.mut Mt).s (by omega) (by have:=St.big;omega) fun h14 D14 M14=>⟨_,rfl,?_⟩
  have M014:=Mt.trans M14
  simp only at hrow
  generalize t.is (ops.map (·.1))=A at *
  obtain⟨w,s1⟩:=A
  simp -zeta only at hrow D14 gi gm tk ⊢
  have S1:=St.goes gi
  refine⟨_,rd_eqBs (b:=[]),fun e=>?_,fun e=>?_⟩
  ·rw [if_pos (of_decide_eq_true e)] at hrow
   rw [←hrow] at hK
   exact hK _ _ h14 D14 (Nt.mut D.al M14) M014
  ·have ew:=of_decide_eq_false e
   rw [if_neg ew] at hrow
   have hop':=opOf_opr ho (gm ew)
   have kn:=kp s1 S1.good (Nat.le_of_lt S1.len)
   have tk:=tk ew
   refine⟨_,hop h14 M014 w (gm ew),inv_of B (F D14 (E.mut M014) S1 fun a22 c22 h21 D21 N21 M21=>⟨_,_,_,rfl,hop h21 (M014.trans M21) w (gm ew),?_⟩)⟩
   generalize opOf ops w=op at *
   have kj:Keeps (joinP op x (P s1).1 (P s1).2) t:=keeps_join hop' (gi.trans kn.goes) Wx kn.wf hx1 (fun _=>kn.pos)
   have kn1:=kn.wf
   have kn2:=kn.le
   have kn3:=kn.len
   have kj2:(joinP op x (P s1).1 (P s1).2).2.ws.length≤(P s1).2.ws.length:=by
    unfold joinP
    split
    ·exact Nat.zero_le _
    ·exact Nat.le_refl _
   generalize P s1=Y at *
   obtain⟨y1,s2⟩:=Y
   simp -zeta only at hrow D21 N21 kj kn1 kn2 kn3 kj2 ⊢
   refine reader_join_ok D21 ((Nt.mut D.al M14).mut D.al M21).s N21.s kn1 (by omega) (by omega) fun a25 c25 h24 D24 N24 M24=>⟨_,_,_,rfl,⟨k,_,_,a25,c25,rfl,D24,N24.base ((M014.trans M21).up D21.al),(M014.trans M21).trans M24,St.goes kj.goes,kj.pos,kj.le,kj.wf,by omega,hrow⟩,?_⟩
   have h24n:=D24.wn
   show wordsN h24 g < wordsN hh g
   omega
 ·have f0:t.f≠0:=by rw [errV_none] at e;simpa using e
  rw [if_pos f0] at hrow
  rw [←hrow] at hK
  exact hK _ _ hh Dt Nt Mt
end Go.Proofs.YtejefijpcggkfaaGreatDoor
namespace Go.Proofs.YtejefijpcggkfaaGreatDoor
open Go Go.Vc Go.Txt
set_option linter.unusedVariables false
set_option maxRecDepth 100000
theorem rd_mapS {h:Hp}{b:Nat}{es:Array MapEntry}{clock:Nat}(hb:h b=some (.map es clock)){w:Wd}{x:Int}{i:Nat}(hf:Instr.findNow .string (vs (bs w)) es.toList 0=some (some (i,vi x))):Rd Tryz.prog (Instr.lookup 127 (.map (some b)) (vs (bs w)) false) h (vi x):=
 rd_lookup (k:=9) (e:=3) (d:=.string) (by kernel_rfl) (by kernel_rfl) hb trivial hf
theorem sem_mapS {h:Hp}{b:Nat}{es:Array MapEntry}{clock:Nat}(hb:h b=some (.map es clock)){w:Wd}{x:Int}(hf:Instr.findNow .string (vs (bs w)) es.toList 0=some none){K:Hp→Prop}(hK:K (h.set b (.map (es.push { key:=vs (bs w),val:=vi x,born:=clock }) (clock+1)))):SemOKu Tryz.prog (Instr.mapUpdate 127 (.map (some b)) (vs (bs w)) (vi x)) h K:=
 sem_mapNew (k:=9) (e:=3) (d:=.string) (key:=vs (bs w)) (by kernel_rfl) (by kernel_rfl) hb trivial hf hK
theorem reader_one_ok {f:FuncId}{P:Ps}{n:Nat}(B:Bodied f)(F:Reads f P n)(kp:KP P n){w:Wd}{op:Int}(ho:Opr op)(hw:w≠[]){h0 h:Hp}{g:Nat}{s:RS}(D:RdAt h0 h g s)(E:EnvQ h0 h g)(S:SOk n s){R:Value→Hp→Prop}(hK:∀ a c h',RdAt h0 h' g (rowP P [(w,op)] s).2→NdAt h h' a (rowP P [(w,op)] s).1.length (rowP P [(w,op)] s).1→Mut (At g) h (At g) h'→R (vsl a (rowP P [(w,op)] s).1.length c) h') :
  SemOK Tryz.prog (Instr.makeMap 127 none) h fun v1 h2=>∃(y3:Value),v1=y3∧(SemOKu Tryz.prog (Instr.mapUpdate 127 y3 (vs (bs w)) (vi op)) h2 fun h4=>(∀(b5:Nat),h4 b5=none→let h6:Hp:=Hp.set h4 b5 (cellsO [(vs (bs w))] 9);(CallOK Tryz.prog 72 [(vhp g 0),(Value.func (.func f) #[(vhp g 0)] #[]),y3,(vsl (some (⟨b5,0,none⟩:Addr)) 1 1)] h6 fun v7 h8=>∃(a9:Option Addr) (n9 c9:Nat),v7=(vsl a9 n9 c9)∧R (vsl a9 n9 c9) h8))):=by
 refine sem_makeMap fun b hb=>⟨_,rfl,?_⟩
 refine sem_mapS (Hp.set_same _ _ _) rfl ?_
 intro b5 hb5 h6
 have hbg:b≠g:=fun e=>by rw [e] at hb;exact D.al hb
 have l1:h.le (h.set b (.map #[] 0)):=Hp.le_set (Hp.le_refl h) hb _
 rw [Hp.set_set] at hb5
 have l2:h.le h6:=by
  have:h6=(h.set b (.map (#[].push { key:=vs (bs w),val:=vi op,born:=0 }) (0+1))).set b5 (cellsO [vs (bs w)] 9):=by
   show ((h.set b _).set b _).set b5 _=_
   rw [Hp.set_set]
  rw [this]
  exact Hp.le_trans (Hp.le_set (Hp.le_refl h) hb _) (Hp.le_set (Hp.le_refl _) hb5 _)
 have hb6:h6 b=some (.map (#[].push { key:=vs (bs w),val:=vi op,born:=0 }) (0+1)):=by
  have hne:b≠b5:=fun e=>by rw [e,Hp.set_same] at hb5;cases hb5
  show (((h.set b _).set b _).set b5 _) b=_
  rw [Hp.set_other _ _ hne,Hp.set_same]
 have D6:=D.le l2
 have hb5g:b5≠g:=fun e=>by
  subst e
  have:(h.set b (.map (#[].push { key:=vs (bs w),val:=vi op,born:=0 }) (0+1))) b5≠none:=by rw [Hp.set_other _ _ hbg.symm];exact D.al
  exact this hb5
 refine reader_row_ok B F kp (ops:=[(w,op)]) (by simpa using ho) (by simpa using hw) (by simp) D6 (E.mut (Mut.of_le l2)) S ⟨slb_one _ b5 w,fun b' o e=>by cases e;exact hb5g⟩ (fun h' M w' hw'=>?_) fun a c h' D' N' M'=>⟨_,_,_,rfl,?_⟩
 ·have e:w'=w:=by simpa using hw'
  subst e
  have ho:opOf [(w',op)] w'=op:=by simp [opOf]
  rw [ho]
  have hm:h' b=_:=M.keep b _ (fun e=>hbg e) hb6
  refine rd_mapS hm (i:=0) ?_
  show Instr.findNow .string (vs (bs w')) [{ key:=vs (bs w'),val:=vi op,born:=0 }] 0=_
  simp [Instr.findNow,Instr.sameNow,(Go.MapKept.bytes_beq (bs w') (bs w')).2 rfl]
 ·exact hK a c h' D' (N'.base (le_up l2)) ((Mut.of_le l2).trans M')
theorem reader_product_ok {P:Ps}{n:Nat}(F:Reads 150 P n)(kp:KP P n):Reads 146 (rowP P [(wStar,8)]) n:=by
 intro h0 h g s D E S R hK
 refine ok_query_reader_product ?_
 unfold VC_query_reader_product
 exact reader_one_ok ⟨_,Tryz.func150,by kernel_rfl,by kernel_rfl⟩ F kp (by decide) (by decide) D E S hK
theorem reader_and_ok {P:Ps}{n:Nat}(F:Reads 106 P n)(kp:KP P n):Reads 73 (rowP P [(wAnd,9)]) n:=by
 intro h0 h g s D E S R hK
 refine ok_query_reader_and ?_
 unfold VC_query_reader_and
 exact reader_one_ok ⟨_,Tryz.func106,by kernel_rfl,by kernel_rfl⟩ F kp (by decide) (by decide) D E S hK
theorem reader_or_ok {P:Ps}{n:Nat}(F:Reads 73 P n)(kp:KP P n):Reads 42 (rowP P [(wOr,10)]) n:=by
 intro h0 h g s D E S R hK
 refine ok_query_reader_or ?_
 unfold VC_query_reader_or
 exact reader_one_ok ⟨_,Tryz.func73,by kernel_rfl,by kernel_rfl⟩ F kp (by decide) (by decide) D E S hK
theorem reader_sum_ok {P:Ps}{n:Nat}(F:Reads 146 P n)(kp:KP P n):Reads 141 (rowP P [(wPlus,6),(wMinus,7)]) n:=by
 intro h0 h g s D E S R hK
 refine ok_query_reader_sum ?_
 unfold VC_query_reader_sum
 refine sem_makeMap fun b hb=>⟨_,rfl,?_⟩
 refine sem_mapS (w:=wPlus) (Hp.set_same _ _ _) rfl ?_
 refine sem_mapS (w:=wMinus) (Hp.set_same _ _ _) rfl ?_
 rw [Hp.set_set,Hp.set_set]
 generalize hM:Obj.map _ _=ob
 intro b5 hb5 h6
 have hbg:b≠g:=fun e=>by rw [e] at hb;exact D.al hb
 have l2:h.le h6:=Hp.le_trans (Hp.le_set (Hp.le_refl h) hb _) (Hp.le_set (Hp.le_refl _) hb5 _)
 have hb6:h6 b=some ob:=by
  have hne:b≠b5:=fun e=>by rw [e,Hp.set_same] at hb5;cases hb5
  show ((h.set b _).set b5 _) b=_
  rw [Hp.set_other _ _ hne,Hp.set_same]
 have D6:=D.le l2
 have hb5g:b5≠g:=fun e=>by
  subst e
  have:(h.set b ob) b5≠none:=by rw [Hp.set_other _ _ hbg.symm];exact D.al
  exact this hb5
 refine reader_row_ok ⟨_,Tryz.func146,by kernel_rfl,by kernel_rfl⟩ F kp (ops:=[(wPlus,6),(wMinus,7)]) (by decide) (by decide) (by simp) D6 (E.mut (Mut.of_le l2)) S ⟨slb_lit _ b5 [wPlus,wMinus] (by decide),fun b' o e=>by cases e;exact hb5g⟩ (fun h' M w' hw'=>?_) fun a c h' D' N' M'=>⟨_,_,_,rfl,?_⟩
 ·have hm:h' b=some ob:=M.keep b _ (fun e=>hbg e) hb6
  rw [←hM] at hm
  have e:w'=wPlus∨w'=wMinus:=by simpa using hw'
  rcases e with rfl|rfl
  ·exact rd_mapS hm (i:=0) rfl
  ·exact rd_mapS hm (i:=1) rfl
 ·exact hK a c h' D' (N'.base (le_up l2)) ((Mut.of_le l2).trans M')
theorem reads_step {t:Three}{n:Nat}(h:KP t.o n∧KP t.n n∧KP t.u n)(H:Reads 42 t.o n∧Reads 106 t.n n∧Reads 150 t.u n):Reads 42 (orS t) (n+1)∧Reads 106 (notS t) (n+1)∧Reads 150 (unS t) (n+1):=by
 obtain⟨k1,k2,k3,k4,k5,k6,k7⟩:=keeps_S h
 have h1:Reads 150 (unS t) (n+1):=reader_unary_ok H.2.2 h.2.2 (reader_atom_ok H.1 h.1)
 have h2:Reads 146 (prodS t) (n+1):=reader_product_ok h1 k3
 have h3:Reads 141 (sumS t) (n+1):=reader_sum_ok h2 k4
 have h4:Reads 127 (cmpS t) (n+1):=reader_compare_ok h3 k5
 have h5:Reads 106 (notS t) (n+1):=reader_not_ok H.2.1 h.2.1 h4
 have h6:Reads 73 (andS t) (n+1):=reader_and_ok h5 k2
 exact⟨reader_or_ok h6 k7,h5,h1⟩
theorem reads_none (f:FuncId)(P:Ps):Reads f P 0:=by
 intro h0 h g s D E S R hK
 exact absurd S.len (Nat.not_lt_zero _)
theorem reads_all (n:Nat):Reads 42 (allP n).o n∧Reads 106 (allP n).n n∧Reads 150 (allP n).u n:=by
 induction n with
 | zero=>exact⟨reads_none _ _,reads_none _ _,reads_none _ _⟩
 | succ n ih=>rw [allP_succ];exact reads_step (keeps_all n) ih
end Go.Proofs.YtejefijpcggkfaaGreatDoor
namespace Go.Proofs.YtejefijpcggkfaaGreatDoor
open Go Go.Vc Go.Txt
set_option linter.unusedVariables false
set_option maxRecDepth 100000
theorem is_one {s:RS}{w:Wd}(hw:w≠[])(h:(s.is [w]).1=[]):(s.is [w]).2=s:=by
 rcases s.is_spec [w] with ⟨_,q⟩|⟨w',r,_,hm,q,_⟩
 ·exact q
 ·rw [h] at q
  rw [←q] at hm
  exact absurd (List.mem_singleton.1 hm).symm hw
theorem reader_optional_ok {n:Nat}{h0 h:Hp}{g:Nat}{s:RS}(D:RdAt h0 h g s)(E:EnvQ h0 h g)(S:SOk n s){w:Wd}(hw:w≠[]){d:Int}{R:Value→Hp→Prop}(hK:∀ h',RdAt h0 h' g (optN w d s).2→Mut (At g) h (At g) h'→R (vi (optN w d s).1) h'):CallOK Tryz.prog 44 [vhp g 0,vs (bs w),vi d] h R:=by
 refine ok_query_reader_optional ?_
 unfold VC_query_reader_optional
 intro b1 hb1 h2
 have hl:h.le h2:=Hp.le_set (Hp.le_refl h) hb1 _
 have hb:=S.big
 have io:=@is_one s w hw
 have gi:=goes_is S.good [w]
 unfold optN at hK
 refine reader_is_ok (D.le hl) (slb_one h b1 w) (by decide) (by omega) fun h4 D4 M4=>⟨_,rfl,?_⟩
 have M04:Mut (At g) h (At g) h4:=(Mut.of_le hl).trans M4
 refine⟨_,rd_eqBs (b:=[]),fun e=>?_,fun e=>?_⟩
 ·have e:=of_decide_eq_true e
  rw [if_pos e] at hK
  rw [io e] at D4
  exact hK h4 D4 M04
 ·have e:=of_decide_eq_false e
  rw [if_neg e] at hK
  exact reader_number_ok D4 (E.mut M04) (by have:=gi.len;omega) (by decide) (by decide) fun h9 D9 M9=>⟨_,rfl,hK h9 D9 (M04.trans M9)⟩
theorem idx_aggs {w:Wd}(h:w ∈ [[],wCount,wSum,wMin,wMax]):w ∈ aggsW∧(aggsW.idxOf w:Int)=aggKind w:=by
 have h2:w=[]∨w=wCount∨w=wSum∨w=wMin∨w=wMax:=by simpa using h
 rcases h2 with rfl|rfl|rfl|rfl|rfl<;>exact⟨by decide,by decide⟩
theorem reader_agg_ok {P:Ps}{n:Nat}(F:Reads 42 P n)(kp:KP P n){h0 h:Hp}{g:Nat}{s:RS}(D:RdAt h0 h g s)(E:EnvQ h0 h g)(S:SOk n s){R:Value→Hp→Prop}(hK:∀ a c h',RdAt h0 h' g (aggP P s).2→NdAt h h' a (aggP P s).1.2.length (aggP P s).1.2→Mut (At g) h (At g) h'→R (vag [vi (aggP P s).1.1,vsl a (aggP P s).1.2.length c]) h'):CallOK Tryz.prog 40 [vhp g 0] h R:=by
 refine ok_query_reader_agg ?_
 unfold VC_query_reader_agg
 intro b1 hb1 h2
 have hl:h.le h2:=Hp.le_set (Hp.le_refl h) hb1 _
 have hb:=S.big
 have gi:=goes_is S.good [wCount,wSum,wMin,wMax]
 have gm:=@is_mem s [wCount,wSum,wMin,wMax]
 unfold aggP at hK
 simp only at hK
 refine reader_is_ok (D.le hl) (slb_lit h b1 [wCount,wSum,wMin,wMax] (by decide)) (by decide) (by omega) fun h4 D4 M4=>⟨_,rfl,?_⟩
 have M04:Mut (At g) h (At g) h4:=(Mut.of_le hl).trans M4
 generalize s.is [wCount,wSum,wMin,wMax]=B at *
 obtain⟨w,s1⟩:=B
 simp -zeta only at hK D4 gi gm ⊢
 have S1:=S.goes gi
 have hwm:w ∈ [[],wCount,wSum,wMin,wMax]:=by
  by_cases e:w=[]
  ·rw [e];simp
  ·exact List.mem_cons_of_mem _ (gm e)
 obtain⟨hwa,hwi⟩:=idx_aggs hwm
 refine⟨_,rd_eqBs (b:=[]),?_⟩
 intro J11
 have hJ:∀(h12:Hp) (t:RS),t=(if w=[] then s1.fail 4 else s1)→RdAt h0 h12 g t→Mut (At g) h (At g) h12→Goes t s→J11 h12:=by
  intro h12 t ht D12 M12 Gt
  rw [←ht] at hK
  clear ht
  have St:=S.goes Gt
  refine reader_must_ok D12 (by have:=St.big;omega) fun h14 D14 M14=>⟨rfl,?_⟩
  have M014:=M12.trans M14
  have E14:=E.mut M014
  have G2:=Gt.trans (goes_must Gt.ok wOpen)
  obtain⟨qa,qc,hq,hqs⟩:=E14.now.a
  refine⟨_,_,_,hq,slices_Index_ok hqs (by decide) ⟨_,rfl,?_⟩⟩
  rw [if_pos hwa,hwi]
  have D14:RdAt h0 h14 g (t.must wOpen):=D14
  generalize t.must wOpen=s2 at *
  have S2:=S.goes G2
  intro J56
  have fin:∀(k:Int) (a:Option Addr) (c:Nat) (h66:Hp) (l:List Nd) (u:RS),RdAt h0 h66 g u→NdAt h h66 a l.length l→Mut (At g) h (At g) h66→SOk n u→(∀ a c h',RdAt h0 h' g (u.must wClose)→NdAt h h' a l.length l→Mut (At g) h (At g) h'→R (vag [vi k,vsl a l.length c]) h')→J56 k a l.length c h66:=by
   intro k a c h66 l u D66 N66 M66 Su hR
   exact reader_must_ok D66 (by have:=Su.big;omega) fun h68 D68 M68=>⟨rfl,hR a c h68 D68 (N66.mut D.al M68) (M66.trans M68)⟩
  clear_value J56
  have orK:∀{h26:Hp} (k:Int),RdAt h0 h26 g s2→Mut (At g) h (At g) h26→(∀ a c h',RdAt h0 h' g ((P s2).2.must wClose)→NdAt h h' a (P s2).1.length (P s2).1→Mut (At g) h (At g) h'→R (vag [vi k,vsl a (P s2).1.length c]) h')→CallOK Tryz.prog 42 [vhp g 0] h26 fun v31 h32=>∃(a33:Option Addr) (n33 c33:Nat),v31=vsl a33 n33 c33∧J56 k a33 n33 c33 h32:=by
   intro h26 k D26 M26 hR
   have k2:=kp s2 S2.good (Nat.le_of_lt S2.len)
   exact F D26 (E.mut M26) S2 fun a c h' D' N' M'=>⟨_,_,_,rfl,fin k a c h' _ _ D' (N'.base (M26.up D26.al)) (M26.trans M') (S2.goes k2.goes) hR⟩
  refine⟨_,rd_eqBs (b:=wCount),fun e=>?_,fun e=>?_⟩
  ·have ew:w=wCount:=of_decide_eq_true e
   have hk1:aggKind w=1:=by rw [ew];rfl
   intro b20 hb20 h21
   have l21:h14.le h21:=Hp.le_set (Hp.le_refl h14) hb20 _
   have M21:=M014.trans (Mut.of_le l21)
   have gi2:=goes_is S2.good [wStar]
   have io:=@is_one s2 wStar (by decide)
   refine⟨fun x hh=>x=.t (.one (.v (vs (bs (s2.is [wStar]).1))))∧RdAt h0 hh g (s2.is [wStar]).2∧Mut (At g) h (At g) hh,fun _=>reader_is_ok (D14.le l21) (slb_one h14 b20 wStar) (by decide) (by have:=S2.big;omega) fun h24 D24 M24=>⟨_,rfl,rfl,D24,M21.trans M24⟩,fun q=>absurd e q,?_⟩
   rintro h26 s27 ⟨e27,D26,M26⟩
   cases e27
   generalize s2.is [wStar]=C at *
   obtain⟨v,s3⟩:=C
   simp only at hK D26 gi2 io ⊢
   refine⟨_,fun _=>rd_neBs (b:=[]),fun q=>?_,fun q=>?_⟩
   ·have q2:v≠[]:=by simpa [ew] using q
    rw [if_pos ⟨ew,q2⟩] at hK
    rw [hk1]
    exact fin 1 none 0 h26 [] s3 D26 (nd_nil _ _) M26 (S2.goes gi2) hK
   ·have q2:v=[]:=by simpa [ew] using q
    rw [if_neg (by rintro⟨_,h⟩;exact h q2),if_pos ew] at hK
    rw [io q2] at D26
    refine⟨_,rd_eqBs (b:=wCount),fun q3=>orK 2 D26 M26 hK,fun q3=>absurd ew (of_decide_eq_false q3)⟩
  ·have e0:¬ w=wCount:=fun h=>e (decide_eq_true h)
   rw [if_neg (by rintro⟨h,_⟩;exact e0 h),if_neg e0] at hK
   refine⟨fun x hh=>x=.t (.one (.v (vs ⟨#[]⟩)))∧hh=h14,fun q=>absurd q e,fun _=>⟨rfl,rfl⟩,?_⟩
   rintro h43 s44 ⟨e43,rfl⟩
   cases e43
   refine⟨false,fun q=>absurd q e,fun q=>by simp at q,fun _=>?_⟩
   refine⟨_,rd_eqBs (b:=wCount),fun q3=>absurd (of_decide_eq_true q3) e0,fun q3=>orK (aggKind w) D14 M014 hK⟩
 clear_value J11
 refine⟨fun e=>?_,fun e=>?_⟩
 ·have e:=of_decide_eq_true e
  exact reader_fail_ok D4 (by decide) fun h8 D8 M8=>⟨rfl,hJ h8 _ (by rw [if_pos e]) D8 (M04.trans M8) (gi.trans (goes_fail _ _))⟩
 ·have e:=of_decide_eq_false e
  exact hJ h4 _ (by rw [if_neg e]) D4 M04 gi
end Go.Proofs.YtejefijpcggkfaaGreatDoor
namespace Go.Proofs.YtejefijpcggkfaaGreatDoor
open Go Go.Vc Go.Txt
set_option linter.unusedVariables false
set_option maxRecDepth 100000
theorem elAgg:ElT Tryz.prog 24 67 2 32:=.of (by kernel_rfl) (by kernel_rfl) (by decide)
abbrev AggB (G:Nat→Prop):=GTabB encN aggRw 2 67 G
theorem RdAt.keep {h0 h h':Hp}{g:Nat}{s:RS}(D:RdAt h0 h g s)(hb:h' g=h g)(l:h0.le h'):RdAt h0 h' g s:=by
 obtain⟨a,c,hb',hS,hc⟩:=D.b
 exact⟨⟨a,c,hb.trans hb',hS,hc⟩,l,D.n,D.w⟩
theorem agg_app {h0 hB h1:Hp}{g:Nat}{a:Option Addr}{c:Nat}{L:List Ag}{s:RS}(B:AggB (At g) h0 h1 a c L)(D:RdAt h0 h1 g s)(hBg:hB g≠none)(hBa:∀ b,a=some ⟨b,0,none⟩→hB b≠none){k:Int}{a2:Option Addr}{c2:Nat}{l:List Nd}(N:NdAt hB h1 a2 l.length l)(hL:L.length≤1000)
  {b:Nat} (hb:h1 b=none) {K:Value→Hp→Prop} (hK:∀ a' c' h',AggB (At g) h0 h' a' c' (L++[(k,l)])→RdAt h0 h' g s→K (vsl a' (L.length+1) c') h') :
  SemOK Tryz.prog (Builtin.append_ #[24,24] 24 #[vsl a L.length c,vsl (some ⟨b,0,none⟩) 1 1]) (h1.set b (cellsO [vi k,vsl a2 l.length c2] 67)) K:=by
 refine B.app (x:=k) (c2:=c2) elAgg (Hp.le_refl h1) (fun b' e=>by rw [show b'=g from e];exact hBg) hBa N.s.2 N.nw ?_ rfl (fun b' e=>by rw [show b'=g from e];exact D.al) (by omega) (by omega) hb fun a' c' h' B' hk=>hK a' c' h' B' ?_
 ·intro u hu
  have:u=vi k∨u=vsl a2 l.length c2:=by simpa [aggRw] using hu
  rcases this with rfl|rfl<;>rfl
 ·obtain⟨o,ho⟩:∃ o,h1 g=some o:=by
   cases e:h1 g with
   | none=>exact absurd e D.al
   | some o=>exact⟨o,rfl⟩
  exact D.keep ((hk g o ho (B.ne rfl)).trans ho.symm) B'.le0
theorem noQ_at (h:Hp):QAt h noQ none 0 none 0 none 0:=⟨⟨[],rfl,rfl,.inl rfl,fun r hr=>by cases hr⟩,⟨rfl,.inl rfl⟩,⟨rfl,.inl rfl⟩⟩
set_option maxHeartbeats 1000000 in
theorem query_Parse_ok {l:List UInt8}{h:Hp}(T:TabQ h){R:Value→Hp→Prop}(hK:∀ a1 n1 c1 a2 n2 c2 a3 n3 c3 h',h.le h'→QAt h' (parseQ l).1 a1 n1 a2 n2 a3 n3→R (vtup [qV a1 n1 c1 a2 n2 c2 a3 n3 c3 (parseQ l).1,ifv (errV (parseQ l).2)]) h'):CallOK Tryz.prog 12 [vs (bs l)] h R:=by
 refine ok_query_Parse ?_
 unfold VC_query_Parse
 refine lexer_Words_ok fun wa wn wc h2 O=>⟨_,_,_,_,rfl,?_⟩
 have lw:=wordsL_words l
 have l02:=O.le
 unfold parseQ at hK
 generalize wordsL l=WW at *
 obtain⟨W,fw⟩:=WW
 simp only at hK lw O
 show (Option.isSome (errV fw)=true→R (vtup [qV none 0 0 none 0 0 none 0 0 noQ,ifv (errV fw)]) h2)∧(Option.isSome (errV fw)=false→_)
 rw [errV_some]
 refine⟨fun e=>?_,fun e=>?_⟩
 ·have e2:fw≠0:=by simpa using e
  rw [if_pos e2] at hK
  exact hK none 0 0 none 0 0 none 0 0 h2 l02 (noQ_at h2)
 have e2:¬ fw≠0:=by simpa using e
 rw [if_neg e2] at hK
 clear e e2
 have hS:=O.slp encB_len (by decide)
 obtain rfl:=hS.1
 intro b6 hb6 h7
 have l7:h2.le h7:=Hp.le_set (Hp.le_refl h2) hb6 _
 have D7:RdAt h2 h7 b6 ⟨W,0,0⟩:=⟨⟨wa,wc,Hp.set_same _ _ _,hS,O.own.cap⟩,l7,hb6,fun x hx=>Nat.le_trans (lw.2 x hx) (by decide)⟩
 have E7:EnvQ h2 h7 b6:=⟨T.le l02,l7,hb6⟩
 have F:Reads 42 (allP (W.length+1)).o (W.length+1):=(reads_all (W.length+1)).1
 have kp:=(keeps_all (W.length+1)).1
 have g0:(⟨W,0,0⟩:RS).good:=fun h=>absurd rfl h
 have S7:SOk (W.length+1) ⟨W,0,0⟩:=⟨g0,Nat.lt_succ_self _,by show W.length≤1000;omega,Int.le_refl _,by show (0:Int)+(W.length:Int)≤1000000;omega⟩
 have hAll:=allA_ok W
 unfold parseW at hK
 rw [readQ_eq] at hK
 unfold allA firstA at hK hAll
 generalize (allP (W.length+1)).o=o at *
 have G1:=goes_must g0 wSelect
 refine reader_must_ok D7 (by show W.length≤1000000;omega) fun h9 D9 M9=>⟨rfl,?_⟩
 have D9:RdAt h2 h9 b6 ((⟨W,0,0⟩:RS).must wSelect):=D9
 generalize (⟨W,0,0⟩:RS).must wSelect=s1 at *
 have S9:=S7.goes G1
 have G2:=goes_agg kp S9.good (Nat.le_of_lt S9.len)
 have hs1:s1.ws.length≤80:=Nat.le_trans G1.len lw.1
 refine reader_agg_ok F kp D9 (E7.mut M9) S9 fun a13 c13 h11 D11 N11 M11=>⟨_,_,_,_,rfl,?_⟩
 generalize aggP o s1=A at *
 obtain⟨⟨k1,l1⟩,s2⟩:=A
 simp -zeta only at hK D11 N11 G2 hAll ⊢
 have S11:=S9.goes G2.1
 have l11:h2.le h11:=D11.l
 intro b14 hb14 h15
 refine agg_app (L:=[]) (a:=none) (c:=0) (hB:=h9) (k:=k1) (GTabB.nil l11) D11 D9.al (fun b e=>by cases e) N11 (by decide) hb14 fun a18 c18 h17 B17 D17=>⟨_,_,_,rfl,?_⟩
 intro J48
 -- the rest, behind what is gathered
 have hRest:∀(L:List Ag) (t:RS) (a:Option Addr) (c:Nat) (hE:Hp),AggB (At b6) h2 hE a c L→RdAt h2 hE b6 t→SOk (W.length+1) t→aggsP o (s2.ws.length+1) [(k1,l1)] s2=(L,t)→L.length≤1000→J48 a L.length c none 0 0 none 0 0 hE:=by
  intro L t a c hE BE DE SE hL hLn
  rw [hL] at hK hAll
  simp only at hK hAll
  have EE:EnvQ h2 hE b6:=⟨E7.t,DE.l,hb6⟩
  have hgE:=DE.al
  have hG2:∀ b,At b6 b→h2 b=none:=fun b e=>by rw [show b=b6 from e];exact hb6
  have G3:=goes_must SE.good wFrom
  refine reader_must_ok DE (by have:=SE.big;omega) fun h261 D261 M261=>⟨rfl,?_⟩
  have D261:RdAt h2 h261 b6 (t.must wFrom):=D261
  have S261:=SE.goes G3
  have G4:=G3.trans (goes_must G3.ok wEvents)
  refine reader_must_ok D261 (by have:=S261.big;omega) fun h263 D263 M263=>⟨rfl,?_⟩
  have D263:RdAt h2 h263 b6 ((t.must wFrom).must wEvents):=D263
  have ME:=M261.trans M263
  have S263:=SE.goes G4
  unfold restQ at hK
  generalize (t.must wFrom).must wEvents=t2 at *
  clear G3 D261 S261
  intro b264 hb264 h265
  have l265:h263.le h265:=Hp.le_set (Hp.le_refl h263) hb264 _
  have gi:=goes_is S263.good [wWhere]
  have io:=@is_one t2 wWhere (by decide)
  refine reader_is_ok (D263.le l265) (slb_one h263 b264 wWhere) (by decide) (by have:=S263.big;omega) fun h267 D267 M267=>⟨_,rfl,_,rd_neBs (b:=[]),?_⟩
  have D267:RdAt h2 h267 b6 (t2.is [wWhere]).2:=D267
  have M267':=(ME.trans (Mut.of_le l265)).trans M267
  intro J275
  have h275:∀(wh:List Nd) (aw:Option Addr) (cw:Nat) (u:RS) (h315:Hp),optP wWhere o t2=(wh,u)→RdAt h2 h315 b6 u→SOk (W.length+1) u→NdAt hE h315 aw wh.length wh→NdsOK wh→Mut (At b6) hE (At b6) h315→J275 aw wh.length cw h315:=by
   intro wh aw cw u h315 hw D315 S315 N315 Kw M315
   rw [hw] at hK
   simp only at hK
   unfold byQ at hK
   intro b316 hb316 h317
   have l317:h315.le h317:=Hp.le_set (Hp.le_refl h315) hb316 _
   have gi:=goes_is S315.good [wGroup]
   have io:=@is_one u wGroup (by decide)
   refine reader_is_ok (D315.le l317) (slb_one h315 b316 wGroup) (by decide) (by have:=S315.big;omega) fun h319 D319 M319=>⟨_,rfl,_,rd_neBs (b:=[]),?_⟩
   have D319:RdAt h2 h319 b6 (u.is [wGroup]).2:=D319
   have M319':=(M315.trans (Mut.of_le l317)).trans M319
   intro J329
   have h329:∀(by_:List Nd) (ab:Option Addr) (cb:Nat) (v:RS) (h354:Hp),optP wGroup (fun s=>o (s.must wBy)) u=(by_,v)→RdAt h2 h354 b6 v→SOk (W.length+1) v→NdAt hE h354 aw wh.length wh→NdAt hE h354 ab by_.length by_→NdsOK by_→Mut (At b6) hE (At b6) h354→J329 ab by_.length cb h354:=by
    intro by_ ab cb v h354 hv D354 S354 Nw N354 Kb M354
    rw [hv] at hK
    simp only at hK
    unfold endQ at hK
    simp only at hK
    have Ga:=goes_must S354.good wWindow
    refine reader_must_ok D354 (by have:=S354.big;omega) fun h356 D356 M356=>⟨rfl,?_⟩
    have D356:RdAt h2 h356 b6 (v.must wWindow):=D356
    have Sa:=S354.goes Ga
    generalize v.must wWindow=v1 at *
    have Gb:=goes_number Sa.good 1000
    refine reader_number_ok D356 (EE.mut (M354.trans M356)) (by have:=Sa.big;omega) (by decide) (by decide) fun h358 D358 M358=>⟨_,rfl,?_⟩
    have Sb:=Sa.goes Gb
    generalize v1.number 1000=Z at *
    obtain⟨z,v2⟩:=Z
    simp -zeta only at hK D358 Sb ⊢
    have Gc:=goes_optN Sb.good wSlide z
    refine reader_optional_ok (w:=wSlide) D358 (EE.mut ((M354.trans M356).trans M358)) Sb (by decide) fun h361 D361 M361=>⟨_,rfl,?_⟩
    have Sc:=Sb.goes Gc
    generalize optN wSlide z v2=Z at *
    obtain⟨sl,v3⟩:=Z
    simp -zeta only at hK D361 Sc ⊢
    have Gd:=goes_optN Sc.good wDelay 0
    refine reader_optional_ok (w:=wDelay) D361 (EE.mut (((M354.trans M356).trans M358).trans M361)) Sc (by decide) fun h364 D364 M364=>⟨_,rfl,?_⟩
    have Sd:=Sc.goes Gd
    generalize optN wDelay 0 v3=Z at *
    obtain⟨d,v4⟩:=Z
    simp -zeta only at hK D364 Sd ⊢
    have Ge:=goes_optN Sd.good wLate 0
    refine reader_optional_ok (w:=wLate) D364 (EE.mut ((((M354.trans M356).trans M358).trans M361).trans M364)) Sd (by decide) fun h367 D367 M367=>⟨_,rfl,?_⟩
    have Se:=Sd.goes Ge
    generalize optN wLate 0 v4=Z at *
    obtain⟨lt,v5⟩:=Z
    simp -zeta only at hK D367 Se ⊢
    have M367':=((((M354.trans M356).trans M358).trans M361).trans M364).trans M367
    have M36:=((((M356).trans M358).trans M361).trans M364).trans M367
    obtain⟨qa,qc,hq⟩:=D367.c0
    refine⟨_,D367.c2,_,_,_,fun _=>hq,?_⟩
    intro J374
    have h374:∀(h375:Hp) (y:RS),y.f=(if v5.f=0∧v5.ws≠[] then v5.fail 4 else v5).f→RdAt h2 h375 b6 y→Mut (At b6) h367 (At b6) h375→J374 h375:=by
     intro h375 y hy D375 M375
     rw [←hy] at hK
     have M375':=M367'.trans M375
     have BE2:AggB (At b6) h2 h375 a c L:=BE.keep hG2 M375'.keep
     have Nw2:=Nw.mut hgE (M36.trans M375)
     have N2:=N354.mut hgE (M36.trans M375)
     have QE:QAt h375 ⟨L,wh,by_,z,sl,d,lt⟩ a L.length aw wh.length ab by_.length:=⟨BE2.tab,Nw2.s,N2.s⟩
     refine⟨_,D375.c2,?_⟩
     intro J383
     have h383:∀(h384:Hp) (f:Int),h384.cell b6 (0+2)=some (ifv (errV f))→h.le h384→(f≠0→∀ h',h.le h'→R (vtup [qV none 0 0 none 0 0 none 0 0 noQ,ifv (errV f)]) h')→(f=0→R (vtup [qV a L.length c aw wh.length cw ab by_.length cb ⟨L,wh,by_,z,sl,d,lt⟩,ifv none]) h384)→J383 h384:=by
      intro h384 f hc lh hb hg
      refine⟨_,hc,fun e=>⟨_,hc,hc,?_⟩,fun e=>?_⟩
      ·rw [errV_some] at e
       exact hb (by simpa using e) h384 lh
      ·rw [errV_some] at e
       exact hg (by simpa using e)
     clear_value J383
     refine⟨fun e=>?_,fun e=>?_⟩
     ·rw [errV_none] at e
      have e:y.f=0:=of_decide_eq_true e
      rw [e,if_neg (fun h=>h rfl)] at hK
      have hbig:QBig ⟨L,wh,by_,z,sl,d,lt⟩:=⟨Nat.le_trans Kw.1 (by decide),Nat.le_trans Kb.1 (by decide),fun x hx=>Nat.le_trans (hAll x hx).1 (by decide),by show L.length≤1000000;omega⟩
      refine query_Check_ok (q:=⟨L,wh,by_,z,sl,d,lt⟩) (c1:=c) (c2:=cw) (c3:=cb) QE hbig fun h378 l378=>⟨errV (qryF ⟨L,wh,by_,z,sl,d,lt⟩),rfl,?_⟩
      refine(D375.le l378).put2 fun h380 D380 M380=>?_
      have lh:h.le h380:=Hp.le_trans l02 D380.l
      refine h383 h380 _ D380.c2 lh (fun hf h' l'=>?_) fun hf=>?_
      ·rw [if_pos hf] at hK
       exact hK none 0 0 none 0 0 none 0 0 h' l' (noQ_at h')
      ·rw [if_neg (fun h=>h hf)] at hK
       have M2:=(Mut.of_le l378).trans M380
       exact hK _ _ c _ _ cw _ _ cb h380 lh ⟨(BE2.keep hG2 M2.keep).tab,(Nw2.mut hgE M2).s,(N2.mut hgE M2).s⟩
     ·rw [errV_none] at e
      have e:y.f≠0:=of_decide_eq_false e
      rw [if_pos e] at hK
      refine h383 h375 y.f D375.c2 (Hp.le_trans l02 D375.l) (fun hf h' l'=>?_) fun hf=>absurd hf e
      exact hK none 0 0 none 0 0 none 0 0 h' l' (noQ_at h')
    clear_value J374
    have hcond:(bif Option.isNone (errV v5.f) then decide (((v5.ws.length:Nat):Int) > 0) else false)=decide (v5.f=0∧v5.ws≠[]):=by
     rw [errV_none,cand]
     refine decide_eq_decide.2 ?_
     rw [ne_eq,nil_len]
     constructor
     ·rintro⟨h1,h2⟩;exact⟨h1,by omega⟩
     ·rintro⟨h1,h2⟩;exact⟨h1,by omega⟩
    rw [hcond]
    refine⟨fun e=>?_,fun e=>?_⟩
    ·have e:=of_decide_eq_true e
     refine(D367.put2 (f:=4) fun h371 D371 M371=>h374 h371 _ ?_ D371 M371)
     rw [if_pos e]
     unfold RS.fail
     rw [if_pos e.1]
    ·have e:=of_decide_eq_false e
     exact h374 h367 v5 (by rw [if_neg e]) D367 (Mut.of_le (Hp.le_refl _))
   clear_value J329
   have Nw:=(N315.mut hgE ((Mut.of_le l317).trans M319))
   refine⟨fun e=>?_,fun e=>?_⟩
   ·have e:(u.is [wGroup]).1≠[]:=by simpa using e
    have hop:optP wGroup (fun s=>o (s.must wBy)) u=o ((u.is [wGroup]).2.must wBy):=by unfold optP;rw [if_neg e]
    rw [hop] at h329
    have Su:=S315.goes gi
    have Gy:=goes_must Su.good wBy
    refine reader_must_ok D319 (by have:=Su.big;omega) fun h323 D323 M323=>⟨rfl,?_⟩
    have D323:RdAt h2 h323 b6 ((u.is [wGroup]).2.must wBy):=D323
    have S323:=Su.goes Gy
    have k2:=kp _ S323.good (Nat.le_of_lt S323.len)
    have M323':=M319'.trans M323
    refine F D323 (EE.mut M323') S323 fun a c h325 D325 N325 M325=>⟨_,_,_,rfl,?_⟩
    exact h329 _ _ _ _ h325 rfl D325 (S323.goes k2.goes) ((Nw.mut hgE M323).mut hgE M325) (N325.base (M323'.up D323.al)) k2.nds (M323'.trans M325)
   ·have e:(u.is [wGroup]).1=[]:=by simpa using e
    have hop:optP wGroup (fun s=>o (s.must wBy)) u=([],u):=by unfold optP;rw [if_pos e]
    rw [io e] at D319
    exact h329 [] none 0 u h319 hop D319 S315 Nw (nd_nil _ _) nds_nil M319'
  clear_value J275
  refine⟨fun e=>?_,fun e=>?_⟩
  ·have e:(t2.is [wWhere]).1≠[]:=by simpa using e
   have hop:optP wWhere o t2=o (t2.is [wWhere]).2:=by unfold optP;rw [if_neg e]
   rw [hop] at h275
   have Su:=S263.goes gi
   have k2:=kp _ Su.good (Nat.le_of_lt Su.len)
   refine F D267 (EE.mut M267') Su fun a c h271 D271 N271 M271=>⟨_,_,_,rfl,?_⟩
   exact h275 _ _ _ _ h271 rfl D271 (Su.goes k2.goes) (N271.base (M267'.up D267.al)) k2.nds (M267'.trans M271)
  ·have e:(t2.is [wWhere]).1=[]:=by simpa using e
   have hop:optP wWhere o t2=([],t2):=by unfold optP;rw [if_pos e]
   rw [io e] at D267
   exact h275 [] none 0 t2 h267 hop D267 S263 (nd_nil _ _) nds_nil M267'
 clear_value J48
 -- what is gathered, one behind the other
 refine⟨fun vs' hh=>∃(k:Nat) (L:List Ag) (t:RS) (a:Option Addr) (c:Nat),vs'=[vsl a L.length c,vsl none 0 0,vsl none 0 0,vi 0,vi 0,vi 0,vi 0]∧AggB (At b6) h2 hh a c L∧RdAt h2 hh b6 t∧SOk (W.length+1) t∧t.ws.length < k∧aggsP o (s2.ws.length+1) [(k1,l1)] s2=aggsP o k L t∧L.length+t.ws.length≤100,fun _ hh=>wordsN hh b6,⟨_,[(k1,l1)],s2,a18,c18,rfl,B17,D17,S11,Nat.lt_succ_self _,rfl,?_⟩,?_⟩
 ·have:=G2.1.len
  show 1+s2.ws.length≤100
  omega
 rintro vs' hh ⟨k,L,t,a,c,rfl,B,D,S,hk,hrow,hL⟩
 obtain⟨k,rfl⟩:∃ j,k=j+1:=⟨k - 1,by omega⟩
 have hst:aggsP o (k+1) L t=if (t.is [wComma]).1=[] then(L,t) else aggsP o k (L++[(aggP o (t.is [wComma]).2).1]) (aggP o (t.is [wComma]).2).2:=rfl
 rw [hst] at hrow
 clear hst
 refine⟨_,_,_,_,_,_,_,_,_,_,_,_,_,rfl,?_⟩
 intro b31 hb31 h32
 have l32:hh.le h32:=Hp.le_set (Hp.le_refl hh) hb31 _
 have gi:=goes_is S.good [wComma]
 have io:=@is_one t wComma (by decide)
 have tk:=@taken t [wComma]
 have hG2:∀ b,At b6 b→h2 b=none:=fun b e=>by rw [show b=b6 from e];exact hb6
 have hwn:=D.wn
 refine reader_is_ok (D.le l32) (slb_one hh b31 wComma) (by decide) (by have:=S.big;omega) fun h34 D34 M34=>⟨_,rfl,_,rd_neBs (b:=[]),fun e=>?_,fun e=>?_⟩
 ·have e:(t.is [wComma]).1≠[]:=by simpa using e
  rw [if_neg e] at hrow
  have tk:=tk e
  have D34:RdAt h2 h34 b6 (t.is [wComma]).2:=D34
  have B34:=(B.grow l32).keep hG2 M34.keep
  have St:=S.goes gi
  have Ga:=goes_agg kp St.good (Nat.le_of_lt St.len)
  have E34:EnvQ h2 h34 b6:=⟨E7.t,D34.l,hb6⟩
  refine reader_agg_ok F kp D34 E34 St fun a42 c42 h40 D40 N40 M40=>⟨_,_,_,_,rfl,?_⟩
  generalize aggP o (t.is [wComma]).2=A at *
  obtain⟨⟨k2,l2⟩,t2⟩:=A
  simp -zeta only at hrow D40 N40 Ga ⊢
  have B40:=B34.keep hG2 M40.keep
  intro b43 hb43 h44
  have hlen:=Ga.1.len
  refine agg_app (hB:=h34) (k:=k2) B40 D40 D34.al (fun b e=>B34.al e) N40 (by omega) hb43 fun a47 c47 h46 B46 D46=>⟨_,_,_,rfl,⟨k,L++[(k2,l2)],t2,a47,c47,by simp,B46,D46,St.goes Ga.1,by omega,hrow,by simp;omega⟩,?_⟩
  have h46n:=D46.wn
  show wordsN h46 b6 < wordsN hh b6
  omega
 ·have e:(t.is [wComma]).1=[]:=by simpa using e
  rw [if_pos e] at hrow
  rw [io e] at D34
  exact hRest L t a c h34 ((B.grow l32).keep hG2 M34.keep) D34 S hrow (by omega)
end Go.Proofs.YtejefijpcggkfaaGreatDoor
namespace Go.Proofs.YtejefijpcggkfaaGreatDoor
open Go Go.Vc Go.Txt
set_option linter.unusedVariables false
def PosL (l:List Nd):Prop:=∀ n ∈ l,0≤n.v.2
def PP (P:Ps):Prop:=∀ s,PosL (P s).1
theorem pos_one {n:Nd}(h:0≤n.v.2):PosL [n]:=fun m hm=>by rw [List.mem_singleton.1 hm];exact h
theorem pos_join {op:Int}{x y:List Nd}(hx:PosL x)(hy:PosL y):PosL (joinL op x y):=by
 intro n hn
 unfold joinL at hn
 rcases List.mem_append.1 hn with h|h
 ·rcases List.mem_append.1 h with h|h
  ·exact hx n h
  ·obtain⟨m,hm,rfl⟩:=List.mem_map.1 h
   exact hy m hm
 ·rw [List.mem_singleton.1 h]
  exact Int.le_refl _
theorem pos_joinP {op:Int}{x y:List Nd}{s:RS}(hx:PosL x)(hy:PosL y):PosL (joinP op x y s).1:=by
 unfold joinP
 split
 ·exact pos_one (by decide)
 ·exact pos_join hx hy
theorem pos_nil:PosL []:=fun n h=>by cases h
theorem number_pos (s:RS)(m:Int):0≤(s.number m).1:=by
 unfold RS.number
 split
 ·exact Int.le_refl _
 ·split
  ·exact Int.le_refl _
  ·rename_i h;simp only;omega
theorem pp_down {P:Ps}(h:PP P):PP (downP P):=by
 intro s
 unfold downP
 exact h _
theorem pp_atom {o:Ps}(h:PP o):PP (atomP o):=by
 intro s
 unfold atomP
 simp only
 split
 ·exact pp_down h _
 ·split
  ·refine pos_one ?_
   simp only
   unfold constV
   split
   ·decide
   ·simp only
    split<;>decide
  ·split
   ·exact pos_one (number_pos _ _)
   ·exact pos_one (Int.le_refl _)
theorem pp_unary {u a:Ps}(hu:PP u)(ha:PP a):PP (unaryP u a):=by
 intro s
 unfold unaryP
 split
 ·exact ha s
 ·exact pos_joinP (pp_down hu _) pos_nil
theorem pp_not {u a:Ps}(hu:PP u)(ha:PP a):PP (notP u a):=by
 intro s
 unfold notP
 split
 ·exact ha s
 ·exact pos_joinP (pp_down hu _) pos_nil
theorem pp_rowL {P:Ps}(h:PP P){ops:List (Wd × Int)}:∀(k:Nat) (x:List Nd) (s:RS),PosL x→PosL (rowL P ops k x s).1
 | 0,x,s,hx=>hx
 | k+1,x,s,hx=>by
  rw [rowL]
  split
  ·exact hx
  ·simp only
   split
   ·exact hx
   ·exact pp_rowL h k _ _ (pos_joinP hx (h _))
theorem pp_row {P:Ps}(h:PP P){ops:List (Wd × Int)}:PP (rowP P ops):=fun s=>pp_rowL h _ _ _ (h s)
theorem pp_cmp {P:Ps}(h:PP P):PP (cmpP P):=by
 intro s
 unfold cmpP
 simp only
 split
 ·exact pos_joinP (h _) (h _)
 ·split
  ·exact pos_joinP (h _) (h _)
  ·split
   ·exact pos_joinP (pos_joinP (h _) (h _)) pos_nil
   ·split
    ·exact pos_joinP (pos_joinP (h _) (h _)) pos_nil
    ·split
     ·exact pos_joinP (h _) (h _)
     ·split
      ·exact pos_joinP (pos_joinP (h _) (h _)) pos_nil
      ·split
       ·split
        ·exact pos_joinP (pos_joinP (h _) pos_nil) pos_nil
        ·exact pos_joinP (h _) pos_nil
       ·exact h _
theorem pp_S {t:Three}(ho:PP t.o)(hn:PP t.n)(hu:PP t.u):PP (orS t)∧PP (notS t)∧PP (unS t):=by
 have h1:PP (unS t):=pp_unary hu (pp_atom ho)
 have h3:PP (sumS t):=pp_row (pp_row h1)
 have h5:PP (notS t):=pp_not hn (pp_cmp h3)
 exact⟨pp_row (pp_row h5),h5,h1⟩
theorem pp_noP:PP noP:=fun s=>pos_one (by decide)
theorem pp_all (n:Nat):PP (allP n).o∧PP (allP n).n∧PP (allP n).u:=by
 induction n with
 | zero=>exact⟨pp_noP,pp_noP,pp_noP⟩
 | succ n ih=>
  rw [allP_succ]
  exact pp_S ih.1 ih.2.1 ih.2.2
structure PosQ (q:Qy):Prop where
 g:∀ a ∈ q.aggs,PosL a.2
 w:PosL q.wh
 b:PosL q.by_
theorem pos_ite {c:Prop}[Decidable c]{x y:Ag × RS}(hx:PosL x.1.2)(hy:PosL y.1.2):PosL (if c then x else y).1.2:=by
 split
 ·exact hx
 ·exact hy
theorem pp_agg {o:Ps}(h:PP o)(s:RS):PosL (aggP o s).1.2:=by
 unfold aggP
 exact pos_ite pos_nil (h _)
theorem pp_aggs {o:Ps}(h:PP o):∀(k:Nat) (l:List Ag) (s:RS),(∀ a ∈ l,PosL a.2)→∀ a ∈ (aggsP o k l s).1,PosL a.2
 | 0,l,s,hl=>hl
 | k+1,l,s,hl=>by
  rw [aggsP]
  split
  ·exact hl
  ·refine pp_aggs h k _ _ fun a ha=>?_
   rcases List.mem_append.1 ha with h1|h1
   ·exact hl a h1
   ·rw [List.mem_singleton.1 h1];exact pp_agg h _
theorem pp_opt {P:Ps}(h:PP P){w:Wd}{s:RS}:PosL (optP w P s).1:=by
 unfold optP
 split
 ·exact pos_nil
 ·exact h _
theorem posQ_read (ws:List Wd):PosQ (readQ ws).1:=by
 have ho:=(pp_all (ws.length+1)).1
 rw [readQ_eq]
 generalize (allP (ws.length+1)).o=o at ho ⊢
 refine⟨pp_aggs ho _ _ _ fun a ha=>?_,pp_opt ho,pp_opt (fun s=>ho _)⟩
 rw [List.mem_singleton.1 ha];exact pp_agg ho _
theorem posQ_parse {s:List UInt8}(h:(parseQ s).2=0):QOk (parseQ s).1∧PosQ (parseQ s).1:=by
 unfold parseQ at h ⊢
 split at h
 ·rename_i h1;exact absurd h h1
 ·rename_i h1
  rw [if_neg h1]
  unfold parseW at h ⊢
  split at h
  ·rename_i h2;exact absurd h h2
  ·rename_i h2
   rw [if_neg h2]
   split at h
   ·rename_i h3;exact absurd h h3
   ·rename_i h3
    rw [if_neg h3]
    exact⟨qok_of (Decidable.not_not.1 h3),posQ_read _⟩
end Go.Proofs.YtejefijpcggkfaaGreatDoor
namespace Go.Proofs.YtejefijpcggkfaaGreatDoor
open Go Go.Vc
set_option maxRecDepth 100000
set_option linter.unusedVariables false
def VC_top_asked (u_s:ByteArray)(h:Hp)(R:Value→Hp→Prop):Prop:=
 (((decide ((((ByteArray.size u_s:Nat):Int):Int) > 400))=true→R (vtup [(vag [(vsl none 0 0),(vsl none 0 0),(vsl none 0 0),(vi 0),(vi 0),(vi 0),(vi 0)]),(vb false)]) h)∧((decide ((((ByteArray.size u_s:Nat):Int):Int) > 400))=false→(CallOK Tryz.prog 12 [(vs u_s)] h fun v2 h3=>∃(a4:Option Addr) (n4 c4:Nat) (a5:Option Addr) (n5 c5:Nat) (a6:Option Addr) (n6 c6:Nat) (x7:Int) (x8:Int) (x9:Int) (x10:Int) (e11:Option (TypeId × Value)),v2=(vtup [(vag [(vsl a4 n4 c4),(vsl a5 n5 c5),(vsl a6 n6 c6),(vi x7),(vi x8),(vi x9),(vi x10)]),(ifv e11)])∧R (vtup [(vag [(vsl a4 n4 c4),(vsl a5 n5 c5),(vsl a6 n6 c6),(vi x7),(vi x8),(vi x9),(vi x10)]),(vb (Option.isNone e11))]) h3)))
theorem ok_top_asked {u_s:ByteArray}{h:Hp}{R:Value→Hp→Prop}(H:VC_top_asked u_s h R):CallOK Tryz.prog 13 [(vs u_s)] h R:=
 call_of (cfg:=⟨[],[],[(4,[0,1,2,3,4])]⟩) noNG mixed Tryz.func13 [.one (.v (vs u_s))] (by kernel_rfl) rfl (by kernel_rfl) H
end Go.Proofs.YtejefijpcggkfaaGreatDoor
namespace Go.Proofs.YtejefijpcggkfaaGreatDoor
open Go Go.Vc Go.Txt
set_option linter.unusedVariables false
theorem top_asked_ok {s:Wd}{h:Hp}(T:TabQ h){R:Value→Hp→Prop}(bad:∀ a1 n1 c1 a2 n2 c2 a3 n3 c3 x4 x5 x6 x7 h',h.le h'→R (vtup [vag [vsl a1 n1 c1,vsl a2 n2 c2,vsl a3 n3 c3,vi x4,vi x5,vi x6,vi x7],vb false]) h')
  (hK:(parseQ s).2=0→QOk (parseQ s).1→∀ a1 n1 c1 a2 n2 c2 a3 n3 c3 h',h.le h'→QAt h' (parseQ s).1 a1 n1 a2 n2 a3 n3→R (vtup [qV a1 n1 c1 a2 n2 c2 a3 n3 c3 (parseQ s).1,vb true]) h'):CallOK Tryz.prog 13 [vs (bs s)] h R:=by
 refine ok_top_asked ?_
 unfold VC_top_asked
 refine⟨fun e=>bad _ _ _ _ _ _ _ _ _ _ _ _ _ h (Hp.le_refl _),fun _=>?_⟩
 refine query_Parse_ok T fun a1 n1 c1 a2 n2 c2 a3 n3 c3 h' l' Q=>⟨_,_,_,_,_,_,_,_,_,_,_,_,_,_,rfl,?_⟩
 rw [errV_none]
 by_cases hf:(parseQ s).2=0
 ·rw [decide_eq_true hf]
  exact hK hf (posQ_parse hf).1 a1 n1 c1 a2 n2 c2 a3 n3 c3 h' l' Q
 ·rw [decide_eq_false hf]
  exact bad _ _ _ _ _ _ _ _ _ _ _ _ _ h' l'
end Go.Proofs.YtejefijpcggkfaaGreatDoor
namespace Go.Proofs.YtejefijpcggkfaaGreatDoor
open Go Go.Vc Go.Txt
def tWin:Wd:=[115,101,108,101,99,116,32,99,111,117,110,116,40,42,41,32,102,114,111,109,32,101,118,101,110,116,115,32,119,105,110,100,111,119,32,55]
def ev3:EvL:=(3,(0,0),(0,0),(0,0))
end Go.Proofs.YtejefijpcggkfaaGreatDoor
namespace Go.Proofs.YtejefijpcggkfaaGreatDoor
open Go Go.Vc Go.Txt Go.RowKit
set_option linter.unusedVariables false
set_option maxRecDepth 100000
theorem tWin_ans:(parseQ tWin).2=0∧ansQ (parseQ tWin).1 []=[]∧lateA (parseQ tWin).1 []=0∧(ansQ (parseQ tWin).1 [[ev3]]).length=1:=by decide +kernel
theorem ev3_ok:∀ p ∈ [[ev3]],∀ e ∈ p,EvOK e:=by
 intro p hp e he
 rw [List.mem_singleton.1 hp] at he
 rw [List.mem_singleton.1 he];exact chkE_ok (by decide)
theorem tabc_one {h:Hp}{b:Nat}{t:TypeId}{a:Option Addr}{n c:Nat}{l:List EvL}(hb:h b=some (cellsO [vsl a n c] t))(S:SlP encE h a n l)(hc:n≤c):TabC encE h (some ⟨b,0,none⟩) 1 [l]:=by
 obtain⟨rfl,S⟩:=S
 refine⟨[((a,c),l)],rfl,rfl,.inr ⟨b,0,rfl,row_cells' hb (by simp)⟩,fun j r hr=>?_⟩
 match j,hr with
 | 0,hr=>cases hr;exact⟨S,hc⟩
end Go.Proofs.YtejefijpcggkfaaGreatDoor
namespace Go.Proofs.YtejefijpcggkfaaGreatDoor
open Go Go.Vc Go.Txt Go.RowKit
set_option linter.unusedVariables false
set_option maxRecDepth 100000
theorem one_evL (l:List EvL):∀ u ∈ l.flatMap encE,u.oneCell'=true:=one_evs l
theorem ansQ_keys {q:Qy}(B:QOk q){ps:List (List EvL)}(hE:∀ p ∈ ps,∀ e ∈ p,EvOK e):∀ x ∈ ansQ q ps,-1000≤x.1.1∧x.1.1≤9999:=by
 intro x hx
 unfold ansQ ansA at hx
 obtain⟨k,hk,rfl⟩:=List.mem_map.1 hx
 obtain⟨a,ha,rfl⟩:=(keysS_mem _ _).1 hk
 exact(addA_ok B hE a ha).s
theorem farL_ok {l:List EvL}(h:∀ e ∈ l,EvOK e):-1≤farL l∧farL l≤9999:=by
 induction l using snocInd with
 | h0=>decide
 | h1 l e ih=>
  have:=ih fun x hx=>h x (List.mem_append_left _ hx)
  have ht:=(h e (by simp)).t
  unfold farL at *
  rw [List.foldl_append,List.foldl_cons,List.foldl_nil]
  omega
set_option maxHeartbeats 1000000 in
theorem law_TopKeep_ok {s:Wd}{p m:List EvL}{pa:Option Addr}{pn pc:Nat}{ma:Option Addr}{mn mc:Nat}{h:Hp}(SP:SlP encE h pa pn p)(hpc:pn≤pc)(SM:SlP encE h ma mn m)(hmc:mn≤mc)(T:TabQ h):CallOK Tryz.prog 5 [vs (bs s),vsl pa pn pc,vsl ma mn mc] h fun v h'=>v=vb true∧h.le h':=by
 refine ok_top_TopKeep ?_
 unfold VC_top_TopKeep
 obtain⟨e0,_,_,e3⟩:=tWin_ans
 have Qk:=(posQ_parse e0).1
 refine query_Parse_ok (l:=tWin) T fun a1 n1 c1 a2 n2 c2 a3 n3 c3 h2 l2 Q=>⟨_,_,_,_,_,_,_,_,_,_,_,_,_,_,rfl,?_⟩
 rw [errV_some,decide_eq_true e0]
 refine⟨fun e=>(by cases e),fun _=>?_⟩
 intro b12 hb12 h13 b14 hb14 h15
 have l13:h2.le h13:=Hp.le_set (Hp.le_refl h2) hb12 _
 have l15:h13.le h15:=Hp.le_set (Hp.le_refl h13) hb14 _
 have k12:h13 b12=some (cellsO [vi 3,vi 0,vi 0,vi 0,vi 0,vi 0,vi 0] 35):=Hp.set_same _ _ _
 have k14:h15 b14=some (cellsO [vsl (some ⟨b12,0,none⟩) 1 1] 30):=Hp.set_same _ _ _
 clear_value h15
 clear_value h13
 have TC:TabC encE h15 (some ⟨b14,0,none⟩) 1 [[ev3]]:=tabc_one k14 ⟨rfl,.inr ⟨b12,0,rfl,row_cells' (l15 _ _ k12) (by simp [encE,ev3])⟩⟩ (Nat.le_refl _)
 have l215:=Hp.le_trans l13 l15
 refine batch_Answer_ok (Q.le l215) Qk TC (by decide) (by decide) ev3_ok fun a18 c18 h17 l17 G17=>⟨_,_,_,_,rfl,?_⟩
 rw [e3]
 refine⟨fun e=>absurd e (by simp),fun _=>?_⟩
 have l017:=Hp.le_trans l2 (Hp.le_trans l215 l17)
 refine top_asked_ok (T.le l017) (fun a1 n1 c1 a2 n2 c2 a3 n3 c3 x4 x5 x6 x7 h' l'=>⟨_,_,_,_,_,_,_,_,_,_,_,_,_,_,rfl,fun e=>(by cases e),fun _=>⟨fun x hh=>h.le hh,fun e=>(by cases e),fun _=>Hp.le_trans l017 l',?_⟩⟩) ?_
 ·intro h99 p100 l99
  exact⟨fun _=>⟨rfl,l99⟩,fun e=>(by cases e)⟩
 intro hf B a23 n23 c23 a24 n24 c24 a25 n25 c25 h22 l22 Q22
 have l022:=Hp.le_trans l017 l22
 refine⟨_,_,_,_,_,_,_,_,_,_,_,_,_,_,rfl,fun _=>?_,fun e=>absurd rfl e⟩
 intro b31 hb31 h32
 have l32:h22.le h32:=Hp.le_set (Hp.le_refl h22) hb31 _
 have k31:h32 b31=some (cellsO [vsl pa pn pc,vsl ma mn mc] 30):=Hp.set_same _ _ _
 clear_value h32
 have l032:=Hp.le_trans l022 l32
 have TPM:TabC encE h32 (some ⟨b31,0,none⟩) 2 [p,m]:=by
  have s1:=SP.le l032
  have s2:=SM.le l032
  obtain⟨rfl,s1⟩:=s1
  obtain⟨rfl,s2⟩:=s2
  refine⟨[((pa,pc),p),((ma,mc),m)],rfl,rfl,.inr ⟨b31,0,rfl,row_cells' k31 (by simp)⟩,fun j r hr=>?_⟩
  match j,hr with
  | 0,hr=>cases hr;exact⟨s1,hpc⟩
  | 1,hr=>cases hr;exact⟨s2,hmc⟩
 refine⟨fun x hh=>h32.le hh∧∃ p0,x=.t (.one (.v (vb p0)))∧(p0=true→[p,m].length≤3∧∀ x ∈ [p,m],x.length≤40∧∀ e ∈ x,EvOK e),fun _=>top_light_ok TPM fun p h' l' hp=>⟨_,rfl,l',p,rfl,hp⟩,fun e=>absurd rfl e,?_⟩
 rintro h37 p38 ⟨l37,p0,e,hp⟩
 cases e
 have l037:=Hp.le_trans l032 l37
 refine⟨fun _=>⟨rfl,l037⟩,fun e=>?_⟩
 have hpt:p38=true:=by cases p38 with|true=>rfl|false=>cases e
 obtain⟨_,hps⟩:=hp hpt
 obtain⟨p40,hEp⟩:=hps p (by simp)
 obtain⟨m40,hEm⟩:=hps m (by simp)
 have hpn:=SP.1
 have hmn:=SM.1
 have Q37:=Q22.le (Hp.le_trans l32 l37)
 generalize (parseQ s).1=q at *
 refine⟨fun vs hh=>hh=h37∧∃ i:Nat,vs=[vi (farL (p.take i)),vi i]∧i≤p.length,fun vs hh=>p.length - (vint vs 1).toNat,⟨rfl,0,rfl,Nat.zero_le _⟩,?_⟩
 rintro vs hh ⟨rfl,i,rfl,hi⟩
 refine⟨_,_,rfl,fun e=>?_,fun e=>?_⟩
 ·have hlt:i < p.length:=by have:=of_decide_eq_true e;omega
  have hx:p[i]?=some p[i]:=List.getElem?_eq_getElem hlt
  have tk:p.take (i+1)=p.take i++[p[i]]:=List.take_succ_eq_append_getElem hlt
  obtain⟨b,o,ea,hr⟩:=(SP.le l037).get (sz:=7) (fun _=>rfl) (by decide) hx
  generalize p[i]=ev at *
  refine⟨b,o,⟨ea,by omega,by omega⟩,ev.1,by rw [Int.toNat_natCast];exact Hp.row_cell hr (i:=0) rfl,_,rd_max,_,isW (by unfold InR;omega),⟨rfl,i+1,?_,by omega⟩,by simp [vint];omega⟩
  rw [tk]
  unfold farL
  rw [List.foldl_append]
  rfl
 have hge:i=p.length:=by have:=of_decide_eq_false e;omega
 rw [hge,List.take_length]
 clear hge hi e i
 have hfar:=farL_ok hEp
 refine OwnV.append elEv (OwnV.nil (Hp.le_refl hh) _ _) (m:=pn) (SP.le l037).2 (by rw [flatMap_length encE_len,←SP.1]) (one_evL p) (by omega) (by omega) fun a57 c57 h56 O56 _ _=>⟨_,_,_,rfl,?_⟩
 refine OwnV.append elEv O56 (m:=mn) (SM.le (Hp.le_trans l037 O56.le)).2 (by rw [flatMap_length encE_len,←SM.1]) (one_evL m) (by omega) (by omega) fun a60 c60 h59 O59 _ _=>⟨_,_,_,rfl,?_⟩
 rw [List.nil_append,←List.flatMap_append] at O59
 have S59:SlP encE h59 a60 (0+pn+mn) (p++m):=⟨by rw [List.length_append];omega,O59.row⟩
 have c59:=O59.own.cap
 have l059:=Hp.le_trans l037 O59.le
 intro b61 hb61 h62
 have l62:h59.le h62:=Hp.le_set (Hp.le_refl h59) hb61 _
 have k61:h62 b61=some (cellsO [vsl pa pn pc] 30):=Hp.set_same _ _ _
 clear_value h62
 have l062:=Hp.le_trans l059 l62
 have hlp:∀ x ∈ [p],x.length≤100:=fun x hx=>by rw [List.mem_singleton.1 hx];omega
 have hEp1:∀ x ∈ [p],∀ e ∈ x,EvOK e:=fun x hx=>by rw [List.mem_singleton.1 hx];exact hEp
 have hlpm:∀ x ∈ [p++m],x.length≤100:=fun x hx=>by rw [List.mem_singleton.1 hx,List.length_append];omega
 have hEpm1:∀ x ∈ [p++m],∀ e ∈ x,EvOK e:=fun x hx=>by
  rw [List.mem_singleton.1 hx]
  intro e he
  rcases List.mem_append.1 he with h1|h1
  ·exact hEp e h1
  ·exact hEm e h1
 have Q62:=Q37.le (Hp.le_trans O59.le l62)
 refine batch_Answer_ok Q62 B (tabc_one k61 (SP.le l062) hpc) (by simp:[p].length≤5) hlp hEp1 fun a65 c65 h64 l64 G64=>⟨_,_,_,_,rfl,?_⟩
 have l064:=Hp.le_trans l062 l64
 intro b67 hb67 h68
 have l68:h64.le h68:=Hp.le_set (Hp.le_refl h64) hb67 _
 have k67:h68 b67=some (cellsO [vsl a60 (0+pn+mn) c60] 30):=Hp.set_same _ _ _
 clear_value h68
 have l068:=Hp.le_trans l064 l68
 refine batch_Answer_ok (Q62.le (Hp.le_trans l64 l68)) B (tabc_one k67 (S59.le (Hp.le_trans l62 (Hp.le_trans l64 l68))) c59) (by simp:[p++m].length≤5) hlpm hEpm1 fun a71 c71 h70 l70 G70=>⟨_,_,_,_,rfl,?_⟩
 have l070:=Hp.le_trans l068 l70
 have hq1:=B.s
 have hq3:=B.d
 have hq4:=B.t
 refine⟨_,fun _=>isW (by unfold InR;omega),_,fun _=>isW (by unfold InR;omega),_,fun _=>isW (by unfold InR;omega),_,fun _=>isW (by unfold InR;omega),?_⟩
 obtain⟨hm1,hm1'⟩:=ansQ_many B (by simp:[p].length≤5) hlp hEp1
 obtain⟨hm2,hm2'⟩:=ansQ_many B (by simp:[p++m].length≤5) hlpm hEpm1
 have hk1:=ansQ_keys B hEp1
 have hk2:=ansQ_keys B hEpm1
 have eU:∀ L:List (PK × List Vl),uptoL (q.size+q.late) (farL p - q.delay) L=L.filter fun x=>known q (farL p) x.1:=fun L=>rfl
 refine⟨fun x hh=>h70.le hh∧(decide (farL p < 0)=false→∃ a' c',x=.t (.one (.v (vsl a' (uptoL (q.size+q.late) (farL p - q.delay) (ansQ q [p])).length c')))∧GTab encV pkRw hh a' (uptoL (q.size+q.late) (farL p - q.delay) (ansQ q [p])).length (uptoL (q.size+q.late) (farL p - q.delay) (ansQ q [p]))),
  fun _=>top_upto_ok (G64.le (Hp.le_trans l68 l70)) (by omega) (fun x hx=>by have:=hk1 x hx;unfold InR;omega) fun a' c' h' l' G'=>⟨_,_,_,rfl,l',fun _=>⟨a',c',rfl,G'⟩⟩,fun e=>⟨Hp.le_refl _,fun q=>absurd q e⟩,?_⟩
 rintro h81 a82 n82 c82 ⟨l81,hJ1⟩
 refine⟨fun x hh=>h81.le hh∧(decide (farL p < 0)=false→∃ a' c',x=.t (.one (.v (vsl a' (uptoL (q.size+q.late) (farL p - q.delay) (ansQ q [p++m])).length c')))∧GTab encV pkRw hh a' (uptoL (q.size+q.late) (farL p - q.delay) (ansQ q [p++m])).length (uptoL (q.size+q.late) (farL p - q.delay) (ansQ q [p++m]))),
  fun _=>top_upto_ok (G70.le l81) (by omega) (fun x hx=>by have:=hk2 x hx;unfold InR;omega) fun a' c' h' l' G'=>⟨_,_,_,rfl,l',fun _=>⟨a',c',rfl,G'⟩⟩,fun e=>⟨Hp.le_refl _,fun q=>absurd q e⟩,?_⟩
 rintro h87 a88 n88 c88 ⟨l87,hJ2⟩
 have l087:=Hp.le_trans l070 (Hp.le_trans l81 l87)
 refine⟨fun x hh=>hh=h87∧(decide (farL p < 0)=false→x=.t (.one (.v (vb true)))),fun e=>?_,fun e=>⟨rfl,fun q=>absurd q e⟩,?_⟩
 ·obtain⟨a',c',ea,G1⟩:=hJ1 e
  obtain⟨a'',c'',ea2,G2⟩:=hJ2 e
  cases ea
  cases ea2
  have h0:0≤farL p:=by have:=of_decide_eq_false e;omega
  have eK:uptoL (q.size+q.late) (farL p - q.delay) (ansQ q [p++m])=uptoL (q.size+q.late) (farL p - q.delay) (ansQ q [p]):=by rw [eU,eU];exact ansQ_keep h0
  rw [eK] at G2 ⊢
  have hsub:(uptoL (q.size+q.late) (farL p - q.delay) (ansQ q [p])).length≤(ansQ q [p]).length:=List.length_filter_le _ _
  exact R_SamePanes_ok (G1.le l87) G2 (by omega) (fun x hx=>hm1' x (List.mem_filter.1 hx).1) ⟨_,rfl,rfl,fun _=>rfl⟩
 ·rintro h93 p94 ⟨rfl,e⟩
  refine⟨?_,l087⟩
  cases hd:decide (farL p < 0) with
  | true=>rfl
  | false=>
   have:=e hd
   cases this
   rfl
end Go.Proofs.YtejefijpcggkfaaGreatDoor
namespace Go.Proofs.YtejefijpcggkfaaGreatDoor.topKeep
open Go.ChangeShapes Go.WideShapes Go.ChangeAt Go.RowKit Go.Vc
set_option linter.unusedVariables false
set_option maxRecDepth 100000
theorem own:ownKnob Tryz.prog.godebug=none:=by kernel_rfl
theorem open0 {H:Type}{enc:TypeId × Value→H}{W:World}{cs:List Value}(L:LeafL Tryz.prog enc W (fun _=>True) (flatIds Tryz.prog 4 35) cs):∃(x0:Int) (x1:Int) (x2:Int) (x3:Int) (x4:Int) (x5:Int) (x6:Int),cs=encE (x0,(x1,x2),(x3,x4),(x5,x6))∧InR x0∧InR x1∧InR x2∧InR x3∧InR x4∧InR x5∧InR x6:=by
 have e:flatIds Tryz.prog 4 35=[3,3,3,3,3,3,3]:=by kernel_rfl
 rw [e] at L
 match cs,L with
 | [v0,v1,v2,v3,v4,v5,v6],L=>
  obtain⟨x0,h0,g0⟩:=leaf_i64 Tryz.underlying3 (L.1)
  cases h0
  obtain⟨x1,h1,g1⟩:=leaf_i64 Tryz.underlying3 (L.2.1)
  cases h1
  obtain⟨x2,h2,g2⟩:=leaf_i64 Tryz.underlying3 (L.2.2.1)
  cases h2
  obtain⟨x3,h3,g3⟩:=leaf_i64 Tryz.underlying3 (L.2.2.2.1)
  cases h3
  obtain⟨x4,h4,g4⟩:=leaf_i64 Tryz.underlying3 (L.2.2.2.2.1)
  cases h4
  obtain⟨x5,h5,g5⟩:=leaf_i64 Tryz.underlying3 (L.2.2.2.2.2.1)
  cases h5
  obtain⟨x6,h6,g6⟩:=leaf_i64 Tryz.underlying3 (L.2.2.2.2.2.2.1)
  cases h6
  exact⟨x0,x1,x2,x3,x4,x5,x6,rfl,g0,g1,g2,g3,g4,g5,g6⟩
abbrev lay:=Rows.topKeepRow.laid
theorem tabs {W:World}(hL:laidMetH Tryz.prog lay W):TabP (hpOf W):=by
 rw [MakeChecks.laidMetH_plain _ _ _ (by kernel_rfl)] at hL
 have h3:laidMet Tryz.prog (("internal/strconv.uint64pow10",Lib.tabData .u64 Lib.pow10Tab) :: lay.drop 3) W:=hL.tail.tail
 have hT:=Lib.tabIs_of_head (g:=5) (n:=20) (by kernel_rfl) (t:=208) (by kernel_rfl) (e:=152) (by kernel_rfl) (by kernel_rfl) (by kernel_rfl) (by kernel_rfl) h3
 intro w hs
 exact var_sub hT hs
theorem star: "*"++ "errors.errorString"= "*errors.errorString":=by decide
theorem rowE (u:TypeId)(h:Tryz.prog.typeName? 3 u=some "*errors.errorString"):u=197:=
 typeName_ptr_named (nm:= "errors.errorString") (by rw [star];kernel_rfl) (by kernel_rfl) (by decide) u (by rw [star];exact h)
theorem errs {W:World}(hL:laidMetH Tryz.prog lay W):TabE (hpOf W):=by
 rw [MakeChecks.laidMetH_plain _ _ _ (by kernel_rfl)] at hL
 have h4:laidMet Tryz.prog (("strconv.ErrRange",_) :: ("strconv.ErrSyntax",_) :: lay.drop 5) W:=hL.tail.tail.tail
 obtain⟨a0,s0,hv0,_⟩:=laid_sentinel (g:=2) (ti:=42) h4 (by kernel_rfl) (by kernel_rfl) Tryz.underlying42 rowE Tryz.underlying197 Tryz.underlying199 rfl rfl Tryz.underlying9 (by kernel_rfl) (by kernel_rfl)
 obtain⟨a1,s1,hv1,_⟩:=laid_sentinel (g:=1) (ti:=42) h4.tail (by kernel_rfl) (by kernel_rfl) Tryz.underlying42 rowE Tryz.underlying197 Tryz.underlying199 rfl rfl Tryz.underlying9 (by kernel_rfl) (by kernel_rfl)
 exact⟨⟨_,_,fun w hs=>vars_sub hv1 hs⟩,⟨_,_,fun w hs=>vars_sub hv0 hs⟩⟩
theorem names {W:World}(hL:laidMetH Tryz.prog lay W):TabQ (hpOf W):=by
 have T:=tabs hL
 have E:=errs hL
 rw [MakeChecks.laidMetH_plain _ _ _ (by kernel_rfl)] at hL
 have h6:laidMet Tryz.prog (("penstock/query.fields",_) :: ("penstock/query.aggs",_) :: lay.drop 7) W:=hL.tail.tail.tail.tail.tail
 exact⟨T,E,laid_texts (texts:=fieldW) (g:=4) (t:=83) (e:=9) h6 (by kernel_rfl) (by kernel_rfl) (by kernel_rfl) (by kernel_rfl) (by kernel_rfl) (by decide),laid_texts (texts:=aggsW) (g:=0) (t:=83) (e:=9) h6.tail (by kernel_rfl) (by kernel_rfl) (by kernel_rfl) (by kernel_rfl) (by kernel_rfl) (by decide)⟩
theorem door_met (os:Os)(args:Array Value):laidMetH Tryz.prog lay ((World.doorLaid Tryz.prog 400 os).forCall (fun _ _=>0) ⟨#[],args,[]⟩).memory:=
 laidMetH_of_parts3 (fuel:=8) (laidMet_of_run' 8 (by kernel_rfl) (by kernel_rfl)) (by kernel_rfl) (by kernel_rfl)
set_option maxRecDepth 100000 in
theorem lifted (os:Os)(started:os.Started)(H:Type)(enc:TypeId × Value→H) :
  ReturnsInHanded {} Tryz.checked os 5 .any (fun w args=>(Rows.topKeepSpec.pre enc Tryz.prog Tryz.f5 Rows.topKeepRow.domain false w args∧laidMetH Tryz.prog lay w)∧sizedMet enc Tryz.prog Tryz.f5 (OpenSpec.ofChange Rows.topKeepSpec) false w args) (Rows.topKeepSpec.post enc Tryz.prog Tryz.f5 false true false false):=by
 refine returnsInHanded_of_change_and (C:=Tryz.checked) (X:=fun w _=>laidMetH Tryz.prog lay w) (fun _ _ _ hh h=>h.of_heap hh) own started (by kernel_rfl) Tryz.func5
  (ChangeSpec.witness_shaped (enc:=enc) (C:=Tryz.checked) (os:=os) (X:=fun w _=>laidMetH Tryz.prog lay w) false (World.doorLaid Tryz.prog 400 os) #[.string ⟨#[]⟩,.slice none 0 0,.slice none 0 0] 8 rfl (World.shaped_of_RefB (by kernel_rfl) (by kernel_rfl)) (by kernel_rfl) (by kernel_rfl) (by kernel_rfl) (door_met os _)) ?_
 intro W base args ds gs before hval0 hW hcnd _ hL _
 have T:=tabs hL
 have E:=errs hL
 have TQ:=names hL
 have hval:∀(j:Nat) t v,Tryz.f5.params[j]?=some t→args[j]?=some v→Value.okWide Tryz.prog W .any base t v:=hval0
 have hW':=hW
 obtain⟨p,q,hA0,hV,rfl,hfz,hnd⟩:=hW
 have hA:DataW.TrodAll enc Tryz.prog W 0 (fun _=>true) true Tryz.f5.params.toList args.toList ds p:=hA0
 rw [Tryz.params5] at hA hval
 obtain⟨v0,vs0,d0,ds0,p0,q0,hargs,rfl,rfl,h0,r0⟩:=trodAll_cons hA
 obtain⟨v1,vs1,d1,ds1,p1,q1,rfl,rfl,rfl,h1,r1⟩:=trodAll_cons r0
 obtain⟨v2,vs2,d2,ds2,p2,q2,rfl,rfl,rfl,h2,r2⟩:=trodAll_cons r1
 obtain⟨rfl,rfl,rfl⟩:=trodAll_nil r2
 obtain rfl:args=#[v0,v1,v2]:=by cases args;simp_all
 obtain⟨rfl,rfl⟩:=trodVars_none hV
 obtain⟨s0,rfl⟩:=okWide_string Tryz.underlying9 (hval 0 9 v0 rfl rfl)
 obtain⟨b0,e0,_,z0⟩:=leaf_string smTrue Tryz.underlying9 (leafC_of (Sm:=fun _=>True) h0 trivial)
 cases e0
 obtain⟨w1,w2,w3,rfl⟩:=okWide_slice (e:=35) (by kernel_rfl) (hval 1 30 v1 rfl rfl)
 obtain⟨p1,n1,c1,l1,e1,S1,hc1,hm1,_,g1⟩:=leaf_slice (enc:=encE) (sz:=7) (good:=fun y=>True) smTrue (e:=35) (by kernel_rfl) (by kernel_rfl) (by decide) (fun _=>rfl)
  (fun cs L=>by
   have hf:=leaf_flat smTrue 4 (by kernel_rfl) L
   obtain⟨x0,x1,x2,x3,x4,x5,x6,hy,hg⟩:=open0 hf
   exact⟨(x0,(x1,x2),(x3,x4),(x5,x6)),hy,trivial⟩) (leafC_of (Sm:=fun _=>True) h1 trivial)
 cases e1
 obtain⟨w1,w2,w3,rfl⟩:=okWide_slice (e:=35) (by kernel_rfl) (hval 2 30 v2 rfl rfl)
 obtain⟨p2,n2,c2,l2,e2,S2,hc2,hm2,_,g2⟩:=leaf_slice (enc:=encE) (sz:=7) (good:=fun y=>True) smTrue (e:=35) (by kernel_rfl) (by kernel_rfl) (by decide) (fun _=>rfl)
  (fun cs L=>by
   have hf:=leaf_flat smTrue 4 (by kernel_rfl) L
   obtain⟨x0,x1,x2,x3,x4,x5,x6,hy,hg⟩:=open0 hf
   exact⟨(x0,(x1,x2),(x3,x4),(x5,x6)),hy,trivial⟩) (leafC_of (Sm:=fun _=>True) h2 trivial)
 cases e2
 refine(calls_law (law_TopKeep_ok (s:=s0.data.toList) S1 hc1 S2 hc2 TQ)).mono fun e W' ⟨he,hg⟩=>?_
 subst he
 exact⟨_,rfl,law_post big hW' hg (by kernel_rfl) (tb:=4) (by kernel_rfl) (by kernel_rfl) rfl⟩
theorem over:Rows.topKeepRow.holds Tryz.pinned (OpenSpec.ofChange Rows.topKeepSpec):=
 OpenClaim.holds_of_wide 5 Tryz.f5 rfl rfl rfl rfl rfl rfl rfl ⟨rfl,rfl,rfl,rfl,rfl⟩ rfl rfl rfl rfl rfl (by kernel_rfl) Tryz.func5 (by kernel_rfl)
  (of_decide_eq_true (by kernel_rfl)) (by unfold Func.isWrapper;first|(rw [if_pos (by decide +kernel)];kernel_rfl)|(rw [if_neg (by decide +kernel)];exact⟨rfl,rfl⟩))
  (fun os started H enc _=>lifted os started H enc)
theorem proved:Rows.TopKeepCardSaid:=
 Claim7.holds_tied_plain_at .later [] _ true _ true
  over (fun _ h=>by cases h) (by kernel_rfl) (fun _ h=>by cases h) topKeep_row_tie rfl ⟨rfl,rfl⟩ (by kernel_rfl) rfl
  (fun f fn hf hfn=>by
   obtain rfl:f=5:=Option.some.inj ((show Tryz.prog.funcNamed "penstock/penstocktop.TopKeep"=some 5 by kernel_rfl).symm.trans hf) |>.symm
   obtain rfl:fn=Tryz.f5:=(Option.some.inj (Tryz.func5.symm.trans hfn)).symm
   exact⟨by kernel_rfl,fun j t ht=>by
    rw [Tryz.params5] at ht
    have hm:t ∈ [9,30,30]:=by simpa using Array.mem_of_getElem? ht
    have hall:([9,30,30].all fun u=>!Tryz.prog.wantsStandIn u)=true:=by kernel_rfl
    exact(show Tryz.prog.wantsStandIn t=false by simpa using List.all_eq_true.1 hall t hm)⟩)
  (by kernel_rfl)
end Go.Proofs.YtejefijpcggkfaaGreatDoor.topKeep
