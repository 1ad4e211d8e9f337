/-
  The statement that the last part names, proved; and all that it stands on that is not in the parts ahead. Conditions: those stated at each.
-/
import Derived.Test.YtedmojjfdppffaaRows
import Derived.WalkKit
import Derived.ProofKit
import Derived.OpenShut
import Derived.Test.YtedmojjfdppffaaPn2
set_option linter.unusedVariables false
set_option maxRecDepth 100000
namespace Go.Proofs.Ytedmojjfdppffaa
open Go Go.Vc
abbrev encI1 (x:Int):List Value:=[vi x]
theorem law_goodP_ok {v:Int × Int}{h:Hp}{R:Value→Hp→Prop}(hK:R (vb (decide (goodV v))) h):CallOK Try.prog 5 [vag (encV v)] h R:=by
 refine ok_law_good ?_
 unfold VC_law_good
 refine R_ValueFault_ok (v:=v) ⟨_,rfl,?_⟩
 have:decide ((if goodV v then(0:Int) else 3)=0)=decide (goodV v):=by
  by_cases hg:goodV v<;>simp [hg]
 rw [this]
 exact hK
theorem law_tables_ok {h:Hp}{R:Value→Hp→Prop}(hK:∀ h',h.le h'→R (vb true) h'):CallOK Try.prog 4 [] h R:=by
 refine ok_law_tables ?_
 unfold VC_law_tables
 intro b1 hb1 h2 b3 hb3 h4
 have l2:h.le h2:=Hp.le_set (Hp.le_refl h) hb1 _
 have l4:h2.le h4:=Hp.le_set (Hp.le_refl h2) hb3 _
 have k1:HasRow h4 (some ⟨b1,0,none⟩) [vi 1]:=(HasRow.new _ _ [vi 1] _:HasRow h2 _ _).le l4
 have k3:HasRow h4 (some ⟨b3,0,none⟩) [vi 0,vi 0]:=HasRow.new _ _ [vi 0,vi 0] _
 clear_value h4
 clear_value h2
 have T:Tb h4 none []:=⟨⟨rfl,.inl rfl⟩,fun r hr=>by cases hr⟩
 have SK:SlI h4 (some ⟨b1,0,none⟩) 1 [1]:=⟨rfl,k1⟩
 have SV:SlP encV h4 (some ⟨b3,0,none⟩) 1 [(0,0)]:=⟨rfl,k3⟩
 have hvs:∀ u ∈ [((0:Int),(0:Int))],smallV u:=fun u hu=>by
  rw [List.mem_singleton.1 hu]
  exact⟨by decide,by decide⟩
 have fin:∀ h',h4.le h'→∀ b:Bool,b=true→R (vb b) h':=fun h' l' b hb=>by
  rw [hb]
  exact hK _ (Hp.le_trans l2 (Hp.le_trans l4 l'))
 clear hK l2 l4 k1 k3
 have H:=Table_Add_ok (kc:=1) (vc:=1) (c:=0) (K':=fun v h'=>h4.le h'∧∃(a:Option Addr) (c:Nat) (x:PR),x.k.1=5∧v=vtup [vag [vsl a 1 c],vag [vi 0,vi 0,vi 0,vsl none 0 0,vb false],vb false]∧Tb h' a [x]) (k:=(5,(0,0))) (ks:=[1]) (v:=[(0,0)]) T (Nat.zero_le _) List.Pairwise.nil SK SV rfl (Nat.le_of_ble_eq_true rfl) (fun r hr=>by cases hr) (fun r hr=>by cases hr) hvs (fun i r a' c' a2 c2 h' hr=>by cases hr) fun i a' c' a2 c2 h' hi _ _ _ l' T'=>⟨l',a',c',⟨(5,(0,0)),a2,c2,accP (acc0 [1]) [(0,0)],false⟩,rfl,rfl,by
  obtain rfl:i=0:=Nat.le_zero.1 hi
  exact T'⟩
 refine CallOK.mono H ?_
 rintro v h6 ⟨l6,a,c,x,hx,rfl,T6⟩
 obtain⟨b,o,ea,hr⟩:=T6.s.get encPr_len (by decide) (i:=0) rfl
 have hc:=Hp.row_cell hr (i:=0) (x:=vi 5) (by rw [←hx];rfl)
 refine⟨a,1,c,0,0,0,none,0,0,false,false,rfl,b,o,fun _=>⟨ea,by decide,by decide⟩,5,fun _=>hc,fin h6 l6 _ (by decide)⟩
structure AW (h9:Hp)(n:Nat)(r:AR):Prop where
 l:r.2.2.length=n
 i:HasRow h9 r.2.1.1 (r.2.2.flatMap encV)
 g:goodV r.1.1.2
 s:-1000≤r.1.1.1∧r.1.1.1≤9999
 v:∀ u ∈ r.2.2,smallV u
theorem rows_ofA {A:List AR}{k:PK}{x:List Vl}(h:x ∈ rowsOf (adsOf A) k):∃ r ∈ A,r.1.1=k∧x=r.2.2:=by
 unfold rowsOf adsOf at h
 obtain⟨y,hy,rfl⟩:=List.mem_map.1 h
 obtain⟨h1,h2⟩:=List.mem_filter.1 hy
 obtain⟨r,hr,rfl⟩:=List.mem_map.1 h1
 exact⟨r,hr,of_decide_eq_true h2,rfl⟩
theorem rows_lenA (A:List AR)(k:PK):(rowsOf (adsOf A) k).length≤A.length:=by
 unfold rowsOf adsOf
 rw [List.length_map]
 exact Nat.le_trans (List.length_filter_le _ _) (by rw [List.length_map];exact Nat.le_refl _)
theorem keysU_len (A:List Ad):(keysU A).length≤A.length:=by
 induction A using snocInd with
 | h0=>simp [keysU]
 | h1 A a ih=>
  rw [keysU_snoc]
  split
  ·rw [List.length_append];omega
  ·rw [List.length_append,List.length_append,List.length_singleton,List.length_singleton];omega
theorem pan_facts {h9:Hp}{n:Nat}{A:List AR}{pn:List Pn}{T:List PK}(I:PanI (adsOf A) pn T)(w:∀ r ∈ A,AW h9 n r):∀ p ∈ pn,(∀ r ∈ p.rs,r.length=n∧∀ u ∈ r,smallV u)∧(-1000≤p.k.1∧p.k.1≤9999)∧goodV p.k.2∧p.rs.length≤A.length:=by
 intro p hp
 obtain⟨e1,e2⟩:=I.r p hp
 obtain⟨x,l,ex⟩:=List.exists_cons_of_ne_nil e2
 obtain⟨r0,hr0,hk0,_⟩:=rows_ofA (A:=A) (k:=p.k) (x:=x) (by rw [←e1,ex];exact List.mem_cons_self ..)
 have W0:=w r0 hr0
 rw [hk0.symm] at *
 refine⟨fun r hr=>?_,W0.s,W0.g,by rw [e1];exact rows_lenA _ _⟩
 rw [e1] at hr
 obtain⟨r1,hr1,_,rfl⟩:=rows_ofA hr
 exact⟨(w r1 hr1).l,(w r1 hr1).v⟩
theorem okK_of {k:PK}(hs:-1000≤k.1∧k.1≤9999)(hg:goodV k.2):okK k:=by
 have h2:=goodV.small hg
 unfold smallV at h2
 unfold goodV at hg
 refine⟨by unfold InR;omega,by unfold InR;omega,by unfold InR;omega⟩
structure PaS (h9 hA hT hh:Hp)(ks:List Int)(b:Nat)(a:Option Addr)(c:Nat)(A:List AR)(tb:Option Addr)(R:List PR)(pn:List Pn)(M:List (PK × Nat))(clk:Nat):Prop where
 d:Duo h9 hA hT hh
 v:VecAR h9 hA a c A
 m:MapK hA b M clk
 t:Tb hT tb R
 p:R.map prT=pn.map (pnT ks)
 i:PanI (adsOf A) pn (M.map (·.1))
 w:∀ r ∈ A,AW h9 ks.length r
theorem prT_len {ks:List Int}{R:List PR}{L:List Pn}(h:R.map prT=L.map (pnT ks)):R.length=L.length:=by
 have:=congrArg List.length h
 rwa [List.length_map,List.length_map] at this
set_option maxHeartbeats 2000000 in
theorem law_PanesSays_ok {ks:List Int}{size:Int}{L:List AR}{ka la:Option Addr}{kn kc ln lc:Nat}{h:Hp}(SK:SlI h ka kn ks)(S:SlP arV h la ln L)(hI:∀ r ∈ L,HasRow h r.2.1.1 (r.2.2.flatMap encV)):CallOK Try.prog 3 [vsl ka kn kc,vi size,vsl la ln lc] h fun v h'=>v=vb true∧h.le h':=by
 refine ok_law_PanesSays ?_
 unfold VC_law_PanesSays
 obtain rfl:=SK.1
 obtain rfl:=S.1
 refine law_tables_ok fun h2 l2=>⟨true,rfl,fun _=>⟨rfl,l2⟩,fun e=>?_⟩
 obtain⟨e,e5⟩:=bor_false e
 obtain⟨e,e4⟩:=bor_false e
 obtain⟨e,e3⟩:=bor_false e
 obtain⟨_,e2⟩:=bor_false e
 have hkn:ks.length≤4:=by have:=of_decide_eq_false e2;omega
 have hln:L.length≤40:=by have:=of_decide_eq_false e3;omega
 have hs1:1≤size:=by have:=of_decide_eq_false e4;omega
 have hs2:size≤1000:=by have:=of_decide_eq_false e5;omega
 clear e e2 e3 e4 e5
 have SK2:=SK.le l2
 refine⟨fun vs hh=>hh=h2∧∃ i:Nat,vs=[vi i]∧i≤ks.length∧∀ k ∈ ks.take i,1≤k∧k≤5,fun vs hh=>ks.length - (vint vs 0).toNat,⟨rfl,0,rfl,Nat.zero_le _,by simp⟩,?_⟩
 rintro vs hh ⟨rfl,i,rfl,hi,hz⟩
 refine⟨_,rfl,fun e=>?_,fun e=>?_⟩
 ·have hlt:i < ks.length:=by have:=of_decide_eq_true e;omega
  obtain⟨bk,ok,ea,hc⟩:=SK2.get hlt
  refine⟨bk,ok,⟨ea,by omega,by omega⟩,_,by rw [Int.toNat_natCast];exact hc,bk,ok,fun _=>⟨ea,by omega,by omega⟩,_,fun _=>by rw [Int.toNat_natCast];exact hc,fun _=>⟨rfl,l2⟩,fun e2=>?_⟩
  obtain⟨q1,q2⟩:=bor_false e2
  have q1:=of_decide_eq_false q1
  have q2:=of_decide_eq_false q2
  refine⟨_,isW (by unfold InR;omega),⟨rfl,i+1,rfl,hlt,fun k hk=>?_⟩,by simp [vint];omega⟩
  rw [List.take_succ_eq_append_getElem hlt] at hk
  rcases List.mem_append.1 hk with hk|hk
  ·exact hz k hk
  ·have eg:ks.getD i 0=ks[i]:=by rw [List.getD_eq_getElem?_getD,List.getElem?_eq_getElem hlt];rfl
   rw [List.mem_singleton.1 hk,←eg]
   omega
 have hge:i=ks.length:=by have:=of_decide_eq_false e;omega
 rw [hge,List.take_length] at hz
 clear e hi hge
 clear i
 refine sem_makeMap fun b hb=>⟨_,rfl,?_⟩
 have lm:hh.le (hh.set b (.map #[] 0)):=Hp.le_set (Hp.le_refl hh) hb _
 have cm:(hh.set b (.map #[] 0)) b=some (.map #[] 0):=Hp.set_same _ _ _
 generalize hh.set b (.map #[] 0)=h22 at lm cm ⊢
 intro J338
 have hJ338:∀ h',hh.le h'→J338 h':=fun h' l'=>⟨rfl,Hp.le_trans l2 l'⟩
 clear_value J338
 have SL:=S.le l2
 have hI2:∀ r ∈ L,HasRow hh r.2.1.1 (r.2.2.flatMap encV):=fun r hr=>(hI r hr).le l2
 have fin:∀{h':Hp},hh.le h'→(vb true=vb true∧h.le h'):=fun l'=>⟨rfl,Hp.le_trans l2 l'⟩
 clear SK S hI
 -- the walk over what is added
 refine⟨fun vs hx=>∃(i:Nat) (a:Option Addr) (c:Nat) (A:List AR) (tb:Option Addr) (tc:Nat) (R:List PR) (pn:List Pn) (M:List (PK × Nat)) (clk:Nat) (hA hT:Hp),vs=[vsl a A.length c,vi i,vsl tb R.length tc]∧i≤L.length∧A.length≤i∧PaS hh hA hT hx ks b a c A tb R pn M clk,fun vs hx=>L.length - (vint vs 1).toNat,
  ⟨0,none,0,[],none,0,[],[],[],0,h22,hh,rfl,Nat.zero_le _,Nat.le_refl _,Duo.new lm,OwnV.nil lm _ _,MapS.new cm,⟨⟨rfl,.inl rfl⟩,by simp⟩,rfl,PanI.nil,by simp⟩,?_⟩
 clear lm cm
 clear h22
 rintro vs hx ⟨i,a,c,A,tb,tc,R,pn,M,clk,hA,hT,rfl,hi,hAi,X⟩
 refine⟨_,_,_,_,_,_,_,rfl,fun e=>?_,fun e=>hJ338 hx X.d.le0⟩
 have hlt:i < L.length:=by have:=of_decide_eq_true e;omega
 clear e
 have lx:=X.d.le0
 have hxr:L[i]?=some L[i]:=List.getElem?_eq_getElem hlt
 have hIr:=hI2 _ (List.getElem_mem hlt)
 generalize L[i]=r at hxr hIr
 obtain⟨bl,ol,el,hrow⟩:=(SL.le lx).get arV_len (by decide) hxr
 refine⟨bl,ol,⟨el,by omega,by omega⟩,r.1.1.1,r.1.1.2.1,r.1.1.2.2,r.2.1.1,r.2.2.length,r.2.1.2,r.1.2.1,r.1.2.2,by rw [Int.toNat_natCast];exact hrow,?_⟩
 clear hrow el
 refine⟨fun x h'=>h'=hx∧((bif (bif (decide ((((r.2.2.length:Nat):Int):Int)≠((ks.length:Nat):Int))) then true else(decide ((r.1.1.1:Int) < (-1000)))) then true else(decide ((r.1.1.1:Int) > 9999)))=false→x=.t (.one (.v (vb (decide (goodV r.1.1.2)))))),fun _=>law_goodP_ok ⟨_,rfl,rfl,fun _=>rfl⟩,fun e=>⟨rfl,fun q=>absurd q e⟩,?_⟩
 rintro h46 p47 ⟨rfl,e47⟩
 refine⟨fun _=>fin lx,fun e=>?_⟩
 obtain⟨e,ed2⟩:=bor_false e
 obtain⟨e,ed1⟩:=bor_false e
 obtain⟨e,eu2⟩:=bor_false e
 obtain⟨e,eu1⟩:=bor_false e
 obtain⟨e,ep⟩:=bor_false e
 replace e47:=e47 e
 obtain⟨e,ec3⟩:=bor_false e
 obtain⟨ec1,ec2⟩:=bor_false e
 have hrl:r.2.2.length=ks.length:=by have:=of_decide_eq_false ec1;omega
 have hst:-1000≤r.1.1.1∧r.1.1.1≤9999:=by have:=of_decide_eq_false ec2;have:=of_decide_eq_false ec3;omega
 have hup:-20000≤r.1.2.1∧r.1.2.1≤20000:=by have:=of_decide_eq_false eu1;have:=of_decide_eq_false eu2;omega
 have hdr:-20000≤r.1.2.2∧r.1.2.2≤20000:=by have:=of_decide_eq_false ed1;have:=of_decide_eq_false ed2;omega
 have hgk:goodV r.1.1.2:=by
  cases e47
  simpa using ep
 clear e ec1 ec2 ec3 eu1 eu2 ed1 ed2 ep e47
 refine⟨fun vs hy=>hy=h46∧∃ m:Nat,vs=[vi m]∧m≤ks.length∧∀ u ∈ r.2.2.take m,goodV u,fun vs hy=>ks.length - (vint vs 0).toNat,⟨rfl,0,rfl,Nat.zero_le _,by simp⟩,?_⟩
 rintro vs hy ⟨rfl,m,rfl,hm,hgz⟩
 refine⟨_,rfl,fun e=>?_,fun e=>?_⟩
 ·have hltm:m < ks.length:=by have:=of_decide_eq_true e;omega
  have hxm:r.2.2[m]?=some r.2.2[m]:=List.getElem?_eq_getElem (by omega)
  have tkm:r.2.2.take (m+1)=r.2.2.take m++[r.2.2[m]]:=List.take_succ_eq_append_getElem (by omega)
  generalize r.2.2[m]=u at hxm tkm
  obtain⟨bv,ov,ev,hrv⟩:=SlP.get encV_len (by decide) (⟨rfl,hIr.le lx⟩:SlP encV hy r.2.1.1 r.2.2.length r.2.2) hxm
  obtain⟨bk,ok,ea,hc⟩:=(SK2.le lx).get hltm
  have hc0:=Hp.row_cell hrv (i:=0) (x:=vi u.1) rfl
  refine⟨bv,ov,⟨ev,by omega,by omega⟩,u.1,u.2,by rw [Int.toNat_natCast];exact hrv,law_goodP_ok (v:=u) ⟨_,rfl,bk,ok,fun _=>⟨ea,by omega,by omega⟩,_,fun _=>by rw [Int.toNat_natCast];exact hc,bv,ov,fun _=>⟨ev,by omega,by omega⟩,u.1,fun _=>by rw [Int.toNat_natCast];exact hc0,fun _=>fin lx,fun e2=>?_⟩⟩
  obtain⟨q1,_⟩:=bor_false e2
  have hgu:goodV u:=by simpa using q1
  refine⟨_,isW (by unfold InR;omega),⟨rfl,m+1,rfl,hltm,fun x hx'=>?_⟩,by simp [vint];omega⟩
  rw [tkm] at hx'
  rcases List.mem_append.1 hx' with h1|h1
  ·exact hgz x h1
  ·rw [List.mem_singleton.1 h1];exact hgu
 have hgem:m=ks.length:=by have:=of_decide_eq_false e;omega
 rw [hgem,←hrl,List.take_length] at hgz
 clear e hm hgem
 clear m
 have W:AW hh ks.length r:=⟨hrl,hIr,hgk,hst,fun u hu=>goodV.small (hgz u hu)⟩
 have hokk:okK r.1.1:=okK_of hst hgk
 have hpl:R.length=pn.length:=prT_len X.p
 have hpn:pn.length≤A.length:=by
  rw [X.i.len]
  exact Nat.le_trans (keysU_len _) (by unfold adsOf;rw [List.length_map];exact Nat.le_refl _)
 have pf:=pan_facts X.i X.w
 obtain⟨XD,XV,XM,XT,Xp,XI,XW⟩:=X
 -- what was there of the pane
 refine XD.left (law_of_ok (XV.slp arV_len (by decide)) (k:=r.1.1) (by omega) fun a74 c74 hA1 V74=>⟨Hp.le_trans XD.zA V74.le0,fun h73 D1=>⟨_,_,_,rfl,?_⟩⟩)
 have lA1:=V74.le0
 have V1:=XV.keep0 lA1
 have M1:=XM.le lA1
 have S74:=V74.slp arV_len (by decide)
 have hofl:(ofK A r.1.1).length≤1000:=Nat.le_trans (List.length_filter_le _ _) (by omega)
 have hofr:=ofK_rows A r.1.1
 have hofW:∀ x ∈ ofK A r.1.1,x.1.1=r.1.1∧x.2.2.length=ks.length∧HasRow hh x.2.1.1 (x.2.2.flatMap encV)∧∀ v ∈ x.2.2,smallV v:=fun x hx'=>by
  unfold ofK at hx'
  obtain⟨q1,q2⟩:=List.mem_filter.1 hx'
  have q3:=XW x q1
  exact⟨of_decide_eq_true q2,q3.l,q3.i,q3.v⟩
 clear V74 XV XM XD
 have hsort:(R.map (·.k)).Pairwise aheadK:=by rw [prT_keys Xp];exact sortedP_keys.1 XI.s
 have hkd:∀ x ∈ R,x.acs.length=ks.length:=by
  intro x hx'
  obtain⟨j,hj⟩:=List.getElem?_of_mem hx'
  obtain⟨p,hp,q1,q2,q3⟩:=prT_at Xp hj
  rw [q2]
  have:=congrArg List.length (accsOf_kinds (ks:=ks) (rs:=p.rs) fun y hy=>((pf p (List.mem_of_getElem? hp)).1 y hy).1)
  rwa [List.length_map] at this
 have hbd:∀ x ∈ R,∀ y ∈ x.acs,AcB y:=by
  intro x hx'
  obtain⟨j,hj⟩:=List.getElem?_of_mem hx'
  obtain⟨p,hp,q1,q2,q3⟩:=prT_at Xp hj
  have hf:=pf p (List.mem_of_getElem? hp)
  rw [q2]
  exact accsOf_small (fun y hy=>(hf.1 y hy).1) (fun y hy=>(hf.1 y hy).2) (by omega)
 refine CallOK.mono (R:=fun v h'=>∃(is:Bool) (w:PR) (tb1:Option Addr) (c1:Nat) (R1:List PR) (hT1:Hp),v=vtup [vag [vsl tb1 R1.length c1],vag (encPr w),vb is]∧Duo hh hA1 hT1 h'∧Tb hT1 tb1 R1∧R1.map prT=(putP r.1.1 r.2.2 pn).map (pnT ks)∧R1.length≤41 ∧
  (is=true→∃ p ∈ pn,p.k=r.1.1∧prT w=pnT ks p∧HasRow hT1 w.a (w.acs.flatMap encAc))∧(is=false→w=⟨(0,(0,0)),none,0,[],false⟩∧∀ p ∈ pn,p.k≠r.1.1))
  (D1.right (Table_Add_ok (k:=r.1.1) (v:=r.2.2) XT (by omega) hsort (SK2.le D1.zM) ⟨rfl,hIr.le D1.zM⟩ hrl (by omega) hkd hbd (fun u hu=>goodV.small (hgz u hu))
   (fun j w a' c' a2 c2 h1 hj hwk l1 T1=>⟨Hp.le_trans D1.zM l1,fun h' D2=>?_⟩) (fun j a' c' a2 c2 h1 hj q1 q2 q3 l1 T1=>⟨Hp.le_trans D1.zM l1,fun h' D2=>?_⟩))) ?_
 ·obtain⟨p,hp,k1,k2,k3⟩:=prT_at Xp hj
  have hpm:=List.mem_of_getElem? hp
  have hpk:p.k=r.1.1:=by rw [←k1];exact hwk
  refine⟨true,w,a',c',_,h1,by rw [List.length_set],D2,T1,?_,by rw [List.length_set];omega,fun _=>⟨p,hpm,hpk,by rw [prT,pnT,k1,k2,k3],(XT.i w (List.mem_of_getElem? hj)).le l1⟩,fun e=>by cases e⟩
  rw [putP_in XI.s hp hpk,List.map_set,List.map_set,Xp]
  congr 1
  rw [prT,pnT,accsOf_snoc,k1,k2,k3,hpk]
 ·have hkeys:=prT_keys Xp
  have hpj:∀ x ∈ pn.take j,aheadK x.k r.1.1:=fun x hx'=>by
   have:x.k ∈ (R.map (·.k)).take j:=by rw [hkeys,←List.map_take];exact List.mem_map.2 ⟨x,hx',rfl⟩
   rw [←List.map_take] at this
   obtain⟨y,hy,ey⟩:=List.mem_map.1 this
   rw [←ey];exact q1 y hy
  have hpa:∀ x,pn[j]?=some x→¬ aheadK x.k r.1.1:=fun x hx'=>by
   have:(R.map (·.k))[j]?=some x.k:=by rw [hkeys,List.getElem?_map,hx'];rfl
   rw [List.getElem?_map,Option.map_eq_some_iff] at this
   obtain⟨y,hy,ey⟩:=this
   rw [←ey];exact q2 y hy
  have hpno:∀ x ∈ pn,x.k≠r.1.1:=fun x hx'=>by
   have:x.k ∈ R.map (·.k):=by rw [hkeys];exact List.mem_map.2 ⟨x,hx',rfl⟩
   obtain⟨y,hy,ey⟩:=List.mem_map.1 this
   rw [←ey];exact q3 y hy
  refine⟨false,⟨(0,(0,0)),none,0,[],false⟩,a',c',_,h1,?_,D2,T1,?_,?_,(fun e=>by cases e),fun _=>⟨rfl,hpno⟩⟩
  ·have:(R.take j++(⟨r.1.1,a2,c2,accP (acc0 ks) r.2.2,false⟩:PR) :: R.drop j).length=R.length+1:=by
    rw [List.length_append,List.length_cons,List.length_take,List.length_drop];omega
   rw [this]
   rfl
  ·rw [putP_new (by omega) hpj hpa hpno,List.map_append,List.map_append,List.map_cons,List.map_cons,List.map_take,List.map_take,List.map_drop,List.map_drop,Xp]
   rfl
  ·rw [List.length_append,List.length_cons,List.length_take,List.length_drop];omega
 rintro v h76 ⟨is,w,tb1,c1,R1,hT1,rfl,D2,T1,Xp1,hR1,hyes,hno⟩
 clear D1 hkd hbd hsort XT hpl Xp
 refine⟨tb1,R1.length,c1,w.k.1,w.k.2.1,w.k.2.2,w.a,w.acs.length,w.c,w.t,is,rfl,_,rd_neB (by kernel_rfl),?_⟩
 have h84:(is != decide ((((ofK A r.1.1).length:Nat):Int) > 0))=false:=by
  have hh2:=XI.has r.1.1
  rw [←hofr] at hh2
  cases is with
  | true=>
   obtain⟨p,hp,hk,_⟩:=hyes rfl
   have:=hh2.2 ⟨p,hp,hk⟩
   have h3:0 < (ofK A r.1.1).length:=by
    have h5:=List.length_pos_iff.2 this
    rwa [List.length_map] at h5
   rw [decide_eq_true (by omega)]
   rfl
  | false=>
   have h3:(ofK A r.1.1).map (·.2.2)=[]:=by
    refine Decidable.byContradiction fun q=>?_
    obtain⟨p,hp,hk⟩:=hh2.1 q
    exact(hno rfl).2 p hp hk
   have h4:=congrArg List.length h3
   rw [List.length_map,List.length_nil] at h4
   rw [h4]
   rfl
 rw [h84]
 clear h84
 refine⟨fun x h'=>h76.le h'∧(is=true→∃(p:Pn) (a':Option Addr) (c':Nat),p ∈ pn∧p.k=r.1.1∧x=.t (.ag [.v (vi r.1.1.1),.v (vi r.1.1.2.1),.v (vi r.1.1.2.2),.v (vsl a' (outV ks p.rs).length c')])∧SlP encV h' a' (outV ks p.rs).length (outV ks p.rs)),fun hc=>?_,fun hc=>⟨Hp.le_refl _,fun e=>absurd ⟨rfl,e⟩ hc⟩,?_⟩
 ·obtain⟨p,hp,hk,hw,hrow⟩:=hyes hc.2
  obtain⟨k1,k2,k3⟩:=prT_eq hw
  have hwl:w.acs.length≤1000:=by
   rw [k2]
   have:=congrArg List.length (accsOf_kinds (ks:=ks) (rs:=p.rs) fun y hy=>((pf p hp).1 y hy).1)
   rw [List.length_map] at this
   omega
  refine pane_Out_ok (r:=w) ⟨rfl,hrow.le D2.lM⟩ hwl fun a' c' h' V=>⟨_,_,_,_,_,_,rfl,V.le0,fun _=>⟨p,a',c',hp,hk,?_,?_⟩⟩
  ·rw [←hk,←k1,k2];rfl
  ·have:=V.slp encV_len (by decide)
   rw [k2] at this
   exact this
 rintro h92 x93 x94 x95 a96 n96 c96 ⟨l92,e92⟩
 refine⟨fun x h'=>h92.le h'∧(is=true→∃(a':Option Addr) (c':Nat),x=.t (.ag [.v (vi r.1.1.1),.v (vi r.1.1.2.1),.v (vi r.1.1.2.2),.v (vsl a' (outV ks (rowsOf (adsOf A) r.1.1)).length c')])∧SlP encV h' a' (outV ks (rowsOf (adsOf A) r.1.1)).length (outV ks (rowsOf (adsOf A) r.1.1))),fun hc=>?_,fun hc=>⟨Hp.le_refl _,fun e=>absurd ⟨rfl,e⟩ hc⟩,?_⟩
 ·obtain⟨p,hp,hk,_⟩:=hyes hc.2
  have hne:ofK A r.1.1≠[]:=fun q=>by
   have:=(XI.has r.1.1).2 ⟨p,hp,hk⟩
   rw [←hofr,q] at this
   exact this rfl
  have l:=Hp.le_trans D2.le0 l92
  refine law_outOf_ok (k:=r.1.1) (S74.le (Hp.le_trans D2.lA l92)) (SK2.le l) hne (fun x hx'=>⟨(hofW x hx').1,(hofW x hx').2.1,(hofW x hx').2.2.1.le l,(hofW x hx').2.2.2⟩) hofl (by omega) (fun x hx'=>(hz x hx').1) fun a' c' h' V=>⟨_,_,_,_,_,_,rfl,V.le0,fun _=>⟨a',c',?_,?_⟩⟩
  ·rw [hofr]
  ·have:=V.slp encV_len (by decide)
   rw [hofr] at this
   exact this
 rintro h104 x105 x106 x107 a108 n108 c108 ⟨l104,e104⟩
 refine⟨fun x h'=>h104.le h'∧(is=true→x=.t (.one (.v (vb true)))),fun hc=>?_,fun hc=>⟨Hp.le_refl _,fun e=>absurd ⟨rfl,e⟩ hc⟩,?_⟩
 ·obtain⟨p,a',c',hp,hk,q1,q2⟩:=e92 hc.2
  obtain⟨a'',c'',q3,q4⟩:=e104 hc.2
  obtain⟨e1,_⟩:=XI.r p hp
  rw [hk] at e1
  cases q1
  cases q3
  rw [←e1] at q4 ⊢
  exact R_SamePane_ok (k:=r.1.1) (q2.le l104) q4 (by
   rw [outV_lenK (fun y hy=>((pf p hp).1 y hy).1)];omega) ⟨true,rfl,Hp.le_refl _,fun _=>rfl⟩
 rintro h113 p114 ⟨l113,e113⟩
 have lAll:=Hp.le_trans l92 (Hp.le_trans l104 l113)
 have D3:=D2.grow lAll
 refine⟨decide (r.1.1 ∈ M.map (·.1)),fun _=>rd_lookupB (x:=r.1.1) keyT (M1.le D3.lA) hokk decide_eq_true_iff,_,fun _=>rd_neB (by kernel_rfl),?_⟩
 have hcond:(bif (bif false then true else(bif is then(bif (!p114) then true else(w.t != decide (r.1.1 ∈ M.map (·.1)))) else false)) then true else(bif (!is) then(bif (decide ((w.k.1:Int)≠0)) then true else(decide ((((w.acs.length:Nat):Int):Int) > 0))) else false))=false:=by
  cases is with
  | true=>
   obtain⟨p,hp,hk,hw,_⟩:=hyes rfl
   obtain⟨k1,k2,k3⟩:=prT_eq hw
   have:=e113 rfl
   cases this
   rw [k3,XI.t p hp,hk]
   simp
  | false=>
   obtain⟨hw,_⟩:=hno rfl
   rw [hw]
   rfl
 refine⟨fun e=>?_,fun _=>?_⟩
 ·rw [hcond] at e;cases e
 clear hcond e92 e104 e113 hyes hno
 clear D2 lAll l92 l104 l113 x93 x94 x95 a96 n96 c96 x105 x106 x107 a108 n108 c108
 clear h76 h92 h104
 -- it is added
 intro b118 hb118 h119
 have D4:=D3.put hb118 (cellsO (arV r) 33)
 have hbA:=Hp.none_of_le D3.lA hb118
 have lA4:=Hp.le_set (Hp.le_refl hA1) hbA (cellsO (arV r) 33)
 have VA4:VecAR hh (hA1.set b118 (cellsO (arV r) 33)) a c A:=V1.keep0 lA4
 have MA4:=M1.le lA4
 have HR:HasRow (hA1.set b118 (cellsO (arV r) 33)) (some ⟨b118,0,none⟩) (arV r):=HasRow.new _ _ _ _
 refine D4.sem (OwnV.append elAdd VA4 HR (m:=1) rfl (one_arV r) (by omega) (by omega) fun a122 c122 hA2 O2 k1 k2=>⟨O2.le,fun h121 D5=>⟨_,_,_,rfl,?_⟩⟩)
 have V2:VecAR hh hA2 a122 c122 (A++[r]):=by
  show OwnV hh hA2 _ 6 a122 (A++[r]).length c122 ((A++[r]).flatMap arV)
  rw [List.length_append,List.flatMap_append,List.flatMap_singleton]
  exact O2
 have M2:MapK hA2 b M clk:=⟨k1 b _ MA4.b (own_no VA4 MA4.b),MA4.o,MA4.c,MA4.nb,MA4.nk⟩
 have I2:PanI (adsOf (A++[r])) (putP r.1.1 r.2.2 pn) (M.map (·.1)):=by
  have:=XI.add r.1.1 r.2.2
  unfold adsOf at *
  rw [List.map_append]
  exact this
 have W2:∀ x ∈ A++[r],AW hh ks.length x:=fun x hx'=>by
  rcases List.mem_append.1 hx' with q|q
  ·exact XW x q
  ·rw [List.mem_singleton.1 q];exact W
 have hA1l:A.length+1=(A++[r]).length:=by rw [List.length_append,List.length_singleton]
 have hi1:(A++[r]).length≤i+1:=by omega
 rw [hA1l]
 generalize A++[r]=A1 at V2 I2 W2 hi1 ⊢
 generalize putP r.1.1 r.2.2 pn=pn1 at I2 Xp1
 clear k1 k2 O2 HR VA4 MA4 D4 lA4 hbA D3 V1 M1 S74 hofl hofr hofW lA1 XI XW pf hpn hAi hA1l hb118
 clear h119 hA1 h113 h73 a74 c74
 clear b118 hokk W hgz
 have pf1:=pan_facts I2 W2
 have keyR:∀{R:List PR} {l:List Pn},R.map prT=l.map (pnT ks)→∀ x ∈ R,∃ p ∈ l,p.k=x.k:=by
  intro R l he x hx'
  have:x.k ∈ l.map (·.k):=by rw [←prT_keys he];exact List.mem_map.2 ⟨x,hx',rfl⟩
  obtain⟨p,hp,e⟩:=List.mem_map.1 this
  exact⟨p,hp,e⟩
 have inS:∀ k:PK,(-1000≤k.1∧k.1≤9999)→InR (k.1+size):=fun k hk=>by unfold InR;omega
 have hb1:∀ x ∈ R1,InR (x.k.1+size):=fun x hx'=>by
  obtain⟨p,hp,e⟩:=keyR Xp1 x hx'
  rw [←e]
  exact inS _ (pf1 p hp).2.1
 -- they are told
 refine D5.right (Table_Tell_ok T1 (by omega) hb1 fun a125 c125 a126 c126 hT2 l12 T2 TL=>⟨Hp.le_trans D5.zM l12,fun h124 D6=>⟨_,_,_,_,_,_,rfl,?_⟩⟩)
 have hLTk:((R1.filter (newPr size r.1.2.1)).map toldPr).map (·.k)=(newP size r.1.2.1 pn1).map (·.k):=by
  have:=congrArg (List.map Prod.fst) (new_map (size:=size) (u:=r.1.2.1) Xp1)
  simpa [List.map_map,Function.comp_def] using this
 have hLTn:∀ k ∈ ((R1.filter (newPr size r.1.2.1)).map toldPr).map (·.k),(k ∉ M.map (·.1))∧k.1+size≤r.1.2.1∧okK k:=fun k hk=>by
  rw [hLTk] at hk
  obtain⟨p,hp,rfl⟩:=List.mem_map.1 hk
  obtain⟨q1,q2⟩:=newP_not I2 size r.1.2.1 p hp
  have hpm:p ∈ pn1:=by unfold newP at hp;exact(List.mem_filter.1 hp).1
  exact⟨q1,q2,okK_of (pf1 p hpm).2.1 (pf1 p hpm).2.2.1⟩
 have hLTs:(((R1.filter (newPr size r.1.2.1)).map toldPr).map (·.k)).Pairwise aheadK:=by
  rw [hLTk]
  refine(sortedP_keys.1 I2.s).sublist ?_
  unfold newP
  exact List.filter_sublist.map _
 have I3:=I2.tell size r.1.2.1
 rw [←hLTk] at I3
 have Xp2:=tell_map (size:=size) (u:=r.1.2.1) Xp1
 have hR2:(R1.map (tellPr size r.1.2.1)).length=R1.length:=List.length_map _
 have hLTl:((R1.filter (newPr size r.1.2.1)).map toldPr).length≤41:=by
  rw [List.length_map]
  exact Nat.le_trans (List.length_filter_le _ _) hR1
 clear hLTk D5 T1 hb1
 rw [←hR2] at hR1 ⊢
 have hdt:=fun p hp=>drop_told (pn:=pn1) (size:=size) (upto:=r.1.2.1) (d:=r.1.2.2) p hp
 generalize (R1.filter (newPr size r.1.2.1)).map toldPr=LT at TL hLTn hLTs hLTl I3 ⊢
 generalize R1.map (tellPr size r.1.2.1)=R2 at T2 Xp2 hR1 ⊢
 clear hR2 Xp1
 refine⟨fun vs hq=>∃(j:Nat) (hA3:Hp) (M3:List (PK × Nat)) (clk3:Nat),vs=[vi j]∧j≤LT.length∧Duo hh hA3 hT2 hq∧VecAR hh hA3 a122 c122 A1∧MapK hA3 b M3 clk3∧M3.map (·.1)=M.map (·.1)++(LT.map (·.k)).take j,fun vs hq=>LT.length - (vint vs 0).toNat,⟨0,hA2,M,clk,rfl,Nat.zero_le _,D6,V2,M2,by simp⟩,?_⟩
 clear V2 M2 D6 l12
 clear hA2 h124 h121
 rintro vs hq ⟨j,hA3,M3,clk3,rfl,hj,D7,V3,MM,eM⟩
 refine⟨_,rfl,fun e=>?_,fun e=>?_⟩
 ·have hltj:j < LT.length:=by have:=of_decide_eq_true e;omega
  have hxj:LT[j]?=some LT[j]:=List.getElem?_eq_getElem hltj
  have hkl:(LT.map (·.k)).length=LT.length:=List.length_map _
  have tkj:(LT.map (·.k)).take (j+1)=(LT.map (·.k)).take j++[(LT[j]).k]:=by
   rw [List.take_succ_eq_append_getElem (by omega),List.getElem_map]
  have hprev:0 < j→∃ w',LT[j - 1]?=some w'∧aheadK w'.k (LT[j]).k:=fun h0=>by
   refine⟨LT[j - 1]'(by omega),List.getElem?_eq_getElem (by omega),?_⟩
   have:=List.pairwise_iff_getElem.1 hLTs (j - 1) j (by omega) (by omega) (by omega)
   rw [List.getElem_map,List.getElem_map] at this
   exact this
  have hnk:(LT[j]).k ∉ (LT.map (·.k)).take j:=fun hm=>by
   obtain⟨n,hn,en⟩:=List.mem_iff_getElem.1 hm
   rw [List.length_take] at hn
   rw [List.getElem_take,List.getElem_map] at en
   have:=List.pairwise_iff_getElem.1 hLTs n j (by omega) (by omega) (by omega)
   rw [List.getElem_map,List.getElem_map,en] at this
   exact aheadK_irr _ this
  have hwk:(LT[j]).k ∈ LT.map (·.k):=List.mem_map.2 ⟨_,List.getElem_mem hltj,rfl⟩
  generalize LT[j]=w at hxj tkj hprev hnk hwk
  obtain⟨hn1,hn2,hn3⟩:=hLTn _ hwk
  obtain⟨bw,ow,ew,hw⟩:=(TL.le D7.lM).s.get encPr_len (by decide) hxj
  have c0:=Hp.row_cell hw (i:=0) (x:=vi w.k.1) rfl
  have c1:=Hp.row_cell hw (i:=1) (x:=vi w.k.2.1) rfl
  have c2:=Hp.row_cell hw (i:=2) (x:=vi w.k.2.2) rfl
  have hbd:a126=some ⟨bw,ow,none⟩∧(0:Int)≤j∧(j:Int) < ((LT.length:Nat):Int):=⟨ew,by omega,by omega⟩
  have hnin:w.k ∉ M3.map (·.1):=fun q=>by
   rw [eM] at q
   rcases List.mem_append.1 q with q|q
   ·exact hn1 q
   ·exact hnk q
  have hpv:∃ w':PR,0 < j→LT[j - 1]?=some w'∧aheadK w'.k w.k:=by
   by_cases h0:0 < j
   ·obtain⟨w',q1,q2⟩:=hprev h0
    exact⟨w',fun _=>⟨q1,q2⟩⟩
   ·exact⟨w,fun q=>absurd q h0⟩
  obtain⟨w',hw'⟩:=hpv
  have hrow':(decide ((j:Int) > 0))=true→Hp.row hq bw (ow+((j:Int) - 1).toNat*5) 5=some (encPr w'):=fun q=>by
   have h0:0 < j:=by have:=of_decide_eq_true q;omega
   obtain⟨q1,_⟩:=hw' h0
   obtain⟨b',o',ew',hr'⟩:=(TL.le D7.lM).s.get encPr_len (by decide) q1
   rw [ew] at ew'
   cases ew'
   rw [show ((j:Int) - 1).toNat=j - 1 by omega]
   exact hr'
  refine⟨bw,ow,hbd,w.k.1,by rw [Int.toNat_natCast];exact c0,bw,ow,hbd,w.k.2.1,by rw [Int.toNat_natCast];exact c1,bw,ow,hbd,w.k.2.2,by rw [Int.toNat_natCast];exact c2,false,rd_lookupB (x:=w.k) keyT (MM.le D7.lA) hn3 ⟨fun q=>(by cases q),fun q=>absurd q hnin⟩,?_⟩
  refine⟨bw,ow,fun _=>hbd,w.k.1,fun _=>by rw [Int.toNat_natCast];exact c0,w.k.1+size,fun _=>isW (by have:=hn3.1;unfold InR at *;omega),(j:Int) - 1,fun _=>isW (by unfold InR;omega),bw,ow,fun hc=>⟨ew,by have:=of_decide_eq_true hc.2;omega,by omega⟩,w'.k.1,w'.k.2.1,w'.k.2.2,w'.a,w'.acs.length,w'.c,w'.t,fun hc=>hrow' hc.2,bw,ow,fun _=>hbd,w.k.1,w.k.2.1,w.k.2.2,w.a,w.acs.length,w.c,w.t,fun _=>by rw [Int.toNat_natCast];exact hw,?_⟩
  have hle:(bif false then true else(decide ((w.k.1+size:Int) > r.1.2.1)))=false:=decide_eq_false (by omega)
  refine⟨fun x h'=>hq.le h'∧(0 < j→x=.t (.one (.v (vb true)))),fun hc=>?_,fun hc=>⟨Hp.le_refl _,fun q=>absurd ⟨hle,decide_eq_true (by omega)⟩ hc⟩,?_⟩
  ·have h0:0 < j:=by have:=of_decide_eq_true hc.2;omega
   refine law_ahead_ok (p:=w'.k) (q:=w.k) fun h' l'=>⟨_,rfl,l',fun _=>?_⟩
   rw [decide_eq_true (hw' h0).2]
  rintro h168 p169 ⟨l168,e169⟩
  have hcond:(bif (bif false then true else(decide ((w.k.1+size:Int) > r.1.2.1))) then true else(bif (decide ((j:Int) > 0)) then(!p169) else false))=false:=by
   rw [hle]
   by_cases h0:0 < j
   ·have:=e169 h0
    cases this
    simp
   ·rw [decide_eq_false (by omega)];rfl
  refine⟨fun q=>?_,fun _=>?_⟩
  ·rw [hcond] at q;cases q
  refine(D7.grow l168).semu (sem_putS (x:=w.k) keyT MM hn3 hnin fun h' S' kk nn=>⟨fun c o ho=>?_,fun h171 D8=>⟨_,isW (by unfold InR;omega),⟨j+1,h',_,_,rfl,hltj,D8,?_,S',?_⟩,by simp [vint];omega⟩⟩)
  ·exact kk c o (fun q=>by rw [q,hb] at ho;cases ho) (D7.zA c o ho)
  ·exact OwnV.apart V3 (fun c o ho=>kk c o (fun q=>by rw [q,hb] at ho;cases ho) (D7.zA c o ho)) fun c o hc ho=>kk c o (fun q=>own_no V3 MM.b (by rw [hc,q])) ho
  ·rw [List.map_append,eM,tkj,List.append_assoc]
   rfl
 have hge:j=LT.length:=by have:=of_decide_eq_false e;omega
 rw [hge,List.take_of_length_le (by rw [List.length_map];exact Nat.le_refl _)] at eM
 rw [←eM] at I3
 clear e hj hge eM hLTn hLTs hLTl TL
 clear j
 -- they are dropped
 have hb2:∀ x ∈ R2,InR (x.k.1+size):=fun x hx'=>by
  obtain⟨p,hp,e⟩:=keyR Xp2 x hx'
  rw [←e]
  exact inS _ (pan_facts I3 W2 p hp).2.1
 refine D7.right (Table_Drop_ok T2 (by omega) hb2 fun a176 c176 hT3 l3 T3=>⟨Hp.le_trans D7.zM l3,fun h175 D8=>⟨_,_,_,rfl,?_⟩⟩)
 have Xp3:=drop_map (size:=size) (u:=r.1.2.2) Xp2
 have I4:=I3.drop size r.1.2.2
 have hR3:(R2.filter fun r_1=>!decide (r_1.k.1+size≤r.1.2.2)).length≤41:=Nat.le_trans (List.length_filter_le _ _) hR1
 have eA:(adsOf A1).filter (fun x=>!decide (x.1.1+size≤r.1.2.2))=adsOf (A1.filter fun x=>!decide (x.1.1.1+size≤r.1.2.2)):=by
  unfold adsOf
  rw [List.filter_map]
  rfl
 have eT:(M3.map (·.1)).filter (fun k:PK=>!decide (k.1+size≤r.1.2.2))=(M3.filter fun p=>!decide (p.1.1+size≤r.1.2.2)).map (·.1):=by
  rw [List.filter_map]
  rfl
 rw [eA,eT] at I4
 have hsM:∀ p ∈ M3,InR (p.1.1+size):=fun p hp=>by
  obtain⟨x,hx',e⟩:=I3.k p.1 (List.mem_map.2 ⟨p,hp,rfl⟩)
  rw [←e]
  exact inS _ (pan_facts I3 W2 x hx').2.1
 clear eA eT I3 T2 Xp2 hb2 hR1 I2 pf1 D7
 generalize (R2.filter fun r_1=>!decide (r_1.k.1+size≤r.1.2.2))=R3 at T3 Xp3 hR3 ⊢
 generalize dropP size r.1.2.2 (tellP size r.1.2.1 pn1)=pn3 at Xp3 I4 hdt
 clear l3
 -- what is left
 have z3:=D8.zA
 refine⟨fun vs hq=>∃(m:Nat) (hA4:Hp) (a182:Option Addr) (c182:Nat),vs=[vsl a182 ((A1.take m).filter fun x=>!decide (x.1.1.1+size≤r.1.2.2)).length c182,vi m]∧m≤A1.length∧Duo hh hA4 hT3 hq∧hA3.le hA4∧VecAR hA3 hA4 a182 c182 ((A1.take m).filter fun x=>!decide (x.1.1.1+size≤r.1.2.2)),fun vs hq=>A1.length - (vint vs 1).toNat,⟨0,hA3,none,0,rfl,Nat.zero_le _,D8,Hp.le_refl _,OwnV.nil (Hp.le_refl _) _ _⟩,?_⟩
 clear D8
 clear h175
 rintro vs hw ⟨m,hA4,a182,c182,rfl,hm,D9,l4,V4⟩
 refine⟨_,_,_,_,rfl,fun e=>?_,fun e=>?_⟩
 ·have hltm:m < A1.length:=by have:=of_decide_eq_true e;omega
  have hxm:A1[m]?=some A1[m]:=List.getElem?_eq_getElem hltm
  have tkm:A1.take (m+1)=A1.take m++[A1[m]]:=List.take_succ_eq_append_getElem hltm
  have hWm:=W2 _ (List.getElem_mem hltm)
  generalize A1[m]=y at hxm tkm hWm
  have tkf:(A1.take (m+1)).filter (fun x=>!decide (x.1.1.1+size≤r.1.2.2))=(A1.take m).filter (fun x=>!decide (x.1.1.1+size≤r.1.2.2))++if (!decide (y.1.1.1+size≤r.1.2.2))=true then [y] else []:=by
   rw [tkm,List.filter_append,List.filter_cons,List.filter_nil]
  obtain⟨by_,oy,ey,hy⟩:=((V3.slp arV_len (by decide)).le (Hp.le_trans l4 D9.lA)).get arV_len (by decide) hxm
  have cy:=Hp.row_cell hy (i:=0) (x:=vi y.1.1.1) rfl
  have hlm:((A1.take m).filter fun x=>!decide (x.1.1.1+size≤r.1.2.2)).length≤41:=Nat.le_trans (List.length_filter_le _ _) (by rw [List.length_take];omega)
  intro J205
  have hJ:∀(a':Option Addr) (c':Nat) (h' hA':Hp),Duo hh hA' hT3 h'→hA3.le hA'→VecAR hA3 hA' a' c' ((A1.take (m+1)).filter fun x=>!decide (x.1.1.1+size≤r.1.2.2))→J205 a' ((A1.take (m+1)).filter fun x=>!decide (x.1.1.1+size≤r.1.2.2)).length c' h':=fun a' c' h' hA' q1 q2 q3=>⟨_,isW (by unfold InR;omega),⟨m+1,hA',a',c',rfl,hltm,q1,q2,q3⟩,by simp [vint];omega⟩
  clear_value J205
  refine⟨by_,oy,⟨ey,by omega,by omega⟩,_,by rw [Int.toNat_natCast];exact cy,_,isW (inS _ hWm.s),fun e2=>?_,fun e2=>?_⟩
  ·have hd:¬ y.1.1.1+size≤r.1.2.2:=by have:=of_decide_eq_true e2;omega
   rw [decide_eq_false hd] at tkf
   refine⟨by_,oy,⟨ey,by omega,by omega⟩,_,_,_,_,_,_,_,_,by rw [Int.toNat_natCast];exact hy,?_⟩
   intro b198 hb198 h199
   have hbn:=Hp.none_of_le D9.lA hb198
   refine(D9.put hb198 (cellsO (arV y) 33)).sem (Vec.app elAdd arV_len one_arV V4 (by omega) (by omega) (x:=y) hbn fun a' c' h' V'=>⟨Hp.le_trans z3 V'.le0,fun h201 D'=>⟨_,_,_,rfl,?_⟩⟩)
   have e3:(A1.take m).filter (fun x=>!decide (x.1.1.1+size≤r.1.2.2))++[y]=(A1.take (m+1)).filter (fun x=>!decide (x.1.1.1+size≤r.1.2.2)):=tkf.symm
   rw [e3] at V' ⊢
   exact hJ a' c' h201 h' D' V'.le0 V'
  ·have hd:y.1.1.1+size≤r.1.2.2:=by have:=of_decide_eq_false e2;omega
   rw [decide_eq_true hd] at tkf
   have e3:(A1.take (m+1)).filter (fun x=>!decide (x.1.1.1+size≤r.1.2.2))=(A1.take m).filter (fun x=>!decide (x.1.1.1+size≤r.1.2.2)):=by rw [tkf];simp
   rw [←e3] at V4 ⊢
   exact hJ a182 c182 hw hA4 D9 l4 V4
 have hge:m=A1.length:=by have:=of_decide_eq_false e;omega
 rw [hge,List.take_length] at V4 ⊢
 clear e hm hge
 clear m
 have W3:∀ x ∈ A1.filter (fun x=>!decide (x.1.1.1+size≤r.1.2.2)),AW hh ks.length x:=fun x hx'=>W2 x (List.mem_filter.1 hx').1
 have hl3:(A1.filter fun x=>!decide (x.1.1.1+size≤r.1.2.2)).length≤i+1:=Nat.le_trans (List.length_filter_le _ _) hi1
 generalize (A1.filter fun x=>!decide (x.1.1.1+size≤r.1.2.2))=A3 at V4 W3 hl3 I4 ⊢
 have V4':VecAR hh hA4 a182 c182 A3:=OwnV.base V4 z3
 have MM4:=MM.le l4
 clear V4 V3 MM W2 hi1 z3 l4
 -- the set is swept
 refine D9.sem (sem_rangeS keyT MM4 fun rr h' hn l' hr off=>⟨Hp.le_trans D9.zA l',fun h212 D10=>?_⟩)
 refine del_loop D10 ⟨MM4.le l',hr⟩ (V4'.keep0 l') hb (Hp.none_of_le D9.zA hn) hsM fun hA5 h5 D11 M5 V5=>?_
 clear D10 D9 V4' MM4 hn l' hr off
 clear h' h212 hA4 hw rr
 have S5:=V5.slp arV_len (by decide)
 have pf3:=pan_facts I4 W3
 have hcap:A3.length≤c182:=V5.own.cap
 -- how many there are
 refine⟨fun vs hq=>∃(m:Nat) (hA6:Hp),vs=[vi ((keysU (adsOf (A3.take m))).length:Nat),vi m]∧m≤A3.length∧Duo hh hA6 hT3 hq∧hA5.le hA6,fun vs hq=>A3.length - (vint vs 1).toNat,⟨0,hA5,rfl,Nat.zero_le _,D11,Hp.le_refl _⟩,?_⟩
 clear D11
 clear h5
 rintro vs hq ⟨m,hA6,rfl,hm,D12,l6⟩
 refine⟨_,_,rfl,fun e=>?_,fun e=>?_⟩
 ·have hltm:m < A3.length:=by have:=of_decide_eq_true e;omega
  have hxm:A3[m]?=some A3[m]:=List.getElem?_eq_getElem hltm
  have tkm:A3.take (m+1)=A3.take m++[A3[m]]:=List.take_succ_eq_append_getElem hltm
  generalize A3[m]=y at hxm tkm
  have hml:(A3.take m).length=m:=by rw [List.length_take];omega
  have hku:keysU (adsOf (A3.take (m+1)))=if y.1.1 ∈ keysU (adsOf (A3.take m)) then keysU (adsOf (A3.take m)) else keysU (adsOf (A3.take m))++[y.1.1]:=by
   rw [tkm]
   unfold adsOf
   rw [List.map_append]
   exact keysU_snoc _ _
  have hkl:(keysU (adsOf (A3.take m))).length≤41:=Nat.le_trans (keysU_len _) (by unfold adsOf;rw [List.length_map,hml];omega)
  obtain⟨by_,oy,ey,hy⟩:=(S5.le (Hp.le_trans l6 D12.lA)).get arV_len (by decide) hxm
  have cy:=Hp.row_cell hy (i:=0) (x:=vi y.1.1.1) rfl
  have cy2:=Hp.row_sub hy (i:=1) (k:=2) (by decide)
  intro J260
  have hJ:∀(h' hA':Hp),Duo hh hA' hT3 h'→hA5.le hA'→J260 ((keysU (adsOf (A3.take (m+1)))).length:Nat) h':=fun h' hA' q1 q2=>⟨_,isW (by unfold InR;omega),⟨m+1,hA',rfl,hltm,q1,q2⟩,by simp [vint];omega⟩
  clear_value J260
  have rs:=rd_slice_h (P:=Try.prog) (h:=hq) (t:=23) (e:=33) (by kernel_rfl) (by kernel_rfl) (a:=a182) (n:=A3.length) (c:=c182) (x:=((m:Nat):Int)) (by omega) (by omega)
  rw [Int.toNat_natCast,←hml] at rs
  rw [hml] at rs
  refine⟨a182,(A3.take m).length,c182,by rw [hml];exact rs,by_,oy,⟨ey,by omega,by omega⟩,_,by rw [Int.toNat_natCast];exact cy,by_,oy,⟨ey,by omega,by omega⟩,y.1.1.2.1,y.1.1.2.2,by rw [Int.toNat_natCast];exact cy2,?_⟩
  have S6:SlP arV hA6 a182 (A3.take m).length (A3.take m):=by
   have:=(S5.le l6).take arV_len (i:=m) (by omega)
   rw [hml]
   exact this
  refine D12.left (law_of_ok S6 (k:=y.1.1) (by omega) fun a256 c256 h1 V256=>⟨Hp.le_trans D12.zA V256.le0,fun h255 D13=>⟨_,_,_,rfl,?_⟩⟩)
  have l7:=Hp.le_trans l6 V256.le0
  have hin:(ofK (A3.take m) y.1.1).length=0↔y.1.1 ∉ keysU (adsOf (A3.take m)):=by
   rw [keysU_mem]
   unfold ofK adsOf
   rw [List.length_eq_zero_iff,List.filter_eq_nil_iff]
   constructor
   ·rintro q ⟨z,hz',e'⟩
    obtain⟨x,hx',rfl⟩:=List.mem_map.1 hz'
    exact q x hx' (decide_eq_true e')
   ·intro q x hx' e'
    exact q ⟨(x.1.1,x.2.2),List.mem_map.2 ⟨x,hx',rfl⟩,of_decide_eq_true e'⟩
  refine⟨fun e2=>?_,fun e2=>?_⟩
  ·have h0:(ofK (A3.take m) y.1.1).length=0:=by have:=of_decide_eq_true e2;omega
   rw [if_neg (hin.1 h0)] at hku
   have:=hJ h255 h1 D13 l7
   rw [hku,List.length_append,List.length_singleton] at this
   exact⟨_,isW (by unfold InR;omega),this⟩
  ·have h0:¬(ofK (A3.take m) y.1.1).length=0:=by have:=of_decide_eq_false e2;omega
   rw [if_pos (Decidable.byContradiction fun q=>h0 (hin.2 q))] at hku
   have:=hJ h255 h1 D13 l7
   rw [hku] at this
   exact this
 have hge:m=A3.length:=by have:=of_decide_eq_false e;omega
 rw [hge,List.take_length]
 clear e hm hge
 clear m
 have hRl:R3.length=(keysU (adsOf A3)).length:=by rw [prT_len Xp3,I4.len]
 refine⟨fun e=>?_,fun _=>?_⟩
 ·have:=of_decide_eq_true e
  omega
 clear hRl
 -- each pane
 refine⟨fun vs hz=>∃(m:Nat),vs=[vi m]∧m≤R3.length∧hq.le hz,fun vs hz=>R3.length - (vint vs 0).toNat,⟨0,rfl,Nat.zero_le _,Hp.le_refl _⟩,?_⟩
 rintro vs hw ⟨m,rfl,hm,lw⟩
 have D13:=D12.grow lw
 have M6:=(M5.le l6).le D13.lA
 have S6:=(S5.le l6).le D13.lA
 have T6:=T3.le D13.lM
 refine⟨_,rfl,fun e=>?_,fun e=>?_⟩
 ·have hltm:m < R3.length:=by have:=of_decide_eq_true e;omega
  have hxm:R3[m]?=some R3[m]:=List.getElem?_eq_getElem hltm
  have hsR:(R3.map (·.k)).Pairwise aheadK:=by rw [prT_keys Xp3];exact sortedP_keys.1 I4.s
  have hkl:(R3.map (·.k)).length=R3.length:=List.length_map _
  have hpv:∃ w':PR,0 < m→R3[m - 1]?=some w'∧aheadK w'.k (R3[m]).k:=by
   by_cases h0:0 < m
   ·refine⟨R3[m - 1]'(by omega),fun _=>⟨List.getElem?_eq_getElem (by omega),?_⟩⟩
    have:=List.pairwise_iff_getElem.1 hsR (m - 1) m (by omega) (by omega) (by omega)
    rw [List.getElem_map,List.getElem_map] at this
    exact this
   ·exact⟨R3[m],fun q=>absurd q h0⟩
  generalize R3[m]=w at hxm hpv
  obtain⟨w',hw'⟩:=hpv
  obtain⟨p,hp,k1,k2,k3⟩:=prT_at Xp3 hxm
  have hpm:=List.mem_of_getElem? hp
  obtain⟨f1,f2,f3,f4⟩:=pf3 p hpm
  have hok:okK w.k:=by rw [k1];exact okK_of f2 f3
  have hti:=T6.i w (List.mem_of_getElem? hxm)
  obtain⟨bw,ow,ew,hwr⟩:=T6.s.get encPr_len (by decide) hxm
  have hrow':(decide ((m:Int) > 0))=true→Hp.row hw bw (ow+((m:Int) - 1).toNat*5) 5=some (encPr w'):=fun q=>by
   have h0:0 < m:=by have:=of_decide_eq_true q;omega
   obtain⟨q1,_⟩:=hw' h0
   obtain⟨b',o',ew',hr'⟩:=T6.s.get encPr_len (by decide) q1
   rw [ew] at ew'
   cases ew'
   rw [show ((m:Int) - 1).toNat=m - 1 by omega]
   exact hr'
  refine⟨bw,ow,⟨ew,by omega,by omega⟩,w.k.1,w.k.2.1,w.k.2.2,w.a,w.acs.length,w.c,w.t,by rw [Int.toNat_natCast];exact hwr,(m:Int) - 1,fun _=>isW (by unfold InR;omega),bw,ow,fun hc=>⟨ew,by have:=of_decide_eq_true hc;omega,by omega⟩,w'.k.1,w'.k.2.1,w'.k.2.2,w'.a,w'.acs.length,w'.c,w'.t,fun hc=>hrow' hc,?_⟩
  refine⟨fun x h'=>hw.le h'∧(0 < m→x=.t (.one (.v (vb true)))),fun hc=>?_,fun hc=>⟨Hp.le_refl _,fun q=>absurd (decide_eq_true (by omega)) hc⟩,?_⟩
  ·have h0:0 < m:=by have:=of_decide_eq_true hc;omega
   refine law_ahead_ok (p:=w'.k) (q:=w.k) fun h' l'=>⟨_,rfl,l',fun _=>?_⟩
   rw [decide_eq_true (hw' h0).2]
  rintro h294 p295 ⟨l294,e295⟩
  refine⟨decide (w.k ∈ (M3.filter fun p=>!decide (p.1.1+size≤r.1.2.2)).map (·.1)),fun _=>rd_lookupB (x:=w.k) keyT (M6.le l294) hok decide_eq_true_iff,_,fun _=>rd_neB (by kernel_rfl),_,fun _=>isW (by rw [k1];exact inS _ f2),?_⟩
  have hc1:(bif (decide ((m:Int) > 0)) then(!p295) else false)=false:=by
   by_cases h0:0 < m
   ·have:=e295 h0
    cases this
    simp
   ·rw [decide_eq_false (by omega)];rfl
  have hc2:(w.t != decide (w.k ∈ (M3.filter fun p=>!decide (p.1.1+size≤r.1.2.2)).map (·.1)))=false:=by
   rw [k3,I4.t p hpm,k1]
   simp
  have hc3:(bif (decide ((w.k.1+size:Int)≤r.1.2.1)) then(!w.t) else false)=false:=by
   by_cases h0:w.k.1+size≤r.1.2.1
   ·rw [k3,hdt p hpm (by rw [←k1];exact h0)]
    simp
   ·rw [decide_eq_false h0];rfl
  rw [hc1,hc2,hc3]
  have hwl:w.acs.length≤1000:=by
   rw [k2]
   have:=congrArg List.length (accsOf_kinds (ks:=ks) (rs:=p.rs) fun y hy=>(f1 y hy).1)
   rw [List.length_map] at this
   omega
  refine⟨fun x h'=>h294.le h'∧∃(a':Option Addr) (c':Nat),x=.t (.ag [.v (vi w.k.1),.v (vi w.k.2.1),.v (vi w.k.2.2),.v (vsl a' (outV ks p.rs).length c')])∧SlP encV h' a' (outV ks p.rs).length (outV ks p.rs),fun _=>?_,fun hc=>absurd rfl hc,?_⟩
  ·refine pane_Out_ok (r:=w) ⟨rfl,hti.le l294⟩ hwl fun a' c' h' V=>⟨_,_,_,_,_,_,rfl,V.le0,a',c',?_,?_⟩
   ·rw [k2];rfl
   ·have:=V.slp encV_len (by decide)
    rw [k2] at this
    exact this
  rintro h306 x307 x308 x309 a310 n310 c310 ⟨l306,a',c',q1,q2⟩
  cases q1
  have l296:=Hp.le_trans l294 l306
  refine⟨fun x h'=>h306.le h'∧∃(a':Option Addr) (c':Nat),x=.t (.one (.v (vsl a' (ofK A3 w.k).length c')))∧SlP arV h' a' (ofK A3 w.k).length (ofK A3 w.k),fun _=>?_,fun hc=>absurd rfl hc,?_⟩
  ·exact law_of_ok (S6.le l296) (k:=w.k) (by omega) fun a' c' h' V=>⟨_,_,_,rfl,V.le0,a',c',rfl,V.slp arV_len (by decide)⟩
  rintro h315 a316 n316 c316 ⟨l315,a'',c'',q3,q4⟩
  cases q3
  have l297:=Hp.le_trans l296 l315
  have hrows:p.rs=(ofK A3 w.k).map (·.2.2):=by rw [ofK_rows,k1];exact(I4.r p hpm).1
  have hne:ofK A3 w.k≠[]:=fun q=>by
   rw [q] at hrows
   exact(I4.r p hpm).2 hrows
  refine⟨fun x h'=>h315.le h'∧∃(a':Option Addr) (c':Nat),x=.t (.ag [.v (vi w.k.1),.v (vi w.k.2.1),.v (vi w.k.2.2),.v (vsl a' (outV ks p.rs).length c')])∧SlP encV h' a' (outV ks p.rs).length (outV ks p.rs),fun _=>?_,fun hc=>absurd rfl hc,?_⟩
  ·have lz:=Hp.le_trans (Hp.le_trans D13.le0 l297) (Hp.le_refl h315)
   refine law_outOf_ok (k:=w.k) q4 (SK2.le lz) hne (fun x hx'=>?_) (Nat.le_trans (List.length_filter_le _ _) (by omega)) (by omega) (fun x hx'=>(hz x hx').1) fun a' c' h' V=>⟨_,_,_,_,_,_,rfl,V.le0,a',c',?_,?_⟩
   ·unfold ofK at hx'
    obtain⟨g1,g2⟩:=List.mem_filter.1 hx'
    have g3:=W3 x g1
    exact⟨of_decide_eq_true g2,g3.l,g3.i.le lz,g3.v⟩
   ·rw [hrows]
   ·have:=V.slp encV_len (by decide)
    rw [←hrows] at this
    exact this
  rintro h324 x325 x326 x327 a328 n328 c328 ⟨l324,a3,c3,q5,q6⟩
  cases q5
  have l298:=Hp.le_trans l297 l324
  refine⟨fun x h'=>h'=h324∧x=.t (.one (.v (vb true))),fun _=>?_,fun hc=>absurd rfl hc,?_⟩
  ·exact R_SamePane_ok (k:=w.k) (q2.le (Hp.le_trans l315 l324)) q6 (by
    rw [outV_lenK (fun y hy=>(f1 y hy).1)];omega) ⟨true,rfl,rfl,rfl⟩
  rintro h333 p334 ⟨rfl,q7⟩
  cases q7
  refine⟨fun q=>(by cases q),fun _=>?_⟩
  exact⟨_,isW (by unfold InR;omega),⟨m+1,rfl,hltm,Hp.le_trans lw l298⟩,by simp [vint];omega⟩
 ·refine⟨_,isW (by unfold InR;omega),⟨i+1,a182,c182,A3,a176,c176,R3,pn3,_,clk3,hA6,hT3,rfl,hlt,hl3,D13,V5.keep0 l6,M5.le l6,T3,Xp3,I4,W3⟩,by simp [vint];omega⟩
end Go.Proofs.Ytedmojjfdppffaa
namespace Go.Vc
open Go
structure SmOK {H:Type}(Sm:DataW H→Prop)(N:Nat→Prop):Prop where
 zero:N 0
 slice:∀ es sp,Sm (.slice es sp)→N es.length∧∀ x ∈ es,Sm x
 agg:∀ xs,Sm (.agg xs)→∀ x ∈ xs,Sm x
 str:∀ l,Sm (.lit (.string l))→N l.length
 ptr:∀ x,Sm (.ptr x)→Sm x
theorem smTrue {H:Type}:SmOK (H:=H) (fun _=>True) (fun _=>True):=⟨trivial,fun _ _ _=>⟨trivial,fun _ _=>trivial⟩,fun _ _ _ _=>trivial,fun _ _=>trivial,fun _ _=>trivial⟩
section
variable {P:Program}{H:Type}{enc0:TypeId × Value→H}{w:World}{Sm:DataW H→Prop}{N:Nat→Prop}
def LeafC (P:Program)(enc0:TypeId × Value→H)(w:World)(Sm:DataW H→Prop)(t:TypeId)(cs:List Value):Prop:=
 ∃ fuel d ps,DataW.trod enc0 P w 0 (fun _=>true) true fuel t cs=some (d,ps)∧Sm d
theorem leaf_int {t:TypeId}{k:IntKind}(hu:P.underlying t=some (.int k)){cs:List Value}(L:LeafC P enc0 w Sm t cs):∃ n,cs=[.int k n]∧(Lit.int k n).wf=true:=by
 obtain⟨fuel,d,ps,h,_⟩:=L
 cases fuel with
 | zero=>simp [DataW.trod] at h
 | succ fuel=>
  unfold DataW.trod at h
  rw [hu] at h
  split at h<;>first|(cases h;done)|skip
  all_goals simp_all
theorem leaf_i64 {t:TypeId}(hu:P.underlying t=some (.int .i64)){cs:List Value}(L:LeafC P enc0 w Sm t cs):∃ n,cs=[vi n]∧InR n:=by
 obtain⟨n,rfl,h⟩:=leaf_int hu L
 exact⟨n,rfl,by simpa [Lit.wf,IntKind.min,IntKind.max,IntKind.signed,IntKind.bits,InR] using h⟩
theorem row_of_cells {b o:Nat}{xs:List Value}(hne:xs≠[])(h:∀ j x,xs[j]?=some x→w.cell? ⟨b,o+j,none⟩=some x):(hpOf w).row b o xs.length=some xs:=by
 obtain⟨x0,l0,rfl⟩:=List.exists_cons_of_ne_nil hne
 have h0:=h 0 x0 rfl
 unfold World.cell? at h0
 simp only at h0
 cases hb:w.heap[b]? with
 | none=>rw [hb] at h0;cases h0
 | some ob=>
  cases ob with
  | cells c t f=>
   have hc:∀ j x,(x0 :: l0)[j]?=some x→c[o+j]?=some x:=by
    intro j x hx
    have:=h j x hx
    unfold World.cell? at this
    simp only [hb] at this
    simpa using this
   refine Hp.row_spec.2 ⟨c,t,f,hb,?_,?_⟩
   ·have:=hc l0.length ((x0 :: l0)[l0.length]) (by rw [List.getElem?_eq_getElem (by simp)])
    have:=(Array.getElem?_eq_some_iff.1 this).1
    simp only [List.length_cons]
    omega
   ·apply List.ext_getElem?
    intro j
    rw [List.getElem?_take]
    split
    ·rename_i hj
     rw [List.getElem?_drop]
     have:=hc j ((x0 :: l0)[j]) (List.getElem?_eq_getElem hj)
     rw [List.getElem?_eq_getElem hj]
     simpa using this.symm
    ·rename_i hj
     exact List.getElem?_eq_none (by omega)
  | _=>rw [hb] at h0;simp at h0
theorem mapM_get {α β:Type}{f:α→Option β}:∀{l:List α} {ys:List β},l.mapM f=some ys→∀(i:Nat) (x:α),l[i]?=some x→∃ y,ys[i]?=some y∧f x=some y
 | [],ys,h,i,x,hx=>by simp at hx
 | a :: l,ys,h,i,x,hx=>by
  rw [List.mapM_cons] at h
  simp only [Option.bind_eq_bind,Option.bind_eq_some_iff,Option.pure_def,Option.some.injEq] at h
  obtain⟨y,hy,zs,hzs,rfl⟩:=h
  cases i with
  | zero=>simp at hx;subst hx;exact⟨y,rfl,hy⟩
  | succ i=>simpa using mapM_get hzs i x (by simpa using hx)
theorem cells_get {w:World}{base:Nat}{a:Addr}{n:Nat}{cs:List Value}(h:w.cells? base a n=some cs):cs.length=n∧∀ j x,cs[j]?=some x→w.cell? (a.add j)=some x:=by
 unfold World.cells? at h
 split at h
 ·have hl:=length_mapM h
  rw [List.length_range] at hl
  refine⟨hl,fun j x hx=>?_⟩
  have hj:j < n:=by rw [←hl];exact(List.getElem?_eq_some_iff.1 hx).1
  obtain⟨y,h1,h2⟩:=mapM_get h j j (by simp [hj])
  rw [hx] at h1
  cases h1
  exact h2
 ·cases h
theorem leaf_slice {α:Type}{enc:α→List Value}{sz:Nat}{good:α→Prop}(hS:SmOK Sm N){t e:TypeId}(hu:P.underlying t=some (.slice e))(hsz:P.cellsOf e=sz)(hz:0 < sz)(he:∀ x,(enc x).length=sz)
  (hel:∀ cs,LeafC P enc0 w Sm e cs→∃ y,cs=enc y∧good y) {cs:List Value} (L:LeafC P enc0 w Sm t cs) :
  ∃ a n c l,cs=[vsl a n c]∧SlP enc (hpOf w) a n l∧n≤c∧c≤maxLen∧N n∧∀ y ∈ l,good y:=by
 obtain⟨fuel,d,ps,h,hm⟩:=L
 cases fuel with
 | zero=>simp [DataW.trod] at h
 | succ fuel=>
  unfold DataW.trod at h
  rw [hu] at h
  split at h<;>first|(rename_i hx;cases hx;done)|(cases h;done)|skip
  ·exact⟨none,0,0,[],rfl,⟨rfl,.inl rfl⟩,Nat.le_refl _,Nat.zero_le _,hS.zero,by simp⟩
  ·rename_i e' a len cap hx
   cases hx
   split at h
   ·rename_i hc
    simp only [Option.bind_eq_some_iff,Option.map_eq_some_iff] at h
    obtain⟨elems,he1,rest,hr,hx⟩:=h
    simp only [Prod.mk.injEq] at hx
    obtain⟨rfl,rfl⟩:=hx
    have hel1:elems.length=len:=by have:=length_mapM he1;simpa using this
    have hm1:=hS.slice _ _ hm
    rw [List.length_map,hel1] at hm1
    have each:∀ i:Nat,i < len→∃ y,good y∧w.cells? 0 (a.add (i*sz)) sz=some (enc y):=by
     intro i hi
     obtain⟨x,h1,h2⟩:=mapM_get he1 i i (by simp [hi])
     simp only [Option.bind_eq_some_iff] at h2
     obtain⟨cs,h3,h4⟩:=h2
     rw [hsz] at h3
     obtain⟨y,rfl,hg⟩:=hel cs ⟨fuel,x.1,x.2,h4,hm1.2 x.1 (List.mem_map.2 ⟨x,List.mem_of_getElem? h1,rfl⟩)⟩
     exact⟨y,hg,h3⟩
    have all:∃ l:List α,l.length=len∧(∀ y ∈ l,good y)∧∀ i y,l[i]?=some y→w.cells? 0 (a.add (i*sz)) sz=some (enc y):=by
     clear hm hm1 he1 hr hel1 hc
     induction len with
     | zero=>exact⟨[],rfl,by simp,by simp⟩
     | succ n ih=>
      obtain⟨l,h1,h2,h3⟩:=ih (fun i hi=>each i (by omega))
      obtain⟨y,h4,h5⟩:=each n (by omega)
      refine⟨l++[y],by simp [h1],?_,?_⟩
      ·intro z hz'
       rcases List.mem_append.1 hz' with h6|h6
       ·exact h2 z h6
       ·simp at h6;subst h6;exact h4
      ·intro i z hz'
       rcases Nat.lt_or_ge i n with h6|h6
       ·rw [List.getElem?_append_left (by omega)] at hz'
        exact h3 i z hz'
       ·rw [List.getElem?_append_right (by omega)] at hz'
        have:i=n:=by
         have:=(List.getElem?_eq_some_iff.1 hz').1
         simp at this
         omega
        subst this
        rw [h1,Nat.sub_self] at hz'
        simp at hz'
        subst hz'
        exact h5
    obtain⟨l,hl,hg,hcs⟩:=all
    refine⟨some a,len,cap,l,rfl,⟨hl.symm,?_⟩,hc.2.1,hc.2.2,hm1.1,hg⟩
    cases l with
    | nil=>exact .inl rfl
    | cons y l=>
     refine .inr ?_
     have c0:=(cells_get (hcs 0 y rfl)).2
     have hx0:∃ x,(enc y)[0]?=some x:=⟨_,List.getElem?_eq_getElem (by rw [he];exact hz)⟩
     obtain⟨x0,hx0⟩:=hx0
     have a0:=c0 0 x0 hx0
     obtain⟨b,o,spot⟩:=a
     have hs:spot=none:=by
      cases spot with
      | none=>rfl
      | some s=>
       simp only [Nat.zero_mul,Addr.add] at a0
       unfold World.cell? at a0
       simp at a0
       split at a0<;>simp at a0
     subst hs
     refine⟨b,o,rfl,row_of_cells (by
      intro hn
      have:=congrArg List.length hn
      rw [List.flatMap_cons,List.length_append,he] at this
      simp at this
      omega) ?_⟩
     intro j x hx
     have ad:∀ o k,(⟨b,o,none⟩:Addr).add k=⟨b,o+k,none⟩:=by intro o k;unfold Addr.add;split<;>simp_all
     have hlen:=flatMap_length he (y :: l)
     have hj:j < (y :: l).length*sz:=by rw [←hlen];exact(List.getElem?_eq_some_iff.1 hx).1
     have hq:j / sz < (y :: l).length:=(Nat.div_lt_iff_lt_mul hz).2 hj
     have hd:sz*(j / sz)+j % sz=j:=Nat.div_add_mod j sz
     have hr':j % sz < sz:=Nat.mod_lt _ hz
     have key:((y :: l).flatMap enc)[j]?=(enc ((y :: l)[j / sz]))[j % sz]?:=by
      have h1:=flatMap_drop he (j / sz) (y :: l)
      have h2:((y :: l).flatMap enc)[j]?=(((y :: l).flatMap enc).drop ((j / sz)*sz))[j % sz]?:=by
       rw [List.getElem?_drop]
       congr 1
       rw [Nat.mul_comm]
       exact hd.symm
      rw [h2,h1,List.drop_eq_getElem_cons hq,List.flatMap_cons,List.getElem?_append_left (by rw [he];exact hr')]
     rw [key] at hx
     have:=(cells_get (hcs (j / sz) _ (List.getElem?_eq_getElem hq))).2 _ _ hx
     rw [ad,ad] at this
     have e3:o+j / sz*sz+j % sz=o+j:=by
      rw [Nat.mul_comm (j / sz) sz];omega
     rw [e3] at this
     exact this
   ·cases h
def flatIds (P:Program):Nat→TypeId→List TypeId
 | 0,t=>[t]
 | n+1,t=>match P.underlying t with
  | some (.struct fs)=>fs.toList.flatMap fun f=>flatIds P n f.type
  | _=>[t]
def contig (P:Program)(N:Nat):Nat→List Field→Bool
 | o,[]=>Nat.beq o N
 | o,f :: l=>Nat.beq f.offset o&&contig P N (o+P.cellsOf f.type) l
def flatOK (P:Program):Nat→TypeId→Bool
 | 0,_=>false
 | n+1,t=>match P.underlying t with
  | some (.struct fs)=>contig P (P.cellsOf t) 0 fs.toList&&fs.toList.all fun f=>flatOK P n f.type
  | some (.array _ _)=>false
  | some _=>Nat.beq (P.cellsOf t) 1
  | none=>false
def LeafL (P:Program)(enc0:TypeId × Value→H)(w:World)(Sm:DataW H→Prop):List TypeId→List Value→Prop
 | [],[]=>True
 | t :: ts,v :: vs=>LeafC P enc0 w Sm t [v]∧LeafL P enc0 w Sm ts vs
 | _,_=>False
theorem leafL_append:∀{ts ts':List TypeId} {vs vs':List Value},LeafL P enc0 w Sm ts vs→LeafL P enc0 w Sm ts' vs'→LeafL P enc0 w Sm (ts++ts') (vs++vs')
 | [],_,[],_,_,h=>h
 | _ :: _,_,_ :: _,_,h1,h2=>⟨h1.1,leafL_append h1.2 h2⟩
 | [],_,_ :: _,_,h,_=>h.elim
 | _ :: _,_,[],_,h,_=>h.elim
theorem trod_len {fuel:Nat}{t:TypeId}{cs:List Value}{x:DataW H × List MemPlace}(h:DataW.trod enc0 P w 0 (fun _=>true) true fuel t cs=some x):(∃ v,cs=[v])∨cs.length=P.cellsOf t:=by
 cases fuel with
 | zero=>simp [DataW.trod] at h
 | succ fuel=>
  unfold DataW.trod at h
  split at h<;>first|exact .inl ⟨_,rfl⟩|skip
  ·split at h
   ·exact .inr (by assumption)
   ·cases h
  ·split at h
   ·exact .inr (by assumption)
   ·cases h
  ·cases h
theorem leaf_flat (hS:SmOK Sm N):∀(n:Nat) {t:TypeId} {cs:List Value},flatOK P n t=true→LeafC P enc0 w Sm t cs→LeafL P enc0 w Sm (flatIds P n t) cs
 | 0,t,cs,h,_=>by simp [flatOK] at h
 | n+1,t,cs,h,L=>by
  unfold flatOK at h
  unfold flatIds
  split at h
  ·rename_i fs hu
   simp only [hu]
   obtain⟨fuel,d,ps,ht,hm⟩:=L
   cases fuel with
   | zero=>simp [DataW.trod] at ht
   | succ fuel=>
    unfold DataW.trod at ht
    rw [hu] at ht
    simp only at ht
    split at ht
    ·rename_i hlen
     simp only [Option.map_eq_some_iff] at ht
     obtain⟨xs,hx,he⟩:=ht
     simp only [Prod.mk.injEq] at he
     obtain⟨rfl,rfl⟩:=he
     have hm':=hS.agg _ hm
     simp only [Bool.and_eq_true] at h
     have go:∀(l:List Field) (o:Nat) (xs:List (DataW H × List MemPlace)),contig P (P.cellsOf t) o l=true→(∀ f ∈ l,flatOK P n f.type=true) →
       (l.mapM fun f=>DataW.trod enc0 P w 0 (fun _=>true) true fuel f.type ((cs.drop f.offset).take (P.cellsOf f.type)))=some xs→(∀ x ∈ xs,Sm x.1)→o≤cs.length→LeafL P enc0 w Sm (l.flatMap fun f=>flatIds P n f.type) (cs.drop o):=by
      intro l
      induction l with
      | nil=>
       intro o xs hc _ _ _ _
       simp only [contig,Nat.beq_eq] at hc
       rw [List.flatMap_nil,List.drop_of_length_le (by rw [hlen,hc];exact Nat.le_refl _)]
       trivial
      | cons f l ih=>
       intro o xs hc hk hmm hsm ho
       simp only [contig,Bool.and_eq_true,Nat.beq_eq] at hc
       rw [List.mapM_cons] at hmm
       simp only [Option.bind_eq_bind,Option.bind_eq_some_iff,Option.pure_def,Option.some.injEq] at hmm
       obtain⟨y,hy,zs,hzs,rfl⟩:=hmm
       rw [hc.1] at hy
       have h1:=leaf_flat hS n (hk f (by simp)) ⟨fuel,y.1,y.2,hy,hsm y (by simp)⟩
       have hle:o+P.cellsOf f.type≤cs.length:=by
        have:∀(l:List Field) (o:Nat),contig P (P.cellsOf t) o l=true→o≤P.cellsOf t:=by
         intro l
         induction l with
         | nil=>intro o hc;simp only [contig,Nat.beq_eq] at hc;omega
         | cons g l ih=>intro o hc;simp only [contig,Bool.and_eq_true] at hc;have:=ih _ hc.2;omega
        rw [hlen]
        exact this l _ hc.2
       have h2:=ih (o+P.cellsOf f.type) zs hc.2 (fun g hg=>hk g (by simp [hg])) hzs (fun x hx=>hsm x (by simp [hx])) hle
       have:=leafL_append h1 h2
       rw [List.flatMap_cons]
       rw [←List.drop_drop,List.take_append_drop] at this
       exact this
     have:=go fs.toList 0 xs h.1 (fun f hf=>List.all_eq_true.1 h.2 f hf) hx (fun x hx=>hm' x.1 (List.mem_map.2 ⟨x,hx,rfl⟩)) (Nat.zero_le _)
     simpa using this
    ·cases ht
  ·cases h
  ·rename_i u hu hns hna
   have hl:∃ v,cs=[v]:=by
    obtain⟨fuel,d,ps,ht,hm⟩:=L
    rcases trod_len ht with h1|h1
    ·exact h1
    ·rw [Nat.beq_eq] at h
     rw [h] at h1
     exact List.length_eq_one_iff.1 h1
   obtain⟨v,rfl⟩:=hl
   split
   ·rename_i fs' e9
    exfalso
    simp_all
    rename_i e10
    first|exact hu _ e10.symm|exact hu _ hna.symm|exact hu _ e9.symm
   ·exact⟨L,trivial⟩
  ·cases h
theorem leafC_of {t:TypeId}{v:Value}{d:DataW H}{ps:List MemPlace}(h:DataW.Trod enc0 P w 0 (fun _=>true) true t v d ps)(hm:Sm d):LeafC P enc0 w Sm t v.cells.toList:=by
 obtain⟨fuel,h⟩:=h
 exact⟨fuel,d,ps,h,hm⟩
end
end Go.Vc
namespace Go.Proofs.Ytedmojjfdppffaa.panesSays
open Go.ChangeShapes Go.WideShapes Go.ChangeAt Go.RowKit Go.Vc
theorem own:ownKnob Try.prog.godebug=none:=by kernel_rfl
theorem open0 {H:Type}{enc:TypeId × Value→H}{W:World}{cs:List Value}(L:LeafL Try.prog enc W (fun _=>True) (flatIds Try.prog 4 3) cs):∃(x0:Int),cs=encI1 x0∧InR x0:=by
 have e:flatIds Try.prog 4 3=[3]:=by kernel_rfl
 rw [e] at L
 match cs,L with
 | [v0],L=>
  obtain⟨x0,h0,g0⟩:=leaf_i64 Try.underlying3 (L.1)
  cases h0
  exact⟨x0,rfl,g0⟩
theorem openV {H:Type}{enc:TypeId × Value→H}{W:World}{v:Value}(L:LeafC Try.prog enc W (fun _=>True) 31 [v]):∃ a n c l,v=vsl a n c∧SlP encV (hpOf W) a n l:=by
 obtain⟨a,n,c,l,e,S,_⟩:=leaf_slice (enc:=encV) (sz:=2) (good:=fun _=>True) smTrue (e:=30) (by kernel_rfl) (by kernel_rfl) (by decide) (fun _=>rfl) (fun cs L=>by
  have hf:=leaf_flat smTrue 4 (by kernel_rfl) L
  have e:flatIds Try.prog 4 30=[3,3]:=by kernel_rfl
  rw [e] at hf
  match cs,hf with
  | [v0,v1],hf=>
   obtain⟨x0,h0,_⟩:=leaf_i64 Try.underlying3 (hf.1)
   cases h0
   obtain⟨x1,h1,_⟩:=leaf_i64 Try.underlying3 (hf.2.1)
   cases h1
   exact⟨(x0,x1),rfl,trivial⟩) L
 cases e
 exact⟨a,n,c,l,rfl,S⟩
theorem openA {H:Type}{enc:TypeId × Value→H}{W:World}{cs:List Value}(L:LeafL Try.prog enc W (fun _=>True) (flatIds Try.prog 4 33) cs):∃ r:AR,cs=arV r∧HasRow (hpOf W) r.2.1.1 (r.2.2.flatMap encV):=by
 have e:flatIds Try.prog 4 33=[3,3,3,31,3,3]:=by kernel_rfl
 rw [e] at L
 match cs,L with
 | [v0,v1,v2,v3,v4,v5],L=>
  obtain⟨x0,h0,_⟩:=leaf_i64 Try.underlying3 (L.1)
  cases h0
  obtain⟨x1,h1,_⟩:=leaf_i64 Try.underlying3 (L.2.1)
  cases h1
  obtain⟨x2,h2,_⟩:=leaf_i64 Try.underlying3 (L.2.2.1)
  cases h2
  obtain⟨a,n,c,l,rfl,S⟩:=openV L.2.2.2.1
  obtain⟨x4,h4,_⟩:=leaf_i64 Try.underlying3 (L.2.2.2.2.1)
  cases h4
  obtain⟨x5,h5,_⟩:=leaf_i64 Try.underlying3 (L.2.2.2.2.2.1)
  cases h5
  obtain rfl:=S.1
  exact⟨(((x0,(x1,x2)),x4,x5),(a,c),l),rfl,S.2⟩
set_option maxRecDepth 100000 in
theorem lifted (os:Os)(started:os.Started)(H:Type)(enc:TypeId × Value→H) :
  ReturnsInHanded {} Try.checked os 3 .any (Rows.panesSaysSpec.pre6 enc Try.prog Try.f3 Rows.panesSaysRow.domain false) (Rows.panesSaysSpec.post enc Try.prog Try.f3 false true false false):=by
 refine returnsInHanded_of_change (C:=Try.checked) own started (by kernel_rfl) Try.func3
  (ChangeSpec.witness6 (enc:=enc) (C:=Try.checked) false ⟨#[],#[.slice none 0 0,.int .i64 0,.slice none 0 0],[]⟩ 8 (by kernel_rfl) (by kernel_rfl) (by kernel_rfl) (by kernel_rfl)) ?_
 intro W base args ds gs before hval0 hW hcnd _
 have hval:∀(j:Nat) t v,Try.f3.params[j]?=some t→args[j]?=some v→Value.okWide Try.prog W .any base t v:=hval0
 have hW':=hW
 obtain⟨p,q,hA0,hV,rfl,hfz,hnd⟩:=hW
 have hA:DataW.TrodAll enc Try.prog W 0 (fun _=>true) true Try.f3.params.toList args.toList ds p:=hA0
 rw [Try.params3] at hA hval
 obtain⟨v0,vs0,d0,ds0,p0,q0,hargs,rfl,rfl,h0,r0⟩:=trodAll_cons hA
 obtain⟨v1,vs1,d1,ds1,p1,q1,rfl,rfl,rfl,h1,r1⟩:=trodAll_cons r0
 obtain⟨v2,vs2,d2,ds2,p2,q2,rfl,rfl,rfl,h2,r2⟩:=trodAll_cons r1
 obtain⟨rfl,rfl,rfl⟩:=trodAll_nil r2
 obtain rfl:args=#[v0,v1,v2]:=by cases args;simp_all
 obtain⟨rfl,rfl⟩:=trodVars_none hV
 obtain⟨w1,w2,w3,rfl⟩:=okWide_slice (e:=3) (by kernel_rfl) (hval 0 22 v0 rfl rfl)
 obtain⟨p0,n0,c0,l0,e0,S0,hc0,hm0,_,g0⟩:=leaf_slice (enc:=encI1) (sz:=1) (good:=fun y=>True) smTrue (e:=3) (by kernel_rfl) (by kernel_rfl) (by decide) (fun _=>rfl)
  (fun cs L=>by
   have hf:=leaf_flat smTrue 4 (by kernel_rfl) L
   obtain⟨x0,hy,hg⟩:=open0 hf
   exact⟨x0,hy,trivial⟩) (leafC_of (Sm:=fun _=>True) h0 trivial)
 cases e0
 obtain⟨a1,rfl⟩:=okWide_int Try.underlying3 (hval 1 3 v1 rfl rfl)
 obtain⟨b1,e1,ga1⟩:=leaf_i64 Try.underlying3 (leafC_of (Sm:=fun _=>True) h1 trivial)
 cases e1
 obtain⟨w1,w2,w3,rfl⟩:=okWide_slice (e:=33) (by kernel_rfl) (hval 2 23 v2 rfl rfl)
 obtain⟨p2,n2,c2,l2,e2,S2,hc2,hm2,_,g2⟩:=leaf_slice (enc:=arV) (sz:=6) (good:=fun r:AR=>HasRow (hpOf W) r.2.1.1 (r.2.2.flatMap encV)) smTrue (e:=33) (by kernel_rfl) (by kernel_rfl) (by decide) (fun _=>rfl)
  (fun cs L=>by
   have hf:=leaf_flat smTrue 4 (by kernel_rfl) L
   obtain⟨r,hy,hg⟩:=openA hf
   exact⟨r,hy,hg⟩) (leafC_of (Sm:=fun _=>True) h2 trivial)
 cases e2
 refine(calls_law (law_PanesSays_ok (SlI.of_slp S0) S2 g2)).mono fun e W' ⟨he,hg⟩=>?_
 subst he
 exact⟨_,rfl,law_post big hW' hg (by kernel_rfl) (tb:=4) (by kernel_rfl) (by kernel_rfl) rfl⟩
theorem over:Rows.panesSaysRow.holds Try.pinned (OpenSpec.ofChange Rows.panesSaysSpec):=
 OpenClaim.holds_of_wide 3 Try.f3 rfl rfl rfl rfl rfl rfl rfl ⟨rfl,rfl,rfl,rfl,rfl⟩ rfl rfl rfl rfl rfl (by kernel_rfl) Try.func3 (by kernel_rfl)
  (of_decide_eq_true (by kernel_rfl)) (by unfold Func.isWrapper;first|(rw [if_pos (by decide +kernel)];kernel_rfl)|(rw [if_neg (by decide +kernel)];exact⟨rfl,rfl⟩))
  (fun os started H enc _=>lifted os started H enc)
theorem proved:Rows.PanesSaysSaid:=
 over
end Go.Proofs.Ytedmojjfdppffaa.panesSays
