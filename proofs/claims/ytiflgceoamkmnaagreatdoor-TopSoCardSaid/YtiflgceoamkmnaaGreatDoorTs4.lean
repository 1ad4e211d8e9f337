/-
  Laws and contracts on which the statement's proof stands, part 4. Conditions: those stated at each.
-/
import Derived.Lib.Overlaps
import Derived.Lib.AppendZerosOnto
import Derived.Test.YtiflgceoamkmnaaGreatDoorTs3
set_option linter.unusedVariables false
set_option maxRecDepth 100000
namespace Go.Vc
open Go
section
variable {P:Program}{h:Hp}
theorem run_copy_rowK (w:World)(dT sT ty elem:TypeId)(k g o dLen dCap:Nat)(a:Addr)(sLen sCap:Nat)(cur:Array Value)(t:TypeId)(cs:List Value)
  (hu:P.underlying dT=some (.slice elem)) (hs:(P.info? elem).map (·.size)=some k)
  (hg:w.heap[g]?=some (.cells cur t (0,0))) (hn:cs.length=Nat.min sLen dLen*k)
  (hsrc:∀ j v,cs[j]?=some v→w.cell? (a.add j)=some v) (hfit:o+cs.length≤cur.size) (h1:∀ v ∈ cs,v.oneCell'=true) :
  (Builtin.copy_ #[dT,sT] ty #[.slice (some ⟨g,o,none⟩) dLen dCap,.slice (some a) sLen sCap]).run P w =
   .ok (goInt (Nat.min sLen dLen)) (w.setRow g (cur.toList.take o++cs++cur.toList.drop (o+cs.length)).toArray):=by
 have hl:=run_firstCells_some (P:=P) w k (Nat.min sLen dLen) a sLen sCap cs hn hsrc
 have hst:=run_storeCells_at P g o t cs 0 cur w hg (by simpa using hfit) h1
 cases hq:P.info? elem with
 | none=>simp [hq] at hs
 | some i=>
  have hi:i.size=k:=by simpa [hq] using hs
  simp [Builtin.copy_,run_underlying hu,Builtin.lenOf,sizeOf,typeInfo,hq,hi,hl,hst]
theorem sem_copyK {dT sT ty e:TypeId}(hu:P.underlying dT=some (.slice e)){k:Nat}(hi:(P.info? e).map (·.size)=some k){g o dLen dCap:Nat}{a2:Option Addr}{sLen c2:Nat}{L ys:List Value}{t:TypeId}(hg:h g=some (cellsO L t))(H:HasRow h a2 ys)(hl:ys.length=Nat.min sLen dLen*k)(hfit:o+ys.length≤L.length)
  (h1:∀ u ∈ ys,u.oneCell'=true) (hne:ys≠[]) {K:Value→Hp→Prop} (hK:K (vi (Nat.min sLen dLen:Nat)) (h.set g (cellsO (setL L o ys) t))):SemOK P (Builtin.copy_ #[dT,sT] ty #[vsl (some ⟨g,o,none⟩) dLen dCap,vsl a2 sLen c2]) h K:=by
 intro w hs
 rcases H with h4|⟨b2,o2,rfl,hr⟩
 ·exact absurd h4 hne
 ·have hrun:=run_copy_rowK (P:=P) w dT sT ty e k g o dLen dCap ⟨b2,o2,none⟩ sLen c2 L.toArray t ys hu hi (hs g _ hg) hl (fun j v hj=>by rw [addr_add];exact cell_cell (Hp.row_cell hr hj) hs) (by simpa using hfit) h1
  exact⟨_,_,_,hrun,setRow_Sub hs hg,setRow_Fr hg,hK⟩
theorem sem_clearK {t ty e:TypeId}{k bytes:Nat}(T:ElT P t e k bytes){z:List Value}(hz:(zeroL P e).map tvals=some z)(h1:∀ u ∈ z,u.oneCell'=true){g o n c:Nat}{L:List Value}(hn:0 < n)(hg:h g=some (cellsO L e))(hfit:o+n*k≤L.length){K:Value→Hp→Prop}
  (hK:K (vtup []) (h.set g (cellsO (setL L o ((List.replicate n z).flatten)) e))):SemOK P (Builtin.clear_ #[t] ty #[vsl (some ⟨g,o,none⟩) n c]) h K:=by
 intro w hs
 obtain⟨i,zv,hi,hiz,hsz,hby,hzs⟩:=T.el
 have hzl:z=zv.cells.toList:=by
  unfold zeroL at hz
  rw [hi] at hz
  simp only [Option.bind_some,hiz,Option.map_some,Option.some.injEq] at hz
  rw [←hz,tvals_tvsOf]
 have hzl2:z.length=k:=by rw [hzl,Array.length_toList];exact hzs
 have hfl:(Builtin.zeroCells zv.cells n).toList=(List.replicate n z).flatten:=by
  have e1:Builtin.zeroCells zv.cells n=((List.replicate n zv.cells.toList).flatten).toArray:=flat_zero zv.cells n (by rw [hzs];exact T.pos)
  rw [e1,hzl]
 have hlen:((List.replicate n z).flatten).length=n*k:=by rw [List.length_flatten];simp [hzl2]
 have h1':∀ u ∈ (List.replicate n z).flatten,u.oneCell'=true:=by
  intro u hu
  obtain⟨l,hl,hu⟩:=List.mem_flatten.1 hu
  rw [List.eq_of_mem_replicate hl] at hu
  exact h1 u hu
 have hst:=run_storeCells_at P g o e ((List.replicate n z).flatten) 0 L.toArray w (hs g _ hg) (by simp only [Nat.add_zero,List.size_toArray];rw [hlen];exact hfit) h1'
 have hrun:(Builtin.clear_ #[t] ty #[vsl (some ⟨g,o,none⟩) n c]).run P w=.ok (vtup []) (w.setRow g (setL L o ((List.replicate n z).flatten)).toArray):=by
  obtain⟨m,rfl⟩:∃ m,n=m+1:=⟨n - 1,by omega⟩
  simp only [Nat.add_zero] at hst
  simp [Builtin.clear_,run_underlying T.sl,zeroValue,typeInfo,hi,hiz,hfl,hst,setL]
 exact⟨_,_,_,hrun,setRow_Sub hs hg,setRow_Fr hg,hK⟩
theorem sem_append_zeros {t tn ty e:TypeId}{k bytes:Nat}(T:ElT P t e k bytes)(htn:P.underlying tn=some (.int .i64)){z:List Value}(hz:(zeroL P e).map tvals=some z){a:Option Addr}{n c m:Nat}{xs:List Value}(H:HasRow h a xs)(hxs:xs.length=n*k)(hm:0 < m)(hc:c < n+m)
  (hb:(n+m)*bytes≤140737488355328) (h63:n+m≤140737488355328) {K:Value→Hp→Prop}
  (hK:∀ a' c' h',OwnV h h' e k a' (n+m) c' (xs++(List.replicate m z).flatten)→K (vsl a' (n+m) c') h') :
  SemOK P (Builtin.append_ #[t,tn] ty #[vsl a n c,vi (m:Int)]) h K:=by
 intro w hs
 obtain⟨i,zv,hi,hiz,rfl,rfl,hzs⟩:=T.el
 have hzl:z=zv.cells.toList:=by
  unfold zeroL at hz
  rw [hi] at hz
  simp only [Option.bind_some,hiz,Option.map_some,Option.some.injEq] at hz
  rw [←hz,tvals_tvsOf]
 have hzl2:z.length=i.size:=by rw [hzl,Array.length_toList];exact hzs
 have hfl:∀ m,(Builtin.zeroCells zv.cells m).toList=(List.replicate m z).flatten:=fun m=>by
  have e1:Builtin.zeroCells zv.cells m=((List.replicate m zv.cells.toList).flatten).toArray:=flat_zero zv.cells m (by rw [hzs];exact T.pos)
  rw [e1,hzl]
 have hlen:((List.replicate m z).flatten).length=m*i.size:=by rw [List.length_flatten];simp [hzl2]
 have hold:(Builtin.firstCells i.size n (.slice a n c)).run P w.drew=.ok xs.toArray w.drew:=by
  cases a with
  | none=>
   have:xs=[]:=by
    rcases H with h4|⟨b,o,e,_⟩
    ·exact h4
    ·cases e
   subst this
   exact run_firstCells_none _ _ _ _ _
  | some ad=>
   have hsrc:=HasRow.cells hs H
   exact run_firstCells_some w.drew i.size n ad n c xs hxs (fun j v hj=>hsrc j v hj)
 have hbm:m*i.bytes≤(n+m)*i.bytes:=Nat.mul_le_mul_right _ (by omega)
 have hr:=Lib.run_append_grow_zeros (P:=P) w t tn ty e i zv .i64 .i64 T.sl htn hi hiz a n c xs hold m hm T.pos hc (by omega) (by omega) (growslice_fits hc hb)
 have hno:h w.heap.size=none:=Sub.none hs
 refine⟨_,_,_,hr,drew_alloc_Sub hs _,drew_alloc_Fr h w _,hK _ _ _ ⟨Hp.le_set (Hp.le_refl h) hno _,⟨?_,.inr ⟨w.heap.size,_,rfl,Hp.set_same _ _ _,grownCap_ge w (n+m) c e,grownCap_le_maxLen w (n+m) c e (by simp only [maxLen];omega),?_,?_⟩⟩,fun g hg=>by cases hg;exact hno⟩⟩
 ·rw [List.length_append,hlen,hxs,Nat.add_mul]
 ·have hge:=grownCap_ge w (n+m) c e
  simp only [Array.size_append,List.size_toArray,size_zeroCells,hzs,hxs,←Nat.add_mul]
  congr 1
  omega
 ·simp only [Array.toList_append,hfl m]
  rw [List.take_left' (by rw [List.length_append,hlen,hxs,Nat.add_mul])]
theorem ext_overlaps {f:FuncId}{fn:Func}{tS tR e:TypeId}(hf:P.funcs[f]?=some fn)(hname:(fn.name == "runtime.NumGoroutine")=false)(hb:fn.body.isNone=true)(hn:Extern.findNext fn=none)(he:Extern.find fn=some (Extern.SlicesOverlaps.overlaps #[tS,tS] #[tR]))
  (ht:P.underlying tS=some (.slice e)) (hi:(P.info? e).isSome=true) {b1 o1 b2 o2 la ca lb cb:Nat} (hne:b1≠b2) {L1 L2:List Value} {t1 t2:TypeId} (h1:h b1=some (cellsO L1 t1)) (h2:h b2=some (cellsO L2 t2)) (hL2:L2≠[]) {K:Value→Hp→Prop} (hK:K (vb false) h) :
  ExtOK P f [vsl (some ⟨b1,o1,none⟩) la ca,vsl (some ⟨b2,o2,none⟩) lb cb] h K:=by
 intro w hs
 obtain⟨i,hi⟩:=Option.isSome_iff_exists.1 hi
 have w1:=hs b1 _ h1
 have w2:=hs b2 _ h2
 refine⟨vb false,w,h,?_,hs,Fr.refl h w,hK⟩
 rw [run_callFunc_extern hf hname hb hn he]
 have:=Lib.run_overlaps_apart (P:=P) w tS tR e ht i.size (fun w=>by simp [sizeOf,typeInfo,hi]) ⟨b1,o1,none⟩ ⟨b2,o2,none⟩ la ca lb cb hne t1 t2 L1.length L2.length (by simp [World.shape?,w1]) (by simp [World.shape?,w2]) (by simpa using hL2) (by simp [World.frozen?,w1]) (by simp [World.frozen?,w1])
 show ((Extern.SlicesOverlaps.overlaps #[tS,tS] #[tR] #[.slice (some ⟨b1,o1,none⟩) la ca,.slice (some ⟨b2,o2,none⟩) lb cb]).run P w).andThen _=_
 rw [this]
 rfl
theorem rd_cap {t e ty:TypeId}(ht:P.underlying t=some (.slice e)){a:Option Addr}{n c:Nat}:Rd P (Builtin.cap_ #[t] ty #[vsl a n c]) h (vi (c:Int)):=by
 intro w _
 simp [Builtin.cap_,run_underlying ht,goInt]
theorem OwnV.grow {h0:Hp}{e:TypeId}{sz n m c:Nat}{a:Option Addr}{xs:List Value}(O:OwnV h0 h e sz a n c xs)(h1:n≤m)(h2:m≤c):∃ ys,ys.length=(m - n)*sz∧OwnV h0 h e sz a m c (xs++ys):=by
 obtain⟨l,⟨hl,O'⟩,nw⟩:=O
 rcases O' with ⟨ha,hn,hc⟩|⟨g,cur,ha,hg,h3,h4,h5,h6⟩
 ·have:m=n:=by omega
  subst this
  exact⟨[],by simp,l,by rw [List.append_nil];exact⟨hl,.inl ⟨ha,hn,hc⟩⟩,nw⟩
 ·have hb:n*sz≤m*sz:=Nat.mul_le_mul_right _ h1
  have hb2:m*sz≤c*sz:=Nat.mul_le_mul_right _ h2
  have hcl:cur.toList.length=c*sz:=by rw [Array.length_toList];exact h5
  refine⟨(cur.toList.take (m*sz)).drop (n*sz),by rw [List.length_drop,List.length_take,hcl,Nat.min_eq_left hb2,Nat.sub_mul],l,⟨?_,.inr ⟨g,cur,ha,hg,h2,h4,h5,?_⟩⟩,nw⟩
  ·rw [List.length_append,hl,List.length_drop,List.length_take,hcl,Nat.min_eq_left hb2]
   omega
  ·have h7:(cur.toList.take (m*sz)).take (n*sz)=xs:=by rw [List.take_take,Nat.min_eq_left hb];exact h6
   have h8:=List.take_append_drop (n*sz) (cur.toList.take (m*sz))
   rw [h7] at h8
   exact h8.symm
theorem OwnV.blk {h0:Hp}{e:TypeId}{sz n c:Nat}{a:Option Addr}{xs:List Value}(O:OwnV h0 h e sz a n c xs)(hc:0 < c)(hz:0 < sz):∃ g L,a=some ⟨g,0,none⟩∧h g=some (cellsO L e)∧L≠[]:=by
 obtain⟨l,⟨hl,O'⟩,nw⟩:=O
 rcases O' with ⟨ha,hn,hc'⟩|⟨g,cur,ha,hg,h3,h4,h5,h6⟩
 ·omega
 ·refine⟨g,cur.toList,ha,by rw [hg],fun e2=>?_⟩
  have:=congrArg List.length e2
  rw [Array.length_toList,h5] at this
  have:=Nat.mul_pos hc hz
  simp at *
  omega
theorem OwnV.copy {h0:Hp}{dT sT ty e:TypeId}(hu:P.underlying dT=some (.slice e)){sz:Nat}(hi:(P.info? e).map (·.size)=some sz){n c:Nat}{a:Option Addr}{xs:List Value}(O:OwnV h0 h e sz a n c xs){g j dLen dCap:Nat}(ha:a=some ⟨g,0,none⟩){a2:Option Addr}{sLen c2:Nat}{ys:List Value}(H:HasRow h a2 ys)
  (hl:ys.length=Nat.min sLen dLen*sz) (hfit:j+ys.length≤n*sz) (h1:∀ u ∈ ys,u.oneCell'=true) (hne:ys≠[]) {K:Value→Hp→Prop}
  (hK:∀ h',OwnV h0 h' e sz a n c (setL xs j ys)→(∀ b o,b≠g→h b=some o→h' b=some o)→K (vi (Nat.min sLen dLen:Nat)) h'):SemOK P (Builtin.copy_ #[dT,sT] ty #[vsl (some ⟨g,j,none⟩) dLen dCap,vsl a2 sLen c2]) h K:=by
 obtain⟨l,⟨hl0,O'⟩,nw⟩:=O
 rcases O' with ⟨ha',_⟩|⟨g',cur,ha',hg,h3,h4,h5,h6⟩
 ·rw [ha'] at ha;cases ha
 ·rw [ha'] at ha
  cases ha
  have hb:n*sz≤c*sz:=Nat.mul_le_mul_right _ h3
  have hcl:cur.toList.length=c*sz:=by rw [Array.length_toList];exact h5
  refine sem_copyK hu hi (L:=cur.toList) (t:=e) (by rw [hg]) H hl (by omega) h1 hne ?_
  refine hK _ ⟨fun b o ho=>?_,⟨?_,.inr ⟨g,_,ha',Hp.set_same _ _ _,h3,h4,?_,?_⟩⟩,nw⟩ fun b o hne ho=>(Hp.set_other h _ hne).trans ho
  ·have hne:b≠g:=fun q=>by subst q;rw [nw b ha'] at ho;cases ho
   exact(Hp.set_other h _ hne).trans (l b o ho)
  ·rw [setL_length _ _ _ (by omega)];exact hl0
  ·show (setL cur.toList j ys).length=_
   rw [setL_length _ _ _ (by omega)];exact hcl
  ·show (setL cur.toList j ys).take (n*sz)=_
   rw [setL_take _ _ _ _ hfit (by rw [hcl];exact hb),h6]
theorem OwnV.clear {h0:Hp}{t ty e:TypeId}{sz bytes:Nat}(T:ElT P t e sz bytes){z:List Value}(hz:(zeroL P e).map tvals=some z)(h1:∀ u ∈ z,u.oneCell'=true)(hzl:z.length=sz){n c:Nat}{a:Option Addr}{xs:List Value}(O:OwnV h0 h e sz a n c xs){g j k dCap:Nat}(ha:a=some ⟨g,0,none⟩)(hk:0 < k)(hfit:j+k*sz≤n*sz){K:Value→Hp→Prop}
  (hK:∀ h',OwnV h0 h' e sz a n c (setL xs j ((List.replicate k z).flatten))→K (vtup []) h'):SemOK P (Builtin.clear_ #[t] ty #[vsl (some ⟨g,j,none⟩) k dCap]) h K:=by
 have hlen:((List.replicate k z).flatten).length=k*sz:=by rw [List.length_flatten];simp [hzl]
 obtain⟨l,⟨hl0,O'⟩,nw⟩:=O
 rcases O' with ⟨ha',_⟩|⟨g',cur,ha',hg,h3,h4,h5,h6⟩
 ·rw [ha'] at ha;cases ha
 ·rw [ha'] at ha
  cases ha
  have hb:n*sz≤c*sz:=Nat.mul_le_mul_right _ h3
  have hcl:cur.toList.length=c*sz:=by rw [Array.length_toList];exact h5
  refine sem_clearK T hz h1 hk (L:=cur.toList) (by rw [hg]) (by omega) ?_
  refine hK _ ⟨fun b o ho=>?_,⟨?_,.inr ⟨g,_,ha',Hp.set_same _ _ _,h3,h4,?_,?_⟩⟩,nw⟩
  ·have hne:b≠g:=fun q=>by subst q;rw [nw b ha'] at ho;cases ho
   exact(Hp.set_other h _ hne).trans (l b o ho)
  ·rw [setL_length _ _ _ (by omega)];exact hl0
  ·show (setL cur.toList j _).length=_
   rw [setL_length _ _ _ (by omega)];exact hcl
  ·show (setL cur.toList j _).take (n*sz)=_
   rw [setL_take _ _ _ _ (by omega) (by rw [hcl];exact hb),h6]
end
end Go.Vc
namespace Go.Proofs.YtiflgceoamkmnaaGreatDoor
open Go Go.Vc
def VC_panes_Table_find (u0:Option Addr)(u1 u2:Nat)(u3:Int)(u4:Int)(u5:Int)(h:Hp)(R:Value→Hp→Prop):Prop:=
 (∀ b1,h b1=none→let h2:= Hp.set h b1 (cellsO [vi u3] 3);(CallOK Tryz.prog 173 [vsl u0 u1 u2,vag [vi u4,vi u5],(Value.func (.func 174) #[] #[vhp b1 0])] h2 fun v3 h4=>∃ x5 p6,v3=(vtup [vi x5,vb p6])∧R (vtup [vi x5,vb p6]) h4))
theorem ok_panes_Table_find {u0 u1 u2 u3 u4 u5 h R}(H:VC_panes_Table_find u0 u1 u2 u3 u4 u5 h R):CallOK Tryz.prog 145 [vag [vsl u0 u1 u2],vi u3,vag [vi u4,vi u5]] h R:=
 call_of (cfg:=⟨[4],[],[]⟩) noNG mixed Tryz.func145 [.ag [.v (vsl u0 u1 u2)],.one (.v (vi u3)),.ag [.v (vi u4),.v (vi u5)]] (by kernel_rfl) rfl (by kernel_rfl) H
def VC_panes_Table_find_1 (u0:Int)(u1:Int)(u2:Int)(u3:Option Addr)(u4 u5:Nat)(u6:Bool)(u7:Int)(u8:Int)(f_0b f_0o:Nat)(h:Hp)(R:Value→Hp→Prop):Prop:=
 (∃ x1,(Hp.cell h f_0b f_0o=some (vi x1))∧(CallOK Tryz.prog 125 [vi u0,vi x1] h fun v2 h3=>∃ x4,v2=(vi x4)∧(CallOK Tryz.prog 79 [vag [vi u1,vi u2],vag [vi u7,vi u8]] h3 fun v5 h6=>∃ x7,v5=(vi x7)∧(∀ b8,h6 b8=none→let h9:= Hp.set h6 b8 (cellsO [vi x4,vi x7] 3);(CallOK Tryz.prog 124 [(vsl (some (⟨b8,0,none⟩:Addr)) 2 2)] h9 fun v10 h11=>∃ x12,v10=(vi x12)∧R (vi x12) h11)))))
theorem ok_panes_Table_find_1 {u0 u1 u2 u3 u4 u5 u6 u7 u8 f_0b f_0o h R}(H:VC_panes_Table_find_1 u0 u1 u2 u3 u4 u5 u6 u7 u8 f_0b f_0o h R):CallOK Tryz.prog 174 [vag [vi u0,vi u1,vi u2,vsl u3 u4 u5,vb u6],vag [vi u7,vi u8],vhp f_0b f_0o] h R:=
 call_of (cfg:=⟨[],[],[(1,[0,1,2,4,5,6,3,7,8,9,10])]⟩) noNG mixed Tryz.func174 [.ag [.v (vi u0),.v (vi u1),.v (vi u2),.v (vsl u3 u4 u5),.v (vb u6)],.ag [.v (vi u7),.v (vi u8)],.one (.hp f_0b f_0o)] (by kernel_rfl) rfl (by kernel_rfl) H
def VC_slices_BinarySearchFunc_panes_Pane_panes_Pane_api_Value (u0:Option Addr)(u1 u2:Nat)(u3:Int)(u4:Int)(u5:Value)(h:Hp)(R:Value→Hp→Prop):Prop:=
 (∃(I2:List Value→Hp→Prop) (m3:List Value→Hp→Nat),I2 [vi 0,(vi (u1:Int))] h∧∀ vs4 h5,I2 vs4 h5→∃ x6 x7,vs4=[vi x6,vi x7]∧(((decide (x6 < x7))=true→(∃ x10,(IsW x10 (x6+x7))∧(∃ x11,(Rd Tryz.prog (binOp .shr 191 (vk .u64 (IntKind.wrap .u64 x10)) (vk .u64 1)) h5 (vk .u64 x11))∧(∃ b12 o13,(u0=some ⟨b12,o13,none⟩∧(0:Int)≤(IntKind.wrap .i64 x11)∧(IntKind.wrap .i64 x11) < (u1:Int))∧(∃ x14 x15 x16 a17 n17 c17 p18,(Hp.row h5 b12 (o13+(IntKind.wrap .i64 x11).toNat*5) 5=some [vi x14,vi x15,vi x16,vsl a17 n17 c17,vb p18])∧(InvOK Tryz.prog u5 [vag [vi x14,vi x15,vi x16,vsl a17 n17 c17,vb p18],vag [vi u3,vi u4]] h5 fun v19 h20=>∃ x21,v19=(vi x21)∧(((decide (x21 < 0))=true→(∃ x22,(IsW x22 ((IntKind.wrap .i64 x11)+1))∧(I2 [vi x22,vi x7] h20∧m3 [vi x22,vi x7] h20 < m3 vs4 h5)))∧((decide (x21 < 0))=false→(I2 [vi x6,(vi (IntKind.wrap .i64 x11))] h20∧m3 [vi x6,(vi (IntKind.wrap .i64 x11))] h20 < m3 vs4 h5)))))))))∧((decide (x6 < x7))=false→(∃ b23 o24,((decide (x6 < (u1:Int)))=true→(u0=some ⟨b23,o24,none⟩∧(0:Int)≤x6∧x6 < (u1:Int)))∧(∃ x25 x26 x27 a28 n28 c28 p29,((decide (x6 < (u1:Int)))=true→Hp.row h5 b23 (o24+x6.toNat*5) 5=some [vi x25,vi x26,vi x27,vsl a28 n28 c28,vb p29])∧(∃(J30:SV→Hp→Prop),((decide (x6 < (u1:Int)))=true→(InvOK Tryz.prog u5 [vag [vi x25,vi x26,vi x27,vsl a28 n28 c28,vb p29],vag [vi u3,vi u4]] h5 fun v31 h32=>∃ x33,v31=(vi x33)∧J30 (.t (.one (.v (vi x33)))) h32))∧(¬((decide (x6 < (u1:Int)))=true)→J30 (.t (.one (.v (vi 0)))) h5)∧∀ h34 x35,J30 (.t (.one (.v (vi x35)))) h34→R (vtup [vi x6,(vb (bif (decide (x6 < (u1:Int))) then(decide (x35=0)) else false))]) h34))))))
theorem ok_slices_BinarySearchFunc_panes_Pane_panes_Pane_api_Value {u0 u1 u2 u3 u4 u5 h R}(H:VC_slices_BinarySearchFunc_panes_Pane_panes_Pane_api_Value u0 u1 u2 u3 u4 u5 h R):CallOK Tryz.prog 173 [vsl u0 u1 u2,vag [vi u3,vi u4],u5] h R:=
 call_of (cfg:=⟨[],[(3,([9,10],[.one (.int .i64),.one (.int .i64)],[]))],[(5,[0,1,2,3,4,5,6,7]),(8,[0,1,2,3,4,5,6,7,8,9,10,11,12,13,14,15])]⟩) noNG mixed Tryz.func173 [.one (.v (vsl u0 u1 u2)),.ag [.v (vi u3),.v (vi u4)],.one (.v u5)] (by kernel_rfl) rfl (by kernel_rfl) H
def VC_slices_Clone_panes_Pane_panes_Pane (u0:Option Addr)(u1 u2:Nat)(h:Hp)(R:Value→Hp→Prop):Prop:=
 (∃ p1,(Rd Tryz.prog ((eqGuard .eql 59 (.tmp 3) (.const (vsl none 0 0)) (vsl u0 u1 u2) (vsl none 0 0) >>= fun _=>binOp .eql 59 (vsl u0 u1 u2) (vsl none 0 0))) h (vb p1))∧((p1=true→R (vsl none 0 0) h)∧(p1=false→(∀ b3,h b3=none→let h4:= Hp.set h b3 (cellsO [] 79);(SemOK Tryz.prog (Builtin.append_ #[59,59] 59 #[(vsl (some (⟨b3,0,none⟩:Addr)) 0 0),vsl u0 u1 u2]) h4 fun v5 h6=>∃ a7 n7 c7,v5=(vsl a7 n7 c7)∧R (vsl a7 n7 c7) h6)))))
theorem ok_slices_Clone_panes_Pane_panes_Pane {u0 u1 u2 h R}(H:VC_slices_Clone_panes_Pane_panes_Pane u0 u1 u2 h R):CallOK Tryz.prog 103 [vsl u0 u1 u2] h R:=
 call_of (cfg:=⟨[],[],[]⟩) noNG mixed Tryz.func103 [.one (.v (vsl u0 u1 u2))] (by kernel_rfl) rfl (by kernel_rfl) H
def VC_slices_Clone_gather_Acc_gather_Acc (u0:Option Addr)(u1 u2:Nat)(h:Hp)(R:Value→Hp→Prop):Prop:=
 (∃ p1,(Rd Tryz.prog ((eqGuard .eql 77 (.tmp 3) (.const (vsl none 0 0)) (vsl u0 u1 u2) (vsl none 0 0) >>= fun _=>binOp .eql 77 (vsl u0 u1 u2) (vsl none 0 0))) h (vb p1))∧((p1=true→R (vsl none 0 0) h)∧(p1=false→(∀ b3,h b3=none→let h4:= Hp.set h b3 (cellsO [] 139);(SemOK Tryz.prog (Builtin.append_ #[77,77] 77 #[(vsl (some (⟨b3,0,none⟩:Addr)) 0 0),vsl u0 u1 u2]) h4 fun v5 h6=>∃ a7 n7 c7,v5=(vsl a7 n7 c7)∧R (vsl a7 n7 c7) h6)))))
theorem ok_slices_Clone_gather_Acc_gather_Acc {u0 u1 u2 h R}(H:VC_slices_Clone_gather_Acc_gather_Acc u0 u1 u2 h R):CallOK Tryz.prog 147 [vsl u0 u1 u2] h R:=
 call_of (cfg:=⟨[],[],[]⟩) noNG mixed Tryz.func147 [.one (.v (vsl u0 u1 u2))] (by kernel_rfl) rfl (by kernel_rfl) H
def VC_slices_Insert_panes_Pane_panes_Pane (u0:Option Addr)(u1 u2:Nat)(u3:Int)(u4:Option Addr)(u5 u6:Nat)(h:Hp)(R:Value→Hp→Prop):Prop:=
 (∃ a1 n1 c1,(Rd Tryz.prog (Instr.sliceAt 59 (vsl u0 u1 u2) (some (vi u3)) none none) h (vsl a1 n1 c1))∧(((decide ((u5:Int)=0))=true→R (vsl u0 u1 u2) h)∧((decide ((u5:Int)=0))=false→(((decide (u3=(u1:Int)))=true→(SemOK Tryz.prog (Builtin.append_ #[59,59] 59 #[vsl u0 u1 u2,vsl u4 u5 u6]) h fun v3 h4=>∃ a5 n5 c5,v3=(vsl a5 n5 c5)∧R (vsl a5 n5 c5) h4))∧((decide (u3=(u1:Int)))=false→(∃ x7,(IsW x7 ((u1:Int)+(u5:Int)))∧(∃ x8,(Rd Tryz.prog (Builtin.cap_ #[59] 3 #[vsl u0 u1 u2]) h (vi x8))∧(((decide (x7 > x8))=true→(∃ a9 n9 c9,(Rd Tryz.prog (Instr.sliceAt 59 (vsl u0 u1 u2) none (some (vi u3)) none) h (vsl a9 n9 c9))∧(∃ x10,(IsW x10 ((u1:Int)+(u5:Int)))∧(∃ x11,(IsW x11 (x10 - u3))∧(SemOK Tryz.prog (Builtin.append_ #[59,3] 59 #[vsl a9 n9 c9,vi x11]) h fun v12 h13=>∃ a14 n14 c14,v12=(vsl a14 n14 c14)∧(∃ a15 n15 c15,(Rd Tryz.prog (Instr.sliceAt 59 (vsl a14 n14 c14) (some (vi u3)) none none) h13 (vsl a15 n15 c15))∧(SemOK Tryz.prog (Builtin.copy_ #[59,59] 3 #[vsl a15 n15 c15,vsl u4 u5 u6]) h13 fun v16 h17=>∃ x18,v16=(vi x18)∧(∃ x19,(IsW x19 (u3+(u5:Int)))∧(∃ a20 n20 c20,(Rd Tryz.prog (Instr.sliceAt 59 (vsl a14 n14 c14) (some (vi x19)) none none) h17 (vsl a20 n20 c20))∧(∃ a21 n21 c21,(Rd Tryz.prog (Instr.sliceAt 59 (vsl u0 u1 u2) (some (vi u3)) none none) h17 (vsl a21 n21 c21))∧(SemOK Tryz.prog (Builtin.copy_ #[59,59] 3 #[vsl a20 n20 c20,vsl a21 n21 c21]) h17 fun v22 h23=>∃ x24,v22=(vi x24)∧R (vsl a14 n14 c14) h23)))))))))))∧((decide (x7 > x8))=false→(∃ x26,(IsW x26 ((u1:Int)+(u5:Int)))∧(∃ a27 n27 c27,(Rd Tryz.prog (Instr.sliceAt 59 (vsl u0 u1 u2) none (some (vi x26)) none) h (vsl a27 n27 c27))∧(∃ x28,(IsW x28 (u3+(u5:Int)))∧(∃ a29 n29 c29,(Rd Tryz.prog (Instr.sliceAt 59 (vsl a27 n27 c27) (some (vi x28)) none none) h (vsl a29 n29 c29))∧(ExtOK Tryz.prog 175 [vsl u4 u5 u6,vsl a29 n29 c29] h fun v30 h31=>∃ p32,v30=(vb p32)∧(((!p32)=true→(∃ x33,(IsW x33 (u3+(u5:Int)))∧(∃ a34 n34 c34,(Rd Tryz.prog (Instr.sliceAt 59 (vsl a27 n27 c27) (some (vi x33)) none none) h31 (vsl a34 n34 c34))∧(∃ a35 n35 c35,(Rd Tryz.prog (Instr.sliceAt 59 (vsl a27 n27 c27) (some (vi u3)) none none) h31 (vsl a35 n35 c35))∧(SemOK Tryz.prog (Builtin.copy_ #[59,59] 3 #[vsl a34 n34 c34,vsl a35 n35 c35]) h31 fun v36 h37=>∃ x38,v36=(vi x38)∧(∃ a39 n39 c39,(Rd Tryz.prog (Instr.sliceAt 59 (vsl a27 n27 c27) (some (vi u3)) none none) h37 (vsl a39 n39 c39))∧(SemOK Tryz.prog (Builtin.copy_ #[59,59] 3 #[vsl a39 n39 c39,vsl u4 u5 u6]) h37 fun v40 h41=>∃ x42,v40=(vi x42)∧R (vsl a27 n27 c27) h41)))))))∧((!p32)=false→(∃ a44 n44 c44,(Rd Tryz.prog (Instr.sliceAt 59 (vsl a27 n27 c27) (some (vi (u1:Int))) none none) h31 (vsl a44 n44 c44))∧(SemOK Tryz.prog (Builtin.copy_ #[59,59] 3 #[vsl a44 n44 c44,vsl u4 u5 u6]) h31 fun v45 h46=>∃ x47,v45=(vi x47)∧(∃ a48 n48 c48,(Rd Tryz.prog (Instr.sliceAt 59 (vsl a27 n27 c27) (some (vi u3)) none none) h46 (vsl a48 n48 c48))∧(CallOK Tryz.prog 176 [vsl a48 n48 c48,(vi (u5:Int))] h46 fun v49 h50=>v49=(vtup [])∧R (vsl a27 n27 c27) h50))))))))))))))))))))
theorem ok_slices_Insert_panes_Pane_panes_Pane {u0 u1 u2 u3 u4 u5 u6 h R}(H:VC_slices_Insert_panes_Pane_panes_Pane u0 u1 u2 u3 u4 u5 u6 h R):CallOK Tryz.prog 146 [vsl u0 u1 u2,vi u3,vsl u4 u5 u6] h R:=
 call_of (cfg:=⟨[],[],[(11,[0,1,2,3,4,5,6,7,8]),(15,[0,1,2,3,4,5,6,7,8])]⟩) noNG mixed Tryz.func146 [.one (.v (vsl u0 u1 u2)),.one (.v (vi u3)),.one (.v (vsl u4 u5 u6))] (by kernel_rfl) rfl (by kernel_rfl) H
def VC_panes_Table_Add (u0:Option Addr)(u1 u2:Nat)(u3:Int)(u4:Int)(u5:Int)(u6:Option Addr)(u7 u8:Nat)(u9:Option Addr)(u10 u11:Nat)(h:Hp)(R:Value→Hp→Prop):Prop:=
 (CallOK Tryz.prog 145 [vag [vsl u0 u1 u2],vi u3,vag [vi u4,vi u5]] h fun v1 h2=>∃ x3 p4,v1=(vtup [vi x3,vb p4])∧(CallOK Tryz.prog 103 [vsl u0 u1 u2] h2 fun v5 h6=>∃ a7 n7 c7,v5=(vsl a7 n7 c7)∧(let J83:Option Addr→Nat→Nat→Int→Int→Int→Option Addr→Nat→Nat→Bool→Hp→Prop:=fun a315 n315 c315 x316 x317 x318 a319 n319 c319 p320 h321=>(∃ b322 o323,(a315=some ⟨b322,o323,none⟩∧(0:Int)≤x3∧x3 < (n315:Int))∧(∃ x324 x325 x326 a327 n327 c327 p328,(Hp.row h321 b322 (o323+x3.toNat*5) 5=some [vi x324,vi x325,vi x326,vsl a327 n327 c327,vb p328])∧(CallOK Tryz.prog 147 [vsl a327 n327 c327] h321 fun v329 h330=>∃ a331 n331 c331,v329=(vsl a331 n331 c331)∧(∃(I333:List Value→Hp→Prop) (m334:List Value→Hp→Nat),I333 [vi 0] h330∧∀ vs335 h336,I333 vs335 h336→∃ x337,vs335=[vi x337]∧(((decide (x337 < (u10:Int)))=true→(∃ b340 o341,(u9=some ⟨b340,o341,none⟩∧(0:Int)≤x337∧x337 < (u10:Int))∧(∃ x342 x343,(Hp.row h336 b340 (o341+x337.toNat*2) 2=some [vi x342,vi x343])∧(∃ b344 o345,(a331=some ⟨b344,o345,none⟩∧(0:Int)≤x337∧x337 < (n331:Int))∧(∃ x346 x347 x348 x349,(Hp.row h336 b344 (o345+x337.toNat*4) 4=some [vi x346,vi x347,vi x348,vi x349])∧(CallOK Tryz.prog 121 [vag [vi x346,vi x347,vi x348,vi x349],vag [vi x342,vi x343]] h336 fun v350 h351=>∃ x352 x353 x354 x355,v350=(vag [vi x352,vi x353,vi x354,vi x355])∧(∃ b356 o357,(a331=some ⟨b356,o357,none⟩∧(0:Int)≤x337∧x337 < (n331:Int))∧(Hp.store h351 b356 (o357+x337.toNat*4) [vi x352,vi x353,vi x354,vi x355] fun h358=>(∃ x360,(IsW x360 (x337+1))∧(I333 [vi x360] h358∧m334 [vi x360] h358 < m334 vs335 h336))))))))))∧((decide (x337 < (u10:Int)))=false→(∃ b361 o362,(a315=some ⟨b361,o362,none⟩∧(0:Int)≤x3∧x3 < (n315:Int))∧(Hp.store h336 b361 (o362+x3.toNat*5) [vi x324,vi x325,vi x326,vsl a331 n331 c331,vb p328] fun h363=>R (vtup [vag [vsl a315 n315 c315],vag [vi x316,vi x317,vi x318,vsl a319 n319 c319,vb p320],vb p4]) h363))))))));((p4=true→(∃ b8 o9,(a7=some ⟨b8,o9,none⟩∧(0:Int)≤x3∧x3 < (n7:Int))∧(∃ x10 x11 x12 a13 n13 c13 p14,(Hp.row h6 b8 (o9+x3.toNat*5) 5=some [vi x10,vi x11,vi x12,vsl a13 n13 c13,vb p14])∧(J83 a7 n7 c7 x10 x11 x12 a13 n13 c13 p14 h6))))∧(p4=false→(let J45:Int→Int→Int→Option Addr→Nat→Nat→Bool→Hp→Prop:=fun x71 x72 x73 a74 n74 c74 p75 h76=>(∀ b77,h76 b77=none→let h78:= Hp.set h76 b77 (cellsO [vi x71,vi x72,vi x73,vsl a74 n74 c74,vb p75] 79);(CallOK Tryz.prog 146 [vsl a7 n7 c7,vi x3,(vsl (some (⟨b77,0,none⟩:Addr)) 1 1)] h78 fun v79 h80=>∃ a81 n81 c81,v79=(vsl a81 n81 c81)∧(J83 a81 n81 c81 0 0 0 none 0 0 false h80)));(∃(I17:List Value→Hp→Prop) (m18:List Value→Hp→Nat),I17 [vi 0,vi u3,vi u4,vi u5,vsl none 0 0,vb false] h6∧∀ vs19 h20,I17 vs19 h20→∃ x21 x22 x23 x24 a25 n25 c25 p26,vs19=[vi x21,vi x22,vi x23,vi x24,vsl a25 n25 c25,vb p26]∧(((decide (x21 < (u7:Int)))=true→(∃ b29 o30,(u6=some ⟨b29,o30,none⟩∧(0:Int)≤x21∧x21 < (u7:Int))∧(∃ x31,(Hp.cell h20 b29 (o30+x21.toNat*1)=some (vi x31))∧(CallOK Tryz.prog 75 [vi x31] h20 fun v32 h33=>∃ x34 x35 x36 x37,v32=(vag [vi x34,vi x35,vi x36,vi x37])∧(∀ b38,h33 b38=none→let h39:= Hp.set h33 b38 (cellsO [vi x34,vi x35,vi x36,vi x37] 139);(SemOK Tryz.prog (Builtin.append_ #[77,77] 77 #[vsl a25 n25 c25,(vsl (some (⟨b38,0,none⟩:Addr)) 1 1)]) h39 fun v40 h41=>∃ a42 n42 c42,v40=(vsl a42 n42 c42)∧(∃ x44,(IsW x44 (x21+1))∧(I17 [vi x44,vi x22,vi x23,vi x24,vsl a42 n42 c42,vb p26] h41∧m18 [vi x44,vi x22,vi x23,vi x24,vsl a42 n42 c42,vb p26] h41 < m18 vs19 h20))))))))∧((decide (x21 < (u7:Int)))=false→(J45 x22 x23 x24 a25 n25 c25 p26 h20))))))))))
theorem ok_panes_Table_Add {u0 u1 u2 u3 u4 u5 u6 u7 u8 u9 u10 u11 h R}(H:VC_panes_Table_Add u0 u1 u2 u3 u4 u5 u6 u7 u8 u9 u10 u11 h R):CallOK Tryz.prog 99 [vag [vsl u0 u1 u2],vi u3,vag [vi u4,vi u5],vsl u6 u7 u8,vsl u9 u10 u11] h R:=
 call_of (cfg:=⟨[],[(7,([41],[.one (.int .i64)],[(4,[.int .i64,.int .i64,.int .i64,.slice,.bool])])),(15,([68],[.one (.int .i64)],[]))],[(9,[0,1,2,3,4,5,6,7]),(17,[0,1,2,3,4,5,6,7,8,9,10,11]),(20,[0,1,2,3,4,5,6])]⟩) noNG mixed Tryz.func99 [.ag [.v (vsl u0 u1 u2)],.one (.v (vi u3)),.ag [.v (vi u4),.v (vi u5)],.one (.v (vsl u6 u7 u8)),.one (.v (vsl u9 u10 u11))] (by kernel_rfl) rfl (by kernel_rfl) H
def VC_panes_Table_Tell (u0:Option Addr)(u1 u2:Nat)(u3:Int)(u4:Int)(h:Hp)(R:Value→Hp→Prop):Prop:=
 (CallOK Tryz.prog 103 [vsl u0 u1 u2] h fun v1 h2=>∃ a3 n3 c3,v1=(vsl a3 n3 c3)∧(∃(I5:List Value→Hp→Prop) (m6:List Value→Hp→Nat),I5 [vsl none 0 0,vi 0] h2∧∀ vs7 h8,I5 vs7 h8→∃ a9 n9 c9 x10,vs7=[vsl a9 n9 c9,vi x10]∧(((decide (x10 < (n3:Int)))=true→(let J38:Option Addr→Nat→Nat→Hp→Prop:=fun a41 n41 c41 h42=>(∃ x43,(IsW x43 (x10+1))∧(I5 [vsl a41 n41 c41,vi x43] h42∧m6 [vsl a41 n41 c41,vi x43] h42 < m6 vs7 h8));(∃ b13 o14,(a3=some ⟨b13,o14,none⟩∧(0:Int)≤x10∧x10 < (n3:Int))∧(∃ x15 x16 x17 a18 n18 c18 p19,(Hp.row h8 b13 (o14+x10.toNat*5) 5=some [vi x15,vi x16,vi x17,vsl a18 n18 c18,vb p19])∧(∃ x20,((!p19)=true→IsW x20 (x15+u3))∧(((bif (!p19) then(decide (x20≤u4)) else false)=true→(∃ b21 o22,(a3=some ⟨b21,o22,none⟩∧(0:Int)≤x10∧x10 < (n3:Int))∧(Hp.store h8 b21 ((o22+x10.toNat*5)+4) [vb true] fun h23=>(∃ b24 o25,(a3=some ⟨b24,o25,none⟩∧(0:Int)≤x10∧x10 < (n3:Int))∧(∃ x26 x27 x28 a29 n29 c29 p30,(Hp.row h23 b24 (o25+x10.toNat*5) 5=some [vi x26,vi x27,vi x28,vsl a29 n29 c29,vb p30])∧(∀ b31,h23 b31=none→let h32:= Hp.set h23 b31 (cellsO [vi x26,vi x27,vi x28,vsl a29 n29 c29,vb p30] 79);(SemOK Tryz.prog (Builtin.append_ #[59,59] 59 #[vsl a9 n9 c9,(vsl (some (⟨b31,0,none⟩:Addr)) 1 1)]) h32 fun v33 h34=>∃ a35 n35 c35,v33=(vsl a35 n35 c35)∧(J38 a35 n35 c35 h34))))))))∧((bif (!p19) then(decide (x20≤u4)) else false)=false→(J38 a9 n9 c9 h8))))))))∧((decide (x10 < (n3:Int)))=false→R (vtup [vag [vsl a3 n3 c3],vsl a9 n9 c9]) h8))))
theorem ok_panes_Table_Tell {u0 u1 u2 u3 u4 h R}(H:VC_panes_Table_Tell u0 u1 u2 u3 u4 h R):CallOK Tryz.prog 49 [vag [vsl u0 u1 u2],vi u3,vi u4] h R:=
 call_of (cfg:=⟨[],[(4,([9,17],[.one (.slice),.one (.int .i64)],[]))],[]⟩) noNG mixed Tryz.func49 [.ag [.v (vsl u0 u1 u2)],.one (.v (vi u3)),.one (.v (vi u4))] (by kernel_rfl) rfl (by kernel_rfl) H
def VC_panes_Table_Drop (u0:Option Addr)(u1 u2:Nat)(u3:Int)(u4:Int)(h:Hp)(R:Value→Hp→Prop):Prop:=
 (∀ b1,h b1=none→let h2:= Hp.set h b1 (cellsO [vi u3] 3);(∀ b3,h2 b3=none→let h4:= Hp.set h2 b3 (cellsO [vi u4] 3);(CallOK Tryz.prog 103 [vsl u0 u1 u2] h4 fun v5 h6=>∃ a7 n7 c7,v5=(vsl a7 n7 c7)∧(CallOK Tryz.prog 105 [vsl a7 n7 c7,(Value.func (.func 106) #[] #[vhp b1 0,vhp b3 0])] h6 fun v8 h9=>∃ a10 n10 c10,v8=(vsl a10 n10 c10)∧R (vag [vsl a10 n10 c10]) h9))))
theorem ok_panes_Table_Drop {u0 u1 u2 u3 u4 h R}(H:VC_panes_Table_Drop u0 u1 u2 u3 u4 h R):CallOK Tryz.prog 51 [vag [vsl u0 u1 u2],vi u3,vi u4] h R:=
 call_of (cfg:=⟨[4,5],[],[]⟩) noNG mixed Tryz.func51 [.ag [.v (vsl u0 u1 u2)],.one (.v (vi u3)),.one (.v (vi u4))] (by kernel_rfl) rfl (by kernel_rfl) H
def VC_panes_Table_Drop_1 (u0:Int)(u1:Int)(u2:Int)(u3:Option Addr)(u4 u5:Nat)(u6:Bool)(f_0b f_0o:Nat)(f_1b f_1o:Nat)(h:Hp)(R:Value→Hp→Prop):Prop:=
 (∃ x1,(Hp.cell h f_0b f_0o=some (vi x1))∧(∃ x2,(IsW x2 (u0+x1))∧(∃ x3,(Hp.cell h f_1b f_1o=some (vi x3))∧R (vb (decide (x2≤x3))) h)))
theorem ok_panes_Table_Drop_1 {u0 u1 u2 u3 u4 u5 u6 f_0b f_0o f_1b f_1o h R}(H:VC_panes_Table_Drop_1 u0 u1 u2 u3 u4 u5 u6 f_0b f_0o f_1b f_1o h R):CallOK Tryz.prog 106 [vag [vi u0,vi u1,vi u2,vsl u3 u4 u5,vb u6],vhp f_0b f_0o,vhp f_1b f_1o] h R:=
 call_of (cfg:=⟨[],[],[]⟩) noNG mixed Tryz.func106 [.ag [.v (vi u0),.v (vi u1),.v (vi u2),.v (vsl u3 u4 u5),.v (vb u6)],.one (.hp f_0b f_0o),.one (.hp f_1b f_1o)] (by kernel_rfl) rfl (by kernel_rfl) H
def VC_slices_DeleteFunc_panes_Pane_panes_Pane (u0:Option Addr)(u1 u2:Nat)(u3:Value)(h:Hp)(R:Value→Hp→Prop):Prop:=
 (CallOK Tryz.prog 73 [vsl u0 u1 u2,u3] h fun v1 h2=>∃ x3,v1=(vi x3)∧(((decide (x3=(-1)))=true→R (vsl u0 u1 u2) h2)∧((decide (x3=(-1)))=false→(∃ x5,(IsW x5 (x3+1))∧(∃(I7:List Value→Hp→Prop) (m8:List Value→Hp→Nat),I7 [vi x3,vi x5] h2∧∀ vs9 h10,I7 vs9 h10→∃ x11 x12,vs9=[vi x11,vi x12]∧(((decide (x12 < (u1:Int)))=true→(let J31:Int→Hp→Prop:=fun x34 h35=>(∃ x36,(IsW x36 (x12+1))∧(I7 [vi x34,vi x36] h35∧m8 [vi x34,vi x36] h35 < m8 vs9 h10));(∃ b15 o16,(u0=some ⟨b15,o16,none⟩∧(0:Int)≤x12∧x12 < (u1:Int))∧(∃ x17 x18 x19 a20 n20 c20 p21,(Hp.row h10 b15 (o16+x12.toNat*5) 5=some [vi x17,vi x18,vi x19,vsl a20 n20 c20,vb p21])∧(InvOK Tryz.prog u3 [vag [vi x17,vi x18,vi x19,vsl a20 n20 c20,vb p21]] h10 fun v22 h23=>∃ p24,v22=(vb p24)∧(((!p24)=true→(∃ b25 o26,(u0=some ⟨b25,o26,none⟩∧(0:Int)≤x11∧x11 < (u1:Int))∧(Hp.store h23 b25 (o26+x11.toNat*5) [vi x17,vi x18,vi x19,vsl a20 n20 c20,vb p21] fun h27=>(∃ x28,(IsW x28 (x11+1))∧(J31 x28 h27)))))∧((!p24)=false→(J31 x11 h23))))))))∧((decide (x12 < (u1:Int)))=false→(∃ a37 n37 c37,(Rd Tryz.prog (Instr.sliceAt 59 (vsl u0 u1 u2) (some (vi x11)) none none) h10 (vsl a37 n37 c37))∧(SemOK Tryz.prog (Builtin.clear_ #[59] 0 #[vsl a37 n37 c37]) h10 fun v38 h39=>v38=(vtup [])∧(∃ a40 n40 c40,(Rd Tryz.prog (Instr.sliceAt 59 (vsl u0 u1 u2) none (some (vi x11)) none) h39 (vsl a40 n40 c40))∧R (vsl a40 n40 c40) h39))))))))))
theorem ok_slices_DeleteFunc_panes_Pane_panes_Pane {u0 u1 u2 u3 h R}(H:VC_slices_DeleteFunc_panes_Pane_panes_Pane u0 u1 u2 u3 h R):CallOK Tryz.prog 105 [vsl u0 u1 u2,u3] h R:=
 call_of (cfg:=⟨[],[(5,([5,6],[.one (.int .i64),.one (.int .i64)],[]))],[]⟩) noNG mixed Tryz.func105 [.one (.v (vsl u0 u1 u2)),.one (.v u3)] (by kernel_rfl) rfl (by kernel_rfl) H
def encPr (r:PR):List Value:=(prRow r).enc
theorem encPr_len (r:PR):(encPr r).length=5:=rfl
theorem one_encPr (r:PR):∀ u ∈ encPr r,u.oneCell'=true:=one_prow _
theorem one_prs (R:List PR):∀ u ∈ R.flatMap encPr,u.oneCell'=true:=by
 intro u hu
 obtain⟨r,_,hr⟩:=List.mem_flatMap.1 hu
 exact one_encPr r u hr
structure Tb (h:Hp)(a:Option Addr)(R:List PR):Prop where
 s:SlP encPr h a R.length R
 i:∀ r ∈ R,HasRow h r.a (r.acs.flatMap encAc)
theorem Tb.le {h h':Hp}{a:Option Addr}{R:List PR}(T:Tb h a R)(l:h.le h'):Tb h' a R:=⟨T.s.le l,fun r hr=>(T.i r hr).le l⟩
section
variable {h:Hp}{K':Value→Hp→Prop}{a:Option Addr}{R:List PR}{c:Nat}
theorem clone_Pane_ok (S:SlP encPr h a R.length R)(hn:R.length≤1000000)(hK:∀ a' c' h',OwnV h h' 79 5 a' R.length c' (R.flatMap encPr)→K' (vsl a' R.length c') h'):CallOK Tryz.prog 103 [vsl a R.length c] h K':=by
 refine ok_slices_Clone_panes_Pane_panes_Pane ?_
 unfold VC_slices_Clone_panes_Pane_panes_Pane
 refine⟨_,rd_eqNilS (e:=79) (by kernel_rfl),fun e=>?_,fun e=>?_⟩
 ·have h0:R.flatMap encPr=[]:=by
   rcases S.2 with h1|⟨b,o,ha,_⟩
   ·exact h1
   ·rw [ha] at e;cases e
  have hn0:R=[]:=by
   have:=congrArg List.length h0
   rw [flatMap_length encPr_len] at this
   exact List.eq_nil_of_length_eq_zero (by simp at this;omega)
  subst hn0
  exact hK none 0 h (OwnV.nil (Hp.le_refl h) _ _)
 ·intro b3 hb3 h4
  have O0:OwnV h h4 79 5 (some ⟨b3,0,none⟩) 0 0 []:=OwnV.mk_new (Hp.le_refl h) hb3 _ [] rfl (by simp [maxLen])
  refine OwnV.append elPane O0 (S.le (Hp.le_set (Hp.le_refl h) hb3 _)).2 (flatMap_length encPr_len R) (one_prs R) (by omega) (by omega) fun a' c' h' O' _ _=>⟨_,_,_,rfl,?_⟩
  rw [Nat.zero_add,List.nil_append] at *
  exact hK a' c' h' O'
theorem clone_Acc_ok {l:List AcS}(S:HasRow h a (l.flatMap encAc))(hn:l.length≤1000000)(hK:∀ a' c' h',VecA h h' a' c' l→K' (vsl a' l.length c') h'):CallOK Tryz.prog 147 [vsl a l.length c] h K':=by
 refine ok_slices_Clone_gather_Acc_gather_Acc ?_
 unfold VC_slices_Clone_gather_Acc_gather_Acc
 refine⟨_,rd_eqNilS (e:=139) (by kernel_rfl),fun e=>?_,fun e=>?_⟩
 ·have h0:l.flatMap encAc=[]:=by
   rcases S with h1|⟨b,o,ha,_⟩
   ·exact h1
   ·rw [ha] at e;cases e
  have hn0:l=[]:=by
   have:=congrArg List.length h0
   rw [flatMap_length encAc_len] at this
   exact List.eq_nil_of_length_eq_zero (by simp at this;omega)
  subst hn0
  exact hK none 0 h (OwnV.nil (Hp.le_refl h) _ _)
 ·intro b3 hb3 h4
  have O0:OwnV h h4 139 4 (some ⟨b3,0,none⟩) 0 0 []:=OwnV.mk_new (Hp.le_refl h) hb3 _ [] rfl (by simp [maxLen])
  have h1:∀ u ∈ l.flatMap encAc,u.oneCell'=true:=by
   intro u hu
   obtain⟨r,_,hr⟩:=List.mem_flatMap.1 hu
   exact one_ac r u hr
  refine OwnV.append elAcc O0 (S.le (Hp.le_set (Hp.le_refl h) hb3 _)) (flatMap_length encAc_len l) h1 (by omega) (by omega) fun a' c' h' O' _ _=>⟨_,_,_,rfl,?_⟩
  rw [Nat.zero_add,List.nil_append] at *
  exact hK a' c' h' O'
theorem index_Pane_ok {fv:Value}{p:PR→Bool}(S:SlP encPr h a R.length R)(hn:R.length≤1000000)(hf:∀ r ∈ R,∀ K2:Value→Hp→Prop,K2 (vb (p r)) h→InvOK Tryz.prog fv [vag (encPr r)] h K2)
  (hy:∀(i:Nat) (r:PR),R[i]?=some r→p r=true→(∀ x ∈ R.take i,p x=false)→K' (vi i) h) (hno:(∀ r ∈ R,p r=false)→K' (vi (-1)) h):CallOK Tryz.prog 73 [vsl a R.length c,fv] h K':=by
 refine ok_slices_IndexFunc_panes_Pane_panes_Pane ?_
 unfold VC_slices_IndexFunc_panes_Pane_panes_Pane
 refine⟨fun vs hh=>hh=h∧∃ i:Nat,vs=[vi i]∧i≤R.length∧∀ r ∈ R.take i,p r=false,fun vs hh=>R.length - (vint vs 0).toNat,⟨rfl,0,rfl,Nat.zero_le _,by simp⟩,?_⟩
 rintro vs hh ⟨rfl,i,rfl,hi,hz⟩
 refine⟨i,rfl,fun e=>?_,fun e=>?_⟩
 ·have hlt:i < R.length:=by have:=of_decide_eq_true e;omega
  have hx:R[i]?=some R[i]:=List.getElem?_eq_getElem hlt
  have tk:R.take (i+1)=R.take i++[R[i]]:=List.take_succ_eq_append_getElem hlt
  obtain⟨b,o,ea,hr⟩:=S.get encPr_len (by decide) hx
  refine⟨b,o,⟨ea,by omega,by omega⟩,_,_,_,_,_,_,_,by rw [Int.toNat_natCast];exact hr,hf _ (List.getElem_mem hlt) _ ⟨_,rfl,fun e2=>hy i _ hx e2 hz,fun e2=>?_⟩⟩
  refine⟨_,isW (by unfold InR;omega),⟨rfl,i+1,rfl,by omega,fun r hr=>?_⟩,by simp [vint];omega⟩
  rw [tk] at hr
  rcases List.mem_append.1 hr with h3|h3
  ·exact hz r h3
  ·rw [List.mem_singleton.1 h3];exact e2
 ·have hge:i=R.length:=by have:=of_decide_eq_false e;omega
  refine hno ?_
  rw [hge,List.take_length] at hz
  exact hz
theorem insert_Pane_ok {h0:Hp}{x:PR}{i b:Nat}(O:OwnV h0 h 79 5 a R.length c (R.flatMap encPr))(hn:R.length≤1000000)(hi:i≤R.length)(hb:h b=some (cellsO (encPr x) 79))(hab:a≠some ⟨b,0,none⟩)
  (hK:∀ a' c' h',OwnV h0 h' 79 5 a' (R.length+1) c' ((R.take i++x :: R.drop i).flatMap encPr)→K' (vsl a' (R.length+1) c') h'):CallOK Tryz.prog 146 [vsl a R.length c,vi i,vsl (some ⟨b,0,none⟩) 1 1] h K':=by
 refine ok_slices_Insert_panes_Pane_panes_Pane ?_
 unfold VC_slices_Insert_panes_Pane_panes_Pane
 have hT:Tryz.prog.underlying 59=some (.slice 79):=by kernel_rfl
 have hI:(Tryz.prog.info? 79).isSome=true:=by kernel_rfl
 have hS:(Tryz.prog.info? 79).map (·.size)=some 5:=by kernel_rfl
 have hsz:szT Tryz.prog 79=5:=by kernel_rfl
 have hcap:=O.own.cap
 have hHv:HasRow h (some ⟨b,0,none⟩) (encPr x):=.inr ⟨b,0,rfl,row_cells' hb (by simp)⟩
 have hA:((R.take i).flatMap encPr).length=i*5:=by rw [flatMap_length encPr_len,List.length_take,Nat.min_eq_left hi]
 have hD:((R.drop i).flatMap encPr).length=(R.length - i)*5:=by rw [flatMap_length encPr_len,List.length_drop]
 have hAD:R.flatMap encPr=(R.take i).flatMap encPr++(R.drop i).flatMap encPr:=by rw [←List.flatMap_append,List.take_append_drop]
 have hres:(R.take i++x :: R.drop i).flatMap encPr=(R.take i).flatMap encPr++(encPr x++(R.drop i).flatMap encPr):=by rw [List.flatMap_append,List.flatMap_cons]
 rw [hres] at hK
 have S:SlP encPr h a R.length R:=⟨rfl,O.row⟩
 have rdl:=fun(n c:Nat) (a:Option Addr) (x:Nat) (hh:Hp) (h1:x≤n)=>rd_slice_l (P:=Tryz.prog) (h:=hh) (t:=59) (e:=79) hT hI (a:=a) (n:=n) (c:=c) (x:=(x:Int)) (by omega) (by omega)
 have rdh:=fun(n c:Nat) (a:Option Addr) (x:Nat) (hh:Hp) (h1:x≤c)=>rd_slice_h (P:=Tryz.prog) (h:=hh) (t:=59) (e:=79) hT hI (a:=a) (n:=n) (c:=c) (x:=(x:Int)) (by omega) (by omega)
 simp only [Int.toNat_natCast,hsz] at rdl rdh
 have cutG:∀(g x c:Nat),c≠x→cutA (some ⟨g,0,none⟩) x c 5=some ⟨g,x*5,none⟩:=by
  intro g x c hne
  unfold cutA
  rw [if_neg hne]
  simp only [Option.map_some,Addr.add]
  split
  ·rename_i h0;simp [h0]
  ·simp
 refine⟨_,_,_,rdl R.length c a i h hi,fun e=>absurd (of_decide_eq_true e) (by decide),fun _=>⟨fun e=>?_,fun e=>?_⟩⟩
 ·have hie:i=R.length:=by have:=of_decide_eq_true e;omega
  refine OwnV.append elPane O (m:=1) hHv rfl (one_encPr x) (by omega) (by omega) fun a' c' h' O' _ _=>⟨_,_,_,rfl,hK a' c' h' ?_⟩
  subst hie
  rw [List.take_length,List.drop_length]
  simpa using O'
 ·have hlt:i < R.length:=by have:=of_decide_eq_false e;omega
  have hDne:(R.drop i).flatMap encPr≠[]:=by
   intro e2
   rw [e2] at hD
   simp at hD
   omega
  refine⟨_,isW (by unfold InR;omega),_,rd_cap hT,fun e2=>?_,fun e2=>?_⟩
  ·have hgt:c < R.length+1:=by have:=of_decide_eq_true e2;omega
   refine⟨_,_,_,rdh R.length c a i h (by omega),_,isW (by unfold InR;omega),_,isW (by unfold InR;omega),?_⟩
   have e3:((R.length:Int)+((1:Nat):Int) - (i:Int))=((R.length+1 - i:Nat):Int):=by omega
   rw [e3]
   have hz:(zeroL Tryz.prog 79).map tvals=some [vi 0,vi 0,vi 0,vsl none 0 0,vb false]:=by kernel_rfl
   refine sem_append_zeros elPane (by kernel_rfl) hz (n:=i) (S.take encPr_len hi).2 hA (m:=R.length+1 - i) (by omega) (by omega) (by omega) (by omega) fun a14 c14 h13 O13=>⟨_,_,_,rfl,?_⟩
   have hnn:i+(R.length+1 - i)=R.length+1:=by omega
   rw [hnn] at O13 ⊢
   have hc14:=O13.own.cap
   obtain⟨g,L14,rfl,hg14,_⟩:=O13.blk (by omega) (by decide)
   have hZ:((List.replicate (R.length+1 - i) [vi 0,vi 0,vi 0,vsl none 0 0,vb false]).flatten).length=(R.length+1 - i)*5:=by rw [List.length_flatten];simp
   generalize hZe:(List.replicate (R.length+1 - i) [vi 0,vi 0,vi 0,vsl none 0 0,vb false]).flatten=Z at O13 hZ
   have hga:h g=none:=O13.new g rfl
   refine⟨_,_,_,rdl (R.length+1) c14 _ i h13 (by omega),?_⟩
   rw [cutG g i c14 (by omega)]
   refine OwnV.copy hT hS O13 rfl (hHv.le O13.le) (by rw [encPr_len,show Nat.min 1 (R.length+1 - i)=1 from Nat.min_eq_left (by omega)]) (by rw [encPr_len];omega) (one_encPr x) (by simp [encPr,D.PRow.enc]) fun h17 O17 k17=>⟨_,rfl,_,isW (by unfold InR;omega),?_⟩
   have e4:((i:Int)+((1:Nat):Int))=((i+1:Nat):Int):=by omega
   rw [e4]
   refine⟨_,_,_,rdl (R.length+1) c14 _ (i+1) h17 (by omega),_,_,_,rdl R.length c a i h17 hi,?_⟩
   rw [cutG g (i+1) c14 (by omega)]
   have l17:h.le h17:=O17.le
   refine OwnV.copy hT hS O17 rfl (((S.drop encPr_len hi hcap).le l17).2) (by rw [hD];congr 1;simp only [Nat.min_def];split<;>omega) (by rw [hD];omega) (one_prs _) hDne fun h23 O23 _=>⟨_,rfl,?_⟩
   refine hK _ _ h23 ?_
   have s1:setL ((R.take i).flatMap encPr++Z) (i*5) (encPr x)=(R.take i).flatMap encPr++(encPr x++Z.drop 5):=by
    have:=setL_app_r ((R.take i).flatMap encPr) Z 0 (encPr x)
    rw [Nat.add_zero,hA] at this
    rw [this]
    simp [setL,encPr_len]
   have s2:setL ((R.take i).flatMap encPr++(encPr x++Z.drop 5)) ((i+1)*5) ((R.drop i).flatMap encPr)=(R.take i).flatMap encPr++(encPr x++(R.drop i).flatMap encPr):=by
    have h1:=setL_app_r ((R.take i).flatMap encPr) (encPr x++Z.drop 5) 5 ((R.drop i).flatMap encPr)
    have h2:=setL_app_r (encPr x) (Z.drop 5) 0 ((R.drop i).flatMap encPr)
    rw [Nat.add_zero,encPr_len] at h2
    rw [hA,show i*5+5=(i+1)*5 by omega] at h1
    rw [h1,h2]
    congr 2
    unfold setL
    have h3:(Z.drop 5).drop (0+((R.drop i).flatMap encPr).length)=[]:=List.drop_eq_nil_of_le (by rw [List.length_drop,hZ,hD];omega)
    rw [List.take_zero,List.nil_append,h3,List.append_nil]
   rw [s1,s2] at O23
   exact O23.trans O.le
  ·have hle:R.length+1≤c:=by have:=of_decide_eq_false e2;omega
   obtain⟨Y,hY,O1⟩:=OwnV.grow O (m:=R.length+1) (by omega) hle
   obtain⟨g,L0,ha,hg,hL0⟩:=O.blk (by omega) (by decide)
   subst ha
   have e3:((R.length:Int)+((1:Nat):Int))=((R.length+1:Nat):Int):=by omega
   have e4:((i:Int)+((1:Nat):Int))=((i+1:Nat):Int):=by omega
   have hbg:b≠g:=fun e=>hab (by rw [e])
   refine⟨_,isW (by unfold InR;omega),?_⟩
   rw [e3]
   refine⟨_,_,_,rdh R.length c _ (R.length+1) h hle,_,isW (by unfold InR;omega),?_⟩
   rw [e4]
   refine⟨_,_,_,rdl (R.length+1) c _ (i+1) h (by omega),?_⟩
   rw [cutG g (i+1) c (by omega)]
   refine ext_overlaps (tR:=4) Tryz.func175 (by kernel_rfl) (by kernel_rfl) (by kernel_rfl) (by kernel_rfl) hT hI hbg hb hg hL0 ⟨_,rfl,fun _=>?_,fun e=>absurd e (by decide)⟩
   refine⟨_,isW (by unfold InR;omega),?_⟩
   refine⟨_,_,_,rdl (R.length+1) c _ (i+1) h (by omega),_,_,_,rdl (R.length+1) c _ i h (by omega),?_⟩
   rw [cutG g (i+1) c (by omega),cutG g i c (by omega)]
   have hsrc:=(S.drop encPr_len hi hcap).2
   rw [cutG g i c (by omega)] at hsrc
   refine OwnV.copy hT hS O1 rfl hsrc (by rw [hD];congr 1;simp only [Nat.min_def];split<;>omega) (by rw [hD];omega) (one_prs _) hDne fun h37 O37 k37=>⟨_,rfl,?_⟩
   refine⟨_,_,_,rdl (R.length+1) c _ i h37 (by omega),?_⟩
   rw [cutG g i c (by omega)]
   have hHv37:HasRow h37 (some ⟨b,0,none⟩) (encPr x):=.inr ⟨b,0,rfl,row_cells' (k37 b _ hbg hb) (by simp)⟩
   refine OwnV.copy hT hS O37 rfl hHv37 (by rw [encPr_len,show Nat.min 1 (R.length+1 - i)=1 from Nat.min_eq_left (by omega)]) (by rw [encPr_len];omega) (one_encPr x) (by simp [encPr,D.PRow.enc]) fun h41 O41 _=>⟨_,rfl,?_⟩
   refine hK _ _ h41 ?_
   have hY5:Y.length=5:=by rw [hY];omega
   have s1:setL (R.flatMap encPr++Y) ((i+1)*5) ((R.drop i).flatMap encPr)=(R.take i).flatMap encPr++(((R.drop i).flatMap encPr++Y).take 5++(R.drop i).flatMap encPr):=by
    have h1:=setL_app_r ((R.take i).flatMap encPr) ((R.drop i).flatMap encPr++Y) 5 ((R.drop i).flatMap encPr)
    rw [hA,show i*5+5=(i+1)*5 by omega,←List.append_assoc,←hAD] at h1
    rw [h1]
    congr 1
    unfold setL
    have h3:((R.drop i).flatMap encPr++Y).drop (5+((R.drop i).flatMap encPr).length)=[]:=List.drop_eq_nil_of_le (by rw [List.length_append,hY5];omega)
    rw [h3,List.append_nil]
   have s2:setL ((R.take i).flatMap encPr++(((R.drop i).flatMap encPr++Y).take 5++(R.drop i).flatMap encPr)) (i*5) (encPr x)=(R.take i).flatMap encPr++(encPr x++(R.drop i).flatMap encPr):=by
    have h1:=setL_app_r ((R.take i).flatMap encPr) (((R.drop i).flatMap encPr++Y).take 5++(R.drop i).flatMap encPr) 0 (encPr x)
    rw [Nat.add_zero,hA] at h1
    rw [h1]
    congr 1
    unfold setL
    have h5:(((R.drop i).flatMap encPr++Y).take 5).length=5:=by rw [List.length_take,List.length_append,hY5];omega
    rw [List.take_zero,List.nil_append,Nat.zero_add,encPr_len,List.drop_left' h5]
   rw [s1,s2] at O41
   exact O41
end
theorem cell_newT {h:Hp}{b i:Nat}{xs:List Value}{t:TypeId}{v:Value}(hv:xs[i]?=some v):Hp.cell (h.set b (cellsO xs t)) b i=some v:=by
 unfold Hp.cell
 rw [Hp.set_same]
 simpa using hv
def cmpK (a k:PK):Int:=if cmpI a.1 k.1≠0 then cmpI a.1 k.1 else cmpV a.2 k.2
theorem cmpK_lt (a k:PK):cmpK a k < 0↔aheadK a k:=by
 unfold cmpK aheadK cmpV cmpI
 repeat' split
 all_goals omega
theorem cmpK_eq (a k:PK):cmpK a k=0↔a=k:=by
 obtain⟨a1,a2,a3⟩:=a
 obtain⟨k1,k2,k3⟩:=k
 rw [Prod.mk.injEq,Prod.mk.injEq]
 unfold cmpK cmpV cmpI
 simp only
 repeat' split
 all_goals omega
section
variable {h:Hp}{K':Value→Hp→Prop}{a:Option Addr}{R:List PR}{c:Nat}
theorem find1_ok {r:PR}{k:PK}{b:Nat}(h1:h.cell b 0=some (vi k.1))(hK:∀ h',h.le h'→K' (vi (cmpK r.k k)) h'):CallOK Tryz.prog 174 [vag (encPr r),vag (encV k.2),vhp b 0] h K':=by
 refine ok_panes_Table_find_1 ?_
 unfold VC_panes_Table_find_1
 refine⟨_,h1,cmp_Compare_ok ⟨_,rfl,value_Compare_ok fun h6 l6=>⟨_,rfl,?_⟩⟩⟩
 intro b8 hb8 h9
 refine cmp_Or2_ok (x:=cmpI r.k.1 k.1) (y:=cmpV r.k.2 k.2) ⟨rfl,HasRow.new _ _ [vi (cmpI r.k.1 k.1),vi (cmpV r.k.2 k.2)] _⟩ ⟨_,rfl,?_⟩
 exact hK _ (Hp.le_trans l6 (Hp.le_set (Hp.le_refl h6) hb8 _))
theorem search_Pane_ok {k:PK}{b:Nat}(S:SlP encPr h a R.length R)(hn:R.length≤1000000)(hs:(R.map (·.k)).Pairwise aheadK)(h1:h.cell b 0=some (vi k.1))
  (hK:∀(i:Nat) (is:Bool) (h':Hp),h.le h'→i≤R.length→(∀ x ∈ R.take i,aheadK x.k k)→(∀ x,R[i]?=some x→¬ aheadK x.k k)→(is=true↔∃ x,R[i]?=some x∧x.k=k)→K' (vtup [vi i,vb is]) h') :
  CallOK Tryz.prog 173 [vsl a R.length c,vag (encV k.2),Value.func (.func 174) #[] #[vhp b 0]] h K':=by
 refine ok_slices_BinarySearchFunc_panes_Pane_panes_Pane_api_Value ?_
 unfold VC_slices_BinarySearchFunc_panes_Pane_panes_Pane_api_Value
 have inv:∀(r:PR) (hh:Hp) (K2:Value→Hp→Prop),h.le hh→(∀ h',hh.le h'→K2 (vi (cmpK r.k k)) h')→InvOK Tryz.prog (Value.func (.func 174) #[] #[vhp b 0]) [vag (encPr r),vag (encV k.2)] hh K2:=by
  intro r hh K2 l hk
  exact⟨174,#[],#[vhp b 0],rfl,⟨_,Tryz.func174,by kernel_rfl,rfl⟩,find1_ok (Hp.cell_le l h1) hk⟩
 have mono:∀{i j:Nat} {x y:PR},i < j→R[i]?=some x→R[j]?=some y→aheadK x.k y.k:=by
  intro i j x y hij hx hy
  obtain⟨hi,ex⟩:=List.getElem?_eq_some_iff.1 hx
  obtain⟨hj,ey⟩:=List.getElem?_eq_some_iff.1 hy
  have:=List.pairwise_iff_getElem.1 hs i j (by simpa using hi) (by simpa using hj) hij
  simpa [ex,ey] using this
 refine⟨fun vs hh=>∃ i j:Nat,vs=[vi i,vi j]∧i≤j∧j≤R.length∧h.le hh∧(∀ m x,m < i→R[m]?=some x→aheadK x.k k)∧(∀ m x,j≤m→R[m]?=some x→¬ aheadK x.k k),fun vs hh=>(vint vs 1 - vint vs 0).toNat,⟨0,R.length,rfl,Nat.zero_le _,Nat.le_refl _,Hp.le_refl h,fun m x hm _=>absurd hm (Nat.not_lt_zero _),fun m x hm hx=>absurd (List.getElem?_eq_some_iff.1 hx).1 (by omega)⟩,?_⟩
 rintro vs hh ⟨i,j,rfl,hij,hj,lh,hlo,hhi⟩
 refine⟨i,j,rfl,fun e=>?_,fun e=>?_⟩
 ·have hlt:i < j:=by have:=of_decide_eq_true e;omega
  have hw:IntKind.wrap .u64 ((i:Int)+(j:Int))=((i+j:Nat):Int):=by
   rw [IntKind.wrap_u64]
   omega
  refine⟨(i:Int)+(j:Int),isW (by unfold InR;omega),((i+j:Nat):Int) / 2 ^ 1,?_,?_⟩
  ·rw [hw]
   exact rd_shrU (j:=1) (by decide) (by omega)
  have hm:IntKind.wrap .i64 (((i+j:Nat):Int) / 2 ^ 1)=(((i+j) / 2:Nat):Int):=by
   rw [IntKind.wrap_i64]
   omega
  rw [hm]
  have hm1:i≤(i+j) / 2:=by omega
  have hm2:(i+j) / 2 < j:=by omega
  generalize (i+j) / 2=m at hm1 hm2
  have hx:R[m]?=some (R[m]'(by omega)):=List.getElem?_eq_getElem (by omega)
  obtain⟨b2,o2,ea,hr⟩:=(S.le lh).get encPr_len (by decide) hx
  generalize R[m]'(by omega)=r at hx hr
  refine⟨b2,o2,⟨ea,by omega,by omega⟩,_,_,_,_,_,_,_,by rw [Int.toNat_natCast];exact hr,inv r hh _ lh fun h20 l20=>⟨_,rfl,fun e2=>?_,fun e2=>?_⟩⟩
  ·have hah:=(cmpK_lt r.k k).1 (of_decide_eq_true e2)
   refine⟨_,isW (by unfold InR;omega),⟨m+1,j,by simp,by omega,hj,Hp.le_trans lh l20,fun m' x hm' hx'=>?_,hhi⟩,by simp [vint];omega⟩
   rcases Nat.lt_or_ge m' m with h5|h5
   ·exact aheadK_trans (mono h5 hx' hx) hah
   ·have:m'=m:=by omega
    subst this
    rw [hx] at hx'
    cases hx'
    exact hah
  ·have hna:¬ aheadK r.k k:=fun q=>of_decide_eq_false e2 ((cmpK_lt r.k k).2 q)
   refine⟨⟨i,m,rfl,hm1,by omega,Hp.le_trans lh l20,hlo,fun m' x hm' hx'=>?_⟩,by simp [vint];omega⟩
   rcases Nat.eq_or_lt_of_le hm' with h5|h5
   ·subst h5
    rw [hx] at hx'
    cases hx'
    exact hna
   ·intro q
    exact hna (aheadK_trans (mono h5 hx hx') q)
 ·have hge:i=j:=by have:=of_decide_eq_false e;omega
  subst hge
  have hlo':∀ x ∈ R.take i,aheadK x.k k:=by
   intro x hx
   obtain⟨m,hm⟩:=List.getElem?_of_mem hx
   have hml:m < i:=by
    have:=(List.getElem?_eq_some_iff.1 hm).1
    rw [List.length_take] at this
    omega
   rw [List.getElem?_take,if_pos hml] at hm
   exact hlo m x hml hm
  by_cases hlt:i < R.length
  ·have hd:decide (((i:Nat):Int) < ((R.length:Nat):Int))=true:=decide_eq_true (by omega)
   have hx:R[i]?=some R[i]:=List.getElem?_eq_getElem hlt
   obtain⟨b2,o2,ea,hr⟩:=(S.le lh).get encPr_len (by decide) hx
   generalize R[i]=r at hx hr
   refine⟨b2,o2,fun _=>⟨ea,by omega,by omega⟩,_,_,_,_,_,_,_,fun _=>by rw [Int.toNat_natCast];exact hr,?_⟩
   refine⟨fun x hh'=>hh.le hh'∧x=.t (.one (.v (vi (cmpK r.k k)))),fun _=>inv r hh _ lh fun h' l'=>⟨_,rfl,l',rfl⟩,fun q=>absurd hd q,?_⟩
   rintro h34 x35 ⟨l34,e35⟩
   cases e35
   rw [hd]
   refine hK i _ h34 (Hp.le_trans lh l34) hj hlo' (fun x hx'=>hhi i x (Nat.le_refl _) hx') ?_
   show decide (cmpK r.k k=0)=true↔_
   rw [decide_eq_true_iff,cmpK_eq]
   constructor
   ·intro q;exact⟨r,hx,q⟩
   ·rintro⟨x,hx',q⟩
    rw [hx] at hx'
    cases hx'
    exact q
  ·have hd:decide (((i:Nat):Int) < ((R.length:Nat):Int))=false:=decide_eq_false (by omega)
   refine⟨0,0,fun q=>(by rw [hd] at q;cases q),0,0,0,none,0,0,false,fun q=>(by rw [hd] at q;cases q),?_⟩
   refine⟨fun x hh'=>hh'=hh,fun q=>(by rw [hd] at q;cases q),fun _=>rfl,?_⟩
   rintro h34 x35 rfl
   rw [hd]
   refine hK i _ h34 lh hj hlo' (fun x hx'=>hhi i x (Nat.le_refl _) hx') ?_
   constructor
   ·intro q;cases q
   ·rintro⟨x,hx',q⟩
    exact absurd (List.getElem?_eq_some_iff.1 hx').1 hlt
theorem Table_find_ok {k:PK}(S:SlP encPr h a R.length R)(hn:R.length≤1000000)(hs:(R.map (·.k)).Pairwise aheadK)
  (hK:∀(i:Nat) (is:Bool) (h':Hp),h.le h'→i≤R.length→(∀ x ∈ R.take i,aheadK x.k k)→(∀ x,R[i]?=some x→¬ aheadK x.k k)→(is=true↔∃ x,R[i]?=some x∧x.k=k)→K' (vtup [vi i,vb is]) h') :
  CallOK Tryz.prog 145 [vag [vsl a R.length c],vi k.1,vag (encV k.2)] h K':=by
 refine ok_panes_Table_find ?_
 unfold VC_panes_Table_find
 intro b1 hb1 h2
 have l2:h.le h2:=Hp.le_set (Hp.le_refl h) hb1 _
 refine search_Pane_ok (S.le l2) hn hs (cell_newT rfl) fun i is h' l' q1 q2 q3 q4=>⟨_,_,rfl,hK i is h' (Hp.le_trans l2 l') q1 q2 q3 q4⟩
theorem delete_Pane_ok {h0:Hp}{fv:Value}{p:PR→Bool}(O:OwnV h0 h 79 5 a R.length c (R.flatMap encPr))(hn:R.length≤1000000)(hf:∀(hh:Hp) (r:PR),h0.le hh→∀ K2:Value→Hp→Prop,r ∈ R→K2 (vb (p r)) hh→InvOK Tryz.prog fv [vag (encPr r)] hh K2)
  (hK:∀ h',h0.le h'→SlP encPr h' a (R.filter fun r=>!p r).length (R.filter fun r=>!p r)→K' (vsl a (R.filter fun r=>!p r).length c) h'):CallOK Tryz.prog 105 [vsl a R.length c,fv] h K':=by
 refine ok_slices_DeleteFunc_panes_Pane_panes_Pane ?_
 unfold VC_slices_DeleteFunc_panes_Pane_panes_Pane
 have S:SlP encPr h a R.length R:=⟨rfl,O.row⟩
 have hT:Tryz.prog.underlying 59=some (.slice 79):=by kernel_rfl
 have hI:(Tryz.prog.info? 79).isSome=true:=by kernel_rfl
 have hsz:szT Tryz.prog 79=5:=by kernel_rfl
 have hcap:=O.own.cap
 refine index_Pane_ok (p:=p) S hn (fun r hr K2 hk=>hf h r O.le K2 hr hk) (fun i0 r0 hr0 hp0 hz=>⟨_,rfl,fun e=>absurd (of_decide_eq_true e) (by omega),fun _=>?_⟩) (fun hno=>⟨_,rfl,fun _=>?_,fun e=>absurd rfl (of_decide_eq_false e)⟩)
 ·have hi0:=(List.getElem?_eq_some_iff.1 hr0).1
  have tk0:R.take (i0+1)=R.take i0++[r0]:=by rw [List.take_succ_eq_append_getElem hi0,(List.getElem?_eq_some_iff.1 hr0).2]
  have f0:(R.take (i0+1)).filter (fun r=>!p r)=R.take i0:=by
   rw [tk0,List.filter_append,List.filter_cons,hp0]
   simp only [Bool.not_true,Bool.false_eq_true,if_false,List.filter_nil,List.append_nil]
   rw [List.filter_eq_self]
   intro x hx
   rw [hz x hx];rfl
  refine⟨_,isW (by unfold InR;omega),?_⟩
  refine⟨fun vs hh=>∃(j:Nat) (Q:List PR),vs=[vi ((R.take j).filter fun r=>!p r).length,vi j]∧i0 < j∧j≤R.length∧Q.length=R.length∧OwnV h0 hh 79 5 a R.length c (Q.flatMap encPr)∧Q.take ((R.take j).filter fun r=>!p r).length=(R.take j).filter (fun r=>!p r)∧Q.drop j=R.drop j,fun vs hh=>R.length - (vint vs 1).toNat,⟨i0+1,R,?_,by omega,hi0,rfl,O,?_,rfl⟩,?_⟩
  ·rw [f0,List.length_take,Nat.min_eq_left (by omega)];simp
  ·rw [f0,List.length_take,Nat.min_eq_left (by omega)]
  rintro vs hh ⟨j,Q,rfl,hij,hj,hQ,OQ,hQ1,hQ2⟩
  have hle:((R.take j).filter fun r=>!p r).length < j:=by
   have h1:R.take j=R.take (i0+1)++(R.take j).drop (i0+1):=by
    have:=(List.take_append_drop (i0+1) (R.take j)).symm
    rw [List.take_take,Nat.min_eq_left (by omega)] at this
    exact this
   rw [h1,List.filter_append,f0,List.length_append,List.length_take]
   have:=List.length_filter_le (fun r=>!p r) ((R.take j).drop (i0+1))
   rw [List.length_drop,List.length_take] at this
   omega
  have SQ:SlP encPr hh a R.length Q:=⟨hQ.symm,OQ.row⟩
  refine⟨_,_,rfl,fun e=>?_,fun e=>?_⟩
  ·have hlt:j < R.length:=by have:=of_decide_eq_true e;omega
   have hx:R[j]?=some R[j]:=List.getElem?_eq_getElem hlt
   have hxQ:Q[j]?=some R[j]:=by
    have:=congrArg (fun l=>l[0]?) hQ2
    simpa [List.getElem?_drop,hx] using this
   have tk:R.take (j+1)=R.take j++[R[j]]:=List.take_succ_eq_append_getElem hlt
   have hmem:=List.getElem_mem hlt
   obtain⟨b,o,ea,hr⟩:=SQ.get encPr_len (by decide) hxQ
   generalize R[j]=r at *
   have tkf:(R.take (j+1)).filter (fun r=>!p r)=(R.take j).filter (fun r=>!p r)++if p r then [] else [r]:=by
    rw [tk,List.filter_append,List.filter_cons,List.filter_nil]
    cases p r<;>rfl
   generalize hkept:(R.take j).filter (fun r=>!p r)=kept at *
   intro J31
   have hJ:∀(Q2:List PR) (h2:Hp),Q2.length=R.length→OwnV h0 h2 79 5 a R.length c (Q2.flatMap encPr)→Q2.take ((R.take (j+1)).filter fun r=>!p r).length=(R.take (j+1)).filter (fun r=>!p r)→Q2.drop (j+1)=R.drop (j+1)→J31 (((R.take (j+1)).filter fun r=>!p r).length:Nat) h2:=by
    intro Q2 h2 q1 q2 q3 q4
    exact⟨_,isW (by unfold InR;omega),⟨j+1,Q2,by simp,by omega,by omega,q1,q2,q3,q4⟩,by simp [vint];omega⟩
   clear_value J31
   have hd1:Q.drop (j+1)=R.drop (j+1):=by
    have:=congrArg (List.drop 1) hQ2
    rw [List.drop_drop,List.drop_drop] at this
    exact this
   refine⟨b,o,⟨ea,by omega,by omega⟩,_,_,_,_,_,_,_,by rw [Int.toNat_natCast];exact hr,hf hh r OQ.le _ hmem ⟨_,rfl,fun e2=>?_,fun e2=>?_⟩⟩
   ·have hp:p r=false:=by simpa using e2
    rw [hp] at tkf
    simp only [Bool.false_eq_true,if_false] at tkf
    have hki:kept.length < Q.length:=by omega
    have hkx:Q[kept.length]?=some Q[kept.length]:=List.getElem?_eq_getElem hki
    obtain⟨b2,o2,ea2,H2⟩:=Vec.putF (α:=PR) (enc:=encPr) (sz:=5) (T:=79) (h0:=h0) (h:=hh) (a:=a) (c:=c) (l:=Q) encPr_len (by unfold Vec;rw [hQ];exact OQ) hkx (x':=r) (k:=0) (vs:=encPr r) (by simp [encPr,D.PRow.enc]) (by simp [encPr_len]) (by simp [setL,encPr_len,List.drop_of_length_le])
    refine⟨b2,o2,⟨ea2,by omega,by omega⟩,?_⟩
    rw [Int.toNat_natCast]
    refine H2 _ fun h27 V27 _=>⟨_,isW (by unfold InR;omega),?_⟩
    have e5:((kept.length:Int)+1)=((((R.take (j+1)).filter fun r=>!p r).length:Nat):Int):=by rw [tkf];simp
    rw [e5]
    unfold Vec at V27
    rw [List.length_set,hQ] at V27
    refine hJ _ h27 (by rw [List.length_set];exact hQ) V27 ?_ ?_
    ·rw [tkf,List.length_append,List.length_singleton,List.take_succ_eq_append_getElem (by rw [List.length_set];exact hki),List.getElem_set_self,List.take_set_of_le (Nat.le_refl _),hQ1]
    ·rw [List.drop_set_of_lt (by omega),hd1]
   ·have hp:p r=true:=by simpa using e2
    rw [hp] at tkf
    simp only [if_true,List.append_nil] at tkf
    have:=hJ Q hh hQ OQ (by rw [tkf];exact hQ1) hd1
    rw [tkf] at this
    exact this
  ·have hge:j=R.length:=by have:=of_decide_eq_false e;omega
   subst hge
   rw [List.take_length] at hQ1 hle ⊢
   generalize hkept:R.filter (fun r=>!p r)=kept at *
   have rdl:=rd_slice_l (P:=Tryz.prog) (h:=hh) (t:=59) (e:=79) hT hI (a:=a) (n:=R.length) (c:=c) (x:=(kept.length:Int)) (by omega) (by omega)
   rw [Int.toNat_natCast,hsz] at rdl
   refine⟨_,_,_,rdl,?_⟩
   obtain⟨g,L,rfl,hg,_⟩:=OQ.blk (by omega) (by decide)
   have hcut:cutA (some ⟨g,0,none⟩) kept.length c 5=some ⟨g,kept.length*5,none⟩:=by
    unfold cutA
    rw [if_neg (by omega)]
    simp only [Option.map_some,Addr.add]
    split
    ·rename_i h0';simp [h0']
    ·simp
   rw [hcut]
   have hz:(zeroL Tryz.prog 79).map tvals=some [vi 0,vi 0,vi 0,vsl none 0 0,vb false]:=by kernel_rfl
   refine OwnV.clear elPane hz (by intro u hu;simp at hu;rcases hu with rfl|rfl|rfl|rfl|rfl<;>rfl) rfl OQ rfl (by omega) (by omega) fun h39 O39=>⟨rfl,?_⟩
   have rdh:=rd_slice_h (P:=Tryz.prog) (h:=h39) (t:=59) (e:=79) hT hI (a:=some ⟨g,0,none⟩) (n:=R.length) (c:=c) (x:=(kept.length:Int)) (by omega) (by omega)
   rw [Int.toNat_natCast] at rdh
   refine⟨_,_,_,rdh,hK h39 O39.le ⟨rfl,?_⟩⟩
   have:=O39.own.cut (m:=kept.length) (by omega)
   have e6:(setL (Q.flatMap encPr) (kept.length*5) ((List.replicate (R.length - kept.length) [vi 0,vi 0,vi 0,vsl none 0 0,vb false]).flatten)).take (kept.length*5)=kept.flatMap encPr:=by
    have hl1:((Q.flatMap encPr).take (kept.length*5)).length=kept.length*5:=by rw [List.length_take,flatMap_length encPr_len];omega
    unfold setL
    rw [List.append_assoc,List.take_append_of_le_length (by rw [hl1];exact Nat.le_refl _),List.take_of_length_le (by rw [hl1];exact Nat.le_refl _)]
    have h7:(Q.take kept.length).flatMap encPr=(Q.flatMap encPr).take (kept.length*5):=by
     have h8:Q.flatMap encPr=(Q.take kept.length).flatMap encPr++(Q.drop kept.length).flatMap encPr:=by rw [←List.flatMap_append,List.take_append_drop]
     rw [h8,List.take_left' (by rw [flatMap_length encPr_len,List.length_take];omega)]
    rw [←h7,hQ1]
   rw [e6] at this
   exact this.row
 ·have e:R.filter (fun r=>!p r)=R:=by
   rw [List.filter_eq_self]
   intro x hx
   rw [hno x hx];rfl
  rw [e] at hK
  exact hK h O.le S
theorem Table_Drop_ok {size upto:Int}(T:Tb h a R)(hn:R.length≤1000000)(hb:∀ r ∈ R,InR (r.k.1+size))
  (hK:∀ a' c' h',h.le h'→Tb h' a' (R.filter fun r=>!decide (r.k.1+size≤upto))→K' (vag [vsl a' (R.filter fun r=>!decide (r.k.1+size≤upto)).length c']) h'):CallOK Tryz.prog 51 [vag [vsl a R.length c],vi size,vi upto] h K':=by
 refine ok_panes_Table_Drop ?_
 unfold VC_panes_Table_Drop
 intro b1 hb1 h2 b3 hb3 h4
 have l2:h.le h2:=Hp.le_set (Hp.le_refl h) hb1 _
 have l4:h2.le h4:=Hp.le_set (Hp.le_refl h2) hb3 _
 have c1:h4.cell b1 0=some (vi size):=Hp.cell_le l4 (cell_newT rfl)
 have c3:h4.cell b3 0=some (vi upto):=cell_newT rfl
 clear_value h4
 clear_value h2
 have l04:=Hp.le_trans l2 l4
 refine clone_Pane_ok (T.le l04).s hn fun a' c' h6 O6=>⟨_,_,_,rfl,?_⟩
 refine delete_Pane_ok (p:=fun r=>decide (r.k.1+size≤upto)) O6 hn (fun hh r lh K2 hr hk=>?_) fun h9 l9 S9=>⟨_,_,_,rfl,hK _ _ h9 (Hp.le_trans l04 l9) ⟨S9,fun r hr=>(T.i r (List.mem_filter.1 hr).1).le (Hp.le_trans l04 l9)⟩⟩
 refine⟨106,#[],#[vhp b1 0,vhp b3 0],rfl,⟨_,Tryz.func106,by kernel_rfl,rfl⟩,?_⟩
 refine ok_panes_Table_Drop_1 ?_
 unfold VC_panes_Table_Drop_1
 exact⟨_,Hp.cell_le lh c1,_,isW (hb r hr),_,Hp.cell_le lh c3,hk⟩
end
def duePr (size upto:Int)(r:PR):Bool:=decide (r.k.1+size≤upto)
def tellPr (size upto:Int)(r:PR):PR:={ r with t:=r.t||duePr size upto r }
def newPr (size upto:Int)(r:PR):Bool:=!r.t&&duePr size upto r
def toldPr (r:PR):PR:={ r with t:=true }
section
variable {h:Hp}{K':Value→Hp→Prop}{a:Option Addr}{R:List PR}{c:Nat}
theorem OwnV.apart {h0 h h':Hp}{e:TypeId}{sz n c:Nat}{a:Option Addr}{xs:List Value}(O:OwnV h0 h e sz a n c xs)(l:h0.le h')(hk:∀ b o,a=some ⟨b,0,none⟩→h b=some o→h' b=some o):OwnV h0 h' e sz a n c xs:=
 ⟨l,O.own.keep fun g o hg ho=>hk g o hg ho,O.new⟩
theorem OwnV.self {h0 h:Hp}{e:TypeId}{sz n c:Nat}{a:Option Addr}{xs:List Value}(O:OwnV h0 h e sz a n c xs):∃ hB:Hp,h0.le hB∧OwnV hB h e sz a n c xs∧∀ b o,a≠some ⟨b,0,none⟩→h b=some o→hB b=some o:=by
 have e1:∀ b,a=some ⟨b,0,none⟩→(fun b=>if a=some ⟨b,0,none⟩ then none else h b:Hp) b=none:=fun b hb=>if_pos hb
 have e2:∀ b,¬ a=some ⟨b,0,none⟩→(fun b=>if a=some ⟨b,0,none⟩ then none else h b:Hp) b=h b:=fun b hb=>if_neg hb
 generalize (fun b=>if a=some ⟨b,0,none⟩ then none else h b:Hp)=hB at e1 e2
 refine⟨hB,fun b o ho=>?_,⟨fun b o ho=>?_,O.own,e1⟩,fun b o hn ho=>(e2 b hn).trans ho⟩
 ·have:¬ a=some ⟨b,0,none⟩:=fun q=>by rw [O.new b q] at ho;cases ho
  exact(e2 b this).trans (O.le b o ho)
 ·by_cases hq:a=some ⟨b,0,none⟩
  ·rw [e1 b hq] at ho;cases ho
  ·rw [e2 b hq] at ho;exact ho
theorem HasRow.over {h h':Hp}{a:Option Addr}{xs:List Value}(H:HasRow h a xs)(hk:∀ b o ob,a=some ⟨b,o,none⟩→h b=some ob→h' b=some ob):HasRow h' a xs:=by
 rcases H with q|⟨b,o,q,hrw⟩
 ·exact .inl q
 ·refine .inr ⟨b,o,q,?_⟩
  unfold Hp.row at hrw ⊢
  cases hq:h b with
  | none=>rw [hq] at hrw;cases hrw
  | some ob=>rw [hk b o ob q hq];rw [hq] at hrw;exact hrw
theorem Table_Tell_ok {size upto:Int}(T:Tb h a R)(hn:R.length≤1000000)(hb:∀ r ∈ R,InR (r.k.1+size))
  (hK:∀ a' c' a2 c2 h',h.le h'→Tb h' a' (R.map (tellPr size upto))→Tb h' a2 ((R.filter (newPr size upto)).map toldPr)→K' (vtup [vag [vsl a' R.length c'],vsl a2 ((R.filter (newPr size upto)).map toldPr).length c2]) h'):CallOK Tryz.prog 49 [vag [vsl a R.length c],vi size,vi upto] h K':=by
 refine ok_panes_Table_Tell ?_
 unfold VC_panes_Table_Tell
 refine clone_Pane_ok T.s hn fun a3 c3 h2 O2=>⟨_,_,_,rfl,?_⟩
 refine⟨fun vs hh=>∃(i:Nat) (a9:Option Addr) (c9:Nat),vs=[vsl a9 (((R.take i).filter (newPr size upto)).map toldPr).length c9,vi i]∧i≤R.length∧OwnV h hh 79 5 a3 R.length c3 (((R.take i).map (tellPr size upto)++R.drop i).flatMap encPr)∧OwnV h hh 79 5 a9 (((R.take i).filter (newPr size upto)).map toldPr).length c9 ((((R.take i).filter (newPr size upto)).map toldPr).flatMap encPr)∧∀ g,a9=some ⟨g,0,none⟩→a3≠some ⟨g,0,none⟩,fun vs hh=>R.length - (vint vs 1).toNat,⟨0,none,0,rfl,Nat.zero_le _,by simpa using O2,OwnV.nil O2.le _ _,fun g hg=>by cases hg⟩,?_⟩
 rintro vs hh ⟨i,a9,c9,rfl,hi,OA,OB,hap⟩
 refine⟨a9,_,c9,_,rfl,fun e=>?_,fun e=>?_⟩
 ·have hlt:i < R.length:=by have:=of_decide_eq_true e;omega
  have hx:R[i]?=some R[i]:=List.getElem?_eq_getElem hlt
  have tk:R.take (i+1)=R.take i++[R[i]]:=List.take_succ_eq_append_getElem hlt
  have dr:R.drop i=R[i] :: R.drop (i+1):=List.drop_eq_getElem_cons hlt
  have hbr:=hb _ (List.getElem_mem hlt)
  generalize R[i]=r at *
  have htl:((R.take i).map (tellPr size upto)).length=i:=by rw [List.length_map,List.length_take];omega
  have hll:((R.take i).map (tellPr size upto)++R.drop i).length=R.length:=by rw [List.length_append,htl,List.length_drop];omega
  have hxi:((R.take i).map (tellPr size upto)++R.drop i)[i]?=some r:=by
   rw [List.getElem?_append_right (by omega),htl,Nat.sub_self,dr];rfl
  have hnl:(((R.take i).filter (newPr size upto)).map toldPr).length≤i:=by
   rw [List.length_map]
   have:=List.length_filter_le (newPr size upto) (R.take i)
   rw [List.length_take] at this
   omega
  have V:Vec encPr 5 79 h hh a3 c3 ((R.take i).map (tellPr size upto)++R.drop i):=by unfold Vec;rw [hll];exact OA
  obtain⟨b,o,ea,hr⟩:=(V.slp encPr_len (by decide)).get encPr_len (by decide) hxi
  intro J38
  have hJ:∀(a9:Option Addr) (c9:Nat) (h2:Hp),OwnV h h2 79 5 a3 R.length c3 (((R.take (i+1)).map (tellPr size upto)++R.drop (i+1)).flatMap encPr)→OwnV h h2 79 5 a9 (((R.take (i+1)).filter (newPr size upto)).map toldPr).length c9 ((((R.take (i+1)).filter (newPr size upto)).map toldPr).flatMap encPr)→(∀ g,a9=some ⟨g,0,none⟩→a3≠some ⟨g,0,none⟩)→J38 a9 (((R.take (i+1)).filter (newPr size upto)).map toldPr).length c9 h2:=by
   intro a9 c9 h2 q1 q2 q3
   exact⟨_,isW (by unfold InR;omega),⟨i+1,a9,c9,by simp,by omega,q1,q2,q3⟩,by simp [vint];omega⟩
  clear_value J38
  have ecnd:(bif (!r.t) then(decide ((r.k.1+size:Int)≤upto)) else false)=newPr size upto r:=by unfold newPr duePr;cases r.t<;>rfl
  refine⟨b,o,⟨ea,by omega,by omega⟩,_,_,_,_,_,_,r.t,by rw [Int.toNat_natCast];exact hr,_,fun _=>isW hbr,?_⟩
  show ((bif (!r.t) then(decide ((r.k.1+size:Int)≤upto)) else false)=true→_)∧((bif (!r.t) then(decide ((r.k.1+size:Int)≤upto)) else false)=false→_)
  rw [ecnd]
  have tkf:((R.take (i+1)).filter (newPr size upto)).map toldPr=((R.take i).filter (newPr size upto)).map toldPr++if newPr size upto r=true then [toldPr r] else []:=by
   rw [tk,List.filter_append,List.map_append,List.filter_cons,List.filter_nil]
   split<;>rfl
  have tkm:(R.take (i+1)).map (tellPr size upto)=(R.take i).map (tellPr size upto)++[tellPr size upto r]:=by rw [tk,List.map_append];rfl
  refine⟨fun e2=>?_,fun e2=>?_⟩
  ·rw [if_pos e2] at tkf
   have etell:tellPr size upto r=toldPr r:=by
    unfold newPr at e2
    unfold tellPr toldPr
    cases ht:r.t<;>simp_all
   obtain⟨b2,o2,ea2,H2⟩:=V.putF encPr_len hxi (x':=toldPr r) (k:=4) (vs:=[vb true]) (by simp) (by simp) (by simp [setL,encPr,prRow,D.PRow.enc,toldPr])
   have hset:((R.take i).map (tellPr size upto)++R.drop i).set i (toldPr r)=(R.take (i+1)).map (tellPr size upto)++R.drop (i+1):=by
    rw [List.set_append_right _ _ (by omega),htl,Nat.sub_self,dr,List.set_cons_zero,tkm,etell,List.append_assoc];rfl
   refine⟨b2,o2,⟨ea2,by omega,by omega⟩,?_⟩
   rw [Int.toNat_natCast]
   refine H2 _ fun h23 V23 B23=>?_
   rw [hset] at V23
   have hll2:((R.take (i+1)).map (tellPr size upto)++R.drop (i+1)).length=R.length:=by rw [←hset,List.length_set,hll]
   have hxi2:((R.take (i+1)).map (tellPr size upto)++R.drop (i+1))[i]?=some (toldPr r):=by
    rw [←hset,List.getElem?_set_self (by rw [hll];exact hlt)]
   obtain⟨b3,o3,ea3,hr3⟩:=(V23.slp encPr_len (by decide)).get encPr_len (by decide) hxi2
   have OB23:OwnV h h23 79 5 a9 (((R.take i).filter (newPr size upto)).map toldPr).length c9 ((((R.take i).filter (newPr size upto)).map toldPr).flatMap encPr):=OwnV.apart OB V23.le0 fun g o hg ho=>B23.keep g o ho (hap g hg)
   refine⟨b3,o3,⟨ea3,by omega,by omega⟩,_,_,_,_,_,_,_,hr3,?_⟩
   intro b31 hb31 h32
   have V32:=V23.keep0 (Hp.le_set (Hp.le_refl h23) hb31 (cellsO (encPr (toldPr r)) 79))
   refine OwnV.append elPane (OwnV.set hb31 _ OB23) (HasRow.new _ _ (encPr (toldPr r)) _) (m:=1) rfl (one_encPr _) (by omega) (by omega) fun a35 c35 h34 O34 k1 k2=>⟨_,_,_,rfl,?_⟩
   have hal:∀ g,a3=some ⟨g,0,none⟩→∃ ob,h23.set b31 (cellsO (encPr (toldPr r)) 79) g=some ob:=by
    intro g hg
    have:=(OwnF.fp _ _ _ _ _ _).al V32.ownF g hg
    cases hq:h23.set b31 (cellsO (encPr (toldPr r)) 79) g with
    | none=>exact absurd hq this
    | some ob=>exact⟨ob,rfl⟩
   have:=hJ a35 c35 h34 ?_ ?_ ?_
   ·rw [tkf,List.length_append] at this;exact this
   ·have V34:Vec encPr 5 79 h h34 a3 c3 ((R.take (i+1)).map (tellPr size upto)++R.drop (i+1)):=OwnV.apart V32 O34.le fun g o hg ho=>k1 g o ho fun q=>hap g q hg
    unfold Vec at V34
    rw [hll2] at V34
    exact V34
   ·rw [tkf,List.length_append,List.flatMap_append,List.flatMap_singleton];exact O34
   ·intro g hg hg3
    rcases k2 g hg with q|q
    ·exact hap g (q.trans hg) hg3
    ·obtain⟨ob,hob⟩:=hal g hg3
     rw [hob] at q;cases q
  ·rw [if_neg (by rw [e2];decide),List.append_nil] at tkf
   have etell:tellPr size upto r=r:=by
    unfold newPr at e2
    unfold tellPr
    obtain⟨k,ra,rc,acs,t⟩:=r
    cases t<;>simp_all
   have:=hJ a9 c9 hh ?_ ?_ hap
   ·rw [tkf] at this;exact this
   ·rw [tkm,etell,List.append_assoc]
    rw [dr] at OA
    exact OA
   ·rw [tkf];exact OB
 ·have hge:i=R.length:=by have:=of_decide_eq_false e;omega
  subst hge
  rw [List.take_length,List.drop_length,List.append_nil] at OA
  rw [List.take_length] at OB ⊢
  refine hK a3 c3 a9 c9 hh OA.le ⟨⟨rfl,by exact OA.row⟩,fun r hr=>?_⟩ ⟨⟨rfl,OB.row⟩,fun r hr=>?_⟩
  ·obtain⟨r0,h0,rfl⟩:=List.mem_map.1 hr
   exact(T.i r0 h0).le OA.le
  ·obtain⟨r0,h0,rfl⟩:=List.mem_map.1 hr
   exact(T.i r0 (List.mem_filter.1 h0).1).le OA.le
theorem Table_Add_ok {k:PK}{ka va:Option Addr}{kn kc vn vc:Nat}{ks:List Int}{v:List Vl}(T:Tb h a R)(hn:R.length≤900000)(hs:(R.map (·.k)).Pairwise aheadK)(SK:SlI h ka kn ks)(SV:SlP encV h va vn v)(hv:v.length=ks.length)(hks:ks.length≤1000)
  (hkd:∀ r ∈ R,r.acs.length=ks.length) (hbd:∀ r ∈ R,∀ x ∈ r.acs,AcB x) (hvs:∀ u ∈ v,smallV u)
  (hIn:∀(i:Nat) (r:PR) (a':Option Addr) (c':Nat) (a2:Option Addr) (c2:Nat) (h':Hp),R[i]?=some r→r.k=k→h.le h'→Tb h' a' (R.set i ⟨r.k,a2,c2,accP r.acs v,r.t⟩)→K' (vtup [vag [vsl a' R.length c'],vag (encPr r),vb true]) h')
  (hNew:∀(i:Nat) (a':Option Addr) (c':Nat) (a2:Option Addr) (c2:Nat) (h':Hp),i≤R.length→(∀ x ∈ R.take i,aheadK x.k k)→(∀ x,R[i]?=some x→¬ aheadK x.k k)→(∀ x ∈ R,x.k≠k)→h.le h'→Tb h' a' (R.take i++⟨k,a2,c2,accP (acc0 ks) v,false⟩ :: R.drop i)→K' (vtup [vag [vsl a' (R.length+1) c'],vag [vi 0,vi 0,vi 0,vsl none 0 0,vb false],vb false]) h') :
  CallOK Tryz.prog 99 [vag [vsl a R.length c],vi k.1,vag (encV k.2),vsl ka kn kc,vsl va vn vc] h K':=by
 refine ok_panes_Table_Add ?_
 unfold VC_panes_Table_Add
 refine Table_find_ok T.s (by omega) hs fun i is h2 l2 hi hah hna his=>⟨_,_,rfl,?_⟩
 refine clone_Pane_ok (T.le l2).s (by omega) fun a7 c7 h6 O6=>⟨_,_,_,rfl,?_⟩
 have l6:=Hp.le_trans l2 O6.le
 have hvn:=SV.1
 have hkn:=SK.1
 intro J83
 have hJ:∀(a315:Option Addr) (c315:Nat) (Q:List PR) (x316 x317 x318:Int) (a319:Option Addr) (n319 c319:Nat) (p320:Bool) (h321:Hp) (r:PR),OwnV h2 h321 79 5 a315 Q.length c315 (Q.flatMap encPr)→Q.length≤1000000→Q[i]?=some r→r.acs.length=ks.length→(∀ x ∈ r.acs,AcB x)→HasRow h321 r.a (r.acs.flatMap encAc) →
   (∀(a2:Option Addr) (c2:Nat) (h':Hp),OwnV h2 h' 79 5 a315 Q.length c315 ((Q.set i ⟨r.k,a2,c2,accP r.acs v,r.t⟩).flatMap encPr)→(∀ g xs,(∀ b o,g=some ⟨b,o,none⟩→a315≠some ⟨b,0,none⟩)→HasRow h321 g xs→HasRow h' g xs)→HasRow h' a2 ((accP r.acs v).flatMap encAc)→K' (vtup [vag [vsl a315 Q.length c315],vag [vi x316,vi x317,vi x318,vsl a319 n319 c319,vb p320],vb is]) h')→J83 a315 Q.length c315 x316 x317 x318 a319 n319 c319 p320 h321:=by
  intro a315 c315 Q x316 x317 x318 a319 n319 c319 p320 h321 r OQ hQn hr hrl hrb hri hfin
  have hiQ:=(List.getElem?_eq_some_iff.1 hr).1
  have VQ:Vec encPr 5 79 h2 h321 a315 c315 Q:=OQ
  obtain⟨b,o,ea,hrow⟩:=(VQ.slp encPr_len (by decide)).get encPr_len (by decide) hr
  refine⟨b,o,⟨ea,by omega,by omega⟩,_,_,_,r.a,r.acs.length,r.c,r.t,by rw [Int.toNat_natCast];exact hrow,?_⟩
  refine clone_Acc_ok hri (by omega) fun a331 c331 h330 V330=>⟨_,_,_,rfl,?_⟩
  have l330:=V330.le0
  have hacl:=accP_len (acs:=r.acs) (r:=v) (by omega)
  refine⟨fun vs hh=>∃ m:Nat,vs=[vi m]∧m≤v.length∧VecA h321 hh a331 c331 ((accP r.acs v).take m++r.acs.drop m),fun vs hh=>v.length - (vint vs 0).toNat,⟨0,rfl,Nat.zero_le _,by simpa using V330⟩,?_⟩
  rintro vs hh ⟨m,rfl,hm,V5⟩
  have hlen5:((accP r.acs v).take m++r.acs.drop m).length=r.acs.length:=by rw [List.length_append,List.length_take,List.length_drop];omega
  refine⟨m,rfl,fun e=>?_,fun e=>?_⟩
  ·have hlt:m < v.length:=by have:=of_decide_eq_true e;omega
   have hltA:m < r.acs.length:=by omega
   have lh:h.le hh:=Hp.le_trans l2 (Hp.le_trans OQ.le V5.le0)
   have hxv:v[m]?=some v[m]:=List.getElem?_eq_getElem hlt
   obtain⟨b2,o2,ea2,hr2⟩:=(SV.le lh).get encV_len (by decide) hxv
   have hxi:((accP r.acs v).take m++r.acs.drop m)[m]?=some r.acs[m]:=by
    rw [List.getElem?_append_right (by rw [List.length_take];omega),List.length_take,Nat.min_eq_left (by omega),Nat.sub_self,List.getElem?_drop,Nat.add_zero,List.getElem?_eq_getElem hltA]
   obtain⟨b3,o3,ea3,hr3⟩:=(V5.slp encAc_len (by decide)).get encAc_len (by decide) hxi
   have hni:(accP r.acs v)[m]'(by omega)=(r.acs[m].1,gStep r.acs[m].1 r.acs[m].2 v[m]):=by unfold accP;rw [List.getElem_zipWith]
   have hset:((accP r.acs v).take m++r.acs.drop m).set m (r.acs[m].1,gStep r.acs[m].1 r.acs[m].2 v[m])=(accP r.acs v).take (m+1)++r.acs.drop (m+1):=by
    rw [←hni,List.set_append_right _ _ (by rw [List.length_take];omega),List.length_take,Nat.min_eq_left (by omega),Nat.sub_self,List.drop_eq_getElem_cons hltA,List.set_cons_zero,List.take_succ_eq_append_getElem (by omega:m < (accP r.acs v).length),List.append_assoc]
    rfl
   have hb1:=hrb _ (List.getElem_mem hltA)
   have hb2:=hvs _ (List.getElem_mem hlt)
   unfold AcB at hb1
   unfold smallV at hb2
   have hA0:VecA h321 hh a331 c331 ((accP r.acs v).take m++r.acs.drop m):=V5
   obtain⟨b4,o4,ea4,H4⟩:=V5.putF encAc_len hxi (x':=(r.acs[m].1,gStep r.acs[m].1 r.acs[m].2 v[m])) (k:=0) (vs:=encAc (r.acs[m].1,gStep r.acs[m].1 r.acs[m].2 v[m])) (by simp [encAc,encA]) (by simp [encAc_len]) (by simp [setL,encAc_len,List.drop_of_length_le])
   refine⟨b2,o2,⟨ea2,by omega,by omega⟩,_,_,by rw [Int.toNat_natCast];exact hr2,b3,o3,⟨ea3,by omega,by omega⟩,_,_,_,_,by rw [Int.toNat_natCast];exact hr3,?_⟩
   refine gather_Add_ok (k:=r.acs[m].1) (s:=r.acs[m].2) (v:=v[m]) (by unfold InR;omega) (by unfold InR;omega) ⟨_,_,_,_,rfl,b4,o4,⟨ea4,by omega,by omega⟩,?_⟩
   rw [Int.toNat_natCast]
   refine H4 _ fun h358 V358 _=>⟨_,isW (by unfold InR;omega),⟨m+1,by simp,by omega,?_⟩,by simp [vint];omega⟩
   rw [hset] at V358
   exact V358
  ·have hge:m=v.length:=by have:=of_decide_eq_false e;omega
   subst hge
   rw [List.take_of_length_le (by omega),List.drop_of_length_le (by omega),List.append_nil] at V5
   have VQ5:=VQ.keep0 V5.le0
   obtain⟨b2,o2,ea2,H2⟩:=VQ5.putF encPr_len hr (x':=⟨r.k,a331,c331,accP r.acs v,r.t⟩) (k:=0) (vs:=encPr ⟨r.k,a331,c331,accP r.acs v,r.t⟩) (by simp [encPr,D.PRow.enc]) (by simp [encPr_len]) (by simp [setL,encPr_len,List.drop_of_length_le])
   refine⟨b2,o2,⟨ea2,by omega,by omega⟩,?_⟩
   rw [Int.toNat_natCast]
   have est:encPr ⟨r.k,a331,c331,accP r.acs v,r.t⟩=[vi r.k.1,vi r.k.2.1,vi r.k.2.2,vsl a331 r.acs.length c331,vb r.t]:=by unfold encPr prRow;simp [D.PRow.enc,hacl]
   rw [est,Nat.add_zero] at H2
   refine H2 _ fun h363 V363 B363=>?_
   unfold Vec at V363
   rw [List.length_set] at V363
   have keep:∀ g xs,(∀ b o,g=some ⟨b,o,none⟩→a315≠some ⟨b,0,none⟩)→HasRow hh g xs→HasRow h363 g xs:=by
    intro g xs hg H
    rcases H with q|⟨b,o,q,hrw⟩
    ·exact .inl q
    ·refine .inr ⟨b,o,q,?_⟩
     unfold Hp.row at hrw ⊢
     cases hq:hh b with
     | none=>rw [hq] at hrw;cases hrw
     | some ob=>rw [B363.keep b ob hq (hg b o q)];rw [hq] at hrw;exact hrw
   refine hfin a331 c331 h363 V363 (fun g xs hg H=>keep g xs hg (H.le V5.le0)) (keep _ _ (fun b o hb he=>?_) (OwnV.row V5))
   have hb0:o=0:=OwnS.at0 (OwnV.own V5) b o hb
   subst hb0
   have:=V5.new b hb
   have hal:=(OwnF.fp _ _ _ _ _ _).al VQ.ownF b he
   exact hal this
 clear_value J83
 have hiold:∀{hx:Hp} {r:PR},r ∈ R→h6.le hx→∀(a315:Option Addr) (h2':h2.le hx),HasRow hx r.a (r.acs.flatMap encAc):=fun hr l _ _=>(T.i _ hr).le (Hp.le_trans l6 l)
 -- what is there stays behind a change of the own slice
 have kept:∀{hx h':Hp} {a315:Option Addr} {g:Option Addr} {xs:List Value},h2.le h'→HasRow h2 g xs→HasRow h' g xs:=fun l H=>H.le l
 refine⟨fun e=>?_,fun e=>?_⟩
 ·obtain⟨r,hr,hrk⟩:=his.1 e
  have hmem:=List.mem_of_getElem? hr
  have VQ:Vec encPr 5 79 h2 h6 a7 c7 R:=O6
  obtain⟨b,o,ea,hrow⟩:=(VQ.slp encPr_len (by decide)).get encPr_len (by decide) hr
  have hil:=(List.getElem?_eq_some_iff.1 hr).1
  refine⟨b,o,⟨ea,by omega,by omega⟩,_,_,_,_,_,_,_,by rw [Int.toNat_natCast];exact hrow,?_⟩
  refine hJ a7 c7 R _ _ _ _ _ _ _ h6 r O6 (by omega) hr (hkd r hmem) (hbd r hmem) ((T.i r hmem).le l6) fun a2 c2 h' O' _ H2=>?_
  rw [e]
  refine hIn i r a7 c7 a2 c2 h' hr hrk (Hp.le_trans l2 O'.le) ⟨⟨by rw [List.length_set],by exact O'.row⟩,fun r' hr'=>?_⟩
  rcases List.mem_or_eq_of_mem_set hr' with q|q
  ·exact(T.i r' q).le (Hp.le_trans l2 O'.le)
  ·rw [q];exact H2
 ·have hne:∀ x ∈ R,x.k≠k:=by
   intro x hx ek
   obtain⟨m,hm⟩:=List.getElem?_of_mem hx
   rcases Nat.lt_trichotomy m i with h5|h5|h5
   ·have:x ∈ R.take i:=by
     have:(R.take i)[m]?=some x:=by rw [List.getElem?_take,if_pos h5];exact hm
     exact List.mem_of_getElem? this
    have:=hah x this
    rw [ek] at this
    exact aheadK_irr _ this
   ·subst h5
    have:=his.2 ⟨x,hm,ek⟩
    rw [e] at this;cases this
   ·have hil:i < R.length:=by have:=(List.getElem?_eq_some_iff.1 hm).1;omega
    have hy:R[i]?=some R[i]:=List.getElem?_eq_getElem hil
    have h1:=hna _ hy
    have:=List.pairwise_iff_getElem.1 hs i m (by simpa using hil) (by simpa using (List.getElem?_eq_some_iff.1 hm).1) h5
    simp only [List.getElem_map] at this
    rw [(List.getElem?_eq_some_iff.1 hm).2,ek] at this
    exact h1 this
  intro J45
  have hJ45:∀(a74:Option Addr) (c74:Nat) (h76:Hp),VecA h6 h76 a74 c74 (acc0 ks)→J45 k.1 k.2.1 k.2.2 a74 (acc0 ks).length c74 false h76:=by
   intro a74 c74 h76 VA b77 hb77 h78
   have l78:h76.le h78:=Hp.le_set (Hp.le_refl h76) hb77 _
   have k77:h78 b77=some (cellsO (encPr ⟨k,a74,c74,acc0 ks,false⟩) 79):=Hp.set_same _ _ _
   clear_value h78
   have O78:=(OwnV.mono VA.le0 O6).mono l78
   obtain⟨hB,lB,OB,kB⟩:=OwnV.self O78
   have hrowB:HasRow hB a74 ((acc0 ks).flatMap encAc):=HasRow.over ((OwnV.row VA).le l78) fun b o ob hb ho=>kB b ob (fun q=>by
    have hb0:o=0:=OwnS.at0 (OwnV.own VA) b o hb
    subst hb0
    have h1:=VA.new b hb
    exact(OwnF.fp _ _ _ _ _ _).al (Vec.ownF (show Vec encPr 5 79 h2 h6 a7 c7 R from O6)) b q h1) ho
   refine insert_Pane_ok (x:=⟨k,a74,c74,acc0 ks,false⟩) OB (by omega) hi k77 (fun q=>?_) fun a81 c81 h80 O80=>⟨_,_,_,rfl,?_⟩
   ·have hal:=(OwnF.fp _ _ _ _ _ _).al (Vec.ownF (show Vec encPr 5 79 h2 h6 a7 c7 R from O6)) b77 q
    exact hal (Hp.none_of_le VA.le0 hb77)
   have hQl:(R.take i++(⟨k,a74,c74,acc0 ks,false⟩:PR) :: R.drop i).length=R.length+1:=by rw [List.length_append,List.length_cons,List.length_take,List.length_drop];omega
   have htl:(R.take i).length=i:=by rw [List.length_take];omega
   have hQi:(R.take i++(⟨k,a74,c74,acc0 ks,false⟩:PR) :: R.drop i)[i]?=some ⟨k,a74,c74,acc0 ks,false⟩:=by rw [List.getElem?_append_right (by omega),htl,Nat.sub_self];rfl
   have ha0:(acc0 ks).length=ks.length:=by unfold acc0;rw [List.length_map]
   have hrow:HasRow h80 a74 ((acc0 ks).flatMap encAc):=hrowB.le O80.le
   have O80:=O80.trans lB
   have:=hJ a81 c81 (R.take i++(⟨k,a74,c74,acc0 ks,false⟩:PR) :: R.drop i) 0 0 0 none 0 0 false h80 ⟨k,a74,c74,acc0 ks,false⟩ (by rw [hQl];exact O80) (by omega) hQi ha0 ?_ hrow fun a2 c2 h' O' _ H2=>?_
   ·rw [hQl] at this;exact this
   ·intro x hx
    unfold acc0 at hx
    obtain⟨k0,_,rfl⟩:=List.mem_map.1 hx
    unfold AcB
    simp only
    omega
   ·rw [e]
    have hset:(R.take i++(⟨k,a74,c74,acc0 ks,false⟩:PR) :: R.drop i).set i ⟨k,a2,c2,accP (acc0 ks) v,false⟩=R.take i++⟨k,a2,c2,accP (acc0 ks) v,false⟩ :: R.drop i:=by
     rw [List.set_append_right _ _ (by omega),htl,Nat.sub_self,List.set_cons_zero]
    rw [hset,hQl] at O'
    rw [hQl]
    have hQl2:(R.take i++(⟨k,a2,c2,accP (acc0 ks) v,false⟩:PR) :: R.drop i).length=R.length+1:=by rw [List.length_append,List.length_cons,List.length_take,List.length_drop];omega
    refine hNew i a81 c81 a2 c2 h' hi hah hna hne (Hp.le_trans l2 O'.le) ⟨⟨rfl,O'.row⟩,fun r' hr'=>?_⟩
    rcases List.mem_append.1 hr' with q|q
    ·exact(T.i r' (List.mem_of_mem_take q)).le (Hp.le_trans l2 O'.le)
    ·rcases List.mem_cons.1 q with rfl|q
     ·exact H2
     ·exact(T.i r' (List.mem_of_mem_drop q)).le (Hp.le_trans l2 O'.le)
  clear_value J45
  refine⟨fun vs hh=>∃(m:Nat) (aa:Option Addr) (ca:Nat),vs=[vi m,vi k.1,vi k.2.1,vi k.2.2,vsl aa (acc0 (ks.take m)).length ca,vb false]∧m≤ks.length∧VecA h6 hh aa ca (acc0 (ks.take m)),fun vs hh=>ks.length - (vint vs 0).toNat,⟨0,none,0,rfl,Nat.zero_le _,OwnV.nil (Hp.le_refl _) _ _⟩,?_⟩
  rintro vs hh ⟨m,aa,ca,rfl,hm,V⟩
  refine⟨_,_,_,_,aa,_,ca,false,rfl,fun e5=>?_,fun e5=>?_⟩
  ·have hltm:m < ks.length:=by have:=of_decide_eq_true e5;omega
   have tkm:ks.take (m+1)=ks.take m++[ks[m]]:=List.take_succ_eq_append_getElem hltm
   have hal:(acc0 (ks.take m)).length=m:=by unfold acc0;rw [List.length_map,List.length_take];omega
   obtain⟨b,o,ea,hc⟩:=(SK.le (Hp.le_trans l6 V.le0)).get (i:=m) (by omega)
   have hgd:ks.getD m 0=ks[m]:=by rw [List.getD_eq_getElem?_getD,List.getElem?_eq_getElem hltm];rfl
   rw [hgd] at hc
   generalize ks[m]=km at *
   refine⟨b,o,⟨ea,by omega,by omega⟩,_,by rw [Int.toNat_natCast];exact hc,gather_New_ok ⟨_,_,_,_,rfl,?_⟩⟩
   intro b38 hb38 h39
   refine Vec.app elAcc encAc_len one_ac V (by rw [hal];omega) (by rw [hal];omega) (x:=(km,(0,0,0))) hb38 fun a' c' h' V'=>⟨_,_,_,rfl,_,isW (by unfold InR;omega),⟨m+1,a',c',?_,by omega,?_⟩,by simp [vint];omega⟩
   ·rw [tkm];unfold acc0;rw [List.map_append];rfl
   ·rw [tkm];unfold acc0 at V' ⊢;rw [List.map_append];exact V'
  ·have hge:m=ks.length:=by have:=of_decide_eq_false e5;omega
   rw [hge,List.take_length] at V ⊢
   exact hJ45 aa ca hh V
end
end Go.Proofs.YtiflgceoamkmnaaGreatDoor
namespace Go.Vc
open Go
structure Ow where
 e:TypeId
 sz:Nat
 a:Option Addr
 n:Nat
 c:Nat
 xs:List Value
def Ow.own (s:Ow)(h:Hp):Prop:=OwnS h s.e s.sz s.a s.n s.c s.xs
def Ow.at (s:Ow)(b:Nat):Prop:=s.a=some ⟨b,0,none⟩
def blkO (g:Nat)(t:TypeId)(cs:List Value):Ow:=⟨t,cs.length,some ⟨g,0,none⟩,1,1,cs⟩
structure Owns (hi h:Hp)(L:List Ow):Prop where
 le:hi.le h
 own:∀ s ∈ L,s.own h
 new:∀ s ∈ L,∀ b,s.at b→hi b=none
 dj:L.Pairwise fun s t=>∀ b,s.at b→¬ t.at b
theorem Ow.al {s:Ow}{h:Hp}(O:s.own h){b:Nat}(hb:s.at b):h b≠none:=by
 rcases O.2 with ⟨h1,_⟩|⟨g,cur,h1,h2,_⟩
 ·unfold Ow.at at hb;rw [h1] at hb;cases hb
 ·unfold Ow.at at hb;rw [h1] at hb;cases hb;rw [h2];simp
theorem Ow.keep {s:Ow}{h h':Hp}(O:s.own h)(hk:∀ b,s.at b→∀ o,h b=some o→h' b=some o):s.own h':=OwnS.keep O fun g o hg ho=>hk g hg o ho
section
variable {hi h:Hp}{L:List Ow}
theorem Owns.nil (l:hi.le h):Owns hi h []:=⟨l,fun s hs=>(by cases hs),fun s hs=>(by cases hs),List.Pairwise.nil⟩
theorem Owns.grow {h':Hp}(O:Owns hi h L)(l:h.le h'):Owns hi h' L:=⟨Hp.le_trans O.le l,fun s hs=>Ow.keep (O.own s hs) fun b _ o ho=>l b o ho,O.new,O.dj⟩
theorem Owns.ownV (O:Owns hi h L){s:Ow}(hs:s ∈ L):OwnV hi h s.e s.sz s.a s.n s.c s.xs:=⟨O.le,O.own s hs,fun b hb=>O.new s hs b hb⟩
theorem Owns.apart (O:Owns hi h L){i j:Nat}{s t:Ow}(hs:L[i]?=some s)(ht:L[j]?=some t)(hne:i≠j){b:Nat}(hb:s.at b):¬ t.at b:=by
 obtain⟨hi',es⟩:=List.getElem?_eq_some_iff.1 hs
 obtain⟨hj',et⟩:=List.getElem?_eq_some_iff.1 ht
 have:=List.pairwise_iff_getElem.1 O.dj
 rcases Nat.lt_or_gt_of_ne hne with q|q
 ·have:=this i j hi' hj' q b
  rw [es,et] at this
  exact this hb
 ·have:=this j i hj' hi' q b
  rw [es,et] at this
  exact fun q2=>this q2 hb
theorem Owns.upd {h':Hp}(O:Owns hi h L){j:Nat}{s s':Ow}(hs:L[j]?=some s)(hk:∀ b o,h b=some o→¬ s.at b→h' b=some o)(O':s'.own h')(hn:∀ b,s'.at b→s.at b∨h b=none):Owns hi h' (L.set j s'):=by
 have hsm:=List.mem_of_getElem? hs
 have hj:=(List.getElem?_eq_some_iff.1 hs).1
 have key:∀{k:Nat} {t:Ow},(L.set j s')[k]?=some t→(k=j∧t=s')∨(k≠j∧L[k]?=some t):=by
  intro k t h1
  by_cases hkj:k=j
  ·subst hkj
   rw [List.getElem?_set_self hj] at h1
   exact .inl ⟨rfl,(Option.some.inj h1).symm⟩
  ·rw [List.getElem?_set_ne (fun e=>hkj e.symm)] at h1
   exact .inr ⟨hkj,h1⟩
 have out:∀{k:Nat} {t:Ow},k≠j→L[k]?=some t→∀ b,t.at b→¬ s'.at b:=by
  intro k t hkj ht b hb hb'
  rcases hn b hb' with q|q
  ·exact O.apart ht hs hkj hb q
  ·exact Ow.al (O.own t (List.mem_of_getElem? ht)) hb q
 refine⟨fun b o ho=>hk b o (O.le b o ho) fun q=>(by rw [O.new s hsm b q] at ho;cases ho),fun t ht=>?_,fun t ht b hb=>?_,?_⟩
 ·obtain⟨k,hk'⟩:=List.getElem?_of_mem ht
  rcases key hk' with ⟨_,rfl⟩|⟨hkj,h1⟩
  ·exact O'
  ·exact Ow.keep (O.own t (List.mem_of_getElem? h1)) fun b hb o ho=>hk b o ho (O.apart h1 hs hkj hb)
 ·obtain⟨k,hk'⟩:=List.getElem?_of_mem ht
  rcases key hk' with ⟨_,rfl⟩|⟨hkj,h1⟩
  ·rcases hn b hb with q|q
   ·exact O.new s hsm b q
   ·exact Hp.none_of_le O.le q
  ·exact O.new t (List.mem_of_getElem? h1) b hb
 ·rw [List.pairwise_iff_getElem]
  intro i k hi' hk' hik b hb hb'
  have e1:=List.getElem?_eq_getElem hi'
  have e2:=List.getElem?_eq_getElem hk'
  rcases key e1 with ⟨q1,q2⟩|⟨q1,q2⟩
  ·rcases key e2 with ⟨q3,q4⟩|⟨q3,q4⟩
   ·omega
   ·rw [q2] at hb
    exact out q3 q4 b hb' hb
  ·rcases key e2 with ⟨q3,q4⟩|⟨q3,q4⟩
   ·rw [q4] at hb'
    exact out q1 q2 b hb hb'
   ·exact O.apart q2 q4 (by omega) hb hb'
theorem Owns.push {h':Hp}(O:Owns hi h L)(l:h.le h'){s:Ow}(O':s.own h')(hn:∀ b,s.at b→h b=none):Owns hi h' (L++[s]):=by
 have O2:=O.grow l
 refine⟨O2.le,fun t ht=>?_,fun t ht b hb=>?_,List.pairwise_append.2 ⟨O.dj,by simp,fun x hx y hy b hb hb'=>?_⟩⟩
 ·rcases List.mem_append.1 ht with q|q
  ·exact O2.own t q
  ·rw [List.mem_singleton.1 q];exact O'
 ·rcases List.mem_append.1 ht with q|q
  ·exact O.new t q b hb
  ·rw [List.mem_singleton.1 q] at hb;exact Hp.none_of_le O.le (hn b hb)
 ·rw [List.mem_singleton.1 hy] at hb'
  exact Ow.al (O.own x hx) hb (hn b hb')
theorem Owns.rebase {L':List Ow}(O:Owns hi h L)(hs:L'.Sublist L):∃ hj:Hp,hi.le hj∧Owns hj h L'∧∀ b o,h b=some o→(∀ s ∈ L',¬ s.at b)→hj b=some o:=by
 have e1:∀ b,(∃ s ∈ L',s.at b)→(open Classical in (fun b=>if ∃ s ∈ L',s.at b then none else h b:Hp)) b=none:=fun b hb=>if_pos hb
 have e2:∀ b,¬(∃ s ∈ L',s.at b)→(open Classical in (fun b=>if ∃ s ∈ L',s.at b then none else h b:Hp)) b=h b:=fun b hb=>if_neg hb
 generalize (open Classical in (fun b=>if ∃ s ∈ L',s.at b then none else h b:Hp))=hj at e1 e2
 have lj:Hp.le hj h:=fun b o ho=>by
  by_cases q:∃ s ∈ L',s.at b
  ·rw [e1 b q] at ho;cases ho
  ·rw [e2 b q] at ho;exact ho
 refine⟨hj,fun b o ho=>?_,⟨lj,fun s h1=>O.own s (hs.mem h1),fun s h1 b hb=>e1 b ⟨s,h1,hb⟩,O.dj.sublist hs⟩,fun b o ho hn=>(e2 b (fun⟨s,q1,q2⟩=>hn s q1 q2)).trans ho⟩
 refine(e2 b ?_).trans (O.le b o ho)
 rintro⟨s,q1,q2⟩
 rw [O.new s (hs.mem q1) b q2] at ho
 cases ho
theorem Owns.blk (O:Owns hi h L){g:Nat}{t:TypeId}{cs:List Value}(hs:blkO g t cs ∈ L):h g=some (cellsO cs t):=by
 obtain⟨h1,h2⟩:=O.own _ hs
 rcases h2 with ⟨q,_⟩|⟨b,cur,q1,q2,q3,q4,q5,q6⟩
 ·cases q
 ·simp only [blkO,Option.some.injEq,Addr.mk.injEq,and_true] at q1 q5 q6
  subst q1
  have:cur.toList=cs:=by
   rw [←q6,Nat.one_mul,List.take_of_length_le (by rw [Array.length_toList];omega)]
  rw [q2,←this]
  simp [blkO]
theorem blkO_own {g:Nat}{t:TypeId}{cs:List Value}(hg:h g=some (cellsO cs t)):(blkO g t cs).own h:=
 ⟨by simp [blkO],.inr ⟨g,cs.toArray,rfl,hg,Nat.le_refl _,by simp [blkO,maxLen],by simp [blkO],by simp [blkO]⟩⟩
theorem Owns.store (O:Owns hi h L){j:Nat}{s:Ow}(hs:L[j]?=some s){i:Nat}{vs:List Value}(hv:0 < vs.length)(hfit:i+vs.length≤s.n*s.sz){b:Nat}(hb:s.at b){K:Hp→Prop}
  (hK:∀ h',Owns hi h' (L.set j { s with xs:=setL s.xs i vs })→(∀ b' o,b'≠b→h b'=some o→h' b'=some o)→K h'):h.store b (0+i) vs K:=by
 refine OwnV.store (O.ownV (List.mem_of_getElem? hs)) hv hfit hb fun ob O'=>?_
 have kp:∀ b' o,b'≠b→h b'=some o→(h.set b ob) b'=some o:=fun b' o hne ho=>(Hp.set_other h _ hne).trans ho
 exact hK _ (O.upd hs (fun b' o ho hn=>kp b' o (fun q=>hn (by rw [q];exact hb)) ho) O'.own fun b' hb'=>.inl hb') kp
theorem Owns.put (O:Owns hi h L){j g:Nat}{t:TypeId}{cs:List Value}(hs:L[j]?=some (blkO g t cs)){i:Nat}{v:Value}(hi':i < cs.length){K:Hp→Prop}
  (hK:∀ h',Owns hi h' (L.set j (blkO g t (cs.set i v)))→(∀ b' o,b'≠g→h b'=some o→h' b'=some o)→K h'):h.store g (0+i) [v] K:=by
 refine O.store hs (by simp) (by simp [blkO];omega) rfl fun h' O' kp=>hK h' ?_ kp
 have e:({ blkO g t cs with xs:=setL (blkO g t cs).xs i [v] }:Ow)=blkO g t (cs.set i v):=by
  unfold blkO
  simp only [List.length_set]
  rw [setL_one _ _ _ hi']
 rw [e] at O'
 exact O'
variable {P:Program}
theorem Owns.app (O:Owns hi h L){j:Nat}{s:Ow}(hs:L[j]?=some s){tS ty:TypeId}{bytes:Nat}(T:ElT P tS s.e s.sz bytes){b m:Nat}{news:List Value}{tn:TypeId}(hb:h b=none)(hl:news.length=m*s.sz)(h1:∀ u ∈ news,u.oneCell'=true)
  (hn:(s.n+m)*bytes≤140737488355328) (hn2:s.n+m≤140737488355328) {K:Value→Hp→Prop}
  (hK:∀ a' c' h',Owns hi h' (L.set j { s with a:=a',n:=s.n+m,c:=c',xs:=s.xs++news })→(∀ b' o,h b'=some o→¬ s.at b'→h' b'=some o)→K (vsl a' (s.n+m) c') h') :
  SemOK P (Builtin.append_ #[tS,tS] ty #[vsl s.a s.n s.c,vsl (some ⟨b,0,none⟩) m m]) (h.set b (cellsO news tn)) K:=by
 have l:h.le (h.set b (cellsO news tn)):=Hp.le_set (Hp.le_refl h) hb _
 have O1:=O.grow l
 refine OwnV.append T (O1.ownV (List.mem_of_getElem? hs)) (HasRow.new _ _ news _) hl h1 hn hn2 fun a' c' h' O' k1 k2=>hK a' c' h' (O1.upd hs (fun b' o ho hn=>k1 b' o ho hn) O'.own fun b' hb'=>?_) fun b' o ho hn=>k1 b' o (l b' o ho) hn
 rcases k2 b' hb' with q|q
 ·exact .inl (show s.a=_ from q.trans hb')
 ·exact .inr q
theorem CallOK.frame {f:FuncId}{args:List Value}{hA h:Hp}{K:Value→Hp→Prop}(l:hA.le h)(H:CallOK P f args hA K):CallOK P f args h fun v h2=>∃ h1,h1.le h2∧(∀ b o,h b=some o→hA b=none→h2 b=some o∧h1 b=none)∧K v h1:=by
 intro w hs
 refine(H w fun b o ho=>hs b o (l b o ho)).mono ?_
 rintro e w' ⟨v,h1,rfl,s1,F,k⟩
 have out:∀ b o,h b=some o→hA b=none→w'.heap[b]?=some o∧h1 b=none:=by
  intro b o ho hn
  have hb:=(Array.getElem?_eq_some_iff.1 (hs b o ho)).1
  obtain⟨q1,q2⟩:=F.keep b hb hn
  exact⟨q1.trans (hs b o ho),q2⟩
 have e1:∀ b,(h b≠none∧hA b=none)→(fun b=>if h b≠none∧hA b=none then h b else h1 b:Hp) b=h b:=fun b hb=>if_pos hb
 have e2:∀ b,¬(h b≠none∧hA b=none)→(fun b=>if h b≠none∧hA b=none then h b else h1 b:Hp) b=h1 b:=fun b hb=>if_neg hb
 generalize (fun b=>if h b≠none∧hA b=none then h b else h1 b:Hp)=h2 at e1 e2
 refine⟨v,h2,rfl,fun b o ho=>?_,⟨F.os,F.tape,F.output,F.size,fun b hb hn=>?_⟩,h1,fun b o ho=>?_,fun b o ho hn=>?_,k⟩
 ·by_cases q:h b≠none∧hA b=none
  ·rw [e1 b q] at ho
   exact(out b o ho q.2).1
  ·rw [e2 b q] at ho
   exact s1 b o ho
 ·have hna:hA b=none:=Hp.none_of_le l hn
  obtain⟨q1,q2⟩:=F.keep b hb hna
  exact⟨q1,(e2 b (fun q=>q.1 hn)).trans q2⟩
 ·refine(e2 b fun q=>?_).trans ho
  cases hq:h b with
  | none=>exact q.1 hq
  | some o2=>
   have:=(out b o2 hq q.2).2
   rw [this] at ho;cases ho
 ·exact⟨(e1 b ⟨by rw [ho];simp,hn⟩).trans ho,(out b o ho hn).2⟩
theorem Owns.frame (O:Owns hi h L){f:FuncId}{args:List Value}{R':Value→Hp→Prop}(H:CallOK P f args hi fun v hk=>∀ h2,hk.le h2→Owns hk h2 L→R' v h2):CallOK P f args h R':=by
 intro w hs
 refine(CallOK.frame O.le H w hs).mono ?_
 rintro e w' ⟨v,h2,rfl,s2,F,h1,l1,kp,k⟩
 refine⟨v,h2,rfl,s2,F,k h2 l1 ⟨l1,fun s hs'=>Ow.keep (O.own s hs') fun b hb o ho=>(kp b o ho (O.new s hs' b hb)).1,fun s hs' b hb=>?_,O.dj⟩⟩
 cases hq:h b with
 | none=>exact absurd hq (Ow.al (O.own s hs') hb)
 | some o=>exact(kp b o hq (O.new s hs' b hb)).2
end
end Go.Vc
namespace Go.Proofs.YtiflgceoamkmnaaGreatDoor
open Go Go.Vc
def GEq (k:Int)(s s':Int × Int × Int):Prop:=s.1=s'.1∧s.2.1=s'.2.1∧((k=4∨k=5)→s.2.2=s'.2.2)
theorem GEq.refl (k:Int)(s:Int × Int × Int):GEq k s s:=⟨rfl,rfl,fun _=>rfl⟩
theorem GEq.trans {k:Int}{a b c:Int × Int × Int}(h:GEq k a b)(h2:GEq k b c):GEq k a c:=⟨h.1.trans h2.1,h.2.1.trans h2.2.1,fun q=>(h.2.2 q).trans (h2.2.2 q)⟩
theorem GEq.step {k:Int}{s s':Int × Int × Int}(h:GEq k s s')(v:Int × Int):GEq k (gStep k s v) (gStep k s' v):=by
 obtain⟨h1,h2,h3⟩:=h
 unfold gStep
 split
 ·exact⟨h1,h2,h3⟩
 ·refine⟨by simp only;omega,by simp only;omega,fun q=>?_⟩
  simp only
  rw [h1,h3 q]
theorem gStep_le {k:Int}{s:Int × Int × Int}(h:0≤s.1)(v:Int × Int):0≤(gStep k s v).1:=by
 unfold gStep
 split
 ·exact h
 ·simp only;omega
theorem gStep_swap {k:Int}{s:Int × Int × Int}(h:0≤s.1)(u v:Int × Int):GEq k (gStep k (gStep k s u) v) (gStep k (gStep k s v) u):=by
 unfold gStep
 by_cases hu:k≠1∧u.1=0
 ·by_cases hv:k≠1∧v.1=0
  ·simp only [if_pos hu,if_pos hv];exact .refl _ _
  ·simp only [if_pos hu,if_neg hv];exact .refl _ _
 ·by_cases hv:k≠1∧v.1=0
  ·simp only [if_neg hu,if_pos hv];exact .refl _ _
  ·simp only [if_neg hu,if_neg hv]
   refine⟨rfl,by simp only;omega,fun q=>?_⟩
   simp only
   rcases q with rfl|rfl
   ·repeat' split
    all_goals omega
   ·repeat' split
    all_goals omega
theorem gfold_perm {k:Int}{l l':List Vl}(p:l.Perm l'):∀{s s':Int × Int × Int},0≤s.1→GEq k s s'→GEq k (l.foldl (gStep k) s) (l'.foldl (gStep k) s'):=by
 induction p with
 | nil=>intro s s' _ h;exact h
 | cons x _ ih=>intro s s' h0 h;exact ih (gStep_le h0 x) (h.step x)
 | swap x y l=>
  intro s s' h0 h
  have e:=(gStep_swap (k:=k) h0 y x).trans ((h.step x).step y)
  rw [List.foldl_cons,List.foldl_cons,List.foldl_cons,List.foldl_cons]
  generalize gStep k (gStep k s y) x=a at e ⊢
  generalize gStep k (gStep k s' x) y=b at e ⊢
  clear h h0
  induction l generalizing a b with
  | nil=>exact e
  | cons z l ih=>exact ih _ _ (e.step z)
 | trans _ _ ih1 ih2=>
  intro s s' h0 h
  exact(ih1 h0 h).trans (ih2 (by rw [←h.1];exact h0) (.refl _ _))
theorem gVal_eq {k:Int}(h1:1≤k)(h5:k≤5){s s':Int × Int × Int}(h:GEq k s s'):gVal k s=gVal k s':=by
 obtain⟨e1,e2,e3⟩:=h
 unfold gVal
 rw [e1,e2]
 split
 ·rfl
 ·split
  ·rfl
  ·split
   ·rfl
   ·rw [e3 (by omega)]
theorem accsOf_at (ks:List Int){rs:List (List Vl)}(h:∀ r ∈ rs,r.length=ks.length)(i:Nat):(accsOf ks rs)[i]?=(ks[i]?).map fun k=>(k,(rs.filterMap fun r=>r[i]?).foldl (gStep k) (0,0,0)):=by
 induction rs using snocInd with
 | h0=>show (acc0 ks)[i]?=_;unfold acc0;rw [List.getElem?_map];rfl
 | h1 rs r ih=>
  have h2:=ih fun x hx=>h x (List.mem_append_left _ hx)
  have hr:=h r (by simp)
  rw [accsOf_snoc]
  unfold accP
  rw [List.getElem?_zipWith,h2]
  cases hk:ks[i]? with
  | none=>rfl
  | some k=>
   have hi:=(List.getElem?_eq_some_iff.1 hk).1
   have hv:r[i]?=some r[i]:=List.getElem?_eq_getElem (by omega)
   rw [hv]
   simp only [Option.map_some,List.filterMap_append,List.filterMap_cons,hv,List.filterMap_nil,List.foldl_append,List.foldl_cons,List.foldl_nil]
theorem outV_perm {ks:List Int}(hk:∀ k ∈ ks,1≤k∧k≤5){rs rs':List (List Vl)}(p:rs.Perm rs')(h:∀ r ∈ rs,r.length=ks.length):outV ks rs=outV ks rs':=by
 unfold outV
 refine List.ext_getElem? fun i=>?_
 rw [List.getElem?_map,List.getElem?_map,accsOf_at ks h,accsOf_at ks fun r hr=>h r (p.mem_iff.2 hr)]
 cases hki:ks[i]? with
 | none=>rfl
 | some k=>
  obtain⟨h1,h5⟩:=hk k (List.mem_of_getElem? hki)
  simp only [Option.map_some]
  congr 1
  exact gVal_eq h1 h5 (gfold_perm (p.filterMap _) (by decide) (.refl _ _))
theorem sorted_ext {l l':List PK}(h:l.Pairwise aheadK)(h':l'.Pairwise aheadK)(e:∀ k,k ∈ l↔k ∈ l'):l=l':=by
 have p:=(List.perm_ext_iff_of_nodup (sorted_nodup h) (sorted_nodup h')).2 e
 exact p.eq_of_pairwise (fun a b _ _ h1 h2=>absurd (aheadK_trans h1 h2) (aheadK_irr a)) h h'
theorem rowsOf_perm {A A':List Ad}(p:A.Perm A')(k:PK):(rowsOf A k).Perm (rowsOf A' k):=(p.filter _).map _
theorem rowsOf_len {n:Nat}{A:List Ad}(h:∀ a ∈ A,a.2.length=n)(k:PK):∀ r ∈ rowsOf A k,r.length=n:=by
 intro r hr
 unfold rowsOf at hr
 obtain⟨a,ha,rfl⟩:=List.mem_map.1 hr
 exact h a (List.mem_filter.1 ha).1
theorem keysS_perm {A A':List Ad}(p:A.Perm A'):keysS A=keysS A':=sorted_ext (keysS_sorted A) (keysS_sorted A') fun k=>by
 rw [keysS_mem,keysS_mem]
 constructor
 ·rintro⟨a,ha,e⟩;exact⟨a,p.mem_iff.1 ha,e⟩
 ·rintro⟨a,ha,e⟩;exact⟨a,p.mem_iff.2 ha,e⟩
theorem kinds_ok {q:Qy}(B:∀ a ∈ q.aggs,1≤a.1∧a.1≤5):∀ k ∈ kindsQ q,1≤k∧k≤5:=by
 intro k hk
 unfold kindsQ at hk
 obtain⟨a,ha,rfl⟩:=List.mem_map.1 hk
 exact B a ha
theorem ansA_perm {q:Qy}(B:∀ a ∈ q.aggs,1≤a.1∧a.1≤5){A A':List Ad}(p:A.Perm A')(h:∀ a ∈ A,a.2.length=q.aggs.length):ansA q A=ansA q A':=by
 unfold ansA
 rw [keysS_perm p]
 refine List.map_congr_left fun k hk=>?_
 rw [outV_perm (kinds_ok B) (rowsOf_perm p k) (fun r hr=>by rw [rowsOf_len h k r hr];unfold kindsQ;rw [List.length_map])]
theorem addE_len {q:Qy}{far:Int}{e:EvL}:∀ a ∈ addE q far e,a.2.length=q.aggs.length:=by
 intro a ha
 unfold addE at ha
 split at ha
 ·exact addS_len a ha
 ·cases ha
theorem addP_len {q:Qy}:∀{l:List EvL} {far:Int},∀ a ∈ addP q far l,a.2.length=q.aggs.length
 | [],far,a,ha=>by cases ha
 | e :: l,far,a,ha=>by
  rw [addP] at ha
  rcases List.mem_append.1 ha with h|h
  ·exact addE_len a h
  ·exact addP_len a h
theorem addA_len {q:Qy}{ps:List (List EvL)}:∀ a ∈ addA q ps,a.2.length=q.aggs.length:=by
 intro a ha
 unfold addA at ha
 obtain⟨p,_,h⟩:=List.mem_flatMap.1 ha
 exact addP_len a h
def known (q:Qy)(far:Int)(k:PK):Bool:=decide (k.1+(q.size+q.late)≤far - q.delay)
open Go.Txt
structure AdOK (q:Qy)(x:Ad):Prop where
 l:x.2.length=q.aggs.length
 v:∀ v ∈ x.2,smallV v
 s:-1000≤x.1.1∧x.1.1≤9999
theorem addS_ok {q:Qy}(B:QOk q){far:Int}{e:EvL}(E:EvOK e){ss:List Int}(hs:∀ s ∈ ss,-1000≤s∧s≤9999):∀ x ∈ addS q far e ss,AdOK q x:=by
 intro x hx
 refine⟨addS_len x hx,?_,?_⟩
 ·unfold addS at hx
  obtain⟨s,h1,rfl⟩:=List.mem_map.1 hx
  exact valsQ_small B E
 ·unfold addS at hx
  obtain⟨s,h1,rfl⟩:=List.mem_map.1 hx
  exact hs s ((List.mem_filter.1 h1).1)
theorem starts_ok {q:Qy}(B:QOk q){e:EvL}(E:EvOK e):∀ s ∈ startsOf e.1 q.size q.slide,-1000≤s∧s≤9999:=by
 intro s hs
 have h1:=B.s
 have h2:=E.t
 have:=starts_mem (by omega) hs
 omega
theorem addE_ok {q:Qy}(B:QOk q){far:Int}{e:EvL}(E:EvOK e):∀ x ∈ addE q far e,AdOK q x:=by
 intro x hx
 unfold addE at hx
 split at hx
 ·exact addS_ok B E (starts_ok B E) x hx
 ·cases hx
theorem addP_ok {q:Qy}(B:QOk q):∀(l:List EvL) (far:Int),(∀ e ∈ l,EvOK e)→∀ x ∈ addP q far l,AdOK q x
 | [],far,_,x,hx=>by cases hx
 | e :: l,far,hl,x,hx=>by
  rw [addP] at hx
  rcases List.mem_append.1 hx with h|h
  ·exact addE_ok B (hl e (List.mem_cons_self ..)) x h
  ·exact addP_ok B l _ (fun y hy=>hl y (List.mem_cons_of_mem _ hy)) x h
theorem addA_ok {q:Qy}(B:QOk q){ps:List (List EvL)}(hp:∀ p ∈ ps,∀ e ∈ p,EvOK e):∀ x ∈ addA q ps,AdOK q x:=by
 intro x hx
 unfold addA at hx
 obtain⟨p,h1,h2⟩:=List.mem_flatMap.1 hx
 exact addP_ok B p (-1) (hp p h1) x h2
theorem addS_many {q:Qy}{far:Int}{e:EvL}{ss:List Int}:(addS q far e ss).length≤ss.length:=by
 unfold addS
 rw [List.length_map]
 exact List.length_filter_le _ _
theorem lateS_many {q:Qy}{far:Int}{ss:List Int}:lateS q far ss≤ss.length:=List.length_filter_le _ _
theorem starts_many {q:Qy}(B:QOk q){e:EvL}:(startsOf e.1 q.size q.slide).length≤1000:=by
 have h1:=B.s
 have:=starts_len (t:=e.1) (size:=q.size) (slide:=q.slide)
 omega
theorem addP_many {q:Qy}(B:QOk q):∀(l:List EvL) (far:Int),(addP q far l).length≤1000*l.length∧lateP q far l≤1000*l.length
 | [],far=>⟨Nat.le_refl _,Nat.le_refl _⟩
 | e :: l,far=>by
  obtain⟨h1,h2⟩:=addP_many B l (max far e.1)
  rw [addP,lateP,List.length_append,List.length_cons]
  have h3:=starts_many B (e:=e)
  have h4:(addE q far e).length≤1000:=by
   unfold addE
   split
   ·exact Nat.le_trans addS_many h3
   ·exact Nat.zero_le _
  have h5:lateE q far e≤1000:=by
   unfold lateE
   split
   ·exact Nat.le_trans lateS_many h3
   ·exact Nat.zero_le _
  omega
theorem addA_many {q:Qy}(B:QOk q)(ps:List (List EvL))(hp:∀ p ∈ ps,p.length≤100):(addA q ps).length≤100000*ps.length∧lateA q ps≤100000*ps.length:=by
 induction ps using snocInd with
 | h0=>exact⟨Nat.le_refl _,Nat.le_refl _⟩
 | h1 ps p ih=>
  obtain⟨h1,h2⟩:=ih fun x hx=>hp x (List.mem_append_left _ hx)
  obtain⟨h3,h4⟩:=addP_many B p (-1)
  have h5:=hp p (by simp)
  rw [addA_snoc,lateA_snoc,List.length_append,List.length_append,List.length_singleton]
  omega
theorem keysU_many (A:List Ad):(keysU A).length≤A.length:=by
 induction A using snocInd with
 | h0=>exact Nat.le_refl _
 | h1 A a ih=>
  rw [keysU_snoc,List.length_append,List.length_singleton]
  split
  ·omega
  ·rw [List.length_append,List.length_singleton];omega
theorem kindsQ_len (q:Qy):(kindsQ q).length=q.aggs.length:=by unfold kindsQ;rw [List.length_map]
theorem accsOf_kinds {ks:List Int}{rs:List (List Vl)}(hl:∀ r ∈ rs,r.length=ks.length):(accsOf ks rs).map (·.1)=ks:=by
 rw [acc_cols ks hl,List.map_zipWith]
 have hc:=colsOf_len (n:=ks.length) hl
 generalize colsOf ks.length rs=cs at hc
 clear hl
 induction ks generalizing cs with
 | nil=>rfl
 | cons k ks ih=>
  match cs,hc with
  | c :: cs,hc=>
   rw [List.zipWith_cons_cons,ih cs (by simpa using hc)]
   rfl
theorem rowsOf_ok {q:Qy}{A:List Ad}(hA:∀ x ∈ A,AdOK q x)(k:PK):(∀ r ∈ rowsOf A k,r.length=(kindsQ q).length)∧(∀ r ∈ rowsOf A k,∀ v ∈ r,smallV v)∧(rowsOf A k).length≤A.length:=by
 have key:∀ r ∈ rowsOf A k,∃ x ∈ A,x.2=r:=by
  intro r hr
  unfold rowsOf at hr
  obtain⟨x,h1,h2⟩:=List.mem_map.1 hr
  exact⟨x,(List.mem_filter.1 h1).1,h2⟩
 refine⟨fun r hr=>?_,fun r hr=>?_,?_⟩
 ·obtain⟨x,h1,rfl⟩:=key r hr
  rw [kindsQ_len];exact(hA x h1).l
 ·obtain⟨x,h1,rfl⟩:=key r hr
  exact(hA x h1).v
 ·unfold rowsOf
  rw [List.length_map]
  exact List.length_filter_le _ _
theorem StA.facts {q:Qy}{A:List Ad}{R:List PR}(H:StA (kindsQ q) A R)(hA:∀ x ∈ A,AdOK q x)(hn:A.length≤1000000){i:Nat}{r:PR}(hr:R[i]?=some r):r.acs.map (·.1)=kindsQ q∧(∀ a ∈ r.acs,AcB a)∧-1000≤r.k.1∧r.k.1≤9999∧r.t=false:=by
 obtain⟨h1,h2,h3⟩:=H.at hr
 obtain⟨r1,r2,r3⟩:=rowsOf_ok hA r.k
 rw [h2]
 obtain⟨x,hx,e⟩:=(keysU_mem A r.k).1 (List.mem_of_getElem? h1)
 have hs:=(hA x hx).s
 rw [e] at hs
 exact⟨accsOf_kinds r1,accsOf_small r1 r2 (by omega),hs.1,hs.2,h3⟩
theorem StA.len {ks:List Int}{A:List Ad}{R:List PR}(H:StA ks A R):R.length=(keysU A).length:=by
 have:=congrArg List.length H.keys
 rw [List.length_map] at this
 exact this
theorem acc0_small (q:Qy):(acc0 (kindsQ q)).map (·.1)=kindsQ q∧∀ a ∈ acc0 (kindsQ q),AcB a:=by
 constructor
 ·unfold acc0
  rw [List.map_map]
  exact List.map_id _
 ·intro a ha
  unfold acc0 at ha
  obtain⟨k,_,rfl⟩:=List.mem_map.1 ha
  unfold AcB
  simp
end Go.Proofs.YtiflgceoamkmnaaGreatDoor
namespace Go.Proofs.YtiflgceoamkmnaaGreatDoor
open Go Go.Vc
def VC_clock_New (u0:Int)(h:Hp)(R:Value→Hp→Prop):Prop:=
 (((bif (decide (u0 < 1)) then true else(decide (u0 > 3)))=true→R (vtup [vag [vsl none 0 0],(ifv (some (99,(vi 1))))]) h)∧((bif (decide (u0 < 1)) then true else(decide (u0 > 3)))=false→(let J18:Option Addr→Nat→Nat→Hp→Prop:=fun a20 n20 c20 h21=>R (vtup [vag [vsl a20 n20 c20],ifv none]) h21;(∃(I3:List Value→Hp→Prop) (m4:List Value→Hp→Nat),I3 [vi 0,vsl none 0 0] h∧∀ vs5 h6,I3 vs5 h6→∃ x7 a8 n8 c8,vs5=[vi x7,vsl a8 n8 c8]∧(((decide (x7 < u0))=true→(∀ b11,h6 b11=none→let h12:= Hp.set h6 b11 (cellsO [(vi (-1))] 3);(SemOK Tryz.prog (Builtin.append_ #[50,50] 50 #[vsl a8 n8 c8,(vsl (some (⟨b11,0,none⟩:Addr)) 1 1)]) h12 fun v13 h14=>∃ a15 n15 c15,v13=(vsl a15 n15 c15)∧(∃ x17,(IsW x17 (x7+1))∧(I3 [vi x17,vsl a15 n15 c15] h14∧m4 [vi x17,vsl a15 n15 c15] h14 < m4 vs5 h6)))))∧((decide (x7 < u0))=false→(J18 a8 n8 c8 h6)))))))
theorem ok_clock_New {u0 h R}(H:VC_clock_New u0 h R):CallOK Tryz.prog 42 [vi u0] h R:=
 call_of (cfg:=⟨[],[(5,([15],[.one (.int .i64)],[(1,[.slice])]))],[]⟩) noNG mixed Tryz.func42 [.one (.v (vi u0))] (by kernel_rfl) rfl (by kernel_rfl) H
def VC_clock_Clock_See (u0:Option Addr)(u1 u2:Nat)(u3:Int)(u4:Int)(h:Hp)(R:Value→Hp→Prop):Prop:=
 (SemOK Tryz.prog (Builtin.append_ #[50,50] 50 #[vsl none 0 0,vsl u0 u1 u2]) h fun v1 h2=>∃ a3 n3 c3,v1=(vsl a3 n3 c3)∧(∃ b4 o5,(a3=some ⟨b4,o5,none⟩∧(0:Int)≤u3∧u3 < (n3:Int))∧(∃ x6,(Hp.cell h2 b4 (o5+u3.toNat*1)=some (vi x6))∧(∃ x7,(Rd Tryz.prog (Builtin.max_ #[3,3] 3 #[vi x6,vi u4]) h2 (vi x7))∧(∃ b8 o9,(a3=some ⟨b8,o9,none⟩∧(0:Int)≤u3∧u3 < (n3:Int))∧(Hp.store h2 b8 (o9+u3.toNat*1) [vi x7] fun h10=>R (vag [vsl a3 n3 c3]) h10))))))
theorem ok_clock_Clock_See {u0 u1 u2 u3 u4 h R}(H:VC_clock_Clock_See u0 u1 u2 u3 u4 h R):CallOK Tryz.prog 48 [vag [vsl u0 u1 u2],vi u3,vi u4] h R:=
 call_of (cfg:=⟨[],[],[]⟩) noNG mixed Tryz.func48 [.ag [.v (vsl u0 u1 u2)],.one (.v (vi u3)),.one (.v (vi u4))] (by kernel_rfl) rfl (by kernel_rfl) H
def VC_clock_Clock_All (u0:Option Addr)(u1 u2:Nat)(u3:Int)(h:Hp)(R:Value→Hp→Prop):Prop:=
 (∃(I2:List Value→Hp→Prop) (m3:List Value→Hp→Nat),I2 [vi 0,vi 0] h∧∀ vs4 h5,I2 vs4 h5→∃ x6 x7,vs4=[vi x6,vi x7]∧(((decide (x7 < (u1:Int)))=true→(let J17:Int→Hp→Prop:=fun x20 h21=>(∃ x22,(IsW x22 (x7+1))∧(I2 [vi x20,vi x22] h21∧m3 [vi x20,vi x22] h21 < m3 vs4 h5));(CallOK Tryz.prog 44 [vag [vsl u0 u1 u2],vi x7,vi u3] h5 fun v10 h11=>∃ x12 p13,v10=(vtup [vi x12,vb p13])∧(((!p13)=true→R (vtup [vi 0,vb false]) h11)∧((!p13)=false→(((bif (decide (x7=0)) then true else(decide (x12 < x6)))=true→(J17 x12 h11))∧((bif (decide (x7=0)) then true else(decide (x12 < x6)))=false→(J17 x6 h11))))))))∧((decide (x7 < (u1:Int)))=false→R (vtup [vi x6,vb true]) h5)))
theorem ok_clock_Clock_All {u0 u1 u2 u3 h R}(H:VC_clock_Clock_All u0 u1 u2 u3 h R):CallOK Tryz.prog 27 [vag [vsl u0 u1 u2],vi u3] h R:=
 call_of (cfg:=⟨[],[(3,([6,13],[.one (.int .i64),.one (.int .i64)],[]))],[]⟩) noNG mixed Tryz.func27 [.ag [.v (vsl u0 u1 u2)],.one (.v (vi u3))] (by kernel_rfl) rfl (by kernel_rfl) H
def VC_clock_Clock_Part (u0:Option Addr)(u1 u2:Nat)(u3:Int)(u4:Int)(h:Hp)(R:Value→Hp→Prop):Prop:=
 (∃ b1 o2,(u0=some ⟨b1,o2,none⟩∧(0:Int)≤u3∧u3 < (u1:Int))∧(∃ x3,(Hp.cell h b1 (o2+u3.toNat*1)=some (vi x3))∧(((decide (x3 < 0))=true→R (vtup [vi 0,vb false]) h)∧((decide (x3 < 0))=false→(∃ x5,(IsW x5 (x3 - u4))∧R (vtup [vi x5,vb true]) h)))))
theorem ok_clock_Clock_Part {u0 u1 u2 u3 u4 h R}(H:VC_clock_Clock_Part u0 u1 u2 u3 u4 h R):CallOK Tryz.prog 44 [vag [vsl u0 u1 u2],vi u3,vi u4] h R:=
 call_of (cfg:=⟨[],[],[]⟩) noNG mixed Tryz.func44 [.ag [.v (vsl u0 u1 u2)],.one (.v (vi u3)),.one (.v (vi u4))] (by kernel_rfl) rfl (by kernel_rfl) H
def see (l:List Int)(p:Nat)(t:Int):List Int:=l.set p (max (l.getD p 0) t)
theorem see_length (l:List Int)(p:Nat)(t:Int):(see l p t).length=l.length:=by simp [see]
theorem seeAll (l:List Int)(p:Nat)(t:Int)(hl:∀ x ∈ l,-1≤x∧x≤9999)(ht:0≤t∧t≤9999)(hp:p < l.length):∀ x ∈ see l p t,-1≤x∧x≤9999:=by
 intro x hx
 unfold see at hx
 rcases List.mem_or_eq_of_mem_set hx with h|h
 ·exact hl x h
 ·have:l.getD p 0 ∈ l:=by rw [List.getD_eq_getElem?_getD,List.getElem?_eq_getElem hp];exact List.getElem_mem hp
  have:=hl _ this
  rw [h]
  rcases Int.le_total (l.getD p 0) t with h1|h1
  ·rw [Int.max_eq_right h1];omega
  ·rw [Int.max_eq_left h1];omega
def minL:List Int→Int
 | []=>0
 | x :: l=>l.foldl min x
theorem minL_snoc (l:List Int)(x:Int)(h:l≠[]):minL (l++[x])=min (minL l) x:=by
 match l,h with
 | y :: l,_=>simp [minL,List.foldl_append]
theorem minL_le {l:List Int}{x:Int}(h:x ∈ l):minL l≤x:=by
 match l,h with
 | y :: l,h=>
  have key:∀(l:List Int) (y x:Int),(x=y∨x ∈ l)→l.foldl min y≤x:=by
   intro l
   induction l with
   | nil=>intro y x h;simp at h;subst h;exact Int.le_refl _
   | cons z l ih=>
    intro y x h
    simp only [List.foldl_cons]
    rcases h with rfl|h
    ·have:=ih (min x z) (min x z) (.inl rfl);have h2:=Int.min_le_left x z;omega
    ·rcases List.mem_cons.1 h with rfl|h
     ·have:=ih (min y x) (min y x) (.inl rfl);have h2:=Int.min_le_right y x;omega
     ·exact ih _ _ (.inr h)
  exact key l y x (List.mem_cons.1 h)
theorem minL_mem {l:List Int}(h:l≠[]):minL l ∈ l:=by
 match l,h with
 | y :: l,_=>
  have key:∀(l:List Int) (y:Int),l.foldl min y=y∨l.foldl min y ∈ l:=by
   intro l
   induction l with
   | nil=>intro y;exact .inl rfl
   | cons z l ih=>
    intro y
    simp only [List.foldl_cons]
    rcases ih (min y z) with e|e
    ·rw [e]
     by_cases h:y≤z
     ·exact .inl (Int.min_eq_left h)
     ·exact .inr (by rw [Int.min_eq_right (by omega)];simp)
    ·exact .inr (List.mem_cons_of_mem _ e)
  exact List.mem_cons.2 (key l y)
def farC (d:Int)(l:List Int):Int × Bool:=if ∀ x ∈ l,0≤x then(if l=[] then 0 else minL l - d,true) else(0,false)
theorem clock_New_ok {p:Int}{h:Hp}{R:Value→Hp→Prop}(h1:¬(1≤p∧p≤3)→R (vtup [vag [vsl none 0 0],ifv (some (99,vi 1))]) h)
  (h2:1≤p→p≤3→∀ a n c h',OwnV h h' 3 1 a n c ((List.replicate p.toNat (-1:Int)).map vi)→R (vtup [vag [vsl a n c],ifv none]) h') :
  CallOK Tryz.prog 42 [vi p] h R:=by
 refine ok_clock_New ?_
 unfold VC_clock_New
 refine⟨fun e=>h1 (by simp [Bool.cond_eq_ite] at e;omega),fun e=>?_⟩
 have hp:1≤p∧p≤3:=by simp [Bool.cond_eq_ite] at e;omega
 intro J18
 refine⟨fun vs hh=>∃(i:Nat) (a:Option Addr) (n c:Nat),vs=[vi i,vsl a n c]∧(i:Int)≤p∧OwnV h hh 3 1 a n c ((List.replicate i (-1:Int)).map vi),fun vs hh=>p.toNat - (vint vs 0).toNat,⟨0,_,_,_,rfl,by omega,OwnV.nil (Hp.le_refl h) _ _⟩,?_⟩
 rintro vs hh ⟨i,a,n,c,rfl,hi,O⟩
 refine⟨i,a,n,c,rfl,fun e=>?_,fun e=>?_⟩
 ·have hlt:(i:Int) < p:=by simpa using e
  intro b hb h12
  have hn:=O.sli.1
  simp at hn
  refine OwnV.append elInt (OwnV.set hb _ O) (HasRow.new _ _ [vi (-1)] _) (m:=1) rfl (by simp [Value.oneCell']) (by omega) (by omega) fun a' c' h' O' _ _=>⟨_,_,_,rfl,_,isW (by unfold InR;omega),⟨i+1,a',_,c',rfl,by omega,?_⟩,by simp [vint];omega⟩
  rw [List.replicate_succ',List.map_append]
  exact O'
 ·have:(i:Int)=p:=by simp at e;omega
  refine h2 hp.1 hp.2 a n c hh ?_
  rw [←this]
  exact O
theorem clock_See_ok {a:Option Addr}{n c:Nat}{l:List Int}{p t:Int}{h:Hp}{R:Value→Hp→Prop}(S:SlI h a n l)(hn:n≤1000)(hp:0≤p)(hp':p < n)
  (hK:∀ a' c' h',OwnV h h' 3 1 a' n c' ((see l p.toNat t).map vi)→R (vag [vsl a' n c']) h') :
  CallOK Tryz.prog 48 [vag [vsl a n c],vi p,vi t] h R:=by
 refine ok_clock_Clock_See ?_
 unfold VC_clock_Clock_See
 refine sem_clone elInt S.2 (by simp [S.1]) (one_ints l) (by omega) (by omega) fun a' c' h' O=>⟨_,_,_,rfl,?_⟩
 obtain⟨b,o,ea,hc⟩:=O.sli.get (i:=p.toNat) (by omega)
 refine⟨b,o,⟨ea,hp,hp'⟩,_,hc,_,rd_max,b,o,⟨ea,hp,hp'⟩,O.store_i (by omega) ea fun ob O'=>hK _ _ _ O'⟩
theorem clock_Part_ok {a:Option Addr}{n c:Nat}{l:List Int}{p d:Int}{h:Hp}{R:Value→Hp→Prop}(S:SlI h a n l)(hp:0≤p)(hp':p < n)(hr:InR (l.getD p.toNat 0 - d))
  (hK:R (if l.getD p.toNat 0 < 0 then vtup [vi 0,vb false] else vtup [vi (l.getD p.toNat 0 - d),vb true]) h) :
  CallOK Tryz.prog 44 [vag [vsl a n c],vi p,vi d] h R:=by
 refine ok_clock_Clock_Part ?_
 unfold VC_clock_Clock_Part
 obtain⟨b,o,ea,hc⟩:=S.get (i:=p.toNat) (by omega)
 refine⟨b,o,⟨ea,hp,hp'⟩,_,hc,fun e=>?_,fun e=>?_⟩
 ·rw [if_pos (by simpa using e)] at hK;exact hK
 ·rw [if_neg (by simpa using e)] at hK;exact⟨_,isW hr,hK⟩
theorem clock_All_ok {a:Option Addr}{n c:Nat}{l:List Int}{d:Int}{h:Hp}{R:Value→Hp→Prop}(S:SlI h a n l)(hn:n≤1000)(hl:∀ x ∈ l,-1≤x∧x≤9999)(hd:0≤d∧d≤1000)
  (hK:R (vtup [vi (farC d l).1,vb (farC d l).2]) h) :
  CallOK Tryz.prog 27 [vag [vsl a n c],vi d] h R:=by
 refine ok_clock_Clock_All ?_
 unfold VC_clock_Clock_All
 have hlen:=S.1
 refine⟨fun vs hh=>hh=h∧∃(i:Nat) (m:Int),vs=[vi m,vi i]∧i≤n∧(∀ x ∈ l.take i,0≤x)∧m=(if l.take i=[] then 0 else minL (l.take i) - d),fun vs hh=>n - (vint vs 1).toNat,⟨rfl,0,0,rfl,by omega,by simp,by simp⟩,?_⟩
 rintro vs hh ⟨rfl,i,m,rfl,hi,hg,hm⟩
 refine⟨m,i,rfl,fun e=>?_,fun e=>?_⟩
 ·have hlt:i < n:=by simpa using e
  intro J17
  have hx:i < l.length:=by omega
  have hget:l.getD i 0=l[i]:=by rw [List.getD_eq_getElem?_getD,List.getElem?_eq_getElem hx];rfl
  have hb:=hl l[i] (List.getElem_mem hx)
  have tk:l.take (i+1)=l.take i++[l[i]]:=List.take_succ_eq_append_getElem hx
  refine clock_Part_ok S (by omega) (by omega) (by rw [Int.toNat_natCast,hget];unfold InR;omega) ?_
  rw [Int.toNat_natCast,hget]
  by_cases hneg:l[i] < 0
  ·rw [if_pos hneg]
   refine⟨_,_,rfl,fun _=>?_,fun e=>by simp at e⟩
   have:¬ ∀ x ∈ l,0≤x:=fun hall=>by have:=hall _ (List.getElem_mem hx);omega
   unfold farC at hK
   rw [if_neg this] at hK
   exact hK
  ·rw [if_neg hneg]
   have next:∀ m':Int,m'=minL (l.take (i+1)) - d→J17 m' hh:=by
    intro m' hm'
    refine⟨_,isW (by unfold InR;omega),⟨rfl,i+1,m',rfl,by omega,?_,?_⟩,by simp [vint];omega⟩
    ·intro x hx'
     rw [tk] at hx'
     rcases List.mem_append.1 hx' with h1|h1
     ·exact hg x h1
     ·simp at h1;omega
    ·rw [if_neg (by rw [tk];exact List.append_ne_nil_of_right_ne_nil _ (by simp)),hm']
   refine⟨_,_,rfl,fun e=>by simp at e,fun _=>⟨fun e=>next _ ?_,fun e=>next _ ?_⟩⟩
   ·rw [tk]
    by_cases h0:l.take i=[]
    ·rw [h0];simp [minL]
    ·rw [if_neg h0] at hm
     rw [minL_snoc _ _ h0]
     have hi0:i≠0:=fun h=>h0 (by rw [h];rfl)
     simp [Bool.cond_eq_ite,hi0] at e
     rw [Int.min_def]
     split<;>omega
   ·rw [tk]
    by_cases h0:l.take i=[]
    ·have:i=0:=by
      have:=congrArg List.length h0
      rw [List.length_take] at this
      simp only [List.length_nil] at this
      omega
     simp [this] at e
    ·rw [if_neg h0] at hm
     rw [minL_snoc _ _ h0]
     simp [Bool.cond_eq_ite] at e
     rw [Int.min_def]
     split<;>omega
 ·have hge:i=n:=by simp at e;omega
  have ht:l.take i=l:=List.take_of_length_le (by omega)
  rw [ht] at hg hm
  unfold farC at hK
  rw [if_pos hg,←hm] at hK
  exact hK
structure Pn where
 k:PK
 rs:List (List Vl)
 t:Bool
abbrev Rw:=Bool × PK × List Vl
structure En where
 rd:List Nat
 far:List Int
 pn:List Pn
 late:Nat
 rows:List Rw
def putP (k:PK)(v:List Vl):List Pn→List Pn
 | []=>[⟨k,[v],false⟩]
 | p :: l=>if aheadK p.k k then p :: putP k v l else if p.k=k then⟨k,p.rs++[v],p.t⟩ :: l else⟨k,[v],false⟩ :: p :: l
def atP (k:PK)(l:List Pn):Option Pn:=l.find? fun p=>decide (p.k=k)
def chgR (ks:List Int)(k:PK)(v:List Vl):Option Pn→List Rw
 | some p=>if p.t=true∧outV ks p.rs≠outV ks (p.rs++[v]) then [(true,k,outV ks p.rs),(false,k,outV ks (p.rs++[v]))] else []
 | none=>[]
def winE (q:Qy)(far:Int)(e:EvL)(st:En)(s:Int):En:=
 if lateQ q far s then { st with late:=st.late+1 } else
 { st with pn:=putP (s,keyQ q e) (valsQ q e) st.pn,rows:=st.rows++chgR (kindsQ q) (s,keyQ q e) (valsQ q e) (atP (s,keyQ q e) st.pn) }
def dueP (size upto:Int)(p:Pn):Bool:=decide (p.k.1+size≤upto)
def tellP (size upto:Int)(l:List Pn):List Pn:=l.map fun p=>⟨p.k,p.rs,p.t||dueP size upto p⟩
def newP (size upto:Int)(l:List Pn):List Pn:=l.filter fun p=>!p.t&&dueP size upto p
def dropP (size upto:Int)(l:List Pn):List Pn:=l.filter fun p=>!dueP size upto p
def rowPn (ks:List Int)(p:Pn):Rw:=(false,p.k,outV ks p.rs)
def endE (q:Qy)(st:En):En:=
 if (farC q.delay st.far).2 then { st with pn:=dropP q.size ((farC q.delay st.far).1 - q.late) (tellP q.size (farC q.delay st.far).1 st.pn),rows:=st.rows++(newP q.size (farC q.delay st.far).1 st.pn).map (rowPn (kindsQ q)) } else st
def winsE (q:Qy)(far:Int)(e:EvL)(st:En):En:=if asksQ q e then(startsOf e.1 q.size q.slide).foldl (winE q far e) st else st
def seenE (p:Nat)(e:EvL)(st:En):En:={ st with rd:=st.rd.set p (st.rd.getD p 0+1),far:=see st.far p e.1 }
def stepE (q:Qy)(p:Nat)(e:EvL)(st:En):En:=endE q (seenE p e (winsE q (st.far.getD p 0) e st))
def newE (parts:Nat):En:=⟨List.replicate parts 0,List.replicate parts (-1),[],0,[]⟩
theorem putP_keys (k:PK)(v:List Vl):∀ l:List Pn,(putP k v l).map (·.k)=insK k (l.map (·.k))
 | []=>rfl
 | p :: l=>by
  rw [putP,List.map_cons,insK]
  split
  ·rw [List.map_cons,putP_keys k v l]
  ·split
   ·rename_i h;rw [List.map_cons,h]
   ·rfl
theorem putP_mem {k:PK}{v:List Vl}:∀{l:List Pn} {p:Pn},p ∈ putP k v l→p ∈ l∨(p=⟨k,[v],false⟩∧True)∨∃ p0 ∈ l,p0.k=k∧p=⟨k,p0.rs++[v],p0.t⟩
 | [],p,h=>by rw [putP] at h;exact .inr (.inl ⟨List.mem_singleton.1 h,trivial⟩)
 | x :: l,p,h=>by
  rw [putP] at h
  split at h
  ·rcases List.mem_cons.1 h with rfl|h
   ·exact .inl (List.mem_cons_self ..)
   ·rcases putP_mem h with h1|h1|⟨p0,h1,h2⟩
    ·exact .inl (List.mem_cons_of_mem _ h1)
    ·exact .inr (.inl h1)
    ·exact .inr (.inr ⟨p0,List.mem_cons_of_mem _ h1,h2⟩)
  ·split at h
   ·rename_i hk
    rcases List.mem_cons.1 h with rfl|h
    ·exact .inr (.inr ⟨x,List.mem_cons_self ..,hk,rfl⟩)
    ·exact .inl (List.mem_cons_of_mem _ h)
   ·rcases List.mem_cons.1 h with rfl|h
    ·exact .inr (.inl ⟨rfl,trivial⟩)
    ·exact .inl h
def untold (l:List Pn):Nat:=(l.filter fun p=>!p.t).length
theorem putP_len {k:PK}{v:List Vl}:∀ l:List Pn,(putP k v l).length≤l.length+1∧untold (putP k v l)≤untold l+1
 | []=>by simp [putP,untold]
 | p :: l=>by
  obtain⟨h1,h2⟩:=putP_len (k:=k) (v:=v) l
  unfold untold at *
  rw [putP]
  split
  ·rw [List.length_cons,List.length_cons]
   refine⟨by omega,?_⟩
   rw [List.filter_cons,List.filter_cons]
   split
   ·rw [List.length_cons,List.length_cons];omega
   ·omega
  ·split
   ·rw [List.length_cons,List.length_cons]
    refine⟨by omega,?_⟩
    rw [List.filter_cons,List.filter_cons]
    split
    ·rename_i h3
     simp
    ·rename_i h3
     omega
   ·refine⟨by simp,?_⟩
    rw [List.filter_cons]
    simp
theorem chgR_len {ks:List Int}{k:PK}{v:List Vl}{o:Option Pn}:(chgR ks k v o).length≤2:=by
 unfold chgR
 split
 ·split<;>simp
 ·simp
structure EnB (q:Qy)(parts N:Nat)(st:En):Prop where
 rl:st.rd.length=parts
 rb:∀ x ∈ st.rd,x≤N
 fl:st.far.length=parts
 fb:∀ x ∈ st.far,-1≤x∧x≤9999
 ps:st.pn.Pairwise fun a b=>aheadK a.k b.k
 pa:∀ p ∈ st.pn,p.rs.length≤N∧-1000≤p.k.1∧p.k.1≤9999∧∀ r ∈ p.rs,AdOK q (p.k,r)
 pl:st.pn.length≤N
 ll:st.late≤N
 wl:st.rows.length+untold st.pn≤3*N
 wo:∀ w ∈ st.rows,w.2.2.length=q.aggs.length
theorem sortedP_keys {l:List Pn}:(l.Pairwise fun a b=>aheadK a.k b.k)↔(l.map (·.k)).Pairwise aheadK:=by rw [List.pairwise_map]
theorem outV_len' {q:Qy}{k:PK}{rs:List (List Vl)}(h:∀ r ∈ rs,AdOK q (k,r)):(outV (kindsQ q) rs).length=q.aggs.length:=by
 unfold outV
 rw [List.length_map,←kindsQ_len]
 have:=congrArg List.length (accsOf_kinds (ks:=kindsQ q) (rs:=rs) fun r hr=>by rw [(h r hr).l,kindsQ_len])
 rw [List.length_map] at this
 exact this
theorem chgR_len2 {q:Qy}{k:PK}{v:List Vl}{o:Option Pn}(hv:AdOK q (k,v))(ho:∀ p,o=some p→∀ r ∈ p.rs,AdOK q (k,r)):∀ w ∈ chgR (kindsQ q) k v o,w.2.2.length=q.aggs.length:=by
 intro w hw
 unfold chgR at hw
 split at hw
 ·rename_i p
  split at hw
  ·have h1:=ho p rfl
   have h2:∀ r ∈ p.rs++[v],AdOK q (k,r):=fun r hr=>by
    rcases List.mem_append.1 hr with h|h
    ·exact h1 r h
    ·rw [List.mem_singleton.1 h];exact hv
   simp only [List.mem_cons,List.not_mem_nil,or_false] at hw
   rcases hw with rfl|rfl
   ·exact outV_len' h1
   ·exact outV_len' h2
  ·cases hw
 ·cases hw
theorem atP_some {k:PK}{l:List Pn}{p:Pn}(h:atP k l=some p):p ∈ l∧p.k=k:=by
 unfold atP at h
 exact⟨List.mem_of_find?_eq_some h,by have:=List.find?_some h;exact of_decide_eq_true this⟩
theorem atP_mem {l:List Pn}(hs:l.Pairwise fun a b=>aheadK a.k b.k){p:Pn}(hp:p ∈ l):atP p.k l=some p:=by
 induction l with
 | nil=>cases hp
 | cons x l ih=>
  obtain⟨h1,h2⟩:=List.pairwise_cons.1 hs
  unfold atP
  rw [List.find?_cons]
  rcases List.mem_cons.1 hp with rfl|hp
  ·rw [decide_eq_true rfl]
  ·have hne:¬ x.k=p.k:=fun e=>aheadK_irr p.k (by have:=h1 p hp;rw [e] at this;exact this)
   rw [decide_eq_false hne]
   exact ih h2 hp
theorem winE_ok {q:Qy}(B:QOk q){parts N:Nat}{st:En}(H:EnB q parts N st){far:Int}{e:EvL}(E:EvOK e){s:Int}(hs:-1000≤s∧s≤9999):EnB q parts (N+1) (winE q far e st s):=by
 have hv:AdOK q ((s,keyQ q e),valsQ q e):=⟨by simp [valsQ],valsQ_small B E,hs⟩
 unfold winE
 split
 ·exact⟨H.rl,fun x hx=>Nat.le_succ_of_le (H.rb x hx),H.fl,H.fb,H.ps,fun p hp=>⟨Nat.le_succ_of_le (H.pa p hp).1,(H.pa p hp).2⟩,Nat.le_succ_of_le H.pl,by have:=H.ll;simp only;omega,by have:=H.wl;simp only;omega,H.wo⟩
 ·obtain⟨h1,h2⟩:=putP_len (k:=(s,keyQ q e)) (v:=valsQ q e) st.pn
  have h3:=chgR_len (ks:=kindsQ q) (k:=(s,keyQ q e)) (v:=valsQ q e) (o:=atP (s,keyQ q e) st.pn)
  have hpl:=H.pl
  have hwl:=H.wl
  refine⟨H.rl,fun x hx=>Nat.le_succ_of_le (H.rb x hx),H.fl,H.fb,?_,?_,by simp only;omega,by have:=H.ll;simp only;omega,?_,?_⟩
  ·rw [sortedP_keys]
   simp only
   rw [putP_keys]
   exact insK_sorted _ (sortedP_keys.1 H.ps)
  ·intro p hp
   rcases putP_mem hp with h|⟨rfl,_⟩|⟨p0,h,hk,rfl⟩
   ·obtain⟨q1,q2⟩:=H.pa p h
    exact⟨by omega,q2⟩
   ·refine⟨by simp,hs.1,hs.2,fun r hr=>?_⟩
    rw [List.mem_singleton.1 hr];exact hv
   ·obtain⟨q1,q2,q3,q4⟩:=H.pa p0 h
    refine⟨by simp;omega,hs.1,hs.2,fun r hr=>?_⟩
    rcases List.mem_append.1 hr with h5|h5
    ·have:=q4 r h5
     rw [hk] at this
     exact this
    ·rw [List.mem_singleton.1 h5];exact hv
  ·simp only [List.length_append]
   omega
  ·intro w hw
   rcases List.mem_append.1 hw with h|h
   ·exact H.wo w h
   ·refine chgR_len2 hv (fun p hp r hr=>?_) w h
    obtain⟨h5,h6⟩:=atP_some hp
    have:=(H.pa p h5).2.2.2 r hr
    rw [h6] at this
    exact this
theorem winsE_fold {q:Qy}(B:QOk q){parts:Nat}{far:Int}{e:EvL}(E:EvOK e):∀(ss:List Int) {N:Nat} {st:En},EnB q parts N st→(∀ s ∈ ss,-1000≤s∧s≤9999)→EnB q parts (N+ss.length) (ss.foldl (winE q far e) st)
 | [],N,st,H,_=>H
 | s :: ss,N,st,H,hs=>by
  have:=winsE_fold (far:=far) B E ss (winE_ok B H E (far:=far) (hs s (List.mem_cons_self ..))) fun x hx=>hs x (List.mem_cons_of_mem _ hx)
  rw [List.length_cons,List.foldl_cons,show N+(ss.length+1)=N+1+ss.length by omega]
  exact this
theorem EnB.mono {q:Qy}{parts N M:Nat}{st:En}(H:EnB q parts N st)(h:N≤M):EnB q parts M st:=
 ⟨H.rl,fun x hx=>Nat.le_trans (H.rb x hx) h,H.fl,H.fb,H.ps,fun p hp=>⟨Nat.le_trans (H.pa p hp).1 h,(H.pa p hp).2⟩,Nat.le_trans H.pl h,Nat.le_trans H.ll h,by have:=H.wl;omega,H.wo⟩
theorem winsE_ok {q:Qy}(B:QOk q){parts N:Nat}{st:En}(H:EnB q parts N st){far:Int}{e:EvL}(E:EvOK e):EnB q parts (N+1000) (winsE q far e st):=by
 unfold winsE
 split
 ·exact(winsE_fold B E _ H (starts_ok B E)).mono (by have:=starts_many B (e:=e);omega)
 ·exact H.mono (by omega)
theorem winE_same {q:Qy}{far:Int}{e:EvL}{st:En}{s:Int}:(winE q far e st s).rd=st.rd∧(winE q far e st s).far=st.far:=by
 unfold winE;split<;>exact⟨rfl,rfl⟩
theorem winsF_same {q:Qy}{far:Int}{e:EvL}:∀(ss:List Int) (st:En),(ss.foldl (winE q far e) st).rd=st.rd∧(ss.foldl (winE q far e) st).far=st.far
 | [],st=>⟨rfl,rfl⟩
 | s :: ss,st=>by
  have:=winsF_same (q:=q) (far:=far) (e:=e) ss (winE q far e st s)
  rw [winE_same.1,winE_same.2] at this
  exact this
theorem winsE_same {q:Qy}{far:Int}{e:EvL}{st:En}:(winsE q far e st).rd=st.rd∧(winsE q far e st).far=st.far:=by
 unfold winsE;split
 ·exact winsF_same _ _
 ·exact⟨rfl,rfl⟩
theorem seenE_ok {q:Qy}{parts N:Nat}{st:En}(H:EnB q parts N st){p:Nat}(hp:p < parts){e:EvL}(E:EvOK e):EnB q parts (N+1) (seenE p e st):=by
 have H':=H.mono (Nat.le_succ N)
 refine⟨by simp only [seenE,List.length_set];exact H.rl,fun x hx=>?_,by simp only [seenE,see_length];exact H.fl,seeAll _ _ _ H.fb E.t (by rw [H.fl];exact hp),H'.ps,H'.pa,H'.pl,H'.ll,H'.wl,H'.wo⟩
 simp only [seenE] at hx
 rcases List.mem_or_eq_of_mem_set hx with h|h
 ·exact H'.rb x h
 ·have:st.rd.getD p 0 ∈ st.rd:=by rw [List.getD_eq_getElem?_getD,List.getElem?_eq_getElem (by rw [H.rl];exact hp)];exact List.getElem_mem _
  have:=H.rb _ this
  omega
theorem newP_untold (size upto:Int):∀ l:List Pn,(newP size upto l).length+untold (tellP size upto l)≤untold l
 | []=>by simp [newP,untold,tellP]
 | p :: l=>by
  have ih:=newP_untold size upto l
  unfold newP untold tellP at *
  rw [List.map_cons,List.filter_cons,List.filter_cons,List.filter_cons]
  obtain⟨k,rs,t⟩:=p
  simp only
  cases t
  ·cases hd:dueP size upto ⟨k,rs,false⟩<;>simp [hd]<;>omega
  ·cases hd:dueP size upto ⟨k,rs,true⟩<;>simp [hd]<;>omega
theorem endE_ok {q:Qy}{parts N:Nat}{st:En}(H:EnB q parts N st):EnB q parts N (endE q st):=by
 unfold endE
 split
 ·generalize (farC q.delay st.far).1=u
  have hk:(tellP q.size u st.pn).map (·.k)=st.pn.map (·.k):=by unfold tellP;rw [List.map_map];rfl
  have hsub:(dropP q.size (u - q.late) (tellP q.size u st.pn)).Sublist (tellP q.size u st.pn):=List.filter_sublist
  have hlen:(tellP q.size u st.pn).length=st.pn.length:=by unfold tellP;rw [List.length_map]
  have hu:=newP_untold q.size u st.pn
  have hu2:untold (dropP q.size (u - q.late) (tellP q.size u st.pn))≤untold (tellP q.size u st.pn):=(hsub.filter _).length_le
  have hpl:=H.pl
  have hwl:=H.wl
  refine⟨H.rl,H.rb,H.fl,H.fb,?_,?_,?_,H.ll,?_,?_⟩
  ·have:(tellP q.size u st.pn).Pairwise fun a b=>aheadK a.k b.k:=by
    rw [sortedP_keys,hk];exact sortedP_keys.1 H.ps
   exact this.sublist hsub
  ·intro p hp
   have:=hsub.mem hp
   unfold tellP at this
   obtain⟨p0,h0,rfl⟩:=List.mem_map.1 this
   exact H.pa p0 h0
  ·have:=hsub.length_le
   simp only
   omega
  ·simp only [List.length_append,List.length_map]
   omega
  ·intro w hw
   rcases List.mem_append.1 hw with h|h
   ·exact H.wo w h
   ·obtain⟨p,hp,rfl⟩:=List.mem_map.1 h
    exact outV_len' (H.pa p (List.mem_filter.1 hp).1).2.2.2
 ·exact H
theorem stepE_ok {q:Qy}(B:QOk q){parts N:Nat}{st:En}(H:EnB q parts N st){p:Nat}(hp:p < parts){e:EvL}(E:EvOK e):EnB q parts (N+1001) (stepE q p e st):=
 endE_ok (seenE_ok (winsE_ok B H E) hp E)
theorem newE_ok (q:Qy)(parts:Nat):EnB q parts 0 (newE parts):=by
 unfold newE
 exact⟨List.length_replicate ..,fun x hx=>by rw [List.eq_of_mem_replicate hx];exact Nat.le_refl _,List.length_replicate ..,fun x hx=>by rw [List.eq_of_mem_replicate hx];decide,List.Pairwise.nil,fun p hp=>(by cases hp),Nat.le_refl _,Nat.le_refl _,by simp [untold],fun w hw=>(by cases hw)⟩
def VC_fold_constant (u0:Option Addr)(u1 u2:Nat)(h:Hp)(R:Value→Hp→Prop):Prop:=
 (∃ b1 o2,((decide ((u1:Int)=1))=true→(u0=some ⟨b1,o2,none⟩∧(0:Int)≤0∧0 < (u1:Int)))∧(∃ x3,((decide ((u1:Int)=1))=true→Hp.cell h b1 (o2+(0:Int).toNat*6)=some (vi x3))∧(((bif (decide ((u1:Int)=1)) then(decide (x3=1)) else false)=true→(∃ b4 o5,(u0=some ⟨b4,o5,none⟩∧(0:Int)≤0∧0 < (u1:Int))∧(∃ x6 x7,(Hp.row h b4 ((o5+(0:Int).toNat*6)+4) 2=some [vi x6,vi x7])∧R (vtup [vag [vi x6,vi x7],vb true]) h)))∧((bif (decide ((u1:Int)=1)) then(decide (x3=1)) else false)=false→R (vtup [vag [vi 0,vi 0],vb false]) h))))
theorem ok_fold_constant {u0 u1 u2 h R}(H:VC_fold_constant u0 u1 u2 h R):CallOK Tryz.prog 110 [vsl u0 u1 u2] h R:=
 call_of (cfg:=⟨[],[],[]⟩) noNG mixed Tryz.func110 [.one (.v (vsl u0 u1 u2))] (by kernel_rfl) rfl (by kernel_rfl) H
def VC_fold_of (u0:Int)(u1:Int)(h:Hp)(R:Value→Hp→Prop):Prop:=
 (∀ b1,h b1=none→let h2:= Hp.set h b1 (cellsO [vi 1,vi 0,vi 0,vi 0,vi u0,vi u1] 83);R (vsl (some (⟨b1,0,none⟩:Addr)) 1 1) h2)
theorem ok_fold_of {u0 u1 h R}(H:VC_fold_of u0 u1 h R):CallOK Tryz.prog 111 [vag [vi u0,vi u1]] h R:=
 call_of (cfg:=⟨[],[],[]⟩) noNG mixed Tryz.func111 [.ag [.v (vi u0),.v (vi u1)]] (by kernel_rfl) rfl (by kernel_rfl) H
def VC_fold_truths (u0:Option Addr)(u1 u2:Nat)(h:Hp)(R:Value→Hp→Prop):Prop:=
 (CallOK Tryz.prog 119 [vsl u0 u1 u2] h fun v1 h2=>∃ x3 e4,v1=(vtup [vi x3,ifv e4])∧R (vb (bif (Option.isNone e4) then(decide (x3≠1)) else false)) h2)
theorem ok_fold_truths {u0 u1 u2 h R}(H:VC_fold_truths u0 u1 u2 h R):CallOK Tryz.prog 113 [vsl u0 u1 u2] h R:=
 call_of (cfg:=⟨[],[],[]⟩) noNG mixed Tryz.func113 [.one (.v (vsl u0 u1 u2))] (by kernel_rfl) rfl (by kernel_rfl) H
def VC_fold_numbers (u0:Option Addr)(u1 u2:Nat)(h:Hp)(R:Value→Hp→Prop):Prop:=
 (CallOK Tryz.prog 119 [vsl u0 u1 u2] h fun v1 h2=>∃ x3 e4,v1=(vtup [vi x3,ifv e4])∧R (vb (bif (Option.isNone e4) then(decide (x3≠2)) else false)) h2)
theorem ok_fold_numbers {u0 u1 u2 h R}(H:VC_fold_numbers u0 u1 u2 h R):CallOK Tryz.prog 115 [vsl u0 u1 u2] h R:=
 call_of (cfg:=⟨[],[],[]⟩) noNG mixed Tryz.func115 [.one (.v (vsl u0 u1 u2))] (by kernel_rfl) rfl (by kernel_rfl) H
def VC_fold_single (u0:Int)(u1:Option Addr)(u2 u3:Nat)(h:Hp)(R:Value→Hp→Prop):Prop:=
 (CallOK Tryz.prog 110 [vsl u1 u2 u3] h fun v1 h2=>∃ x3 x4 p5,v1=(vtup [vag [vi x3,vi x4],vb p5])∧((p5=true→(CallOK Tryz.prog 111 [vag [vi x3,vi x4]] h2 fun v6 h7=>∃ a8 n8 c8,v6=(vsl a8 n8 c8)∧(CallOK Tryz.prog 112 [vi u0,vsl a8 n8 c8,vsl none 0 0] h7 fun v9 h10=>∃ a11 n11 c11,v9=(vsl a11 n11 c11)∧(CallOK Tryz.prog 45 [vsl a11 n11 c11,vag [vi 0,vi 0,vi 0,vi 0,vi 0,vi 0,vi 0]] h10 fun v12 h13=>∃ x14 x15,v12=(vag [vi x14,vi x15])∧(CallOK Tryz.prog 111 [vag [vi x14,vi x15]] h13 fun v16 h17=>∃ a18 n18 c18,v16=(vsl a18 n18 c18)∧R (vsl a18 n18 c18) h17)))))∧(p5=false→(∃ x20,(IsW x20 ((u2:Int) - 1))∧(∃ b21 o22,(u1=some ⟨b21,o22,none⟩∧(0:Int)≤x20∧x20 < (u2:Int))∧(∃ x23 x24 x25 x26 x27 x28,(Hp.row h2 b21 (o22+x20.toNat*6) 6=some [vi x23,vi x24,vi x25,vi x26,vi x27,vi x28])∧(∃(J29:SV→Hp→Prop),((bif (decide (u0=4)) then(decide (x23=4)) else false)=true→(CallOK Tryz.prog 114 [vsl u1 u2 u3,vi x24] h2 fun v30 h31=>∃ a32 n32 c32,v30=(vsl a32 n32 c32)∧J29 (.t (.one (.v (vsl a32 n32 c32)))) h31))∧(¬((bif (decide (u0=4)) then(decide (x23=4)) else false)=true)→J29 (.t (.one (.v (vsl none 0 0)))) h2)∧∀ h33 a34 n34 c34,J29 (.t (.one (.v (vsl a34 n34 c34)))) h33→(∃(J35:SV→Hp→Prop),((bif (decide (u0=4)) then(decide (x23=4)) else false)=true→(CallOK Tryz.prog 113 [vsl a34 n34 c34] h33 fun v36 h37=>∃ p38,v36=(vb p38)∧J35 (.t (.one (.v (vb p38)))) h37))∧(¬((bif (decide (u0=4)) then(decide (x23=4)) else false)=true)→J35 (.t (.one (.v (vb false)))) h33)∧∀ h39 p40,J35 (.t (.one (.v (vb p40)))) h39→(let J55:Bool→Hp→Prop:=fun p57 h58=>((p57=true→(CallOK Tryz.prog 114 [vsl u1 u2 u3,vi x24] h58 fun v59 h60=>∃ a61 n61 c61,v59=(vsl a61 n61 c61)∧R (vsl a61 n61 c61) h60))∧(p57=false→(CallOK Tryz.prog 112 [vi u0,vsl u1 u2 u3,vsl none 0 0] h58 fun v63 h64=>∃ a65 n65 c65,v63=(vsl a65 n65 c65)∧R (vsl a65 n65 c65) h64)));(((bif (bif (decide (u0=4)) then(decide (x23=4)) else false) then p40 else false)=true→(J55 (bif (bif (decide (u0=4)) then(decide (x23=4)) else false) then p40 else false) h39))∧((bif (bif (decide (u0=4)) then(decide (x23=4)) else false) then p40 else false)=false→(∃(J42:SV→Hp→Prop),((bif (decide (u0=3)) then(decide (x23=3)) else false)=true→(CallOK Tryz.prog 114 [vsl u1 u2 u3,vi x24] h39 fun v43 h44=>∃ a45 n45 c45,v43=(vsl a45 n45 c45)∧J42 (.t (.one (.v (vsl a45 n45 c45)))) h44))∧(¬((bif (decide (u0=3)) then(decide (x23=3)) else false)=true)→J42 (.t (.one (.v (vsl none 0 0)))) h39)∧∀ h46 a47 n47 c47,J42 (.t (.one (.v (vsl a47 n47 c47)))) h46→(∃(J48:SV→Hp→Prop),((bif (decide (u0=3)) then(decide (x23=3)) else false)=true→(CallOK Tryz.prog 115 [vsl a47 n47 c47] h46 fun v49 h50=>∃ p51,v49=(vb p51)∧J48 (.t (.one (.v (vb p51)))) h50))∧(¬((bif (decide (u0=3)) then(decide (x23=3)) else false)=true)→J48 (.t (.one (.v (vb false)))) h46)∧∀ h52 p53,J48 (.t (.one (.v (vb p53)))) h52→(J55 (bif (bif (decide (u0=3)) then(decide (x23=3)) else false) then p53 else false) h52))))))))))))))
theorem ok_fold_single {u0 u1 u2 u3 h R}(H:VC_fold_single u0 u1 u2 u3 h R):CallOK Tryz.prog 65 [vi u0,vsl u1 u2 u3] h R:=
 call_of (cfg:=⟨[],[],[]⟩) noNG mixed Tryz.func65 [.one (.v (vi u0)),.one (.v (vsl u1 u2 u3))] (by kernel_rfl) rfl (by kernel_rfl) H
def VC_fold_beside (u0:Int)(u1:Option Addr)(u2 u3:Nat)(u4:Int)(u5:Int)(u6:Bool)(h:Hp)(R:Value→Hp→Prop):Prop:=
 (∃(J1:SV→Hp→Prop),((decide (u0=9))=true→(CallOK Tryz.prog 32 [vb true] h fun v2 h3=>∃ x4 x5,v2=(vag [vi x4,vi x5])∧J1 (.t (.ag [.v (vi x4),.v (vi x5)])) h3))∧(¬((decide (u0=9))=true)→J1 (.t (.ag [.v (vi 0),.v (vi 0)])) h)∧∀ h6 x7 x8,J1 (.t (.ag [.v (vi x7),.v (vi x8)])) h6→(∃ p9,((decide (u0=9))=true→Rd Tryz.prog ((eqGuard .eql 41 (.tmp 14) (.tmp 15) (vag [vi u4,vi u5]) (vag [vi x7,vi x8]) >>= fun _=>binOp .eql 41 (vag [vi u4,vi u5]) (vag [vi x7,vi x8]))) h6 (vb p9))∧(∃(J10:SV→Hp→Prop),(((bif (decide (u0=9)) then p9 else false)=false∧(decide (u0=10))=true)→(CallOK Tryz.prog 32 [vb false] h6 fun v11 h12=>∃ x13 x14,v11=(vag [vi x13,vi x14])∧J10 (.t (.ag [.v (vi x13),.v (vi x14)])) h12))∧(¬((bif (decide (u0=9)) then p9 else false)=false∧(decide (u0=10))=true)→J10 (.t (.ag [.v (vi 0),.v (vi 0)])) h6)∧∀ h15 x16 x17,J10 (.t (.ag [.v (vi x16),.v (vi x17)])) h15→(∃ p18,(((bif (decide (u0=9)) then p9 else false)=false∧(decide (u0=10))=true)→Rd Tryz.prog ((eqGuard .eql 41 (.tmp 22) (.tmp 23) (vag [vi u4,vi u5]) (vag [vi x16,vi x17]) >>= fun _=>binOp .eql 41 (vag [vi u4,vi u5]) (vag [vi x16,vi x17]))) h15 (vb p18))∧(∃(J19:SV→Hp→Prop),((bif (bif (decide (u0=9)) then p9 else false) then true else(bif (decide (u0=10)) then p18 else false))=true→(CallOK Tryz.prog 113 [vsl u1 u2 u3] h15 fun v20 h21=>∃ p22,v20=(vb p22)∧J19 (.t (.one (.v (vb p22)))) h21))∧(¬((bif (bif (decide (u0=9)) then p9 else false) then true else(bif (decide (u0=10)) then p18 else false))=true)→J19 (.t (.one (.v (vb false)))) h15)∧∀ h23 p24,J19 (.t (.one (.v (vb p24)))) h23→(((bif (bif (bif (decide (u0=9)) then p9 else false) then true else(bif (decide (u0=10)) then p18 else false)) then p24 else false)=true→R (vtup [vsl u1 u2 u3,vb true]) h23)∧((bif (bif (bif (decide (u0=9)) then p9 else false) then true else(bif (decide (u0=10)) then p18 else false)) then p24 else false)=false→(∃(J25:SV→Hp→Prop),((decide (u0=9))=true→(CallOK Tryz.prog 32 [vb false] h23 fun v26 h27=>∃ x28 x29,v26=(vag [vi x28,vi x29])∧J25 (.t (.ag [.v (vi x28),.v (vi x29)])) h27))∧(¬((decide (u0=9))=true)→J25 (.t (.ag [.v (vi 0),.v (vi 0)])) h23)∧∀ h30 x31 x32,J25 (.t (.ag [.v (vi x31),.v (vi x32)])) h30→(∃ p33,((decide (u0=9))=true→Rd Tryz.prog ((eqGuard .eql 41 (.tmp 36) (.tmp 37) (vag [vi u4,vi u5]) (vag [vi x31,vi x32]) >>= fun _=>binOp .eql 41 (vag [vi u4,vi u5]) (vag [vi x31,vi x32]))) h30 (vb p33))∧(let J45:Bool→Hp→Prop:=fun p47 h48=>((p47=true→(CallOK Tryz.prog 111 [vag [vi u4,vi u5]] h48 fun v49 h50=>∃ a51 n51 c51,v49=(vsl a51 n51 c51)∧R (vtup [vsl a51 n51 c51,vb true]) h50))∧(p47=false→(∃(J52:SV→Hp→Prop),((decide (u0=6))=true→(CallOK Tryz.prog 142 [vi 0] h48 fun v53 h54=>∃ x55 x56,v53=(vag [vi x55,vi x56])∧J52 (.t (.ag [.v (vi x55),.v (vi x56)])) h54))∧(¬((decide (u0=6))=true)→J52 (.t (.ag [.v (vi 0),.v (vi 0)])) h48)∧∀ h57 x58 x59,J52 (.t (.ag [.v (vi x58),.v (vi x59)])) h57→(∃ p60,((decide (u0=6))=true→Rd Tryz.prog ((eqGuard .eql 41 (.tmp 53) (.tmp 54) (vag [vi u4,vi u5]) (vag [vi x58,vi x59]) >>= fun _=>binOp .eql 41 (vag [vi u4,vi u5]) (vag [vi x58,vi x59]))) h57 (vb p60))∧(∃(J61:SV→Hp→Prop),(((bif (decide (u0=6)) then p60 else false)=false∧(decide (u0=8))=true)→(CallOK Tryz.prog 142 [vi 1] h57 fun v62 h63=>∃ x64 x65,v62=(vag [vi x64,vi x65])∧J61 (.t (.ag [.v (vi x64),.v (vi x65)])) h63))∧(¬((bif (decide (u0=6)) then p60 else false)=false∧(decide (u0=8))=true)→J61 (.t (.ag [.v (vi 0),.v (vi 0)])) h57)∧∀ h66 x67 x68,J61 (.t (.ag [.v (vi x67),.v (vi x68)])) h66→(∃ p69,(((bif (decide (u0=6)) then p60 else false)=false∧(decide (u0=8))=true)→Rd Tryz.prog ((eqGuard .eql 41 (.tmp 61) (.tmp 62) (vag [vi u4,vi u5]) (vag [vi x67,vi x68]) >>= fun _=>binOp .eql 41 (vag [vi u4,vi u5]) (vag [vi x67,vi x68]))) h66 (vb p69))∧(∃(J70:SV→Hp→Prop),(((bif (bif (decide (u0=6)) then p60 else false) then true else(bif (decide (u0=8)) then p69 else false))=false∧(bif (decide (u0=7)) then u6 else false)=true)→(CallOK Tryz.prog 142 [vi 0] h66 fun v71 h72=>∃ x73 x74,v71=(vag [vi x73,vi x74])∧J70 (.t (.ag [.v (vi x73),.v (vi x74)])) h72))∧(¬((bif (bif (decide (u0=6)) then p60 else false) then true else(bif (decide (u0=8)) then p69 else false))=false∧(bif (decide (u0=7)) then u6 else false)=true)→J70 (.t (.ag [.v (vi 0),.v (vi 0)])) h66)∧∀ h75 x76 x77,J70 (.t (.ag [.v (vi x76),.v (vi x77)])) h75→(∃ p78,(((bif (bif (decide (u0=6)) then p60 else false) then true else(bif (decide (u0=8)) then p69 else false))=false∧(bif (decide (u0=7)) then u6 else false)=true)→Rd Tryz.prog ((eqGuard .eql 41 (.tmp 73) (.tmp 74) (vag [vi u4,vi u5]) (vag [vi x76,vi x77]) >>= fun _=>binOp .eql 41 (vag [vi u4,vi u5]) (vag [vi x76,vi x77]))) h75 (vb p78))∧(∃(J79:SV→Hp→Prop),((bif (bif (bif (decide (u0=6)) then p60 else false) then true else(bif (decide (u0=8)) then p69 else false)) then true else(bif (bif (decide (u0=7)) then u6 else false) then p78 else false))=true→(CallOK Tryz.prog 115 [vsl u1 u2 u3] h75 fun v80 h81=>∃ p82,v80=(vb p82)∧J79 (.t (.one (.v (vb p82)))) h81))∧(¬((bif (bif (bif (decide (u0=6)) then p60 else false) then true else(bif (decide (u0=8)) then p69 else false)) then true else(bif (bif (decide (u0=7)) then u6 else false) then p78 else false))=true)→J79 (.t (.one (.v (vb false)))) h75)∧∀ h83 p84,J79 (.t (.one (.v (vb p84)))) h83→(((bif (bif (bif (bif (decide (u0=6)) then p60 else false) then true else(bif (decide (u0=8)) then p69 else false)) then true else(bif (bif (decide (u0=7)) then u6 else false) then p78 else false)) then p84 else false)=true→R (vtup [vsl u1 u2 u3,vb true]) h83)∧((bif (bif (bif (bif (decide (u0=6)) then p60 else false) then true else(bif (decide (u0=8)) then p69 else false)) then true else(bif (bif (decide (u0=7)) then u6 else false) then p78 else false)) then p84 else false)=false→(((bif (bif (decide (u0≠9)) then(decide (u0≠10)) else false) then(decide (u4=0)) else false)=true→(CallOK Tryz.prog 111 [vag [vi u4,vi u5]] h83 fun v85 h86=>∃ a87 n87 c87,v85=(vsl a87 n87 c87)∧R (vtup [vsl a87 n87 c87,vb true]) h86))∧((bif (bif (decide (u0≠9)) then(decide (u0≠10)) else false) then(decide (u4=0)) else false)=false→R (vtup [vsl none 0 0,vb false]) h83)))))))))))));(((bif (decide (u0=9)) then p33 else false)=true→(J45 (bif (decide (u0=9)) then p33 else false) h30))∧((bif (decide (u0=9)) then p33 else false)=false→(∃(J35:SV→Hp→Prop),((decide (u0=10))=true→(CallOK Tryz.prog 32 [vb true] h30 fun v36 h37=>∃ x38 x39,v36=(vag [vi x38,vi x39])∧J35 (.t (.ag [.v (vi x38),.v (vi x39)])) h37))∧(¬((decide (u0=10))=true)→J35 (.t (.ag [.v (vi 0),.v (vi 0)])) h30)∧∀ h40 x41 x42,J35 (.t (.ag [.v (vi x41),.v (vi x42)])) h40→(∃ p43,((decide (u0=10))=true→Rd Tryz.prog ((eqGuard .eql 41 (.tmp 43) (.tmp 44) (vag [vi u4,vi u5]) (vag [vi x41,vi x42]) >>= fun _=>binOp .eql 41 (vag [vi u4,vi u5]) (vag [vi x41,vi x42]))) h40 (vb p43))∧(J45 (bif (decide (u0=10)) then p43 else false) h40)))))))))))))))
theorem ok_fold_beside {u0 u1 u2 u3 u4 u5 u6 h R}(H:VC_fold_beside u0 u1 u2 u3 u4 u5 u6 h R):CallOK Tryz.prog 116 [vi u0,vsl u1 u2 u3,vag [vi u4,vi u5],vb u6] h R:=
 call_of (cfg:=⟨[],[],[(1,[0,1,2,3,4,5,6,7,8,9,10,11,12,13,14,15,16,17,18,19,20]),(3,[0,1,2,3,4,5,6,7]),(4,[0,1,2,3,4,5,6,7]),(6,[0,1,2,3,4,5,6,7,8,9,10,11,12,13,14,15,16,17,18,19,20,21,22,23,24,25,26,27,28,29,30,31,32])]⟩) noNG mixed Tryz.func116 [.one (.v (vi u0)),.one (.v (vsl u1 u2 u3)),.ag [.v (vi u4),.v (vi u5)],.one (.v (vb u6))] (by kernel_rfl) rfl (by kernel_rfl) H
def VC_fold_double (u0:Int)(u1:Option Addr)(u2 u3:Nat)(u4:Option Addr)(u5 u6:Nat)(h:Hp)(R:Value→Hp→Prop):Prop:=
 (CallOK Tryz.prog 110 [vsl u1 u2 u3] h fun v1 h2=>∃ x3 x4 p5,v1=(vtup [vag [vi x3,vi x4],vb p5])∧(CallOK Tryz.prog 110 [vsl u4 u5 u6] h2 fun v6 h7=>∃ x8 x9 p10,v6=(vtup [vag [vi x8,vi x9],vb p10])∧(((bif p5 then p10 else false)=true→(CallOK Tryz.prog 97 [vi u0,vag [vi x3,vi x4],vag [vi x8,vi x9]] h7 fun v11 h12=>∃ x13 x14,v11=(vag [vi x13,vi x14])∧(CallOK Tryz.prog 111 [vag [vi x13,vi x14]] h12 fun v15 h16=>∃ a17 n17 c17,v15=(vsl a17 n17 c17)∧R (vsl a17 n17 c17) h16)))∧((bif p5 then p10 else false)=false→(let J25:Hp→Prop:=fun h26=>(let J33:Hp→Prop:=fun h34=>(CallOK Tryz.prog 112 [vi u0,vsl u1 u2 u3,vsl u4 u5 u6] h34 fun v35 h36=>∃ a37 n37 c37,v35=(vsl a37 n37 c37)∧R (vsl a37 n37 c37) h36);((p10=true→(CallOK Tryz.prog 116 [vi u0,vsl u1 u2 u3,vag [vi x8,vi x9],vb true] h26 fun v27 h28=>∃ a29 n29 c29 p30,v27=(vtup [vsl a29 n29 c29,vb p30])∧((p30=true→R (vsl a29 n29 c29) h28)∧(p30=false→(J33 h28)))))∧(p10=false→(J33 h26))));((p5=true→(CallOK Tryz.prog 116 [vi u0,vsl u4 u5 u6,vag [vi x3,vi x4],vb false] h7 fun v19 h20=>∃ a21 n21 c21 p22,v19=(vtup [vsl a21 n21 c21,vb p22])∧((p22=true→R (vsl a21 n21 c21) h20)∧(p22=false→(J25 h20)))))∧(p5=false→(J25 h7))))))))
theorem ok_fold_double {u0 u1 u2 u3 u4 u5 u6 h R}(H:VC_fold_double u0 u1 u2 u3 u4 u5 u6 h R):CallOK Tryz.prog 66 [vi u0,vsl u1 u2 u3,vsl u4 u5 u6] h R:=
 call_of (cfg:=⟨[],[],[]⟩) noNG mixed Tryz.func66 [.one (.v (vi u0)),.one (.v (vsl u1 u2 u3)),.one (.v (vsl u4 u5 u6))] (by kernel_rfl) rfl (by kernel_rfl) H
def VC_fold_Fold (u0:Option Addr)(u1 u2:Nat)(h:Hp)(R:Value→Hp→Prop):Prop:=
 (∃(I2:List Value→Hp→Prop) (m3:List Value→Hp→Nat),I2 [vsl none 0 0,vi 0] h∧∀ vs4 h5,I2 vs4 h5→∃ a6 n6 c6 x7,vs4=[vsl a6 n6 c6,vi x7]∧(((decide (x7 < (u1:Int)))=true→(∃ b10 o11,(u0=some ⟨b10,o11,none⟩∧(0:Int)≤x7∧x7 < (u1:Int))∧(∃ x12 x13 x14 x15 x16 x17,(Hp.row h5 b10 (o11+x7.toNat*6) 6=some [vi x12,vi x13,vi x14,vi x15,vi x16,vi x17])∧(CallOK Tryz.prog 64 [vi x12] h5 fun v18 h19=>∃ x20,v18=(vi x20)∧(∃ x21,(IsW x21 ((n6:Int) - x20))∧(∃ a22 n22 c22,(Rd Tryz.prog (Instr.sliceAt 129 (vsl a6 n6 c6) (some (vi x21)) none none) h19 (vsl a22 n22 c22))∧(let J43:Option Addr→Nat→Nat→Hp→Prop:=fun a46 n46 c46 h47=>(∃ a48 n48 c48,(Rd Tryz.prog (Instr.sliceAt 129 (vsl a6 n6 c6) none (some (vi x21)) (some (vi x21))) h47 (vsl a48 n48 c48))∧(∀ b49,h47 b49=none→let h50:= Hp.set h47 b49 (cellsO [vsl a46 n46 c46] 26);(SemOK Tryz.prog (Builtin.append_ #[129,129] 129 #[vsl a48 n48 c48,(vsl (some (⟨b49,0,none⟩:Addr)) 1 1)]) h50 fun v51 h52=>∃ a53 n53 c53,v51=(vsl a53 n53 c53)∧(∃ x55,(IsW x55 (x7+1))∧(I2 [vsl a53 n53 c53,vi x55] h52∧m3 [vsl a53 n53 c53,vi x55] h52 < m3 vs4 h5)))));(((decide ((n22:Int)=0))=true→(∀ b23,h19 b23=none→let h24:= Hp.set h19 b23 (cellsO [vi x12,vi x13,vi x14,vi x15,vi x16,vi x17] 83);(J43 (some (⟨b23,0,none⟩:Addr)) 1 1 h24)))∧((decide ((n22:Int)=0))=false→(((decide ((n22:Int)=1))=true→(∃ b26 o27,(a22=some ⟨b26,o27,none⟩∧(0:Int)≤0∧0 < (n22:Int))∧(∃ a28 n28 c28,(Hp.cell h19 b26 (o27+(0:Int).toNat*1)=some (vsl a28 n28 c28))∧(CallOK Tryz.prog 65 [vi x12,vsl a28 n28 c28] h19 fun v29 h30=>∃ a31 n31 c31,v29=(vsl a31 n31 c31)∧(J43 a31 n31 c31 h30)))))∧((decide ((n22:Int)=1))=false→(∃ b33 o34,(a22=some ⟨b33,o34,none⟩∧(0:Int)≤0∧0 < (n22:Int))∧(∃ a35 n35 c35,(Hp.cell h19 b33 (o34+(0:Int).toNat*1)=some (vsl a35 n35 c35))∧(∃ b36 o37,(a22=some ⟨b36,o37,none⟩∧(0:Int)≤1∧1 < (n22:Int))∧(∃ a38 n38 c38,(Hp.cell h19 b36 (o37+(1:Int).toNat*1)=some (vsl a38 n38 c38))∧(CallOK Tryz.prog 66 [vi x12,vsl a35 n35 c35,vsl a38 n38 c38] h19 fun v39 h40=>∃ a41 n41 c41,v39=(vsl a41 n41 c41)∧(J43 a41 n41 c41 h40)))))))))))))))))∧((decide (x7 < (u1:Int)))=false→(∃ b56 o57,(a6=some ⟨b56,o57,none⟩∧(0:Int)≤0∧0 < (n6:Int))∧(∃ a58 n58 c58,(Hp.cell h5 b56 (o57+(0:Int).toNat*1)=some (vsl a58 n58 c58))∧R (vsl a58 n58 c58) h5)))))
theorem ok_fold_Fold {u0 u1 u2 h R}(H:VC_fold_Fold u0 u1 u2 h R):CallOK Tryz.prog 31 [vsl u0 u1 u2] h R:=
 call_of (cfg:=⟨[],[(3,([3,11],[.one (.slice),.one (.int .i64)],[]))],[(13,[0,1,2,3,4,5,6]),(9,[0,1,2,3,4,5,6,7,8,9])]⟩) noNG mixed Tryz.func31 [.one (.v (vsl u0 u1 u2))] (by kernel_rfl) rfl (by kernel_rfl) H
theorem fAt_join {β:Type}{d:β}{F:Nd→β→β→β}(hF:Own2 F)(hS:∀(k:Int) n a b,F (shN k n) a b=F n a b){op:Int}(ho:1≤arI op){l m:List Nd}(W:WfL l)(W':WfL m)(hl:0 < l.length)(hm:2≤arI op→0 < m.length) :
  ∃ y,fAt d F (joinL op l m) (l.length+m.length)=F ⟨op,(l.length:Int) - 1,y,0,(0,0)⟩ (fAt d F l (l.length - 1)) (if arI op=2 then fAt d F m (m.length - 1) else fAt d F l (l.length - 1)):=by
 have ha:=ar0 (op:=op) (by omega)
 have WJ:=WfL.join (op:=op) (by omega) W W' hl hm (by omega)
 have hj:(joinL op l m)[l.length+m.length]?=some ⟨op,(l.length:Int) - 1,if 1 < arI op then((l.length+m.length:Nat):Int) - 1 else 0,0,(0,0)⟩:=by
  unfold joinL
  rw [List.getElem?_append_right (by simp)]
  simp
 refine⟨if 1 < arI op then((l.length+m.length:Nat):Int) - 1 else 0,(fAt_wf hF hj (WJ _ _ hj)).trans ?_⟩
 refine hF _ _ _ _ _ (by simp only;omega) (fun _=>?_) fun h2=>?_
 ·simp only
  rw [show ((l.length:Int) - 1).toNat=l.length - 1 by omega]
  unfold joinL
  rw [List.append_assoc]
  exact fAt_pre _ _ (by omega)
 ·simp only at h2 ⊢
  have h2':arI op=2:=by rcases arI_range (op:=op) (by omega) with q|q|q<;>omega
  rw [if_pos (by omega:1 < arI op),if_pos h2']
  have:=hm h2
  rw [show (((l.length+m.length:Nat):Int) - 1).toNat=l.length+(m.length - 1) by omega]
  exact fAt_sh hF hS W' l _ _ (by omega)
theorem okE_nil_wf:WfL ([]:List Nd):=by intro i n hn;cases hn
theorem Rep.pos {P:EvL→Int × Int}{T:Option Int}{k:Nat}{z:List Nd}(R:Rep P T k z):0 < z.length:=R.ok.pos
theorem tyG_some2 {op:Int}{a b:Option Int}{t:Int}(h:tyG op a b=some t):∃ x y,a=some x∧b=some y:=by
 cases a with
 | none=>cases b<;>cases h
 | some x=>
  cases b with
  | none=>cases h
  | some y=>exact⟨x,y,rfl,rfl⟩
theorem tyG_less {op x y x' y' t:Int}(h:tyG op (some x) (some y)=some t)(hx:x'=0∨x'=x)(hy:y'=0∨y'=y):tyG op (some x') (some y')=some t:=by
 unfold tyG at h ⊢
 simp only at h ⊢
 split at h
 ·rename_i h1;rw [if_pos h1];exact h
 ·rename_i h1
  rw [if_neg h1]
  split at h
  ·cases h
  ·rename_i h2
   rw [if_neg (by omega)]
   exact h
theorem Rep.join2 {P Q:EvL→Int × Int}{T U:Option Int}{k j:Nat}{x y:List Nd}{op:Int}(ho:arI op=2)(A:Rep P T k x)(B:Rep Q U j y):Rep (fun e=>opV op (P e) (Q e)) (tyG op T U) (k+j+1) (joinL op x y):=by
 have ar:=ar0 (op:=op) (by omega)
 have hp:=A.pos
 have hq:=B.pos
 have hA:=A.len
 have hB:=B.len
 refine⟨chkGo_okE (joinL_chk2 ho A.ok B.ok),by rw [joinL_length];omega,fun e E=>?_,fun t ht=>?_⟩
 ·rw [valE_join2 e ho A.ok.wf B.ok.wf hp hq,A.val e E,B.val e E]
  unfold opV
  rw [if_neg (by omega),if_neg (by omega),if_neg (by omega)]
 ·obtain⟨tx,ty,rfl,rfl⟩:=tyG_some2 ht
  obtain⟨tx',e1,h1⟩:=A.ty tx rfl
  obtain⟨ty',e2,h2⟩:=B.ty ty rfl
  obtain⟨y',hy⟩:=fAt_join (d:=none) (F:=tyF) own_tyF (fun _ _ _ _=>rfl) (op:=op) (by omega) A.ok.wf B.ok.wf hp (fun _=>hq)
  rw [joinL_length,show x.length+y.length+1 - 1=x.length+y.length by omega]
  refine⟨t,?_,.inr rfl⟩
  rw [tAt,hy,tyF_op (by simp only;omega) (by simp only;omega)]
  simp only
  rw [if_pos ho,if_pos ho,show fAt none tyF x (x.length - 1)=some tx' from e1,show fAt none tyF y (y.length - 1)=some ty' from e2]
  exact tyG_less ht h1 h2
theorem Rep.join1 {P:EvL→Int × Int}{T:Option Int}{k:Nat}{x:List Nd}{op:Int}(ho:arI op=1)(A:Rep P T k x):Rep (fun e=>opV op (P e) (P e)) (tyG op T T) (k+1) (joinL op x []):=by
 have ar:=ar0 (op:=op) (by omega)
 have hp:=A.pos
 have hA:=A.len
 refine⟨chkGo_okE (joinL_chk1 ho A.ok),by rw [joinL_length];simp;omega,fun e E=>?_,fun t ht=>?_⟩
 ·obtain⟨y',hy⟩:=fAt_join (d:=(0,0)) (F:=stepF e) (own_stepF e) (stepF_sh e) (op:=op) (by omega) A.ok.wf okE_nil_wf hp (fun h=>by omega)
  unfold valE
  rw [joinL_length,show x.length+([]:List Nd).length+1 - 1=x.length+([]:List Nd).length by omega,vAt,hy,stepF_op e (by simp only;omega) (by simp only;omega),if_neg (by omega)]
  have:=A.val e E
  unfold valE vAt at this
  rw [this]
 ·obtain⟨tx,ty,rfl,h2⟩:=tyG_some2 ht
  obtain⟨tx',e1,h1⟩:=A.ty tx rfl
  obtain⟨y',hy⟩:=fAt_join (d:=none) (F:=tyF) own_tyF (fun _ _ _ _=>rfl) (op:=op) (by omega) A.ok.wf okE_nil_wf hp (fun h=>by omega)
  rw [joinL_length,show x.length+([]:List Nd).length+1 - 1=x.length+([]:List Nd).length by omega]
  refine⟨t,?_,.inr rfl⟩
  rw [tAt,hy,tyF_op (by simp only;omega) (by simp only;omega)]
  simp only
  rw [show fAt none tyF x (x.length - 1)=some tx' from e1]
  simp only [ho,show ¬(1:Int)=2 by decide,if_false]
  exact tyG_less ht h1 h1
theorem notV_notV {v:Int × Int}(h:goodV v)(h1:v.1≠1):notV (notV v)=v:=by
 obtain⟨a,b⟩:=v
 have:(a=0∧b=0)∨(a=2∧b=0)∨(a=2∧b=1):=by
  unfold goodV at h
  simp only at h h1
  omega
 rcases this with ⟨rfl,rfl⟩|⟨rfl,rfl⟩|⟨rfl,rfl⟩<;>decide
theorem num_in {n:Int}(h:-1000000000≤n∧n≤1000000000):numV (w64 n)=(1,n):=by
 rw [w64_in (by unfold InR;omega)]
 unfold numV
 rw [if_neg (by omega)]
theorem neg_neg {v:Int × Int}(h:goodV v)(h1:v.1≠2):negV (negV v)=v:=by
 obtain⟨a,b⟩:=v
 have:(a=0∧b=0)∨(a=1∧-1000000000≤b∧b≤1000000000):=by
  unfold goodV at h
  simp only at h h1
  omega
 rcases this with ⟨rfl,rfl⟩|⟨rfl,hb⟩
 ·decide
 ·have e1:negV (1,b)=(1,-b):=by
   unfold negV
   rw [if_pos rfl]
   exact num_in (by simp only;omega)
  rw [e1]
  unfold negV
  rw [if_pos rfl]
  have:=num_in (n:=- -b) (by omega)
  simp only
  rw [this]
  simp
theorem tri3 {v:Int × Int}(h:goodV v)(h1:v.1≠1):v=(0,0)∨v=(2,0)∨v=(2,1):=by
 obtain⟨a,b⟩:=v
 unfold goodV at h
 simp only [Prod.mk.injEq] at *
 omega
theorem and_yes {v:Int × Int}(h:goodV v)(h1:v.1≠1):doV 9 v (2,1)=v∧doV 9 (2,1) v=v:=by
 rcases tri3 h h1 with rfl|rfl|rfl<;>decide
theorem or_no {v:Int × Int}(h:goodV v)(h1:v.1≠1):doV 10 v (2,0)=v∧doV 10 (2,0) v=v:=by
 rcases tri3 h h1 with rfl|rfl|rfl<;>decide
theorem and_no (v:Int × Int):doV 9 v (2,0)=(2,0)∧doV 9 (2,0) v=(2,0):=by
 unfold doV andV
 simp
theorem or_yes10 (a b:Int × Int):doV 10 a b=notV (andV (notV a) (notV b)):=by
 unfold doV
 rw [if_neg (by decide),if_pos rfl]
theorem or_yes (v:Int × Int):doV 10 v (2,1)=(2,1)∧doV 10 (2,1) v=(2,1):=by
 rw [or_yes10,or_yes10]
 have e:notV (2,1)=(2,0):=by decide
 rw [e]
 unfold andV
 constructor
 ·rw [if_pos (.inr rfl)];decide
 ·rw [if_pos (.inl rfl)];decide
theorem doV_num {op:Int}(h9:op≠9)(h10:op≠10){a b:Int × Int}(h:a.1=0∨b.1=0):doV op a b=(0,0):=by
 unfold doV
 rw [if_neg h9,if_neg h10,if_neg (by omega)]
theorem num_cases {v:Int × Int}(h:goodV v)(h1:v.1≠2):v=(0,0)∨∃ n,v=(1,n)∧-1000000000≤n∧n≤1000000000:=by
 obtain⟨a,b⟩:=v
 unfold goodV at h
 simp only at h h1
 rcases h with ⟨rfl,rfl⟩|⟨rfl,hb⟩|⟨h2,_⟩
 ·exact .inl rfl
 ·exact .inr ⟨b,rfl,hb⟩
 ·exact absurd h2 h1
theorem add_0 {v:Int × Int}(h:goodV v)(h1:v.1≠2):doV 6 v (1,0)=v∧doV 6 (1,0) v=v:=by
 rcases num_cases h h1 with rfl|⟨n,rfl,hn⟩
 ·decide
 ·unfold doV
  simp only [show ¬(6:Int)=9 by decide,show ¬(6:Int)=10 by decide,if_false,and_self,if_true,Int.add_zero,Int.zero_add]
  exact num_in hn
theorem mul_1 {v:Int × Int}(h:goodV v)(h1:v.1≠2):doV 8 v (1,1)=v∧doV 8 (1,1) v=v:=by
 rcases num_cases h h1 with rfl|⟨n,rfl,hn⟩
 ·decide
 ·unfold doV
  simp only [show ¬(8:Int)=9 by decide,show ¬(8:Int)=10 by decide,show ¬(8:Int)=6 by decide,show ¬(8:Int)=7 by decide,if_false,and_self,if_true,Int.mul_one,Int.one_mul]
  exact num_in hn
theorem sub_0 {v:Int × Int}(h:goodV v)(h1:v.1≠2):doV 7 v (1,0)=v:=by
 rcases num_cases h h1 with rfl|⟨n,rfl,hn⟩
 ·decide
 ·unfold doV
  simp only [show ¬(7:Int)=9 by decide,show ¬(7:Int)=10 by decide,show ¬(7:Int)=6 by decide,if_false,and_self,if_true,Int.sub_zero]
  exact num_in hn
theorem below {x:List Nd}(O:OkE x){n:Nd}(hx:x[x.length - 1]?=some n)(ha:arI n.op=1) :
  2≤x.length∧n.x=(x.length:Int) - 2∧Blk x 0 (x.length - 1)∧OkE (cutL x 0 (x.length - 1))∧(∀ e,valE e x=opV n.op (valE e (cutL x 0 (x.length - 1))) (valE e (cutL x 0 (x.length - 1))))∧tAt x (x.length - 1)=tyG n.op (tAt x (x.length - 2)) (tAt x (x.length - 2))∧tAt (cutL x 0 (x.length - 1)) ((cutL x 0 (x.length - 1)).length - 1)=tAt x (x.length - 2):=by
 have hp:=O.pos
 have W:=O.wf _ _ hx
 have ar:=ar0 W.a
 have key:∀{e:Nat},Blk x 0 e→e=x.length→Blk x 0 (x.length - 1)∧n.x=(x.length:Int) - 2:=by
  intro e B he
  cases B with
  | @leaf i m h h0=>
   rw [show x.length - 1=0 by omega,h] at hx
   cases hx
   omega
  | @one f i m B h h0 hxx=>
   obtain rfl:i=x.length - 1:=by omega
   rw [h] at hx
   cases hx
   exact⟨B,by omega⟩
  | @two f g i m B B' h h0 hxx hyy=>
   obtain rfl:i=x.length - 1:=by omega
   rw [h] at hx
   cases hx
   omega
 obtain⟨B,hnx⟩:=key O.b rfl
 have hB:=B.lt
 have ec:cutL x 0 (x.length - 1)=x.take (x.length - 1):=by
  unfold cutL seg
  rw [List.drop_zero,Nat.sub_zero]
  exact map_sh0 _
 have OC:=chkGo_okE (cutL_chk O.n B)
 have lc:(cutL x 0 (x.length - 1)).length - 1=x.length - 2:=by rw [cutL_length B];omega
 have pre:∀{β:Type} (d:β) (F:Nd→β→β→β),fAt d F (cutL x 0 (x.length - 1)) (x.length - 2)=fAt d F x (x.length - 2):=by
  intro β d F
  rw [ec]
  exact fAt_take x (by omega) (by omega)
 refine⟨by omega,hnx,B,OC,fun e=>?_,?_,?_⟩
 ·have h1:vAt e x (x.length - 1)=_:=fAt_wf (own_stepF e) hx W
  unfold valE
  rw [h1,lc,stepF_op e (by omega) (by omega),vAt,pre,show n.x.toNat=x.length - 2 by omega]
  have:∀ a b b',opV n.op a b=opV n.op a b':=by
   intro a b b'
   unfold opV
   split
   ·rfl
   ·split
    ·rfl
    ·split
     ·rfl
     ·omega
  exact this _ _ _
 ·have h1:tAt x (x.length - 1)=_:=fAt_wf own_tyF hx W
  rw [h1,tyF_op (by omega) (by omega),if_neg (by omega),show n.x.toNat=x.length - 2 by omega]
 ·rw [lc]
  exact pre _ _
theorem Rep.twice {P:EvL→Int × Int}{T:Option Int}{k:Nat}{x:List Nd}{n:Nd}(A:Rep P T k x)(hx:x[x.length - 1]?=some n)(h:(n.op=4∧(typE (cutL x 0 (x.length - 1))).1≠1)∨(n.op=3∧(typE (cutL x 0 (x.length - 1))).1≠2))(h0:(typE (cutL x 0 (x.length - 1))).2=0) :
  Rep (fun e=>opV n.op (P e) (P e)) (tyG n.op T T) (k+1) (cutL x 0 (x.length - 1)):=by
 have ha:arI n.op=1:=by rcases h with ⟨h,_⟩|⟨h,_⟩<;>rw [h]<;>decide
 obtain⟨hl,hnx,B,OC,hv,ht,hc⟩:=below A.ok hx ha
 have hp:=OC.pos
 have hty:∃ t,tAt (cutL x 0 (x.length - 1)) ((cutL x 0 (x.length - 1)).length - 1)=some t∧(typE (cutL x 0 (x.length - 1))).1=t:=by
  unfold typE at h0 ⊢
  cases hq:tAt (cutL x 0 (x.length - 1)) ((cutL x 0 (x.length - 1)).length - 1) with
  | none=>rw [hq] at h0;cases h0
  | some t=>exact⟨t,rfl,rfl⟩
 obtain⟨t,e1,e2⟩:=hty
 rw [e2] at h
 have tr:=ty_range OC (by omega) e1
 refine⟨OC,by rw [cutL_length B];have:=A.len;omega,fun e E=>?_,fun u hu=>⟨t,e1,?_⟩⟩
 ·have g:=val_good OC E (i:=(cutL x 0 (x.length - 1)).length - 1) (by omega)
  have g2:=g.2 t e1
  have n1:t≠1→(vAt e (cutL x 0 (x.length - 1)) ((cutL x 0 (x.length - 1)).length - 1)).1≠1:=fun h q=>by rcases g2 with g2|g2<;>rw [g2] at q<;>omega
  have n2:t≠2→(vAt e (cutL x 0 (x.length - 1)) ((cutL x 0 (x.length - 1)).length - 1)).1≠2:=fun h q=>by rcases g2 with g2|g2<;>rw [g2] at q<;>omega
  rw [←A.val e E,hv e]
  show _=opV n.op _ _
  rcases h with ⟨h,h1⟩|⟨h,h1⟩
  ·rw [h]
   exact(notV_notV g.1 (n1 h1)).symm
  ·rw [h]
   exact(neg_neg g.1 (n2 h1)).symm
 ·have:=tyG_out hu
  unfold outT wantT at this
  rcases h with ⟨h,h1⟩|⟨h,h1⟩
  ·rw [h] at this;simp at this;omega
  ·rw [h] at this;simp at this;omega
structure RepO (P:EvL→Int × Int)(op:Int)(k:Nat)(z:List Nd):Prop where
 ok:OkE z
 len:z.length≤k
 val:∀ e,EvOK e→valE e z=P e
 ty:∃ t',tAt z (z.length - 1)=some t'∧(t'=0∨t'=outT op)
theorem RepO.rep {P:EvL→Int × Int}{op:Int}{k j:Nat}{z:List Nd}(A:RepO P op k z)(hj:k≤j)(T U:Option Int):Rep P (tyG op T U) j z:=
 ⟨A.ok,Nat.le_trans A.len hj,A.val,fun t ht=>by rw [tyG_out ht];exact A.ty⟩
theorem RepO.cst {P:EvL→Int × Int}{op:Int}{k:Nat}{v:Int × Int}(h:goodV v)(hk:1≤k)(hP:∀ e,EvOK e→v=P e)(hT:v.1=0∨v.1=outT op):RepO P op k (cst v):=
 ⟨cst_ok h,hk,hP,v.1,rfl,hT⟩
def besV (right:Bool)(op:Int)(a v:Int × Int):Int × Int:=if right then doV op a v else doV op v a
theorem typE_some {x:List Nd}(h:(typE x).2=0):tAt x (x.length - 1)=some (typE x).1:=by
 unfold typE at h ⊢
 cases hq:tAt x (x.length - 1) with
 | none=>rw [hq] at h;cases h
 | some t=>rfl
theorem bes_truths {x:List Nd}(O:OkE x){op:Int}{v:Int × Int}{right:Bool}(h:(op=9∧v=(2,1))∨(op=10∧v=(2,0)))(h0:(typE x).2=0)(h1:(typE x).1≠1):RepO (fun e=>besV right op (valE e x) v) op x.length x:=by
 have hp:=O.pos
 have e1:=typE_some h0
 have tr:=ty_range O (by omega) e1
 refine⟨O,Nat.le_refl _,fun e E=>?_,_,e1,?_⟩
 ·have g:=val_good O E (i:=x.length - 1) (by omega)
  have g2:=g.2 _ e1
  have n1:(vAt e x (x.length - 1)).1≠1:=fun q=>by rcases g2 with g2|g2<;>rw [g2] at q<;>omega
  unfold besV
  rcases h with ⟨rfl,rfl⟩|⟨rfl,rfl⟩
  ·cases right
   ·exact(and_yes g.1 n1).2.symm
   ·exact(and_yes g.1 n1).1.symm
  ·cases right
   ·exact(or_no g.1 n1).2.symm
   ·exact(or_no g.1 n1).1.symm
 ·have:outT op=2:=by rcases h with ⟨rfl,_⟩|⟨rfl,_⟩<;>decide
  omega
theorem bes_const {x:List Nd}{op:Int}{v:Int × Int}{right:Bool}(h:(op=9∧v=(2,0))∨(op=10∧v=(2,1))):RepO (fun e=>besV right op (valE e x) v) op 1 (cst v):=by
 refine RepO.cst (by rcases h with ⟨_,rfl⟩|⟨_,rfl⟩<;>(unfold goodV;simp)) (Nat.le_refl 1) (fun e E=>?_) (by rcases h with ⟨rfl,rfl⟩|⟨rfl,rfl⟩<;>decide)
 unfold besV
 rcases h with ⟨rfl,rfl⟩|⟨rfl,rfl⟩
 ·cases right
  ·exact(and_no (valE e x)).2.symm
  ·exact(and_no (valE e x)).1.symm
 ·cases right
  ·exact(or_yes (valE e x)).2.symm
  ·exact(or_yes (valE e x)).1.symm
theorem bes_numbers {x:List Nd}(O:OkE x){op:Int}{v:Int × Int}{right:Bool}(h:(op=6∧v=(1,0))∨(op=8∧v=(1,1))∨(op=7∧right=true∧v=(1,0)))(h0:(typE x).2=0)(h1:(typE x).1≠2):RepO (fun e=>besV right op (valE e x) v) op x.length x:=by
 have hp:=O.pos
 have e1:=typE_some h0
 have tr:=ty_range O (by omega) e1
 refine⟨O,Nat.le_refl _,fun e E=>?_,_,e1,?_⟩
 ·have g:=val_good O E (i:=x.length - 1) (by omega)
  have g2:=g.2 _ e1
  have n1:(vAt e x (x.length - 1)).1≠2:=fun q=>by rcases g2 with g2|g2<;>rw [g2] at q<;>omega
  unfold besV
  rcases h with ⟨rfl,rfl⟩|⟨rfl,rfl⟩|⟨rfl,rfl,rfl⟩
  ·cases right
   ·exact(add_0 g.1 n1).2.symm
   ·exact(add_0 g.1 n1).1.symm
  ·cases right
   ·exact(mul_1 g.1 n1).2.symm
   ·exact(mul_1 g.1 n1).1.symm
  ·exact(sub_0 g.1 n1).symm
 ·have:outT op=1:=by rcases h with ⟨rfl,_⟩|⟨rfl,_⟩|⟨rfl,_⟩<;>decide
  omega
theorem bes_null {x:List Nd}{op:Int}{v:Int × Int}(hv:goodV v){right:Bool}(h9:op≠9)(h10:op≠10)(h0:v.1=0):RepO (fun e=>besV right op (valE e x) v) op 1 (cst v):=by
 have ev:v=(0,0):=by
  obtain⟨a,b⟩:=v
  unfold goodV at hv
  simp only [Prod.mk.injEq] at *
  omega
 subst ev
 refine RepO.cst good_null (Nat.le_refl 1) (fun e E=>?_) (.inl rfl)
 unfold besV
 cases right
 ·exact(doV_num h9 h10 (.inl rfl)).symm
 ·exact(doV_num h9 h10 (.inr rfl)).symm
theorem Blk.uniq {l:List Nd}{f e:Nat}(B:Blk l f e):∀{f':Nat},Blk l f' e→f=f':=by
 induction B with
 | @leaf i n h h0=>
  intro f' B'
  cases B' with
  | leaf h' h0'=>rfl
  | one B1 h' h0' _=>rw [h] at h';cases h';omega
  | two B1 B2 h' h0' _ _=>rw [h] at h';cases h';omega
 | @one f i n B h h0 hx ih=>
  intro f' B'
  cases B' with
  | leaf h' h0'=>rw [h] at h';cases h';omega
  | one B1 h' h0' _=>exact ih B1
  | two B1 B2 h' h0' _ _=>rw [h] at h';cases h';omega
 | @two f g i n B B' h h0 hx hy ih1 ih2=>
  intro f' C
  cases C with
  | leaf h' h0'=>rw [h] at h';cases h';omega
  | one B1 h' h0' _=>rw [h] at h';cases h';omega
  | @two _ g' _ n' B1 B2 h' h0' hx' hy'=>
   rw [h] at h'
   cases h'
   obtain rfl:g=g':=by omega
   exact ih1 B1
inductive FStk (l:List Nd):List (List Nd)→Nat→Prop where
 | nil:FStk l [] 0
 | push {s:List (List Nd)} {f e:Nat} {z:List Nd}:FStk l s f→Blk l f e→Rep (fun ev=>vAt ev l (e - 1)) (tAt l (e - 1)) (e - f) z→FStk l (z :: s) e
theorem FStk.len {l:List Nd}{s:List (List Nd)}{e:Nat}(S:FStk l s e):s.length≤e:=by
 induction S with
 | nil=>exact Nat.le_refl _
 | push S B R ih=>have:=B.lt;simp;omega
theorem FStk.all {l:List Nd}{s:List (List Nd)}{e:Nat}(S:FStk l s e):e≤l.length:=by
 cases S with
 | nil=>exact Nat.zero_le _
 | push S B R=>exact B.lt.2
theorem FStk.step {l:List Nd}(O:OkE l){s:List (List Nd)}{i:Nat}{n:Nd}(S:FStk l s i)(hn:l[i]?=some n) :
  (arI n.op=0∧FStk l ([n] :: s) (i+1)) ∨
  (arI n.op=1∧∃ z s' P T k,s=z :: s'∧k≤i∧Rep P T k z∧∀ y,Rep (fun e=>opV n.op (P e) (P e)) (tyG n.op T T) (k+1) y→FStk l (y :: s') (i+1)) ∨
  (arI n.op=2∧∃ z z' s' P T k Q U j,s=z' :: z :: s'∧k+j≤i∧Rep P T k z∧Rep Q U j z'∧∀ y,Rep (fun e=>opV n.op (P e) (Q e)) (tyG n.op T U) (k+j+1) y→FStk l (y :: s') (i+1)):=by
 have hlt:=(List.getElem?_eq_some_iff.1 hn).1
 have W:=O.wf _ _ hn
 have ar:=ar0 W.a
 have h0:=O.n n (List.mem_of_getElem? hn)
 obtain⟨g,_,B⟩:=O.b.sub i (Nat.zero_le _) hlt
 have hv:∀ e,vAt e l i=_:=fun e=>fAt_wf (own_stepF e) hn W
 have ht:tAt l i=_:=fAt_wf own_tyF hn W
 have inv:∀{s:List (List Nd)} {j f:Nat},FStk l s j→Blk l f j→∃ z s',s=z :: s'∧FStk l s' f∧Rep (fun ev=>vAt ev l (j - 1)) (tAt l (j - 1)) (j - f) z:=by
  intro s j f S B
  cases S with
  | nil=>have:=B.lt;omega
  | push S B' R=>
   obtain rfl:=B'.uniq B
   exact⟨_,_,rfl,S,R⟩
 have hB:=B
 cases B with
 | leaf h ha=>
  rw [hn] at h
  cases h
  refine .inl ⟨ha,.push S hB ?_⟩
  have O1:=Rep.leaf h0 ha
  have W1:=O1.wf 0 n rfl
  refine⟨O1,by simp,fun e E=>?_,fun t e=>⟨t,?_,.inr rfl⟩⟩
  ·show valE e [n]=vAt e l (i+1 - 1)
   rw [Nat.add_sub_cancel,hv e]
   have:valE e [n]=_:=fAt_wf (own_stepF e) (l:=[n]) (i:=0) rfl W1
   rw [this]
   exact own_stepF e n _ _ _ _ W.a (fun h=>by omega) (fun h=>by omega)
  ·rw [Nat.add_sub_cancel,ht] at e
   rw [←e]
   have:tAt [n] 0=_:=fAt_wf own_tyF (l:=[n]) (i:=0) rfl W1
   show tAt [n] 0=_
   rw [this]
   exact own_tyF n _ _ _ _ W.a (fun h=>by omega) (fun h=>by omega)
 | @one f _ n' B1 h ha hx=>
  rw [hn] at h
  cases h
  have hlt1:=B1.lt
  obtain⟨z,s',rfl,S',R⟩:=inv S B1
  refine .inr (.inl ⟨ha,z,s',_,_,_,rfl,Nat.sub_le _ _,R,fun y Y=>.push S' hB ?_⟩)
  rw [show i+1 - g=i - g+1 by omega,Nat.add_sub_cancel]
  have ex:n.x.toNat=i - 1:=by omega
  have:tAt l i=tyG n.op (tAt l (i - 1)) (tAt l (i - 1)):=by
   rw [ht,tyF_op (by omega) (by omega),if_neg (by omega),ex]
  rw [this]
  refine⟨Y.ok,Y.len,fun e E=>?_,Y.ty⟩
  rw [Y.val e E,hv e,stepF_op e (by omega) (by omega),ex]
  have:∀ a b b',opV n.op a b=opV n.op a b':=by
   intro a b b'
   unfold opV
   split
   ·rfl
   ·split
    ·rfl
    ·split
     ·rfl
     ·omega
  exact this _ _ _
 | @two f g' _ n' B1 B2 h ha hx hy=>
  rw [hn] at h
  cases h
  have hlt1:=B1.lt
  have hlt2:=B2.lt
  obtain⟨z',s1,rfl,S1,R'⟩:=inv S B2
  obtain⟨z,s',rfl,S',R⟩:=inv S1 B1
  refine .inr (.inr ⟨ha,z,z',s',_,_,_,_,_,_,rfl,?_,R,R',fun y Y=>.push S' hB ?_⟩)
  ·omega
  rw [show i+1 - g=g' - g+(i - g')+1 by omega,Nat.add_sub_cancel]
  have ex:n.x.toNat=g' - 1:=by omega
  have ey:n.y.toNat=i - 1:=by omega
  have:tAt l i=tyG n.op (tAt l (g' - 1)) (tAt l (i - 1)):=by
   rw [ht,tyF_op (by omega) (by omega),if_pos ha,ex,ey]
  rw [this]
  refine⟨Y.ok,Y.len,fun e E=>?_,Y.ty⟩
  rw [Y.val e E,hv e,stepF_op e (by omega) (by omega),ex,ey]
theorem FStk.done {l:List Nd}(O:OkE l){s:List (List Nd)}(S:FStk l s l.length):∃ z,s=[z]∧Rep (fun ev=>valE ev l) (tAt l (l.length - 1)) l.length z:=by
 have hB:=O.b
 have hp:=O.pos
 have key:∀{e:Nat},FStk l s e→e=l.length→∃ z,s=[z]∧Rep (fun ev=>vAt ev l (e - 1)) (tAt l (e - 1)) e z:=by
  intro e S he
  cases S with
  | nil=>omega
  | @push s f e z S' B R=>
   subst he
   obtain rfl:=B.uniq hB
   rw [Nat.sub_zero] at R
   have k2:∀{f:Nat},FStk l s f→f=0→s=[]:=by
    intro f S2 hf
    cases S2 with
    | nil=>rfl
    | push _ B' _=>have:=B'.lt;omega
   rw [k2 S' rfl]
   exact⟨z,rfl,R⟩
 exact key S rfl
theorem RepO.mono {P:EvL→Int × Int}{op:Int}{k j:Nat}{z:List Nd}(A:RepO P op k z)(h:k≤j):RepO P op j z:=⟨A.ok,Nat.le_trans A.len h,A.val,A.ty⟩
theorem cst_of {n:Nd}(h:nodeF n=0)(h1:n.op=1):[n]=cst n.v:=by
 obtain⟨op,x,y,k,v⟩:=n
 simp only at h1
 subst h1
 unfold nodeF at h
 split at h
 ·cases h
 ·split at h
  ·cases h
  ·rename_i h2
   have e:arI 1=0:=by decide
   simp only [e] at h2
   have hx:x=0:=by omega
   have hy:y=0:=by omega
   have hk:k=0:=by omega
   subst hx hy hk
   rfl
theorem Rep.cst_val {P:EvL→Int × Int}{T:Option Int}{k:Nat}{v:Int × Int}(A:Rep P T k (Go.Proofs.YtiflgceoamkmnaaGreatDoor.cst v)):∀ e,EvOK e→P e=v:=fun e E=>(A.val e E).symm
theorem opV_do {op:Int}(h:6≤op)(a b:Int × Int):opV op a b=doV op a b:=by
 unfold opV
 rw [if_neg (by omega),if_neg (by omega),if_neg (by omega)]
structure NS (h:Hp)(a:Option Addr)(n c:Nat)(l:List Nd):Prop where
 s:SlP encN h a n l
 c:n≤c
theorem NS.le {h h':Hp}{a:Option Addr}{n c:Nat}{l:List Nd}(S:NS h a n c l)(hl:h.le h'):NS h' a n c l:=⟨S.s.le hl,S.c⟩
theorem NS.of {h h':Hp}{a:Option Addr}{c:Nat}{l:List Nd}(V:NdVec h h' a c l):NS h' a l.length c l:=⟨V.slp encN_len (by decide),V.own.cap⟩
section
variable {a:Option Addr}{m c:Nat}{l:List Nd}{h:Hp}
theorem fold_constant_ok (S:SlP encN h a m l){R:Value→Hp→Prop}(hY:∀ n,l=[n]→n.op=1→R (vtup [vag (encV n.v),vb true]) h)(hN:R (vtup [vag (encV (0,0)),vb false]) h):CallOK Tryz.prog 110 [vsl a m c] h R:=by
 refine ok_fold_constant ?_
 unfold VC_fold_constant
 obtain rfl:=S.1
 by_cases h1:l.length=1
 ·obtain⟨n,rfl⟩:∃ n,l=[n]:=by
   match l,h1 with
   | [n],_=>exact⟨n,rfl⟩
  obtain⟨b,o,ha,hr⟩:=S.get encN_len (by decide) (i:=0) rfl
  have A:a=some ⟨b,o,none⟩∧(0:Int)≤0∧(0:Int) < (([n]:List Nd).length:Nat):=⟨ha,by decide,by simp⟩
  refine⟨b,o,fun _=>A,n.op,fun _=>Hp.row_cell hr (i:=0) rfl,fun g=>?_,fun g=>hN⟩
  rw [cand] at g
  have g:=of_decide_eq_true g
  refine⟨b,o,A,_,_,?_,hY n rfl g.2⟩
  exact Hp.row_sub hr (i:=4) (k:=2) (by decide)
 ·have e:decide (((l.length:Nat):Int)=1)=false:=decide_eq_false (by omega)
  refine⟨0,0,fun g=>?_,0,fun g=>?_,fun g=>?_,fun _=>hN⟩
  ·rw [e] at g;cases g
  ·rw [e] at g;cases g
  ·rw [e] at g;cases g
theorem fold_of_ok {v:Int × Int}{R:Value→Hp→Prop}(hK:∀ a' c' h',h.le h'→NS h' a' 1 c' (cst v)→R (vsl a' 1 c') h'):CallOK Tryz.prog 111 [vag (encV v)] h R:=by
 refine ok_fold_of ?_
 unfold VC_fold_of
 intro b1 hb1 h2
 exact hK _ _ h2 (Hp.le_set (Hp.le_refl h) hb1 _) ⟨⟨rfl,HasRow.new _ _ ((cst v).flatMap encN) _⟩,Nat.le_refl _⟩
theorem errV_noneF {f:Int}(x:Int)(k:Int):(bif (errV f).isNone then decide (x≠k) else false)=decide (f=0∧x≠k):=by
 rw [errV_none,cand]
theorem fold_truths_ok (S:SlP encN h a m l)(O:OkE l)(hm:l.length≤1000000){R:Value→Hp→Prop}(hK:∀ h',h.le h'→R (vb (decide ((typE l).2=0∧(typE l).1≠1))) h'):CallOK Tryz.prog 113 [vsl a m c] h R:=by
 refine ok_fold_truths ?_
 unfold VC_fold_truths
 refine expr_Type_ok S O hm fun h' l'=>⟨_,_,rfl,?_⟩
 rw [errV_noneF]
 exact hK h' l'
theorem fold_numbers_ok (S:SlP encN h a m l)(O:OkE l)(hm:l.length≤1000000){R:Value→Hp→Prop}(hK:∀ h',h.le h'→R (vb (decide ((typE l).2=0∧(typE l).1≠2))) h'):CallOK Tryz.prog 115 [vsl a m c] h R:=by
 refine ok_fold_numbers ?_
 unfold VC_fold_numbers
 refine expr_Type_ok S O hm fun h' l'=>⟨_,_,rfl,?_⟩
 rw [errV_noneF]
 exact hK h' l'
theorem fold_single_ok {op:Int}(ho:arI op=1)(S:NS h a m c l){P:EvL→Int × Int}{T:Option Int}{k:Nat}(A:Rep P T k l)(hk:k≤1000000){R:Value→Hp→Prop}
  (hK:∀ a' n' c' h' z,h.le h'→NS h' a' n' c' z→Rep (fun e=>opV op (P e) (P e)) (tyG op T T) (k+1) z→R (vsl a' n' c') h'):CallOK Tryz.prog 65 [vi op,vsl a m c] h R:=by
 refine ok_fold_single ?_
 unfold VC_fold_single
 have hm:=S.s.1
 subst hm
 have hl:=A.len
 have hp:=A.pos
 have ar:=ar0 (op:=op) (by omega)
 have WN:WfL ([]:List Nd):=okE_nil_wf
 have J:=A.join1 ho
 have join:∀ h',h.le h'→CallOK Tryz.prog 112 [vi op,vsl a l.length c,vsl none 0 0] h' fun v64 h64=>∃(a65:Option Addr) (n65 c65:Nat),v64=vsl a65 n65 c65∧R (vsl a65 n65 c65) h64:=fun h' l'=>
  expr_Join_ok (S.s.le l') (⟨rfl,.inl rfl⟩:SlP encN h' none 0 []) WN (by omega) (by simp) fun a' c' h'' V=>⟨_,_,_,rfl,hK _ _ _ _ _ (Hp.le_trans l' V.le0) (NS.of V) J⟩
 refine fold_constant_ok S.s (fun n hn h1=>⟨_,_,true,rfl,fun _=>?_,fun g=>by cases g⟩) ⟨_,_,false,rfl,fun g=>by (cases g),fun _=>?_⟩
 ·subst hn
  have hn0:=A.ok.n n (List.mem_singleton.2 rfl)
  have hc:=cst_of hn0 h1
  rw [hc] at A J
  refine fold_of_ok (v:=n.v) fun a8 c8 h7 l7 S8=>⟨_,_,_,rfl,?_⟩
  refine expr_Join_ok S8.s (⟨rfl,.inl rfl⟩:SlP encN h7 none 0 []) WN (by simp) (by simp) fun a11 c11 h10 V=>⟨_,_,_,rfl,?_⟩
  have hjl:(joinL op (cst n.v) []).length=2:=joinL_length _ _ _
  refine expr_Eval_ok (e:=ev0) (V.slp encN_len (by decide)) J.ok.wf (by omega) (by omega) fun h13 l13=>⟨_,_,rfl,?_⟩
  have ev:valE ev0 (joinL op (cst n.v) [])=opV op n.v n.v:=by
   rw [J.val ev0 ev0_ok,A.cst_val ev0 ev0_ok]
  rw [ev]
  refine fold_of_ok (v:=opV op n.v n.v) fun a18 c18 h17 l17 S18=>⟨_,_,_,rfl,hK _ _ _ _ _ (Hp.le_trans (Hp.le_trans (Hp.le_trans l7 V.le0) l13) l17) S18 ?_⟩
  have og:=opV_good (op:=op) (by omega) n.v n.v
  refine Rep.cst og.1 (by omega) (fun e E=>?_) fun t ht=>?_
  ·rw [A.cst_val e E]
  ·rw [tyG_out ht];exact og.2
 ·have hx:l[l.length - 1]?=some (l[l.length - 1]'(by omega)):=List.getElem?_eq_getElem (by omega)
  obtain⟨b,o,ha,hr⟩:=S.s.get encN_len (by decide) hx
  generalize l[l.length - 1]'(by omega)=n at *
  refine⟨_,isW (by unfold InR;omega),b,o,⟨ha,by omega,by omega⟩,n.op,n.x,n.y,n.n,n.v.1,n.v.2,?_,?_⟩
  ·rw [show (((l.length:Nat):Int) - 1).toNat=l.length - 1 by omega]
   exact hr
  have cut:∀(h':Hp),h.le h'→arI n.op=1→∀(K:Value→Hp→Prop),(∀ a' n' c' h'',h'.le h''→NS h'' a' n' c' (cutL l 0 (l.length - 1))→K (vsl a' n' c') h'')→CallOK Tryz.prog 114 [vsl a l.length c,vi n.x] h' K:=by
   intro h' l' h1 K hK
   obtain⟨hl2,hnx,B,OC,_⟩:=below A.ok hx h1
   have e1:l.length - 1=(l.length - 2)+1:=by omega
   rw [e1] at B hK
   exact expr_Cut_ok (S.s.le l') S.c A.ok.wf (by omega) B (by omega) fun a' c' h'' V=>hK _ _ _ _ V.le0 (NS.of V)
  have lc:arI n.op=1→OkE (cutL l 0 (l.length - 1))∧(cutL l 0 (l.length - 1)).length≤1000000:=by
   intro h1
   obtain⟨hl2,hnx,B,OC,_⟩:=below A.ok hx h1
   exact⟨OC,by rw [cutL_length B];omega⟩
  -- what is known of the first test
  refine⟨fun x h'=>h.le h'∧∃ a' n' c',x=.t (.one (.v (vsl a' n' c')))∧((op=4∧n.op=4)→NS h' a' n' c' (cutL l 0 (l.length - 1))),fun g=>?_,fun g=>?_,?_⟩
  ·rw [cand] at g
   have g:=of_decide_eq_true g
   exact cut h (Hp.le_refl h) (by rw [g.2];decide) _ fun a' n' c' h'' l'' S'=>⟨_,_,_,rfl,l'',_,_,_,rfl,fun _=>S'⟩
  ·rw [cand] at g
   exact⟨Hp.le_refl h,none,0,0,rfl,fun q=>absurd (decide_eq_true q) g⟩
  rintro h33 a34 n34 c34 ⟨l33,a',n',c',e,S33⟩
  cases e
  refine⟨fun x h'=>h.le h'∧∃ p,x=.t (.one (.v (vb p)))∧((op=4∧n.op=4)→p=decide ((typE (cutL l 0 (l.length - 1))).2=0∧(typE (cutL l 0 (l.length - 1))).1≠1)),fun g=>?_,fun g=>?_,?_⟩
  ·rw [cand] at g
   have g:=of_decide_eq_true g
   obtain⟨OC,hC⟩:=lc (by rw [g.2];decide)
   exact fold_truths_ok (S33 g).s OC hC fun h' l'=>⟨_,rfl,Hp.le_trans l33 l',_,rfl,fun _=>rfl⟩
  ·rw [cand] at g
   exact⟨l33,false,rfl,fun q=>absurd (decide_eq_true q) g⟩
  rintro h39 p40 ⟨l39,p,e,hp40⟩
  cases e
  intro J55
  have yes:∀ h',h.le h'→((op=4∧n.op=4∧(typE (cutL l 0 (l.length - 1))).2=0∧(typE (cutL l 0 (l.length - 1))).1≠1)∨(op=3∧n.op=3∧(typE (cutL l 0 (l.length - 1))).2=0∧(typE (cutL l 0 (l.length - 1))).1≠2))→J55 true h':=by
   intro h' l' hc
   have eop:n.op=op:=by omega
   refine⟨fun _=>?_,fun g=>by cases g⟩
   refine cut h' l' (by rw [eop];exact ho) _ fun a' n' c' h'' l'' S'=>⟨_,_,_,rfl,hK _ _ _ _ _ (Hp.le_trans l' l'') S' ?_⟩
   have:=A.twice hx (by omega) (by omega)
   rw [eop] at this
   exact this
  have no:∀ h',h.le h'→J55 false h':=fun h' l'=>⟨fun g=>by (cases g),fun _=>join h' l'⟩
  clear_value J55
  rw [cand]
  by_cases hc:op=4∧n.op=4
  ·have hp:=hp40 hc
   subst hp
   have e1:decide (op=4∧n.op=4)=true:=decide_eq_true hc
   rw [e1]
   by_cases ht:(typE (cutL l 0 (l.length - 1))).2=0∧(typE (cutL l 0 (l.length - 1))).1≠1
   ·rw [decide_eq_true ht]
    exact⟨fun _=>yes _ l39 (by omega),fun g=>by cases g⟩
   ·rw [decide_eq_false ht]
    refine⟨fun g=>by (cases g),fun _=>?_⟩
    have n3:(bif decide (op=3) then decide (n.op=3) else false)=false:=by rw [cand];exact decide_eq_false (by omega)
    rw [n3]
    refine⟨fun x h'=>h'=h39∧x=.t (.one (.v (vsl none 0 0))),fun g=>by (cases g),fun _=>⟨rfl,rfl⟩,?_⟩
    rintro h46 a47 n47 c47 ⟨rfl,e⟩
    cases e
    refine⟨fun x h'=>h'=h46∧x=.t (.one (.v (vb false))),fun g=>by (cases g),fun _=>⟨rfl,rfl⟩,?_⟩
    rintro h52 p53 ⟨rfl,e⟩
    cases e
    exact no _ l39
  ·have e1:decide (op=4∧n.op=4)=false:=decide_eq_false hc
   rw [e1]
   refine⟨fun g=>by (cases g),fun _=>?_⟩
   rw [cand]
   refine⟨fun x h'=>h.le h'∧∃ a' n' c',x=.t (.one (.v (vsl a' n' c')))∧((op=3∧n.op=3)→NS h' a' n' c' (cutL l 0 (l.length - 1))),fun g=>?_,fun g=>?_,?_⟩
   ·have g:=of_decide_eq_true g
    exact cut _ l39 (by rw [g.2];decide) _ fun a' n' c' h'' l'' S'=>⟨_,_,_,rfl,Hp.le_trans l39 l'',_,_,_,rfl,fun _=>S'⟩
   ·exact⟨l39,none,0,0,rfl,fun q=>absurd (decide_eq_true q) g⟩
   rintro h46 a47 n47 c47 ⟨l46,a',n',c',e,S46⟩
   cases e
   refine⟨fun x h'=>h.le h'∧∃ p,x=.t (.one (.v (vb p)))∧((op=3∧n.op=3)→p=decide ((typE (cutL l 0 (l.length - 1))).2=0∧(typE (cutL l 0 (l.length - 1))).1≠2)),fun g=>?_,fun g=>?_,?_⟩
   ·have g:=of_decide_eq_true g
    obtain⟨OC,hC⟩:=lc (by rw [g.2];decide)
    exact fold_numbers_ok (S46 g).s OC hC fun h' l'=>⟨_,rfl,Hp.le_trans l46 l',_,rfl,fun _=>rfl⟩
   ·exact⟨l46,false,rfl,fun q=>absurd (decide_eq_true q) g⟩
   rintro h52 p53 ⟨l52,p,e,hp53⟩
   cases e
   by_cases hc3:op=3∧n.op=3
   ·have hp:=hp53 hc3
    subst hp
    rw [decide_eq_true hc3]
    by_cases ht:(typE (cutL l 0 (l.length - 1))).2=0∧(typE (cutL l 0 (l.length - 1))).1≠2
    ·rw [decide_eq_true ht]
     exact yes _ l52 (by omega)
    ·rw [decide_eq_false ht]
     exact no _ l52
   ·rw [decide_eq_false hc3]
    exact no _ l52
end
abbrev svV (v:Int × Int):SV:=.t (.ag [.v (vi v.1),.v (vi v.2)])
theorem gd {p:Prop}[Decidable p]{v b c:Int × Int}(h:p→b=c):(bif decide p then decide (v=b) else false)=decide (p∧v=c):=by
 by_cases hp:p
 ·rw [h hp];simp [hp]
 ·simp [hp]
theorem num0:numV 0=(1,0):=by decide
theorem num1:numV 1=(1,1):=by decide
section
variable {a:Option Addr}{m c:Nat}{l:List Nd}{h:Hp}
theorem fold_beside_ok {op:Int}(S:NS h a m c l)(O:OkE l)(hm:l.length≤1000000){v:Int × Int}(hv:goodV v){right:Bool}{R:Value→Hp→Prop}
  (hY:∀ a' n' c' h' z,h.le h'→NS h' a' n' c' z→RepO (fun e=>besV right op (valE e l) v) op l.length z→R (vtup [vsl a' n' c',vb true]) h') (hN:∀ h',h.le h'→R (vtup [vsl none 0 0,vb false]) h') :
  CallOK Tryz.prog 116 [vi op,vsl a m c,vag (encV v),vb right] h R:=by
 refine ok_fold_beside ?_
 unfold VC_fold_beside
 have hp:=O.pos
 refine⟨fun x h'=>h.le h'∧∃ b,x=svV b∧(op=9→b=(2,1)),fun g=>value_Truth_ok ⟨_,_,rfl,Hp.le_refl h,_,rfl,fun _=>rfl⟩,fun g=>⟨Hp.le_refl h,(0,0),rfl,fun q=>absurd (decide_eq_true q) g⟩,?_⟩
 rintro h6 x7 x8 ⟨l6,b,e,hb⟩
 cases e
 refine⟨_,fun _=>rd_eqV (a:=v) (b:=b),?_⟩
 rw [gd hb]
 refine⟨fun x h'=>h.le h'∧∃ b,x=svV b∧(op=10→b=(2,0)),fun g=>value_Truth_ok ⟨_,_,rfl,l6,_,rfl,fun _=>rfl⟩,fun g=>⟨l6,(0,0),rfl,fun q=>absurd ⟨decide_eq_false (by omega),decide_eq_true q⟩ g⟩,?_⟩
 rintro h15 x16 x17 ⟨l15,b2,e,hb2⟩
 cases e
 refine⟨_,fun _=>rd_eqV (a:=v) (b:=b2),?_⟩
 rw [gd hb2,cor]
 refine⟨fun x h'=>h.le h'∧∃ p,x=.t (.one (.v (vb p)))∧(p=true→(typE l).2=0∧(typE l).1≠1),fun g=>fold_truths_ok (S.s.le l15) O hm fun h' l'=>⟨_,rfl,Hp.le_trans l15 l',_,rfl,fun q=>of_decide_eq_true q⟩,fun g=>⟨l15,false,rfl,fun q=>by cases q⟩,?_⟩
 rintro h23 p24 ⟨l23,p,e,hp24⟩
 cases e
 have e24:∀(q:Prop) [Decidable q],(bif decide q then p24 else false)=true→q∧p24=true:=by
  intro q _ g
  by_cases hq:q
  ·rw [decide_eq_true hq] at g;exact⟨hq,g⟩
  ·rw [decide_eq_false hq] at g;cases g
 refine⟨fun g=>?_,fun _=>?_⟩
 ·obtain⟨g1,g2⟩:=e24 _ g
  have ht:=hp24 g2
  exact hY _ _ _ _ _ l23 (S.le l23) (bes_truths O g1 ht.1 ht.2)
 refine⟨fun x h'=>h.le h'∧∃ b,x=svV b∧(op=9→b=(2,0)),fun g=>value_Truth_ok ⟨_,_,rfl,l23,_,rfl,fun _=>rfl⟩,fun g=>⟨l23,(0,0),rfl,fun q=>absurd (decide_eq_true q) g⟩,?_⟩
 rintro h30 x31 x32 ⟨l30,b3,e,hb3⟩
 cases e
 refine⟨_,fun _=>rd_eqV (a:=v) (b:=b3),?_⟩
 rw [gd hb3]
 intro J45
 have yes:∀ h',h.le h'→(op=9∧v=(2,0))∨(op=10∧v=(2,1))→J45 true h':=by
  intro h' l' hc
  refine⟨fun _=>?_,fun g=>by cases g⟩
  exact fold_of_ok (v:=v) fun a' c' h'' l'' S'=>⟨_,_,_,rfl,hY _ _ _ _ _ (Hp.le_trans l' l'') S' ((bes_const (x:=l) hc).mono hp)⟩
 have no:∀ h',h.le h'→J45 false h':=by
  intro h48 l48
  refine⟨fun g=>by (cases g),fun _=>?_⟩
  refine⟨fun x h'=>h.le h'∧∃ b,x=svV b∧(op=6→b=(1,0)),fun g=>value_Number_ok ⟨_,_,rfl,l48,_,rfl,fun _=>num0⟩,fun g=>⟨l48,(0,0),rfl,fun q=>absurd (decide_eq_true q) g⟩,?_⟩
  rintro h57 x58 x59 ⟨l57,b,e,hb⟩
  cases e
  refine⟨_,fun _=>rd_eqV (a:=v) (b:=b),?_⟩
  rw [gd hb]
  refine⟨fun x h'=>h.le h'∧∃ b,x=svV b∧(op=8→b=(1,1)),fun g=>value_Number_ok ⟨_,_,rfl,l57,_,rfl,fun _=>num1⟩,fun g=>⟨l57,(0,0),rfl,fun q=>absurd ⟨decide_eq_false (by omega),decide_eq_true q⟩ g⟩,?_⟩
  rintro h66 x67 x68 ⟨l66,b2,e,hb2⟩
  cases e
  refine⟨_,fun _=>rd_eqV (a:=v) (b:=b2),?_⟩
  rw [gd hb2,cor]
  have er:(bif decide (op=7) then right else false)=decide (op=7∧right=true):=by
   by_cases h7:op=7<;>cases right<;>simp [h7]
  rw [er]
  refine⟨fun x h'=>h.le h'∧∃ b,x=svV b∧(op=7∧right=true→b=(1,0)),fun g=>value_Number_ok ⟨_,_,rfl,l66,_,rfl,fun _=>num0⟩,fun g=>⟨l66,(0,0),rfl,fun q=>absurd ⟨decide_eq_false (by omega),decide_eq_true q⟩ g⟩,?_⟩
  rintro h75 x76 x77 ⟨l75,b3,e,hb3⟩
  cases e
  refine⟨_,fun _=>rd_eqV (a:=v) (b:=b3),?_⟩
  rw [gd hb3,cor]
  refine⟨fun x h'=>h.le h'∧∃ p,x=.t (.one (.v (vb p)))∧(p=true→(typE l).2=0∧(typE l).1≠2),fun g=>fold_numbers_ok (S.s.le l75) O hm fun h' l'=>⟨_,rfl,Hp.le_trans l75 l',_,rfl,fun q=>of_decide_eq_true q⟩,fun g=>⟨l75,false,rfl,fun q=>by cases q⟩,?_⟩
  rintro h83 p84 ⟨l83,p,e,hp84⟩
  cases e
  refine⟨fun g=>?_,fun _=>⟨fun g=>?_,fun _=>hN _ l83⟩⟩
  ·have e84:∀(q:Prop) [Decidable q],(bif decide q then p84 else false)=true→q∧p84=true:=by
    intro q _ g
    by_cases hq:q
    ·rw [decide_eq_true hq] at g;exact⟨hq,g⟩
    ·rw [decide_eq_false hq] at g;cases g
   obtain⟨g1,g2⟩:=e84 _ g
   have ht:=hp84 g2
   refine hY _ _ _ _ _ l83 (S.le l83) (bes_numbers O ?_ ht.1 ht.2)
   rcases g1 with (g1|g1)|⟨⟨g1,g3⟩,g4⟩
   ·exact .inl g1
   ·exact .inr (.inl g1)
   ·exact .inr (.inr ⟨g1,g3,g4⟩)
  ·simp only [cand] at g
   have g:=of_decide_eq_true g
   exact fold_of_ok (v:=v) fun a' c' h'' l'' S'=>⟨_,_,_,rfl,hY _ _ _ _ _ (Hp.le_trans l83 l'') S' ((bes_null (x:=l) hv g.1.1 g.1.2 g.2).mono hp)⟩
 clear_value J45
 refine⟨fun g=>?_,fun _=>?_⟩
 ·rw [g]
  exact yes _ l30 (.inl (of_decide_eq_true g))
 refine⟨fun x h'=>h.le h'∧∃ b,x=svV b∧(op=10→b=(2,1)),fun g=>value_Truth_ok ⟨_,_,rfl,l30,_,rfl,fun _=>rfl⟩,fun g=>⟨l30,(0,0),rfl,fun q=>absurd (decide_eq_true q) g⟩,?_⟩
 rintro h40 x41 x42 ⟨l40,b4,e,hb4⟩
 cases e
 refine⟨_,fun _=>rd_eqV (a:=v) (b:=b4),?_⟩
 rw [gd hb4]
 by_cases hc:op=10∧v=(2,1)
 ·rw [decide_eq_true hc]
  exact yes _ l40 (.inr hc)
 ·rw [decide_eq_false hc]
  exact no _ l40
theorem fold_double_ok {op:Int}(ho:arI op=2)(S:NS h a m c l){P:EvL→Int × Int}{T:Option Int}{k:Nat}(A:Rep P T k l)(hk:k≤1000000)
  {a2:Option Addr} {m2 c2:Nat} {l2:List Nd} (S2:NS h a2 m2 c2 l2) {Q:EvL→Int × Int} {U:Option Int} {j:Nat} (B:Rep Q U j l2) (hj:j≤1000000) {R:Value→Hp→Prop}
  (hK:∀ a' n' c' h' z,h.le h'→NS h' a' n' c' z→Rep (fun e=>opV op (P e) (Q e)) (tyG op T U) (k+j+1) z→R (vsl a' n' c') h'):CallOK Tryz.prog 66 [vi op,vsl a m c,vsl a2 m2 c2] h R:=by
 refine ok_fold_double ?_
 unfold VC_fold_double
 have hA:=A.len
 have hB:=B.len
 have hpA:=A.pos
 have hpB:=B.pos
 have ar:=ar0 (op:=op) (by omega)
 have m1:=S.s.1
 have mm2:=S2.s.1
 subst m1 mm2
 have cnst:∀{x:List Nd} {n:Nd},OkE x→x=[n]→n.op=1→x=cst n.v∧goodV n.v:=by
  intro x n O e h1
  subst e
  have hn:=O.n n (List.mem_singleton.2 rfl)
  exact⟨cst_of hn h1,nodeF_vF hn⟩
 have Y:∀(p5 p10:Bool) (v w:Int × Int),(p5=true→l=cst v∧goodV v)→(p10=true→l2=cst w∧goodV w) →
   (((bif p5 then p10 else false)=true→(CallOK Tryz.prog 97 [(vi op),(vag [(vi v.1),(vi v.2)]),(vag [(vi w.1),(vi w.2)])] h fun v11 h12=>∃(x13:Int) (x14:Int),v11=(vag [(vi x13),(vi x14)])∧(CallOK Tryz.prog 111 [(vag [(vi x13),(vi x14)])] h12 fun v15 h16=>∃(a17:Option Addr) (n17 c17:Nat),v15=(vsl a17 n17 c17)∧R (vsl a17 n17 c17) h16)))∧((bif p5 then p10 else false)=false→(let J25:Hp→Prop:=fun(h26:Hp)=>(let J33:Hp→Prop:=fun(h34:Hp)=>(CallOK Tryz.prog 112 [(vi op),(vsl a l.length c),(vsl a2 l2.length c2)] h34 fun v35 h36=>∃(a37:Option Addr) (n37 c37:Nat),v35=(vsl a37 n37 c37)∧R (vsl a37 n37 c37) h36);((p10=true→(CallOK Tryz.prog 116 [(vi op),(vsl a l.length c),(vag [(vi w.1),(vi w.2)]),(vb true)] h26 fun v27 h28=>∃(a29:Option Addr) (n29 c29:Nat) (p30:Bool),v27=(vtup [(vsl a29 n29 c29),(vb p30)])∧((p30=true→R (vsl a29 n29 c29) h28)∧(p30=false→(J33 h28)))))∧(p10=false→(J33 h26))));((p5=true→(CallOK Tryz.prog 116 [(vi op),(vsl a2 l2.length c2),(vag [(vi v.1),(vi v.2)]),(vb false)] h fun v19 h20=>∃(a21:Option Addr) (n21 c21:Nat) (p22:Bool),v19=(vtup [(vsl a21 n21 c21),(vb p22)])∧((p22=true→R (vsl a21 n21 c21) h20)∧(p22=false→(J25 h20)))))∧(p5=false→(J25 h)))))):=by
  intro p5 p10 v w hp5 hp10
  refine⟨fun g=>?_,fun _=>?_⟩
  ·have g1:p5=true∧p10=true:=by revert g;cases p5<;>cases p10<;>simp
   obtain⟨hl,hgv⟩:=hp5 g1.1
   obtain⟨hl2,hgw⟩:=hp10 g1.2
   rw [hl] at A
   rw [hl2] at B
   refine value_Do_ok (a:=v) (b:=w) ⟨_,_,rfl,fold_of_ok (v:=doV op v w) fun a' c' h' l' S'=>⟨_,_,_,rfl,hK _ _ _ _ _ l' S' ?_⟩⟩
   have og:=opV_good (op:=op) (by omega) v w
   rw [opV_do (by omega)] at og
   refine Rep.cst og.1 (by omega) (fun e E=>?_) fun t ht=>?_
   ·rw [A.cst_val e E,B.cst_val e E,opV_do (by omega)]
   ·rw [tyG_out ht];exact og.2
  intro J25
  have j25:∀ h',h.le h'→J25 h':=by
   intro h26 l26
   have j33:∀ h',h.le h'→CallOK Tryz.prog 112 [(vi op),(vsl a l.length c),(vsl a2 l2.length c2)] h' fun v35 h36=>∃(a37:Option Addr) (n37 c37:Nat),v35=(vsl a37 n37 c37)∧R (vsl a37 n37 c37) h36:=fun h' l'=>expr_Join_ok (S.s.le l') (S2.s.le l') B.ok.wf (by omega) (by omega) fun a' c' h'' V=>⟨_,_,_,rfl,hK _ _ _ _ _ (Hp.le_trans l' V.le0) (NS.of V) (A.join2 ho B)⟩
   refine⟨fun g=>?_,fun _=>j33 _ l26⟩
   obtain⟨hl2,hgw⟩:=hp10 g
   refine fold_beside_ok (v:=w) (S.le l26) A.ok (by omega) hgw (fun a' n' c' h' z l' S' Z=>⟨_,_,_,true,rfl,fun _=>hK _ _ _ _ _ (Hp.le_trans l26 l') S' ?_,fun g=>by cases g⟩) fun h' l'=>⟨_,_,_,false,rfl,fun g=>by (cases g),fun _=>j33 _ (Hp.le_trans l26 l')⟩
   rw [hl2] at B
   have Z2:=Z.rep (j:=k+j+1) (by omega) T U
   refine⟨Z2.ok,Z2.len,fun e E=>?_,Z2.ty⟩
   rw [Z2.val e E,B.cst_val e E,opV_do (by omega),A.val e E]
   rfl
  clear_value J25
  refine⟨fun g=>?_,fun _=>j25 _ (Hp.le_refl h)⟩
  obtain⟨hl,hgv⟩:=hp5 g
  refine fold_beside_ok (v:=v) S2 B.ok (by omega) hgv (fun a' n' c' h' z l' S' Z=>⟨_,_,_,true,rfl,fun _=>hK _ _ _ _ _ l' S' ?_,fun g=>by cases g⟩) fun h' l'=>⟨_,_,_,false,rfl,fun g=>by (cases g),fun _=>j25 _ l'⟩
  rw [hl] at A
  have Z2:=Z.rep (j:=k+j+1) (by omega) T U
  refine⟨Z2.ok,Z2.len,fun e E=>?_,Z2.ty⟩
  rw [Z2.val e E,A.cst_val e E,opV_do (by omega),B.val e E]
  rfl
 refine fold_constant_ok S.s (fun n hn h1=>⟨_,_,true,rfl,?_⟩) ⟨_,_,false,rfl,?_⟩
 ·refine fold_constant_ok S2.s (fun n2 hn2 h2=>⟨_,_,true,rfl,?_⟩) ⟨_,_,false,rfl,?_⟩
  ·exact Y true true n.v n2.v (fun _=>cnst A.ok hn h1) (fun _=>cnst B.ok hn2 h2)
  ·exact Y true false n.v (0,0) (fun _=>cnst A.ok hn h1) (fun g=>by cases g)
 ·refine fold_constant_ok S2.s (fun n2 hn2 h2=>⟨_,_,true,rfl,?_⟩) ⟨_,_,false,rfl,?_⟩
  ·exact Y false true (0,0) n2.v (fun g=>by cases g) (fun _=>cnst B.ok hn2 h2)
  ·exact Y false false (0,0) (0,0) (fun g=>by cases g) (fun g=>by cases g)
end
theorem elRow:ElT Tryz.prog 129 26 1 24:=.of (by kernel_rfl) (by kernel_rfl) (by decide)
def encR (r:TRow Nd):List Value:=[rowV r]
theorem encR_len (r:TRow Nd):(encR r).length=1:=rfl
structure StkR (h:Hp)(a:Option Addr)(n c:Nat)(R:List (TRow Nd)):Prop where
 s:SlP encR h a n R
 c:n≤c
 r:∀ r ∈ R,NS h r.1.1 r.2.length r.1.2 r.2
theorem rev_top {α β:Type}{f:α→β}{R:List α}{z:β}{s:List β}(h:(R.map f).reverse=z :: s):∃ r,R=R.take (R.length - 1)++[r]∧f r=z∧((R.take (R.length - 1)).map f).reverse=s∧1≤R.length∧R[R.length - 1]?=some r:=by
 have h1:R.map f=s.reverse++[z]:=by rw [←List.reverse_reverse (R.map f),h,List.reverse_cons]
 have hlen:R.length=s.length+1:=by have:=congrArg List.length h1;simpa using this
 have hx:R[R.length - 1]?=some (R[R.length - 1]'(by omega)):=List.getElem?_eq_getElem (by omega)
 refine⟨_,?_,?_,?_,by omega,hx⟩
 ·have:=List.take_append_drop (R.length - 1) R
  rw [List.drop_eq_getElem_cons (by omega),show R.length - 1+1=R.length by omega,List.drop_length] at this
  exact this.symm
 ·have:(R.map f)[R.length - 1]?=some z:=by rw [h1,List.getElem?_append_right (by simp;omega)];simp [hlen]
  rw [List.getElem?_map,hx] at this
  simpa using this
 ·rw [List.map_take,h1,List.take_left' (by simp;omega),List.reverse_reverse]
section
variable {a:Option Addr}{m c:Nat}{l:List Nd}{h:Hp}
structure Stp (l:List Nd)(F:List (List Nd)→Nat→Prop):Prop where
 z:F [] 0
 len:∀ s i,F s i→s.length≤i
 stp:∀ s i n,F s i→l[i]?=some n→(arI n.op=0∧F ([n] :: s) (i+1)) ∨
  (arI n.op=1∧∃ z s',s=z :: s'∧∀(a:Option Addr) (m c:Nat) (h:Hp) (R:Value→Hp→Prop),NS h a m c z→(∀ a' n' c' h' y,h.le h'→NS h' a' n' c' y→F (y :: s') (i+1)→R (vsl a' n' c') h')→CallOK Tryz.prog 65 [vi n.op,vsl a m c] h R) ∨
  (arI n.op=2∧∃ z z' s',s=z' :: z :: s'∧∀(a:Option Addr) (m c:Nat) (a2:Option Addr) (m2 c2:Nat) (h:Hp) (R:Value→Hp→Prop),NS h a m c z→NS h a2 m2 c2 z'→(∀ a' n' c' h' y,h.le h'→NS h' a' n' c' y→F (y :: s') (i+1)→R (vsl a' n' c') h')→CallOK Tryz.prog 66 [vi n.op,vsl a m c,vsl a2 m2 c2] h R)
theorem fold_Fold_gen {F0S:List (List Nd)→Nat→Prop}{Z:List Nd→Prop}(S:SlP encN h a m l)(H:Stp l F0S)(hz:∀ s,F0S s l.length→∃ z,s=[z]∧Z z)(hm:l.length≤100000){R:Value→Hp→Prop}
  (hK:∀ a' n' c' h' z,h.le h'→NS h' a' n' c' z→Z z→R (vsl a' n' c') h'):CallOK Tryz.prog 31 [vsl a m c] h R:=by
 refine ok_fold_Fold ?_
 unfold VC_fold_Fold
 obtain rfl:=S.1
 refine⟨fun vs hh=>∃(i:Nat) (a:Option Addr) (c:Nat) (Q:List (TRow Nd)),vs=[vsl a Q.length c,vi i]∧i≤l.length∧h.le hh∧StkR hh a Q.length c Q∧F0S (Q.map Prod.snd).reverse i,fun vs hh=>l.length - (vint vs 1).toNat,
  ⟨0,none,0,[],rfl,Nat.zero_le _,Hp.le_refl h,⟨⟨rfl,.inl rfl⟩,Nat.le_refl _,fun r hr=>by cases hr⟩,H.z⟩,?_⟩
 rintro vs hh ⟨i,a1,c1,Q,rfl,hi,hle,SQ,F⟩
 refine⟨_,_,_,_,rfl,fun g=>?_,fun g=>?_⟩
 ·have hlt:i < l.length:=by have:=of_decide_eq_true g;omega
  have hx:l[i]?=some l[i]:=List.getElem?_eq_getElem hlt
  obtain⟨b,o,ha,hr⟩:=(S.le hle).get encN_len (by decide) hx
  have st:=H.stp _ _ _ F hx
  have fl:=H.len _ _ F
  rw [List.length_reverse,List.length_map] at fl
  generalize l[i]=n at *
  refine⟨b,o,⟨ha,by omega,by omega⟩,_,_,_,_,_,_,hr,expr_Arity_ok ⟨_,rfl,?_⟩⟩
  have hsz:szT Tryz.prog 26=1:=by kernel_rfl
  have hcap:=SQ.c
  -- what is behind a node's own is put there
  have fin:∀(kk:Nat),kk≤Q.length→∀(z:List Nd) (a46:Option Addr) (n46 c46:Nat) (h47:Hp),hh.le h47→NS h47 a46 n46 c46 z→F0S (z :: ((Q.take kk).map Prod.snd).reverse) (i+1) →
    (∃(a48:Option Addr) (n48 c48:Nat),(Rd Tryz.prog (Instr.sliceAt 129 (vsl a1 Q.length c1) none (some (vi kk)) (some (vi kk))) h47 (vsl a48 n48 c48))∧(∀(b49:Nat),h47 b49=none→let h50:Hp:=Hp.set h47 b49 (cellsO [(vsl a46 n46 c46)] 26);(SemOK Tryz.prog (Builtin.append_ #[129,129] 129 #[(vsl a48 n48 c48),(vsl (some (⟨b49,0,none⟩:Addr)) 1 1)]) h50 fun v51 h52=>∃(a53:Option Addr) (n53 c53:Nat),v51=(vsl a53 n53 c53)∧(∃(x55:Int),(IsW x55 ((i:Int)+1))∧((∃(i:Nat) (a:Option Addr) (c:Nat) (Q:List (TRow Nd)),[(vsl a53 n53 c53),(vi x55)]=[vsl a Q.length c,vi i]∧i≤l.length∧h.le h52∧StkR h52 a Q.length c Q∧F0S (Q.map Prod.snd).reverse i)∧l.length - (vint [(vsl a53 n53 c53),(vi x55)] 1).toNat < l.length - (vint [vsl a1 Q.length c1,vi i] 1).toNat))))):=by
   intro kk hkk z a46 n46 c46 h47 l47 SZ FZ
   obtain rfl:=SZ.s.1
   refine⟨_,_,_,rd_slice_hm (e:=26) (by kernel_rfl) (by kernel_rfl) (by omega) (Int.le_refl _) (by omega),fun b49 hb49=>?_⟩
   intro h50
   rw [Int.toNat_natCast]
   have l50:h47.le h50:=Hp.le_set (Hp.le_refl h47) hb49 _
   have SK:=(SQ.s.le (Hp.le_trans l47 l50)).take encR_len hkk
   have hfl:((Q.take kk).flatMap encR).length=kk*1:=by rw [flatMap_length encR_len,←SK.1]
   refine sem_append_full elRow SK.2 hfl (fun hn=>?_) (HasRow.new _ _ [vsl a46 z.length c46] _) (m:=1) rfl (Nat.succ_pos 0) (by omega) (by omega) fun a' c' h' O'=>⟨_,_,_,rfl,_,isW (by unfold InR;omega),⟨i+1,a',c',Q.take kk++[((a46,c46),z)],?_,by omega,?_,⟨?_,?_,?_⟩,?_⟩,by simp [vint];omega⟩
   ·rcases SK.2 with h1|⟨b',o',h1,_⟩
    ·rw [h1] at hfl;simp at hfl;omega
    ·rw [hn] at h1;cases h1
   ·rw [List.length_append,←SK.1];rfl
   ·exact Hp.le_trans (Hp.le_trans (Hp.le_trans hle l47) l50) O'.le
   ·have:(Q.take kk++[((a46,c46),z)]).flatMap encR=(Q.take kk).flatMap encR++[vsl a46 z.length c46]:=by rw [List.flatMap_append];rfl
    rw [←this] at O'
    have:=OwnV.slp encR_len (by decide) O'
    rw [List.length_append,←SK.1]
    exact this
   ·rw [List.length_append,←SK.1]
    exact O'.own.cap
   ·intro r hr
    rcases List.mem_append.1 hr with h1|h1
    ·exact(SQ.r r (List.mem_of_mem_take h1)).le (Hp.le_trans (Hp.le_trans l47 l50) O'.le)
    ·rw [List.mem_singleton] at h1
     subst h1
     exact SZ.le (Hp.le_trans l50 O'.le)
   ·rw [List.map_append,List.reverse_append]
    exact FZ
  have own:∀(kk:Nat),kk≤Q.length→Rd Tryz.prog (Instr.sliceAt 129 (vsl a1 Q.length c1) (some (vi kk)) none none) hh (vsl (cutA a1 kk c1 1) (Q.length - kk) (c1 - kk))∧SlP encR hh (cutA a1 kk c1 1) (Q.length - kk) (Q.drop kk):=by
   intro kk hkk
   have:=rd_slice_l (P:=Tryz.prog) (h:=hh) (t:=129) (e:=26) (by kernel_rfl) (by kernel_rfl) (a:=a1) (n:=Q.length) (c:=c1) (x:=(kk:Int)) (by omega) (by omega)
   rw [hsz,Int.toNat_natCast] at this
   exact⟨this,SQ.s.drop encR_len hkk hcap⟩
  rcases st with ⟨h0,F0⟩|⟨h1,z,s',hs,C1⟩|⟨h2,z,z',s',hs,C2⟩
  ·rw [h0]
   refine⟨(Q.length:Nat),by have:=isW (e:=((Q.length:Nat):Int) - 0) (by unfold InR;omega);rw [Int.sub_zero] at this ⊢;exact this,_,_,_,(own Q.length (Nat.le_refl _)).1,fun _=>?_,fun g=>?_⟩
   ·intro b23 hb23 h24
    refine fin Q.length (Nat.le_refl _) [n] _ _ _ h24 (Hp.le_set (Hp.le_refl hh) hb23 _) ⟨⟨rfl,HasRow.new _ _ (encN n) _⟩,Nat.le_refl _⟩ ?_
    rw [List.take_length]
    exact F0
   ·exfalso
    have:=of_decide_eq_false g
    omega
  ·obtain⟨r,eQ,er,es,hQ1,hr1⟩:=rev_top hs
   rw [h1]
   refine⟨((Q.length - 1:Nat):Int),by have:=isW (e:=((Q.length:Nat):Int) - 1) (by unfold InR;omega);rw [show ((Q.length:Nat):Int) - 1=((Q.length - 1:Nat):Int) by omega] at this ⊢;exact this,_,_,_,(own (Q.length - 1) (by omega)).1,fun g=>?_,fun g=>⟨fun _=>?_,fun g=>?_⟩⟩
   ·exfalso
    have:=of_decide_eq_true g
    omega
   ·have S1:=(own (Q.length - 1) (by omega)).2
    obtain⟨b1,o1,ha1,hc1⟩:=S1.get encR_len (by decide) (i:=0) (x:=r) (by rw [List.getElem?_drop];exact hr1)
    have NR:=SQ.r r (List.mem_of_getElem? hr1)
    refine⟨b1,o1,⟨ha1,by decide,by omega⟩,_,_,_,Hp.row_cell hc1 (i:=0) rfl,?_⟩
    rw [er] at NR ⊢
    refine C1 _ _ _ _ _ NR fun a' n' c' h' y l' SY Y=>⟨_,_,_,rfl,?_⟩
    refine fin (Q.length - 1) (by omega) y _ _ _ _ l' SY ?_
    rw [es]
    exact Y
   ·exfalso
    have:=of_decide_eq_false g
    omega
  ·obtain⟨r',eQ,er',es',hQ1,hr1⟩:=rev_top hs
   obtain⟨r,eQ2,er,es,hQ2,hr2⟩:=rev_top es'
   rw [List.length_take] at eQ2 es hQ2 hr2
   have e2:min (Q.length - 1) Q.length - 1=Q.length - 2:=by omega
   rw [e2] at eQ2 es hr2
   rw [List.take_take,show min (Q.length - 2) (Q.length - 1)=Q.length - 2 by omega] at es
   rw [List.getElem?_take,if_pos (by omega)] at hr2
   rw [h2]
   refine⟨((Q.length - 2:Nat):Int),by have:=isW (e:=((Q.length:Nat):Int) - 2) (by unfold InR;omega);rw [show ((Q.length:Nat):Int) - 2=((Q.length - 2:Nat):Int) by omega] at this ⊢;exact this,_,_,_,(own (Q.length - 2) (by omega)).1,fun g=>?_,fun g=>⟨fun g=>?_,fun g=>?_⟩⟩
   ·exfalso
    have:=of_decide_eq_true g
    omega
   ·exfalso
    have:=of_decide_eq_true g
    omega
   ·have S1:=(own (Q.length - 2) (by omega)).2
    obtain⟨b1,o1,ha1,hc1⟩:=S1.get encR_len (by decide) (i:=0) (x:=r) (by rw [List.getElem?_drop];exact hr2)
    obtain⟨b2,o2,ha2,hc2⟩:=S1.get encR_len (by decide) (i:=1) (x:=r') (by rw [List.getElem?_drop,show Q.length - 2+1=Q.length - 1 by omega];exact hr1)
    have NR:=SQ.r r (List.mem_of_getElem? hr2)
    have NR':=SQ.r r' (List.mem_of_getElem? hr1)
    refine⟨b1,o1,⟨ha1,by decide,by omega⟩,_,_,_,Hp.row_cell hc1 (i:=0) rfl,b2,o2,⟨ha2,by decide,by omega⟩,_,_,_,Hp.row_cell hc2 (i:=0) rfl,?_⟩
    rw [er] at NR ⊢
    rw [er'] at NR' ⊢
    refine C2 _ _ _ _ _ _ _ _ NR NR' fun a' n' c' h' y l' SY Y=>⟨_,_,_,rfl,?_⟩
    refine fin (Q.length - 2) (by omega) y _ _ _ _ l' SY ?_
    rw [es]
    exact Y
 ·have hge:i=l.length:=by have:=of_decide_eq_false g;omega
  subst hge
  obtain⟨z,hz,A⟩:=hz _ F
  obtain⟨r,eQ,er,es,hQ1,hr1⟩:=rev_top hz
  have hQ:Q.length=1:=by have:=congrArg List.length hz;simpa using this
  rw [hQ] at hr1
  obtain⟨b1,o1,ha1,hc1⟩:=SQ.s.get encR_len (by decide) (i:=0) (x:=r) hr1
  have NR:=SQ.r r (List.mem_of_getElem? hr1)
  refine⟨b1,o1,⟨ha1,by decide,by omega⟩,_,_,_,Hp.row_cell hc1 (i:=0) rfl,?_⟩
  rw [er] at NR ⊢
  exact hK _ _ _ _ _ hle NR A
theorem fold_Fold_ok (S:SlP encN h a m l)(O:OkE l)(hm:l.length≤100000){R:Value→Hp→Prop}
  (hK:∀ a' n' c' h' z,h.le h'→NS h' a' n' c' z→Rep (fun ev=>valE ev l) (tAt l (l.length - 1)) l.length z→R (vsl a' n' c') h'):CallOK Tryz.prog 31 [vsl a m c] h R:=by
 refine fold_Fold_gen (F0S:=FStk l) S ⟨.nil,fun s i F=>F.len,fun s i n F hn=>?_⟩ (fun s F=>F.done O) hm hK
 have hi:=F.all
 rcases F.step O hn with h0|⟨h1,z,s',P,T,k,hs,hk,A,F1⟩|⟨h2,z,z',s',P,T,k,Q2,U,j,hs,hk,A,B,F2⟩
 ·exact .inl h0
 ·exact .inr (.inl ⟨h1,z,s',hs,fun a m c h R N hR=>fold_single_ok h1 N A (by omega) fun a' n' c' h' y l' SY Y=>hR _ _ _ _ _ l' SY (F1 y Y)⟩)
 ·exact .inr (.inr ⟨h2,z,z',s',hs,fun a m c a2 m2 c2 h R N N' hR=>fold_double_ok h2 N A (by omega) N' B (by omega) fun a' n' c' h' y l' SY Y=>hR _ _ _ _ _ l' SY (F2 y Y)⟩)
end
structure FoldQ (q qf:Qy):Prop where
 sz:qf.size=q.size
 sl:qf.slide=q.slide
 de:qf.delay=q.delay
 la:qf.late=q.late
 an:qf.aggs.length=q.aggs.length
 ag:∀(i:Nat) (a b:Ag),q.aggs[i]?=some a→qf.aggs[i]?=some b→b.1=a.1∧(a.1=1→b.2=[])∧(a.1≠1→Rep (fun e=>valE e a.2) (tAt a.2 (a.2.length - 1)) a.2.length b.2)
 w0:q.wh=[]→qf.wh=[]
 w1:q.wh≠[]→Rep (fun e=>valE e q.wh) (tAt q.wh (q.wh.length - 1)) q.wh.length qf.wh
 b0:q.by_=[]→qf.by_=[]
 b1:q.by_≠[]→Rep (fun e=>valE e q.by_) (tAt q.by_ (q.by_.length - 1)) q.by_.length qf.by_
theorem FoldQ.wn {q qf:Qy}(F:FoldQ q qf):qf.wh=[]↔q.wh=[]:=by
 constructor
 ·intro h
  refine Decidable.byContradiction fun q'=>?_
  have:=(F.w1 q').pos
  rw [h] at this
  exact absurd this (Nat.lt_irrefl 0)
 ·exact F.w0
theorem FoldQ.bn {q qf:Qy}(F:FoldQ q qf):qf.by_=[]↔q.by_=[]:=by
 constructor
 ·intro h
  refine Decidable.byContradiction fun q'=>?_
  have:=(F.b1 q').pos
  rw [h] at this
  exact absurd this (Nat.lt_irrefl 0)
 ·exact F.b0
theorem evalO_ok {l:List Nd}(O:OkE l)(hl:l.length≤1000000){a:Option Addr}{n c:Nat}{h:Hp}(S:SlP encN h a n l){e:EvL}{R:Value→Hp→Prop}(hK:∀ h',h.le h'→R (vag (encV (valE e l))) h'):CallOK Tryz.prog 45 [vsl a n c,vag (encE e)] h R:=
 expr_Eval_ok S O.wf (by have:=O.pos;omega) (by omega) hK
structure EngM (hi h:Hp)(g:Nat)(cs:List Value)(ar:Option Addr)(cr:Nat)(rd:List Nat)(aw:Option Addr)(wn cw:Nat)(ws:List Value):Prop where
 blk:h g=some (cellsO cs 64)
 gn:hi g=none
 r:OwnV hi h 3 1 ar rd.length cr (rd.map fun n:Nat=>vi n)
 w:OwnV hi h 74 5 aw wn cw ws
 rg:ar≠some ⟨g,0,none⟩
 wg:aw≠some ⟨g,0,none⟩
 rw_:∀ b,ar=some ⟨b,0,none⟩→aw≠some ⟨b,0,none⟩
section
variable {hi h:Hp}{g:Nat}{cs:List Value}{ar:Option Addr}{cr:Nat}{rd:List Nat}{aw:Option Addr}{wn cw:Nat}{ws:List Value}
theorem EngM.le0 (M:EngM hi h g cs ar cr rd aw wn cw ws):hi.le h:=M.r.le
theorem EngM.le {h':Hp}(M:EngM hi h g cs ar cr rd aw wn cw ws)(l:h.le h'):EngM hi h' g cs ar cr rd aw wn cw ws:=
 ⟨l _ _ M.blk,M.gn,M.r.mono l,M.w.mono l,M.rg,M.wg,M.rw_⟩
theorem own_al {h0 h:Hp}{e:TypeId}{sz n c:Nat}{a:Option Addr}{xs:List Value}(O:OwnV h0 h e sz a n c xs){b:Nat}(hb:a=some ⟨b,0,none⟩):h b≠none:=(OwnF.fp e sz a n c xs).al (⟨O.own,rfl⟩:OwnF e sz a n c xs h (fun b=>a=some ⟨b,0,none⟩)) b hb
theorem EngM.rebase (M:EngM hi h g cs ar cr rd aw wn cw ws):∃ hj:Hp,hi.le hj∧EngM hj h g cs ar cr rd aw wn cw ws∧∀ b o,h b=some o→b≠g→ar≠some ⟨b,0,none⟩→aw≠some ⟨b,0,none⟩→hj b=some o:=by
 have e1:∀ b,(b=g∨ar=some ⟨b,0,none⟩∨aw=some ⟨b,0,none⟩)→(fun b=>if b=g∨ar=some ⟨b,0,none⟩∨aw=some ⟨b,0,none⟩ then none else h b:Hp) b=none:=fun b hb=>if_pos hb
 have e2:∀ b,¬(b=g∨ar=some ⟨b,0,none⟩∨aw=some ⟨b,0,none⟩)→(fun b=>if b=g∨ar=some ⟨b,0,none⟩∨aw=some ⟨b,0,none⟩ then none else h b:Hp) b=h b:=fun b hb=>if_neg hb
 generalize (fun b=>if b=g∨ar=some ⟨b,0,none⟩∨aw=some ⟨b,0,none⟩ then none else h b:Hp)=hj at e1 e2
 have lj:Hp.le hj h:=fun b o ho=>by
  by_cases q:b=g∨ar=some ⟨b,0,none⟩∨aw=some ⟨b,0,none⟩
  ·rw [e1 b q] at ho;cases ho
  ·rw [e2 b q] at ho;exact ho
 refine⟨hj,fun b o ho=>?_,⟨M.blk,e1 g (.inl rfl),⟨lj,M.r.own,fun b hb=>e1 b (.inr (.inl hb))⟩,⟨lj,M.w.own,fun b hb=>e1 b (.inr (.inr hb))⟩,M.rg,M.wg,M.rw_⟩,fun b o ho n1 n2 n3=>(e2 b (by
  rintro(q|q|q)
  ·exact n1 q
  ·exact n2 q
  ·exact n3 q)).trans ho⟩
 refine(e2 b ?_).trans (M.le0 b o ho)
 rintro(q|q|q)
 ·rw [q,M.gn] at ho;cases ho
 ·rw [M.r.new b q] at ho;cases ho
 ·rw [M.w.new b q] at ho;cases ho
theorem EngM.rebase_new {h1:Hp}(M:EngM hi h g cs ar cr rd aw wn cw ws)(l:h.le h1):∃ hj:Hp,hi.le hj∧EngM hj h1 g cs ar cr rd aw wn cw ws∧(∀(a:Option Addr) (xs:List Value),HasRow h1 a xs→(∀ b o,a=some ⟨b,o,none⟩→h b=none)→HasRow hj a xs)∧∀ b o,h1 b=some o→h b=none→hj b=some o:=by
 obtain⟨hj,l1,M1,k1⟩:=(M.le l).rebase
 have key:∀ b o,h1 b=some o→h b=none→hj b=some o:=fun b o ho hn=>k1 b o ho (fun q=>by rw [q,M.blk] at hn;cases hn) (fun q=>own_al M.r q hn) (fun q=>own_al M.w q hn)
 refine⟨hj,l1,M1,fun a xs H hn=>HasRow.over H fun b o ob hb ho=>key b ob ho (hn b o hb),key⟩
theorem EngM.put (M:EngM hi h g cs ar cr rd aw wn cw ws){j:Nat}{v:Value}(hj:j < cs.length){K:Hp→Prop}(hK:∀ h',EngM hi h' g (cs.set j v) ar cr rd aw wn cw ws→K h'):h.store g j [v] K:=by
 refine store_cells M.blk (by simp only [List.length_singleton];omega) ?_
 rw [setL_one _ _ _ hj]
 refine hK _ ⟨Hp.set_same _ _ _,M.gn,OwnV.apart M.r (fun b o ho=>?_) (fun b o hb ho=>?_),OwnV.apart M.w (fun b o ho=>?_) (fun b o hb ho=>?_),M.rg,M.wg,M.rw_⟩
 ·exact(Hp.set_other h _ (fun q=>by rw [q,M.gn] at ho;cases ho)).trans (M.le0 b o ho)
 ·exact(Hp.set_other h _ (fun q=>M.rg (by rw [hb,q]))).trans ho
 ·exact(Hp.set_other h _ (fun q=>by rw [q,M.gn] at ho;cases ho)).trans (M.le0 b o ho)
 ·exact(Hp.set_other h _ (fun q=>M.wg (by rw [hb,q]))).trans ho
theorem EngM.read (M:EngM hi h g cs ar cr rd aw wn cw ws){p:Nat}{x:Nat}(hp:p < rd.length):∃ b,ar=some ⟨b,0,none⟩∧h.cell b (0+p*1)=some (vi (rd.getD p 0:Nat))∧∀ K:Hp→Prop,(∀ h',EngM hi h' g cs ar cr (rd.set p x) aw wn cw ws→K h')→h.store b (0+p*1) [vi (x:Int)] K:=by
 have S:SlI h ar rd.length (rd.map fun n:Nat=>(n:Int)):=by
  have:=M.r
  rw [show (rd.map fun n:Nat=>vi n)=(rd.map fun n:Nat=>(n:Int)).map vi by rw [List.map_map];rfl] at this
  exact this.sli
 obtain⟨b,o,ea,hc⟩:=S.get hp
 have ho:=M.r.own.at0 b o ea
 subst ho
 have hg:(rd.map fun n:Nat=>(n:Int)).getD p 0=((rd.getD p 0:Nat):Int):=by
  rw [List.getD_eq_getElem?_getD,List.getD_eq_getElem?_getD,List.getElem?_map,List.getElem?_eq_getElem hp];rfl
 rw [hg] at hc
 refine⟨b,ea,hc,fun K hK=>?_⟩
 have O:OwnV hi h 3 1 ar rd.length cr ((rd.map fun n:Nat=>(n:Int)).map vi):=by rw [List.map_map];exact M.r
 refine O.store_i (x:=(x:Int)) hp ea fun ob O'=>hK _ ?_
 have e:((rd.map fun n:Nat=>(n:Int)).set p (x:Int)).map vi=(rd.set p x).map fun n:Nat=>vi n:=by rw [←List.map_set,List.map_map];rfl
 rw [e] at O'
 have hbg:g≠b:=fun q=>M.rg (by rw [ea,q])
 refine⟨(Hp.set_other h _ hbg).trans M.blk,M.gn,by rw [List.length_set];exact O',OwnV.apart M.w O'.le (fun b' o hb ho=>(Hp.set_other h _ (fun q=>M.rw_ b ea (by rw [hb,q]))).trans ho),M.rg,M.wg,M.rw_⟩
theorem elRowW:ElT Tryz.prog 62 74 5 56:=.of (by kernel_rfl) (by kernel_rfl) (by decide)
theorem EngM.rows (M:EngM hi h g cs ar cr rd aw wn cw ws){m b:Nat}{news:List Value}(hb:h b=none)(hl:news.length=m*5)(h1:∀ u ∈ news,u.oneCell'=true)(hn:wn+m≤100000000){ty:TypeId}{K:Value→Hp→Prop}
  (hK:∀ aw' cw' h',EngM hi h' g cs ar cr rd aw' (wn+m) cw' (ws++news)→K (vsl aw' (wn+m) cw') h') :
  SemOK Tryz.prog (Builtin.append_ #[62,62] ty #[vsl aw wn cw,vsl (some ⟨b,0,none⟩) m m]) (h.set b (cellsO news 74)) K:=by
 have M1:=M.le (Hp.le_set (Hp.le_refl h) hb (cellsO news 74))
 refine OwnV.append elRowW M1.w (HasRow.new _ _ news _) hl h1 (by omega) (by omega) fun a' c' h' O' k1 k2=>hK a' c' h' ?_
 refine⟨k1 g _ M1.blk M.wg,M.gn,OwnV.apart M1.r O'.le (fun b' o hb' ho=>k1 b' o ho (M.rw_ b' hb')),O',M.rg,fun q=>?_,fun b' hb' q=>?_⟩
 ·rcases k2 g q with e|e
  ·exact M.wg (e.trans q)
  ·rw [M1.blk] at e;cases e
 ·rcases k2 b' q with e|e
  ·exact M.rw_ b' hb' (e.trans q)
  ·exact own_al M1.r hb' e
end
def rwRow (b:Bool × PK)(v:Value):List Value:=[vb b.1,vi b.2.1,vi b.2.2.1,vi b.2.2.2,v]
theorem rwRow_len (b:Bool × PK)(v:Value):(rwRow b v).length=5:=rfl
def rowG (w:Rw):(Bool × PK) × List Vl:=((w.1,w.2.1),w.2.2)
def pnT (ks:List Int)(p:Pn):PK × List AcS × Bool:=(p.k,accsOf ks p.rs,p.t)
def engC (a1:Option Addr)(n1 c1:Nat)(a2:Option Addr)(n2 c2:Nat)(a3:Option Addr)(n3 c3:Nat)(qf:Qy)(ak:Option Addr)(nk ck:Nat)(ar:Option Addr)(nr cr:Nat)(ac:Option Addr)(nc cc:Nat)(tb:Option Addr)(tn tc:Nat)(late:Nat)(aw:Option Addr)(wn cw:Nat):List Value:=
 [vsl a1 n1 c1,vsl a2 n2 c2,vsl a3 n3 c3,vi qf.size,vi qf.slide,vi qf.delay,vi qf.late,vsl ak nk ck,vsl ar nr cr,vsl ac nc cc,vsl tb tn tc,vi (late:Nat),vsl aw wn cw]
structure EngI (q qf:Qy)(hi:Hp)(a1:Option Addr)(n1:Nat)(a2:Option Addr)(n2:Nat)(a3:Option Addr)(n3:Nat)(ak:Option Addr)(nk:Nat)(ac:Option Addr)(nc:Nat)(tb:Option Addr)(R:List PR)(RW:List (GRow Vl (Bool × PK)))(st:En):Prop where
 f:FoldQ q qf
 qa:QAt hi qf a1 n1 a2 n2 a3 n3
 k:SlI hi ak nk (kindsQ q)
 c:SlI hi ac nc st.far
 t:Tb hi tb R
 p:R.map prT=st.pn.map (pnT (kindsQ q))
 w:growL RW=st.rows.map rowG
 wi:∀ r ∈ RW,HasRow hi r.2.1.1 (r.2.2.flatMap encV)
theorem EngI.le {q qf:Qy}{hi hj:Hp}{a1:Option Addr}{n1:Nat}{a2:Option Addr}{n2:Nat}{a3:Option Addr}{n3:Nat}{ak:Option Addr}{nk:Nat}{ac:Option Addr}{nc:Nat}{tb:Option Addr}{R:List PR}{RW:List (GRow Vl (Bool × PK))}{st:En}(I:EngI q qf hi a1 n1 a2 n2 a3 n3 ak nk ac nc tb R RW st)(l:hi.le hj):EngI q qf hj a1 n1 a2 n2 a3 n3 ak nk ac nc tb R RW st:=
 ⟨I.f,I.qa.le l,I.k.le l,I.c.le l,I.t.le l,I.p,I.w,fun r hr=>(I.wi r hr).le l⟩
def EngX (q:Qy)(h0 h:Hp)(g:Nat)(st:En):Prop:=
 ∃(qf:Qy) (hi:Hp) (a1:Option Addr) (n1 c1:Nat) (a2:Option Addr) (n2 c2:Nat) (a3:Option Addr) (n3 c3:Nat) (ak:Option Addr) (nk ck:Nat) (ar:Option Addr) (cr:Nat) (ac:Option Addr) (nc cc:Nat) (tb:Option Addr) (tc:Nat) (aw:Option Addr) (cw:Nat) (R:List PR) (RW:List (GRow Vl (Bool × PK))),
  h0.le hi∧EngM hi h g (engC a1 n1 c1 a2 n2 c2 a3 n3 c3 qf ak nk ck ar st.rd.length cr ac nc cc tb R.length tc st.late aw RW.length cw) ar cr st.rd aw RW.length cw (RW.flatMap (growV rwRow))∧EngI q qf hi a1 n1 a2 n2 a3 n3 ak nk ac nc tb R RW st
theorem EngX.le {q:Qy}{h0 h h':Hp}{g:Nat}{st:En}(X:EngX q h0 h g st)(l:h.le h'):EngX q h0 h' g st:=by
 obtain⟨qf,hi,a1,n1,c1,a2,n2,c2,a3,n3,c3,ak,nk,ck,ar,cr,ac,nc,cc,tb,tc,aw,cw,R,RW,l0,M,I⟩:=X
 exact⟨qf,hi,a1,n1,c1,a2,n2,c2,a3,n3,c3,ak,nk,ck,ar,cr,ac,nc,cc,tb,tc,aw,cw,R,RW,l0,M.le l,I⟩
theorem EngX.le0 {q:Qy}{h0 h:Hp}{g:Nat}{st:En}(X:EngX q h0 h g st):h0.le h:=by
 obtain⟨qf,hi,a1,n1,c1,a2,n2,c2,a3,n3,c3,ak,nk,ck,ar,cr,ac,nc,cc,tb,tc,aw,cw,R,RW,l0,M,I⟩:=X
 exact Hp.le_trans l0 M.le0
theorem prT_keys {ks:List Int}{R:List PR}{L:List Pn}(h:R.map prT=L.map (pnT ks)):R.map (·.k)=L.map (·.k):=by
 have:=congrArg (List.map Prod.fst) h
 rw [List.map_map,List.map_map] at this
 exact this
theorem prT_at {ks:List Int}{R:List PR}{L:List Pn}(h:R.map prT=L.map (pnT ks)){i:Nat}{r:PR}(hr:R[i]?=some r):∃ p,L[i]?=some p∧r.k=p.k∧r.acs=accsOf ks p.rs∧r.t=p.t:=by
 have h1:(R.map prT)[i]?=some (prT r):=by rw [List.getElem?_map,hr];rfl
 rw [h,List.getElem?_map,Option.map_eq_some_iff] at h1
 obtain⟨p,hp,e⟩:=h1
 simp only [pnT,prT,Prod.mk.injEq] at e
 exact⟨p,hp,e.1.symm,e.2.1.symm,e.2.2.symm⟩
theorem putP_in {k:PK}{v:List Vl}:∀{l:List Pn} {i:Nat} {p:Pn},l.Pairwise (fun a b=>aheadK a.k b.k)→l[i]?=some p→p.k=k→putP k v l=l.set i ⟨k,p.rs++[v],p.t⟩
 | [],i,p,_,h,_=>by simp at h
 | x :: l,0,p,hs,h,hk=>by
  simp only [List.getElem?_cons_zero,Option.some.injEq] at h
  subst h
  rw [putP,if_neg (by rw [hk];exact aheadK_irr k),if_pos hk,List.set_cons_zero]
 | x :: l,i+1,p,hs,h,hk=>by
  obtain⟨h1,h2⟩:=List.pairwise_cons.1 hs
  simp only [List.getElem?_cons_succ] at h
  have hx:=h1 p (List.mem_of_getElem? h)
  rw [hk] at hx
  rw [putP,if_pos hx,List.set_cons_succ,putP_in h2 h hk]
theorem putP_new {k:PK}{v:List Vl}:∀{l:List Pn} {i:Nat},i≤l.length→(∀ x ∈ l.take i,aheadK x.k k)→(∀ x,l[i]?=some x→¬ aheadK x.k k)→(∀ x ∈ l,x.k≠k)→putP k v l=l.take i++⟨k,[v],false⟩ :: l.drop i
 | [],0,_,_,_,_=>rfl
 | [],i+1,h,_,_,_=>by simp at h
 | x :: l,0,_,_,h,hn=>by
  rw [putP,if_neg (h x rfl),if_neg (hn x (List.mem_cons_self ..))]
  rfl
 | x :: l,i+1,hi,h1,h,hn=>by
  rw [putP,if_pos (h1 x (by simp)),putP_new (by simpa using hi) (fun y hy=>h1 y (by simp [hy])) (fun y hy=>h y (by simpa using hy)) (fun y hy=>hn y (List.mem_cons_of_mem _ hy))]
  rfl
theorem acs_ok {q:Qy}{parts N:Nat}{st:En}(H:EnB q parts N st)(hN:N≤1000000000){R:List PR}(hp:R.map prT=st.pn.map (pnT (kindsQ q))):∀ r ∈ R,r.acs.length=(kindsQ q).length∧(∀ x ∈ r.acs,AcB x)∧-1000≤r.k.1∧r.k.1≤9999:=by
 intro r hr
 obtain⟨i,hi⟩:=List.getElem?_of_mem hr
 obtain⟨p,hp1,e1,e2,e3⟩:=prT_at hp hi
 obtain⟨q1,q2,q3,q4⟩:=H.pa p (List.mem_of_getElem? hp1)
 have hl:∀ r ∈ p.rs,r.length=(kindsQ q).length:=fun r hr=>by rw [(q4 r hr).l,kindsQ_len]
 rw [e1,e2]
 refine⟨?_,accsOf_small hl (fun r hr=>(q4 r hr).v) (by omega),q2,q3⟩
 have:=congrArg List.length (accsOf_kinds hl)
 rw [List.length_map] at this
 exact this
def VC_slices_Equal_api_Value_api_Value (u0:Option Addr)(u1 u2:Nat)(u3:Option Addr)(u4 u5:Nat)(h:Hp)(R:Value→Hp→Prop):Prop:=
 (((decide ((u1:Int)≠(u4:Int)))=true→R (vb false) h)∧((decide ((u1:Int)≠(u4:Int)))=false→(∃(I3:List Value→Hp→Prop) (m4:List Value→Hp→Nat),I3 [vi 0] h∧∀ vs5 h6,I3 vs5 h6→∃ x7,vs5=[vi x7]∧(((decide (x7 < (u1:Int)))=true→(∃ b10 o11,(u0=some ⟨b10,o11,none⟩∧(0:Int)≤x7∧x7 < (u1:Int))∧(∃ x12 x13,(Hp.row h6 b10 (o11+x7.toNat*2) 2=some [vi x12,vi x13])∧(∃ b14 o15,(u3=some ⟨b14,o15,none⟩∧(0:Int)≤x7∧x7 < (u4:Int))∧(∃ x16 x17,(Hp.row h6 b14 (o15+x7.toNat*2) 2=some [vi x16,vi x17])∧(∃ p18,(Rd Tryz.prog ((eqGuard .neq 41 (.tmp 19) (.tmp 23) (vag [vi x12,vi x13]) (vag [vi x16,vi x17]) >>= fun _=>binOp .neq 41 (vag [vi x12,vi x13]) (vag [vi x16,vi x17]))) h6 (vb p18))∧((p18=true→R (vb false) h6)∧(p18=false→(∃ x20,(IsW x20 (x7+1))∧(I3 [vi x20] h6∧m4 [vi x20] h6 < m4 vs5 h6))))))))))∧((decide (x7 < (u1:Int)))=false→R (vb true) h6)))))
theorem ok_slices_Equal_api_Value_api_Value {u0 u1 u2 u3 u4 u5 h R}(H:VC_slices_Equal_api_Value_api_Value u0 u1 u2 u3 u4 u5 h R):CallOK Tryz.prog 102 [vsl u0 u1 u2,vsl u3 u4 u5] h R:=
 call_of (cfg:=⟨[],[(4,([13],[.one (.int .i64)],[]))],[(6,[0,1,2,3,4,5,6,7,8])]⟩) noNG mixed Tryz.func102 [.one (.v (vsl u0 u1 u2)),.one (.v (vsl u3 u4 u5))] (by kernel_rfl) rfl (by kernel_rfl) H
def VC_engine_Engine_change_1 (u0:Int)(u1:Int)(u2:Int)(u3:Option Addr)(u4 u5:Nat)(u6:Bool)(f_0b f_0o:Nat)(f_1b f_1o:Nat)(h:Hp)(R:Value→Hp→Prop):Prop:=
 (∃ x1,(Hp.cell h f_0b f_0o=some (vi x1))∧(∃ x2 x3,((decide (u0=x1))=true→Hp.row h f_1b f_1o 2=some [vi x2,vi x3])∧(∃ p4,((decide (u0=x1))=true→Rd Tryz.prog ((eqGuard .eql 41 (.tmp 11) (.tmp 12) (vag [vi u1,vi u2]) (vag [vi x2,vi x3]) >>= fun _=>binOp .eql 41 (vag [vi u1,vi u2]) (vag [vi x2,vi x3]))) h (vb p4))∧R (vb (bif (decide (u0=x1)) then p4 else false)) h)))
theorem ok_engine_Engine_change_1 {u0 u1 u2 u3 u4 u5 u6 f_0b f_0o f_1b f_1o h R}(H:VC_engine_Engine_change_1 u0 u1 u2 u3 u4 u5 u6 f_0b f_0o f_1b f_1o h R):CallOK Tryz.prog 101 [vag [vi u0,vi u1,vi u2,vsl u3 u4 u5,vb u6],vhp f_0b f_0o,vhp f_1b f_1o] h R:=
 call_of (cfg:=⟨[],[],[]⟩) noNG mixed Tryz.func101 [.ag [.v (vi u0),.v (vi u1),.v (vi u2),.v (vsl u3 u4 u5),.v (vb u6)],.one (.hp f_0b f_0o),.one (.hp f_1b f_1o)] (by kernel_rfl) rfl (by kernel_rfl) H
def VC_engine_Engine_key (u0 u1:Nat)(u2:Int)(u3:Int)(u4:Int)(u5:Int)(u6:Int)(u7:Int)(u8:Int)(h:Hp)(R:Value→Hp→Prop):Prop:=
 (∃ a1 n1 c1,(Hp.cell h u0 (u1+2)=some (vsl a1 n1 c1))∧(((decide ((n1:Int)=0))=true→(CallOK Tryz.prog 120 [] h fun v2 h3=>∃ x4 x5,v2=(vag [vi x4,vi x5])∧R (vag [vi x4,vi x5]) h3))∧((decide ((n1:Int)=0))=false→(∃ a7 n7 c7,(Hp.cell h u0 (u1+2)=some (vsl a7 n7 c7))∧(CallOK Tryz.prog 45 [vsl a7 n7 c7,vag [vi u2,vi u3,vi u4,vi u5,vi u6,vi u7,vi u8]] h fun v8 h9=>∃ x10 x11,v8=(vag [vi x10,vi x11])∧R (vag [vi x10,vi x11]) h9)))))
theorem ok_engine_Engine_key {u0 u1 u2 u3 u4 u5 u6 u7 u8 h R}(H:VC_engine_Engine_key u0 u1 u2 u3 u4 u5 u6 u7 u8 h R):CallOK Tryz.prog 98 [vhp u0 u1,vag [vi u2,vi u3,vi u4,vi u5,vi u6,vi u7,vi u8]] h R:=
 call_of (cfg:=⟨[],[],[(3,[0,1,2,3,4,5,6,7])]⟩) noNG mixed Tryz.func98 [.one (.hp u0 u1),.ag [.v (vi u2),.v (vi u3),.v (vi u4),.v (vi u5),.v (vi u6),.v (vi u7),.v (vi u8)]] (by kernel_rfl) rfl (by kernel_rfl) H
def VC_engine_Engine_vals (u0 u1:Nat)(u2:Int)(u3:Int)(u4:Int)(u5:Int)(u6:Int)(u7:Int)(u8:Int)(h:Hp)(R:Value→Hp→Prop):Prop:=
 (∃ a1 n1 c1,(Hp.cell h u0 u1=some (vsl a1 n1 c1))∧(∃(I3:List Value→Hp→Prop) (m4:List Value→Hp→Nat),I3 [vsl none 0 0,vi 0] h∧∀ vs5 h6,I3 vs5 h6→∃ a7 n7 c7 x8,vs5=[vsl a7 n7 c7,vi x8]∧(((decide (x8 < (n1:Int)))=true→(let J35:Option Addr→Nat→Nat→Hp→Prop:=fun a38 n38 c38 h39=>(∃ x40,(IsW x40 (x8+1))∧(I3 [vsl a38 n38 c38,vi x40] h39∧m4 [vsl a38 n38 c38,vi x40] h39 < m4 vs5 h6));(∃ b11 o12,(a1=some ⟨b11,o12,none⟩∧(0:Int)≤x8∧x8 < (n1:Int))∧(∃ x13 a14 n14 c14,(Hp.row h6 b11 (o12+x8.toNat*2) 2=some [vi x13,vsl a14 n14 c14])∧(((decide (x13=1))=true→(CallOK Tryz.prog 120 [] h6 fun v15 h16=>∃ x17 x18,v15=(vag [vi x17,vi x18])∧(∀ b19,h16 b19=none→let h20:= Hp.set h16 b19 (cellsO [vi x17,vi x18] 41);(SemOK Tryz.prog (Builtin.append_ #[70,70] 70 #[vsl a7 n7 c7,(vsl (some (⟨b19,0,none⟩:Addr)) 1 1)]) h20 fun v21 h22=>∃ a23 n23 c23,v21=(vsl a23 n23 c23)∧(J35 a23 n23 c23 h22)))))∧((decide (x13=1))=false→(CallOK Tryz.prog 45 [vsl a14 n14 c14,vag [vi u2,vi u3,vi u4,vi u5,vi u6,vi u7,vi u8]] h6 fun v25 h26=>∃ x27 x28,v25=(vag [vi x27,vi x28])∧(∀ b29,h26 b29=none→let h30:= Hp.set h26 b29 (cellsO [vi x27,vi x28] 41);(SemOK Tryz.prog (Builtin.append_ #[70,70] 70 #[vsl a7 n7 c7,(vsl (some (⟨b29,0,none⟩:Addr)) 1 1)]) h30 fun v31 h32=>∃ a33 n33 c33,v31=(vsl a33 n33 c33)∧(J35 a33 n33 c33 h32))))))))))∧((decide (x8 < (n1:Int)))=false→R (vsl a7 n7 c7) h6))))
theorem ok_engine_Engine_vals {u0 u1 u2 u3 u4 u5 u6 u7 u8 h R}(H:VC_engine_Engine_vals u0 u1 u2 u3 u4 u5 u6 u7 u8 h R):CallOK Tryz.prog 100 [vhp u0 u1,vag [vi u2,vi u3,vi u4,vi u5,vi u6,vi u7,vi u8]] h R:=
 call_of (cfg:=⟨[],[(3,([5,14],[.one (.slice),.one (.int .i64)],[]))],[]⟩) noNG mixed Tryz.func100 [.one (.hp u0 u1),.ag [.v (vi u2),.v (vi u3),.v (vi u4),.v (vi u5),.v (vi u6),.v (vi u7),.v (vi u8)]] (by kernel_rfl) rfl (by kernel_rfl) H
def VC_engine_Engine_change (u0 u1:Nat)(u2:Int)(u3:Int)(u4:Int)(u5:Int)(u6:Int)(u7:Int)(u8:Int)(u9:Int)(h:Hp)(R:Value→Hp→Prop):Prop:=
 (∀ b1,h b1=none→let h2:= Hp.set h b1 (cellsO [vi u2] 3);(CallOK Tryz.prog 98 [vhp u0 u1,vag [vi u3,vi u4,vi u5,vi u6,vi u7,vi u8,vi u9]] h2 fun v3 h4=>∃ x5 x6,v3=(vag [vi x5,vi x6])∧(∀ b7,h4 b7=none→let h8:= Hp.set h4 b7 (cellsO [vi 0,vi 0] 41);(Hp.store h8 b7 0 [vi x5,vi x6] fun h9=>(∃ a10 n10 c10,(Hp.row h9 u0 (u1+10) 1=some [vsl a10 n10 c10])∧(∃ x11,(Hp.cell h9 b1 0=some (vi x11))∧(∃ x12 x13,(Hp.row h9 b7 0 2=some [vi x12,vi x13])∧(∃ a14 n14 c14,(Hp.cell h9 u0 (u1+7)=some (vsl a14 n14 c14))∧(CallOK Tryz.prog 100 [vhp u0 u1,vag [vi u3,vi u4,vi u5,vi u6,vi u7,vi u8,vi u9]] h9 fun v15 h16=>∃ a17 n17 c17,v15=(vsl a17 n17 c17)∧((Hp.cell h16 u0 (u1+7)=some (vsl a14 n14 c14))∧((Hp.row h16 b7 0 2=some [vi x12,vi x13])∧((Hp.cell h16 b1 0=some (vi x11))∧((Hp.row h16 u0 (u1+10) 1=some [vsl a10 n10 c10])∧(CallOK Tryz.prog 99 [vag [vsl a10 n10 c10],vi x11,vag [vi x12,vi x13],vsl a14 n14 c14,vsl a17 n17 c17] h16 fun v18 h19=>∃ a20 n20 c20 x21 x22 x23 a24 n24 c24 p25 p26,v18=(vtup [vag [vsl a20 n20 c20],vag [vi x21,vi x22,vi x23,vsl a24 n24 c24,vb p25],vb p26])∧(∀ b27,h19 b27=none→let h28:= Hp.set h19 b27 (cellsO [vsl none 0 0] 61);(∀ b29,h28 b29=none→let h30:= Hp.set h28 b29 (cellsO [vi 0,vi 0,vi 0,vsl none 0 0,vb false] 79);(Hp.store h30 b27 0 [vsl a20 n20 c20] fun h31=>(Hp.store h31 b29 0 [vi x21,vi x22,vi x23,vsl a24 n24 c24,vb p25] fun h32=>(∃ a33 n33 c33,(Hp.row h32 b27 0 1=some [vsl a33 n33 c33])∧(Hp.store h32 u0 (u1+10) [vsl a33 n33 c33] fun h34=>(∃ p35,((!p26)=false→Hp.cell h34 b29 (0+4)=some (vb p35))∧(((bif (!p26) then true else(!p35))=true→R (vtup []) h34)∧((bif (!p26) then true else(!p35))=false→(∃ x37 x38 x39 a40 n40 c40 p41,(Hp.row h34 b29 0 5=some [vi x37,vi x38,vi x39,vsl a40 n40 c40,vb p41])∧(CallOK Tryz.prog 50 [vag [vi x37,vi x38,vi x39,vsl a40 n40 c40,vb p41]] h34 fun v42 h43=>∃ x44 x45 x46 a47 n47 c47,v42=(vag [vi x44,vi x45,vi x46,vsl a47 n47 c47])∧(∃ a48 n48 c48,(Hp.cell h43 b27 0=some (vsl a48 n48 c48))∧(CallOK Tryz.prog 73 [vsl a48 n48 c48,(Value.func (.func 101) #[] #[vhp b1 0,vhp b7 0])] h43 fun v49 h50=>∃ x51,v49=(vi x51)∧(∃ a52 n52 c52,(Hp.cell h50 b27 0=some (vsl a52 n52 c52))∧(∃ b53 o54,(a52=some ⟨b53,o54,none⟩∧(0:Int)≤x51∧x51 < (n52:Int))∧(∃ x55 x56 x57 a58 n58 c58 p59,(Hp.row h50 b53 (o54+x51.toNat*5) 5=some [vi x55,vi x56,vi x57,vsl a58 n58 c58,vb p59])∧(CallOK Tryz.prog 50 [vag [vi x55,vi x56,vi x57,vsl a58 n58 c58,vb p59]] h50 fun v60 h61=>∃ x62 x63 x64 a65 n65 c65,v60=(vag [vi x62,vi x63,vi x64,vsl a65 n65 c65])∧(CallOK Tryz.prog 102 [vsl a47 n47 c47,vsl a65 n65 c65] h61 fun v66 h67=>∃ p68,v66=(vb p68)∧(((!p68)=true→(∃ a69 n69 c69,(Hp.cell h67 u0 (u1+12)=some (vsl a69 n69 c69))∧(∀ b70,h67 b70=none→let h71:= Hp.set h67 b70 (cellsO [vb true,vi x44,vi x45,vi x46,vsl a47 n47 c47,vb false,vi x62,vi x63,vi x64,vsl a65 n65 c65] 74);(SemOK Tryz.prog (Builtin.append_ #[62,62] 62 #[vsl a69 n69 c69,(vsl (some (⟨b70,0,none⟩:Addr)) 2 2)]) h71 fun v72 h73=>∃ a74 n74 c74,v72=(vsl a74 n74 c74)∧(Hp.store h73 u0 (u1+12) [vsl a74 n74 c74] fun h75=>R (vtup []) h75)))))∧((!p68)=false→R (vtup []) h67))))))))))))))))))))))))))))))))))
theorem ok_engine_Engine_change {u0 u1 u2 u3 u4 u5 u6 u7 u8 u9 h R}(H:VC_engine_Engine_change u0 u1 u2 u3 u4 u5 u6 u7 u8 u9 h R):CallOK Tryz.prog 47 [vhp u0 u1,vi u2,vag [vi u3,vi u4,vi u5,vi u6,vi u7,vi u8,vi u9]] h R:=
 call_of (cfg:=⟨[8,7,4,6],[],[(2,[0,1,2,3,4,5,6,7,8,9,10,11,12,13,14,15,16,17,18,19,20,21,22]),(9,[0,1,2,3,4,5,6,7,8,9,10,11,12,13])]⟩) noNG mixed Tryz.func47 [.one (.hp u0 u1),.one (.v (vi u2)),.ag [.v (vi u3),.v (vi u4),.v (vi u5),.v (vi u6),.v (vi u7),.v (vi u8),.v (vi u9)]] (by kernel_rfl) rfl (by kernel_rfl) H
def VC_engine_Engine_Step (u0 u1:Nat)(u2:Int)(u3:Int)(u4:Int)(u5:Int)(u6:Int)(u7:Int)(u8:Int)(u9:Int)(h:Hp)(R:Value→Hp→Prop):Prop:=
 (∃ a1 n1 c1,(Hp.row h u0 (u1+9) 1=some [vsl a1 n1 c1])∧(∃ x2,(Hp.cell h u0 (u1+5)=some (vi x2))∧(CallOK Tryz.prog 44 [vag [vsl a1 n1 c1],vi u2,vi x2] h fun v3 h4=>∃ x5 p6,v3=(vtup [vi x5,vb p6])∧(∃ a7 n7 c7,(Hp.cell h4 u0 (u1+1)=some (vsl a7 n7 c7))∧(∃ a8 n8 c8,((decide ((n7:Int)=0))=false→Hp.cell h4 u0 (u1+1)=some (vsl a8 n8 c8))∧(∃(J9:SV→Hp→Prop),((decide ((n7:Int)=0))=false→(CallOK Tryz.prog 45 [vsl a8 n8 c8,vag [vi u3,vi u4,vi u5,vi u6,vi u7,vi u8,vi u9]] h4 fun v10 h11=>∃ x12 x13,v10=(vag [vi x12,vi x13])∧J9 (.t (.ag [.v (vi x12),.v (vi x13)])) h11))∧(¬((decide ((n7:Int)=0))=false)→J9 (.t (.ag [.v (vi 0),.v (vi 0)])) h4)∧∀ h14 x15 x16,J9 (.t (.ag [.v (vi x15),.v (vi x16)])) h14→(∃(J17:SV→Hp→Prop),((decide ((n7:Int)=0))=false→(CallOK Tryz.prog 32 [vb true] h14 fun v18 h19=>∃ x20 x21,v18=(vag [vi x20,vi x21])∧J17 (.t (.ag [.v (vi x20),.v (vi x21)])) h19))∧(¬((decide ((n7:Int)=0))=false)→J17 (.t (.ag [.v (vi 0),.v (vi 0)])) h14)∧∀ h22 x23 x24,J17 (.t (.ag [.v (vi x23),.v (vi x24)])) h22→(∃ p25,((decide ((n7:Int)=0))=false→Rd Tryz.prog ((eqGuard .eql 41 (.tmp 44) (.tmp 45) (vag [vi x15,vi x16]) (vag [vi x23,vi x24]) >>= fun _=>binOp .eql 41 (vag [vi x15,vi x16]) (vag [vi x23,vi x24]))) h22 (vb p25))∧(let J58:Hp→Prop:=fun h59=>(∃ a60 n60 c60,(Hp.cell h59 u0 (u1+8)=some (vsl a60 n60 c60))∧(∃ b61 o62,(a60=some ⟨b61,o62,none⟩∧(0:Int)≤u2∧u2 < (n60:Int))∧(∃ x63,(Hp.cell h59 b61 (o62+u2.toNat*1)=some (vi x63))∧(∃ x64,(IsW x64 (x63+1))∧(∃ b65 o66,(a60=some ⟨b65,o66,none⟩∧(0:Int)≤u2∧u2 < (n60:Int))∧(Hp.store h59 b65 (o66+u2.toNat*1) [vi x64] fun h67=>(∃ a68 n68 c68,(Hp.row h67 u0 (u1+9) 1=some [vsl a68 n68 c68])∧(CallOK Tryz.prog 48 [vag [vsl a68 n68 c68],vi u2,vi u3] h67 fun v69 h70=>∃ a71 n71 c71,v69=(vag [vsl a71 n71 c71])∧(Hp.store h70 u0 (u1+9) [vsl a71 n71 c71] fun h72=>(∃ a73 n73 c73,(Hp.row h72 u0 (u1+9) 1=some [vsl a73 n73 c73])∧(∃ x74,(Hp.cell h72 u0 (u1+5)=some (vi x74))∧(CallOK Tryz.prog 27 [vag [vsl a73 n73 c73],vi x74] h72 fun v75 h76=>∃ x77 p78,v75=(vtup [vi x77,vb p78])∧(((!p78)=true→R (vtup []) h76)∧((!p78)=false→(∃ a80 n80 c80,(Hp.row h76 u0 (u1+10) 1=some [vsl a80 n80 c80])∧(∃ x81,(Hp.cell h76 u0 (u1+3)=some (vi x81))∧(CallOK Tryz.prog 49 [vag [vsl a80 n80 c80],vi x81,vi x77] h76 fun v82 h83=>∃ a84 n84 c84 a85 n85 c85,v82=(vtup [vag [vsl a84 n84 c84],vsl a85 n85 c85])∧(∃(I87:List Value→Hp→Prop) (m88:List Value→Hp→Nat),I87 [vi 0] h83∧∀ vs89 h90,I87 vs89 h90→∃ x91,vs89=[vi x91]∧(((decide (x91 < (n85:Int)))=true→(∃ b94 o95,(a85=some ⟨b94,o95,none⟩∧(0:Int)≤x91∧x91 < (n85:Int))∧(∃ x96 x97 x98 a99 n99 c99 p100,(Hp.row h90 b94 (o95+x91.toNat*5) 5=some [vi x96,vi x97,vi x98,vsl a99 n99 c99,vb p100])∧(∃ a101 n101 c101,(Hp.cell h90 u0 (u1+12)=some (vsl a101 n101 c101))∧(CallOK Tryz.prog 50 [vag [vi x96,vi x97,vi x98,vsl a99 n99 c99,vb p100]] h90 fun v102 h103=>∃ x104 x105 x106 a107 n107 c107,v102=(vag [vi x104,vi x105,vi x106,vsl a107 n107 c107])∧((Hp.cell h103 u0 (u1+12)=some (vsl a101 n101 c101))∧(∀ b108,h103 b108=none→let h109:= Hp.set h103 b108 (cellsO [vb false,vi x104,vi x105,vi x106,vsl a107 n107 c107] 74);(SemOK Tryz.prog (Builtin.append_ #[62,62] 62 #[vsl a101 n101 c101,(vsl (some (⟨b108,0,none⟩:Addr)) 1 1)]) h109 fun v110 h111=>∃ a112 n112 c112,v110=(vsl a112 n112 c112)∧(Hp.store h111 u0 (u1+12) [vsl a112 n112 c112] fun h113=>(∃ x115,(IsW x115 (x91+1))∧(I87 [vi x115] h113∧m88 [vi x115] h113 < m88 vs89 h90)))))))))))∧((decide (x91 < (n85:Int)))=false→(∃ x116,(Hp.cell h90 u0 (u1+3)=some (vi x116))∧(∃ x117,(Hp.cell h90 u0 (u1+6)=some (vi x117))∧(∃ x118,(IsW x118 (x77 - x117))∧(CallOK Tryz.prog 51 [vag [vsl a84 n84 c84],vi x116,vi x118] h90 fun v119 h120=>∃ a121 n121 c121,v119=(vag [vsl a121 n121 c121])∧(Hp.store h120 u0 (u1+10) [vsl a121 n121 c121] fun h122=>R (vtup []) h122)))))))))))))))))))))))));(((bif (decide ((n7:Int)=0)) then true else p25)=true→(∃ x26,(Hp.cell h22 u0 (u1+3)=some (vi x26))∧(∃ x27,(Hp.cell h22 u0 (u1+4)=some (vi x27))∧(CallOK Tryz.prog 46 [vi u3,vi x26,vi x27] h22 fun v28 h29=>∃ a30 n30 c30,v28=(vsl a30 n30 c30)∧(∃(I32:List Value→Hp→Prop) (m33:List Value→Hp→Nat),I32 [vi 0] h29∧∀ vs34 h35,I32 vs34 h35→∃ x36,vs34=[vi x36]∧(((decide (x36 < (n30:Int)))=true→(let J54:Hp→Prop:=fun h55=>(∃ x56,(IsW x56 (x36+1))∧(I32 [vi x56] h55∧m33 [vi x56] h55 < m33 vs34 h35));(∃ b39 o40,(a30=some ⟨b39,o40,none⟩∧(0:Int)≤x36∧x36 < (n30:Int))∧(∃ x41,(Hp.cell h35 b39 (o40+x36.toNat*1)=some (vi x41))∧(∃ x42,(p6=true→Hp.cell h35 u0 (u1+3)=some (vi x42))∧(∃ x43,(p6=true→IsW x43 (x41+x42))∧(∃ x44,(p6=true→Hp.cell h35 u0 (u1+6)=some (vi x44))∧(∃ x45,(p6=true→IsW x45 (x43+x44))∧(((bif p6 then(decide (x45≤x5)) else false)=true→(∃ x46,(Hp.cell h35 u0 (u1+11)=some (vi x46))∧(∃ x47,(IsW x47 (x46+1))∧(Hp.store h35 u0 (u1+11) [vi x47] fun h48=>(J54 h48)))))∧((bif p6 then(decide (x45≤x5)) else false)=false→(CallOK Tryz.prog 47 [vhp u0 u1,vi x41,vag [vi u3,vi u4,vi u5,vi u6,vi u7,vi u8,vi u9]] h35 fun v51 h52=>v51=(vtup [])∧(J54 h52))))))))))))∧((decide (x36 < (n30:Int)))=false→(J58 h35))))))))∧((bif (decide ((n7:Int)=0)) then true else p25)=false→(J58 h22))))))))))))
theorem ok_engine_Engine_Step {u0 u1 u2 u3 u4 u5 u6 u7 u8 u9 h R}(H:VC_engine_Engine_Step u0 u1 u2 u3 u4 u5 u6 u7 u8 u9 h R):CallOK Tryz.prog 17 [vhp u0 u1,vi u2,vag [vi u3,vi u4,vi u5,vi u6,vi u7,vi u8,vi u9]] h R:=
 call_of (cfg:=⟨[],[(4,([62],[.one (.int .i64)],[])),(16,([147],[.one (.int .i64)],[]))],[(1,[0,1,2,3,4,5,6,7,8,9,10,11,12,13,14,15]),(2,[0,1,2,3,4,5,6,7,8,9,10,11,12,13,14,15,16,17]),(3,[0,1,2,3,4,5,6,7,8,9,10,11,14,12,13]),(6,[0,1,2,3,4,5,6,7,8,9,10,11,12,13,14,15,16,17]),(11,[0,1,2,3,4,5,6,7,8,9,10,11]),(12,[0,1,2,3,4,5,6,7,8,9,10,11,12,13,14]),(14,[0,1,2,3,4,5,6,7,8,9,10,11,12,13,14,15,16]),(18,[0,1,2,3,4,5,6,7,8,9,10,11,12]),(20,[0,1,2,3,4,5,6,7,8,9,10,11,12,13,14,15,16,17])]⟩) noNG mixed Tryz.func17 [.one (.hp u0 u1),.one (.v (vi u2)),.ag [.v (vi u3),.v (vi u4),.v (vi u5),.v (vi u6),.v (vi u7),.v (vi u8),.v (vi u9)]] (by kernel_rfl) rfl (by kernel_rfl) H
def VC_engine_New (u0:Option Addr)(u1 u2:Nat)(u3:Option Addr)(u4 u5:Nat)(u6:Option Addr)(u7 u8:Nat)(u9:Int)(u10:Int)(u11:Int)(u12:Int)(u13:Int)(h:Hp)(R:Value→Hp→Prop):Prop:=
 (CallOK Tryz.prog 34 [vag [vsl u0 u1 u2,vsl u3 u4 u5,vsl u6 u7 u8,vi u9,vi u10,vi u11,vi u12]] h fun v1 h2=>∃ e3,v1=(ifv e3)∧(((Option.isSome e3)=true→R (vtup [vp none,ifv e3]) h2)∧((Option.isSome e3)=false→(CallOK Tryz.prog 42 [vi u13] h2 fun v5 h6=>∃ a7 n7 c7 e8,v5=(vtup [vag [vsl a7 n7 c7],ifv e8])∧(((Option.isSome e8)=true→R (vtup [vp none,ifv e8]) h6)∧((Option.isSome e8)=false→(SemOK Tryz.prog (Instr.makeSlice 50 (vi u13) (vi u13)) h6 fun v10 h11=>∃ a12 n12 c12,v10=(vsl a12 n12 c12)∧(∀ b13,h11 b13=none→let h14:= Hp.set h11 b13 (cellsO [vsl u0 u1 u2,vsl u3 u4 u5,vsl u6 u7 u8,vi u9,vi u10,vi u11,vi u12,vsl none 0 0,vsl a12 n12 c12,vsl a7 n7 c7,vsl none 0 0,vi 0,vsl none 0 0] 64);(Hp.store h14 b13 0 [vsl none 0 0] fun h15=>(∃(I17:List Value→Hp→Prop) (m18:List Value→Hp→Nat),I17 [vi 0] h15∧∀ vs19 h20,I17 vs19 h20→∃ x21,vs19=[vi x21]∧(((decide (x21 < (u1:Int)))=true→(∃ b24 o25,(u0=some ⟨b24,o25,none⟩∧(0:Int)≤x21∧x21 < (u1:Int))∧(∃ x26 a27 n27 c27,(Hp.row h20 b24 (o25+x21.toNat*2) 2=some [vi x26,vsl a27 n27 c27])∧(let J33:Option Addr→Nat→Nat→Hp→Prop:=fun a38 n38 c38 h39=>(∃ a40 n40 c40,(Hp.cell h39 b13 0=some (vsl a40 n40 c40))∧(∀ b41,h39 b41=none→let h42:= Hp.set h39 b41 (cellsO [vi x26,vsl a38 n38 c38] 86);(SemOK Tryz.prog (Builtin.append_ #[25,25] 25 #[vsl a40 n40 c40,(vsl (some (⟨b41,0,none⟩:Addr)) 1 1)]) h42 fun v43 h44=>∃ a45 n45 c45,v43=(vsl a45 n45 c45)∧(Hp.store h44 b13 0 [vsl a45 n45 c45] fun h46=>(∃ a47 n47 c47,(Hp.cell h46 b13 (0+7)=some (vsl a47 n47 c47))∧(∀ b48,h46 b48=none→let h49:= Hp.set h46 b48 (cellsO [vi x26] 3);(SemOK Tryz.prog (Builtin.append_ #[50,50] 50 #[vsl a47 n47 c47,(vsl (some (⟨b48,0,none⟩:Addr)) 1 1)]) h49 fun v50 h51=>∃ a52 n52 c52,v50=(vsl a52 n52 c52)∧(Hp.store h51 b13 (0+7) [vsl a52 n52 c52] fun h53=>(∃ x55,(IsW x55 (x21+1))∧(I17 [vi x55] h53∧m18 [vi x55] h53 < m18 vs19 h20))))))))));(((decide (x26≠1))=true→(CallOK Tryz.prog 31 [vsl a27 n27 c27] h20 fun v28 h29=>∃ a30 n30 c30,v28=(vsl a30 n30 c30)∧(J33 a30 n30 c30 h29)))∧((decide (x26≠1))=false→(J33 a27 n27 c27 h20)))))))∧((decide (x21 < (u1:Int)))=false→(let J62:Hp→Prop:=fun h63=>(let J70:Hp→Prop:=fun h71=>R (vtup [vhp b13 0,ifv none]) h71;(((decide ((u7:Int) > 0))=true→(CallOK Tryz.prog 31 [vsl u6 u7 u8] h63 fun v64 h65=>∃ a66 n66 c66,v64=(vsl a66 n66 c66)∧(Hp.store h65 b13 (0+2) [vsl a66 n66 c66] fun h67=>(J70 h67))))∧((decide ((u7:Int) > 0))=false→(J70 h63))));(((decide ((u4:Int) > 0))=true→(CallOK Tryz.prog 31 [vsl u3 u4 u5] h20 fun v56 h57=>∃ a58 n58 c58,v56=(vsl a58 n58 c58)∧(Hp.store h57 b13 (0+1) [vsl a58 n58 c58] fun h59=>(J62 h59))))∧((decide ((u4:Int) > 0))=false→(J62 h20))))))))))))))))
theorem ok_engine_New {u0 u1 u2 u3 u4 u5 u6 u7 u8 u9 u10 u11 u12 u13 h R}(H:VC_engine_New u0 u1 u2 u3 u4 u5 u6 u7 u8 u9 u10 u11 u12 u13 h R):CallOK Tryz.prog 13 [vag [vsl u0 u1 u2,vsl u3 u4 u5,vsl u6 u7 u8,vi u9,vi u10,vi u11,vi u12],vi u13] h R:=
 call_of (cfg:=⟨[29],[(10,([37],[.one (.int .i64)],[]))],[(7,[0,1,3,2,4,5,6]),(14,[0,1,2,3,4,5,6,7,8,9,10,11,12]),(15,[0,1,2,3,4,5,6,7,8,9,10,11])]⟩) noNG mixed Tryz.func13 [.ag [.v (vsl u0 u1 u2),.v (vsl u3 u4 u5),.v (vsl u6 u7 u8),.v (vi u9),.v (vi u10),.v (vi u11),.v (vi u12)],.one (.v (vi u13))] (by kernel_rfl) rfl (by kernel_rfl) H
theorem store_newT {h:Hp}{b:Nat}{xs ys:List Value}{t:TypeId}(hl:ys.length=xs.length){K:Hp→Prop}(hK:K (h.set b (cellsO ys t))):Hp.store (h.set b (cellsO xs t)) b 0 ys K:=by
 refine⟨xs.toArray,t,Hp.set_same _ _ _,by simp [hl],?_⟩
 rw [Hp.set_set]
 have e:setL xs.toArray.toList 0 ys=ys:=by
  unfold setL
  rw [List.take_zero,List.nil_append,List.toList_toArray,Nat.zero_add,List.drop_of_length_le (by omega),List.append_nil]
 rw [e]
 exact hK
section
variable {hi h:Hp}{g:Nat}{cs:List Value}{ar:Option Addr}{cr:Nat}{rd:List Nat}{aw:Option Addr}{wn cw:Nat}{ws:List Value}{R':Value→Hp→Prop}
theorem EngM.frame (M:EngM hi h g cs ar cr rd aw wn cw ws){f:FuncId}{args:List Value}(H:CallOK Tryz.prog f args hi fun v hk=>∀ h2,hk.le h2→EngM hk h2 g cs ar cr rd aw wn cw ws→R' v h2):CallOK Tryz.prog f args h R':=by
 intro w hs
 refine(CallOK.frame M.le0 H w hs).mono ?_
 rintro e w' ⟨v,h2,rfl,s2,F,h1,l1,kp,k⟩
 refine⟨v,h2,rfl,s2,F,k h2 l1 ⟨(kp g _ M.blk M.gn).1,(kp g _ M.blk M.gn).2,OwnV.apart ⟨l1,?_,?_⟩ l1 (fun b o hb ho=>ho),OwnV.apart ⟨l1,?_,?_⟩ l1 (fun b o hb ho=>ho),M.rg,M.wg,M.rw_⟩⟩
 ·exact M.r.own.keep fun b o hb ho=>(kp b o ho (M.r.new b hb)).1
 ·intro b hb
  cases hq:h b with
  | none=>exact absurd hq (own_al M.r hb)
  | some o=>exact(kp b o hq (M.r.new b hb)).2
 ·exact M.w.own.keep fun b o hb ho=>(kp b o ho (M.w.new b hb)).1
 ·intro b hb
  cases hq:h b with
  | none=>exact absurd hq (own_al M.w hb)
  | some o=>exact(kp b o hq (M.w.new b hb)).2
theorem EngM.putK (M:EngM hi h g cs ar cr rd aw wn cw ws){j:Nat}{v:Value}(hj:j < cs.length){K:Hp→Prop}(hK:∀ h',EngM hi h' g (cs.set j v) ar cr rd aw wn cw ws→(∀ b o,b≠g→h b=some o→h' b=some o)→K h'):h.store g j [v] K:=by
 refine store_cells M.blk (by simp only [List.length_singleton];omega) ?_
 have e:=setL_one cs j v hj
 refine hK _ ?_ fun b o hb ho=>(Hp.set_other h _ hb).trans ho
 have key:∀ K2:Hp→Prop,(∀ h',EngM hi h' g (cs.set j v) ar cr rd aw wn cw ws→h'=h.set g (cellsO (cs.set j v) 64)→K2 h')→K2 (h.set g (cellsO (cs.set j v) 64)):=by
  intro K2 hk
  obtain⟨c,e0,q1,q2,q3⟩:=M.put hj (K:=fun h'=>EngM hi h' g (cs.set j v) ar cr rd aw wn cw ws) fun h' m=>m
  rw [M.blk] at q1
  cases q1
  refine hk _ ?_ rfl
  have:setL (cs.toArray).toList j [v]=cs.set j v:=by rw [List.toList_toArray,e]
  rw [this] at q3
  exact q3
 rw [e]
 exact key _ fun h' m _=>m
theorem EngM.pair (M:EngM hi h g cs ar cr rd aw wn cw ws){b b2:Nat}{xs xs' ys ys':List Value}{t t2:TypeId}(hb:h b=none)(hb2:(h.set b (cellsO xs t)) b2=none)(h1:xs'.length=xs.length)(h2:ys'.length=ys.length){K:Hp→Prop}
  (hK:∀ h',EngM hi h' g cs ar cr rd aw wn cw ws→h' b=some (cellsO xs' t)→h' b2=some (cellsO ys' t2)→b≠g→b2≠g→K h'):Hp.store ((h.set b (cellsO xs t)).set b2 (cellsO ys t2)) b 0 xs' fun h31=>Hp.store h31 b2 0 ys' K:=by
 have hne:b2≠b:=fun q=>by subst q;rw [Hp.set_same] at hb2;cases hb2
 have hb2h:h b2=none:=by rw [←Hp.set_other h (cellsO xs t) hne];exact hb2
 have sl:∀(l vs:List Value),vs.length=l.length→setL l 0 vs=vs:=fun l vs hl=>by
  unfold setL
  rw [List.take_zero,List.nil_append,Nat.zero_add,List.drop_of_length_le (by omega),List.append_nil]
 refine store_cells (l:=xs) (t:=t) (by rw [Hp.set_other _ _ hne.symm,Hp.set_same]) (by omega) ?_
 rw [sl xs xs' h1]
 refine store_cells (l:=ys) (t:=t2) (by rw [Hp.set_other _ _ hne,Hp.set_same]) (by omega) ?_
 rw [sl ys ys' h2]
 refine hK _ (M.le fun x o ho=>?_) (by rw [Hp.set_other _ _ hne.symm,Hp.set_same]) (Hp.set_same _ _ _) (fun q=>by rw [q,M.blk] at hb;cases hb) (fun q=>by rw [q,M.blk] at hb2h;cases hb2h)
 have n1:x≠b:=fun q=>by rw [q,hb] at ho;cases ho
 have n2:x≠b2:=fun q=>by rw [q,hb2h] at ho;cases ho
 rw [Hp.set_other _ _ n2,Hp.set_other _ _ n1,Hp.set_other _ _ n2,Hp.set_other _ _ n1]
 exact ho
end
section
variable {h:Hp}{R':Value→Hp→Prop}
theorem equal_Value_ok {l m:List Vl}{a b:Option Addr}{c d:Nat}(S:SlP encV h a l.length l)(S2:SlP encV h b m.length m)(hn:l.length≤1000000)(hK:R' (vb (decide (l=m))) h):CallOK Tryz.prog 102 [vsl a l.length c,vsl b m.length d] h R':=by
 refine ok_slices_Equal_api_Value_api_Value ?_
 unfold VC_slices_Equal_api_Value_api_Value
 refine⟨fun e=>?_,fun e=>?_⟩
 ·have hne:l≠m:=by
   intro q
   subst q
   exact of_decide_eq_true e rfl
  rw [decide_eq_false hne] at hK
  exact hK
 ·have hlen:l.length=m.length:=by
   have:=of_decide_eq_false e
   omega
  refine⟨fun vs hh=>hh=h∧∃ i:Nat,vs=[vi i]∧i≤l.length∧l.take i=m.take i,fun vs hh=>l.length - (vint vs 0).toNat,⟨rfl,0,rfl,Nat.zero_le _,rfl⟩,?_⟩
  rintro vs hh ⟨rfl,i,rfl,hi,ht⟩
  refine⟨i,rfl,fun e=>?_,fun e=>?_⟩
  ·have hlt:i < l.length:=by have:=of_decide_eq_true e;omega
   have hx:l[i]?=some l[i]:=List.getElem?_eq_getElem hlt
   have hy:m[i]?=some (m[i]'(by omega)):=List.getElem?_eq_getElem (by omega)
   obtain⟨b1,o1,e1,r1⟩:=S.get (sz:=2) (fun _=>rfl) (by decide) hx
   obtain⟨b2,o2,e2,r2⟩:=S2.get (sz:=2) (fun _=>rfl) (by decide) hy
   have tk:l.take (i+1)=l.take i++[l[i]]:=List.take_succ_eq_append_getElem hlt
   have tm:m.take (i+1)=m.take i++[m[i]'(by omega)]:=List.take_succ_eq_append_getElem (by omega)
   refine⟨b1,o1,⟨e1,by omega,by omega⟩,_,_,by rw [Int.toNat_natCast];exact r1,b2,o2,⟨e2,by omega,by omega⟩,_,_,(show Hp.row hh b2 (o2+((i:Nat):Int).toNat*2) 2=some (encV (m[i]'(by omega))) by rw [Int.toNat_natCast];exact r2),!decide (l[i]=m[i]'(by omega)),rd_neqV,fun e3=>?_,fun e3=>?_⟩
   ·have hne:l≠m:=by
     intro q
     have h1:l[i]?=m[i]?:=by rw [q]
     rw [hx,hy] at h1
     have h2:=Option.some.inj h1
     rw [decide_eq_true h2] at e3
     cases e3
    rw [decide_eq_false hne] at hK
    exact hK
   ·have h2:l[i]=m[i]'(by omega):=by simpa using e3
    refine⟨_,isW (by unfold InR;omega),⟨rfl,i+1,rfl,by omega,?_⟩,by simp [vint];omega⟩
    rw [tk,tm,ht,h2]
  ·have hge:i=l.length:=by have:=of_decide_eq_false e;omega
   have heq:l=m:=by
    rw [hge,List.take_length,hlen,List.take_length] at ht
    exact ht
   rw [decide_eq_true heq] at hK
   exact hK
end
section
variable {q qf:Qy}{hi h:Hp}{g:Nat}{a1:Option Addr}{n1 c1:Nat}{a2:Option Addr}{n2 c2:Nat}{a3:Option Addr}{n3 c3:Nat}{ak:Option Addr}{nk ck:Nat}{ar:Option Addr}{nr cr:Nat}{ac:Option Addr}{nc cc:Nat}{tb:Option Addr}{tn tc late:Nat}{aw:Option Addr}{wn cw:Nat}{R:List PR}{RW:List (GRow Vl (Bool × PK))}{rd:List Nat}{ws:List Value}{st:En}{e:EvL}{R':Value→Hp→Prop}
theorem engine_key_ok (M:EngM hi h g (engC a1 n1 c1 a2 n2 c2 a3 n3 c3 qf ak nk ck ar nr cr ac nc cc tb tn tc late aw wn cw) ar cr rd aw wn cw ws)(I:EngI q qf hi a1 n1 a2 n2 a3 n3 ak nk ac nc tb R RW st)(B:QOk q)(E:EvOK e)(hK:∀ h',h.le h'→R' (vag (encV (keyQ q e))) h'):CallOK Tryz.prog 98 [vhp g 0,vag (encE e)] h R':=by
 refine ok_engine_Engine_key ?_
 unfold VC_engine_Engine_key
 have hn:=I.qa.b.1
 unfold keyQ at hK
 refine⟨_,_,_,cell_cells M.blk rfl,fun e1=>value_Null_ok ⟨_,_,rfl,?_⟩,fun e1=>⟨_,_,_,cell_cells M.blk rfl,?_⟩⟩
 ·have e1:=of_decide_eq_true e1
  have hb:qf.by_=[]:=List.length_eq_zero_iff.1 (by omega)
  have:=hK h (Hp.le_refl h)
  rw [if_pos (I.f.bn.1 hb)] at this
  exact this
 ·have e1:=of_decide_eq_false e1
  have hb:qf.by_≠[]:=fun e2=>e1 (by rw [hn,e2];rfl)
  have hbq:q.by_≠[]:=fun q'=>hb (I.f.bn.2 q')
  have Rp:=I.f.b1 hbq
  have hlq:=(exprF_ok (B.b hbq)).2
  refine evalO_ok Rp.ok (by have:=Rp.len;omega) (I.qa.b.le M.le0) fun h' l'=>⟨_,_,rfl,?_⟩
  have:=hK h' l'
  rw [if_neg hbq,←Rp.val e E] at this
  exact this
theorem engine_vals_ok (M:EngM hi h g (engC a1 n1 c1 a2 n2 c2 a3 n3 c3 qf ak nk ck ar nr cr ac nc cc tb tn tc late aw wn cw) ar cr rd aw wn cw ws)(I:EngI q qf hi a1 n1 a2 n2 a3 n3 ak nk ac nc tb R RW st)(B:QOk q)(E:EvOK e)(hK:∀ a c h',VecV h h' a c (valsQ q e)→R' (vsl a (valsQ q e).length c) h'):CallOK Tryz.prog 100 [vhp g 0,vag (encE e)] h R':=by
 refine ok_engine_Engine_vals ?_
 unfold VC_engine_Engine_vals
 have hn:=I.qa.g.len
 have han:=I.f.an
 have hn4:=B.n2
 have hvl:(valsQ q e).length=q.aggs.length:=by unfold valsQ;rw [List.length_map]
 refine⟨_,_,_,cell_cells M.blk rfl,fun vs hh=>∃(i:Nat) (a:Option Addr) (c:Nat),vs=[vsl a ((valsQ q e).take i).length c,vi i]∧i≤q.aggs.length∧VecV h hh a c ((valsQ q e).take i),fun vs hh=>q.aggs.length - (vint vs 1).toNat,⟨0,none,0,rfl,Nat.zero_le _,OwnV.nil (Hp.le_refl h) _ _⟩,?_⟩
 rintro vs hh ⟨i,a,c,rfl,hi',V⟩
 refine⟨a,_,c,_,rfl,fun e1=>?_,fun e1=>?_⟩
 ·have hlt:i < q.aggs.length:=by have:=of_decide_eq_true e1;omega
  have hx:q.aggs[i]?=some q.aggs[i]:=List.getElem?_eq_getElem hlt
  have hxf:qf.aggs[i]?=some (qf.aggs[i]'(by omega)):=List.getElem?_eq_getElem (by omega)
  obtain⟨k1,k2,k3⟩:=I.f.ag i _ _ hx hxf
  obtain⟨b,o,a',c',ha,hrow,hS⟩:=(I.qa.g.le (Hp.le_trans M.le0 V.le0)).row aggRw_len (by decide) hxf
  have hvi:(valsQ q e)[i]'(by omega)=if (q.aggs[i]).1=1 then(0,0) else valE e (q.aggs[i]).2:=by unfold valsQ;rw [List.getElem_map]
  have tk:(valsQ q e).take (i+1)=(valsQ q e).take i++[(valsQ q e)[i]'(by omega)]:=List.take_succ_eq_append_getElem (by omega)
  have hal:((valsQ q e).take i).length=i:=by rw [List.length_take];omega
  have hg:=B.g _ (List.getElem_mem hlt)
  intro J35
  have hJ:∀(v:Vl) (h41:Hp),hh.le h41→v=(valsQ q e)[i]'(by omega)→∀ b19,h41 b19=none→SemOK Tryz.prog (Builtin.append_ #[70,70] 70 #[vsl a ((valsQ q e).take i).length c,vsl (some ⟨b19,0,none⟩) 1 1]) (h41.set b19 (cellsO [vi v.1,vi v.2] 41)) fun v21 h22=>∃ a23 n23 c23,v21=vsl a23 n23 c23∧J35 a23 n23 c23 h22:=by
   intro v h41 l41 hv b19 hb19
   refine Vec.app elValP encV_len one_v (V.keep0 l41) (by rw [hal];omega) (by rw [hal];omega) (x:=v) hb19 fun a2' c2' h' V'=>⟨_,_,_,rfl,_,isW (by unfold InR;omega),⟨i+1,a2',c2',?_,by omega,?_⟩,by simp [vint];omega⟩
   ·rw [tk,←hv];rfl
   ·rw [tk,←hv];exact V'
  clear_value J35
  refine⟨b,o,⟨ha,by omega,by omega⟩,_,_,_,_,by rw [Int.toNat_natCast];exact hrow,fun e2=>?_,fun e2=>?_⟩
  ·have e2:=of_decide_eq_true e2
   refine value_Null_ok ⟨_,_,rfl,?_⟩
   intro b19 hb19 h20
   exact hJ (0,0) hh (Hp.le_refl hh) (by rw [hvi,if_pos (k1.symm.trans e2)]) b19 hb19
  ·have e2:=of_decide_eq_false e2
   have hne:(q.aggs[i]).1≠1:=fun q'=>e2 (k1.trans q')
   have Rp:=k3 hne
   have hlq:=(exprF_ok (hg.2.2.1 hne)).2
   refine evalO_ok Rp.ok (by have:=Rp.len;omega) hS fun h26 l26=>⟨_,_,rfl,?_⟩
   intro b29 hb29 h30
   exact hJ (valE e (qf.aggs[i]'(by omega)).2) h26 l26 (by rw [hvi,if_neg hne];exact Rp.val e E) b29 hb29
 ·have hge:i=q.aggs.length:=by have:=of_decide_eq_false e1;omega
  rw [List.take_of_length_le (by omega)] at V ⊢
  exact hK a c hh V
end
theorem engine_change1_ok {r:PR}{K:PK}{b1 b2:Nat}{h:Hp}{R':Value→Hp→Prop}(h1:h.cell b1 0=some (vi K.1))(h2:h.row b2 0 2=some (encV K.2))(hK:R' (vb (decide (r.k=K))) h):CallOK Tryz.prog 101 [vag (encPr r),vhp b1 0,vhp b2 0] h R':=by
 refine ok_engine_Engine_change_1 ?_
 unfold VC_engine_Engine_change_1
 refine⟨_,h1,_,_,fun _=>h2,decide (r.k.2=K.2),fun _=>rd_eqV,?_⟩
 have e:(bif (decide ((r.k.1:Int)=K.1)) then(decide (r.k.2=K.2)) else false)=decide (r.k=K):=by
  rw [cand]
  exact decide_eq_decide.2 (Prod.ext_iff).symm
 show R' (vb (bif (decide ((r.k.1:Int)=K.1)) then(decide (r.k.2=K.2)) else false)) h
 rw [e]
 exact hK
theorem nodup_at {R:List PR}(hs:(R.map (·.k)).Pairwise aheadK){i j:Nat}{x y:PR}(hx:R[i]?=some x)(hy:R[j]?=some y)(e:x.k=y.k):i=j:=by
 obtain⟨hi,ex⟩:=List.getElem?_eq_some_iff.1 hx
 obtain⟨hj,ey⟩:=List.getElem?_eq_some_iff.1 hy
 rcases Nat.lt_trichotomy i j with q|q|q
 ·have:=List.pairwise_iff_getElem.1 hs i j (by simpa using hi) (by simpa using hj) q
  simp only [List.getElem_map,ex,ey,e] at this
  exact absurd this (aheadK_irr _)
 ·exact q
 ·have:=List.pairwise_iff_getElem.1 hs j i (by simpa using hj) (by simpa using hi) q
  simp only [List.getElem_map,ex,ey,e] at this
  exact absurd this (aheadK_irr _)
theorem chgR_no {ks:List Int}{k:PK}{v:List Vl}{p:Pn}(h:¬(p.t=true∧outV ks p.rs≠outV ks (p.rs++[v]))):chgR ks k v (some p)=[]:=if_neg h
theorem chgR_yes {ks:List Int}{k:PK}{v:List Vl}{p:Pn}(h:p.t=true∧outV ks p.rs≠outV ks (p.rs++[v])):chgR ks k v (some p)=[(true,k,outV ks p.rs),(false,k,outV ks (p.rs++[v]))]:=if_pos h
theorem index_Pane_okN {h:Hp}{K':Value→Hp→Prop}{a:Option Addr}{R:List PR}{c n:Nat}(hl:n=R.length){fv:Value}{p:PR→Bool}(S:SlP encPr h a R.length R)(hn:R.length≤1000000)(hf:∀ r ∈ R,∀ K2:Value→Hp→Prop,K2 (vb (p r)) h→InvOK Tryz.prog fv [vag (encPr r)] h K2)
  (hy:∀(i:Nat) (r:PR),R[i]?=some r→p r=true→(∀ x ∈ R.take i,p x=false)→K' (vi i) h) (hno:(∀ r ∈ R,p r=false)→K' (vi (-1)) h):CallOK Tryz.prog 73 [vsl a n c,fv] h K':=by
 subst hl
 exact index_Pane_ok S hn hf hy hno
def chgE (q:Qy)(k:PK)(v:List Vl)(st:En):En:={ st with pn:=putP k v st.pn,rows:=st.rows++chgR (kindsQ q) k v (atP k st.pn) }
set_option maxHeartbeats 2000000 in
theorem engine_change_ok {q:Qy}{h0 h:Hp}{g parts N:Nat}{st:En}{e:EvL}{s:Int}{R':Value→Hp→Prop}(X:EngX q h0 h g st)(B:QOk q)(E:EvOK e)(HB:EnB q parts N st)(hN:N≤800000)
  (hK:∀ h',h0.le h'→EngX q h0 h' g (chgE q (s,keyQ q e) (valsQ q e) st)→R' (vtup []) h'):CallOK Tryz.prog 47 [vhp g 0,vi s,vag (encE e)] h R':=by
 obtain⟨qf,hi,a1,n1,c1,a2,n2,c2,a3,n3,c3,ak,nk,ck,ar,cr,ac,nc,cc,tb,tc,aw,cw,R,RW,l0,M,I⟩:=X
 refine ok_engine_Engine_change ?_
 unfold VC_engine_Engine_change
 have hRl:R.length=st.pn.length:=by have:=congrArg List.length I.p;simpa using this
 have hpl:=HB.pl
 have hkl:=kindsQ_len q
 have hn4:=B.n2
 have hWl:RW.length=st.rows.length:=by have:=congrArg List.length I.w;simpa [growL] using this
 have hwl:=HB.wl
 have hks:(R.map (·.k)).Pairwise aheadK:=by rw [prT_keys I.p];exact sortedP_keys.1 HB.ps
 have hao:=acs_ok HB (by omega) I.p
 have hvl:(valsQ q e).length=(kindsQ q).length:=by unfold valsQ;rw [List.length_map,hkl]
 intro b1 hb1 h2
 have l2:h.le h2:=Hp.le_set (Hp.le_refl h) hb1 _
 have x1:h2 b1=some (cellsO [vi s] 3):=Hp.set_same _ _ _
 clear_value h2
 refine engine_key_ok (M.le l2) I B E fun h4 l4=>⟨_,_,rfl,?_⟩
 intro b7 hb7 h8
 show Hp.store (Hp.set h4 b7 (cellsO [vi 0,vi 0] 41)) b7 0 [vi (keyQ q e).1,vi (keyQ q e).2] _
 refine store_newT (by rfl) ?_
 have l9:h4.le (h4.set b7 (cellsO [vi (keyQ q e).1,vi (keyQ q e).2] 41)):=Hp.le_set (Hp.le_refl _) hb7 _
 have x7:(h4.set b7 (cellsO [vi (keyQ q e).1,vi (keyQ q e).2] 41)) b7=some (cellsO [vi (keyQ q e).1,vi (keyQ q e).2] 41):=Hp.set_same _ _ _
 generalize h4.set b7 (cellsO [vi (keyQ q e).1,vi (keyQ q e).2] 41)=h9 at l9 x7
 have l49:=Hp.le_trans l4 l9
 have l09:=Hp.le_trans l2 l49
 have M9:=M.le l09
 have x1:=l49 _ _ x1
 have hb7h:h b7=none:=Hp.none_of_le (Hp.le_trans l2 l4) hb7
 refine⟨_,_,_,row_cells' M9.blk (Nat.le_of_ble_eq_true rfl),s,cell_cells x1 rfl,_,_,row_cells' x7 (Nat.le_of_ble_eq_true rfl),_,_,_,cell_cells M9.blk rfl,?_⟩
 refine engine_vals_ok M9 I B E fun a17 c17 h16 V16=>⟨_,_,_,rfl,cell_cells (M9.le V16.le0).blk rfl,row_cells' (V16.le0 _ _ x7) (Nat.le_of_ble_eq_true rfl),cell_cells (V16.le0 _ _ x1) rfl,row_cells' (M9.le V16.le0).blk (Nat.le_of_ble_eq_true rfl),?_⟩
 have l016:=Hp.le_trans l09 V16.le0
 obtain⟨hj,lj,Mj,trj,kpj⟩:=M.rebase_new l016
 have x1:=V16.le0 _ _ x1
 have x7:=V16.le0 _ _ x7
 have y1:hj b1=some (cellsO [vi s] 3):=kpj _ _ x1 hb1
 have y7:hj b7=some (cellsO [vi (keyQ q e).1,vi (keyQ q e).2] 41):=kpj _ _ x7 hb7h
 have hV:SlP encV hj a17 (valsQ q e).length (valsQ q e):=⟨rfl,trj _ _ (OwnV.row V16) fun b o hb=>Hp.none_of_le l09 (V16.new b (by rw [hb,OwnS.at0 (OwnV.own V16) b o hb]))⟩
 have Ij:=I.le lj
 refine EngM.frame Mj (Table_Add_ok (k:=(s,keyQ q e)) Ij.t (by omega) hks Ij.k hV hvl (by omega) (fun r hr=>(hao r hr).1) (fun r hr=>(hao r hr).2.1) (valsQ_small B E) ?_ ?_)
 · -- it is there
  intro i r a' c' a2' c2' hk hr hrk lk Tk h19 l19 M19
  refine⟨_,_,_,_,_,_,_,_,_,_,_,rfl,?_⟩
  obtain⟨p,hp,e1,e2,e3⟩:=prT_at I.p hr
  have hpk:p.k=(s,keyQ q e):=by rw [←e1];exact hrk
  have hat:atP (s,keyQ q e) st.pn=some p:=by rw [←hpk];exact atP_mem HB.ps (List.mem_of_getElem? hp)
  have hput:putP (s,keyQ q e) (valsQ q e) st.pn=st.pn.set i ⟨(s,keyQ q e),p.rs++[valsQ q e],p.t⟩:=putP_in HB.ps hp hpk
  have hacs:accP r.acs (valsQ q e)=accsOf (kindsQ q) (p.rs++[valsQ q e]):=by rw [accsOf_snoc,e2]
  have hset:(R.set i ⟨r.k,a2',c2',accP r.acs (valsQ q e),r.t⟩).map prT=(putP (s,keyQ q e) (valsQ q e) st.pn).map (pnT (kindsQ q)):=by
   rw [hput,List.map_set,List.map_set,I.p]
   congr 1
   simp only [prT,pnT]
   rw [hrk,hacs,e3]
  have hRl2:(R.set i ⟨r.k,a2',c2',accP r.acs (valsQ q e),r.t⟩).length=R.length:=List.length_set
  have hil:=(List.getElem?_eq_some_iff.1 hr).1
  intro b27 hb27 h28 b29 hb29 h30
  refine M19.pair hb27 hb29 (by rfl) (by rfl) fun h32 M32 w27 w29 g27 g29=>⟨_,_,_,row_cells' w27 (Nat.le_of_ble_eq_true rfl),?_⟩
  refine M32.putK (j:=10) (Nat.le_of_ble_eq_true rfl) fun h27 M27 k27=>?_
  have w27:=k27 _ _ g27 w27
  have w29:=k27 _ _ g29 w29
  have l027:h0.le h27:=Hp.le_trans l0 (Hp.le_trans lj (Hp.le_trans lk M27.le0))
  have Ik:=Ij.le lk
  -- behind all of it
  have fin:∀(hx h':Hp) (aw':Option Addr) (cw':Nat) (RW':List (GRow Vl (Bool × PK))) (rows':List Rw),hk.le hx→EngM hx h' g (engC a1 n1 c1 a2 n2 c2 a3 n3 c3 qf ak nk ck ar st.rd.length cr ac nc cc a' R.length c' st.late aw' RW'.length cw') ar cr st.rd aw' RW'.length cw' (RW'.flatMap (growV rwRow))→growL RW'=rows'.map rowG→(∀ r ∈ RW',HasRow hx r.2.1.1 (r.2.2.flatMap encV))→rows'=st.rows++chgR (kindsQ q) (s,keyQ q e) (valsQ q e) (some p)→R' (vtup []) h':=by
   intro hx h' aw' cw' RW' rows' lx Mx hw1 hw2 hrows
   refine hK h' (Hp.le_trans l0 (Hp.le_trans lj (Hp.le_trans lk (Hp.le_trans lx Mx.le0)))) ⟨qf,hx,a1,n1,c1,a2,n2,c2,a3,n3,c3,ak,nk,ck,ar,cr,ac,nc,cc,a',c',aw',cw',R.set i ⟨r.k,a2',c2',accP r.acs (valsQ q e),r.t⟩,RW',Hp.le_trans l0 (Hp.le_trans lj (Hp.le_trans lk lx)),?_,⟨I.f,Ik.qa.le lx,Ik.k.le lx,Ik.c.le lx,Tk.le lx,hset,?_,hw2⟩⟩
   ·rw [hRl2];exact Mx
   ·rw [hw1,hrows];simp only [chgE];rw [hat]
  have e4:(bif (!true) then true else(!r.t))=!r.t:=rfl
  refine⟨r.t,fun _=>cell_cells w29 rfl,?_⟩
  rw [e4]
  refine⟨fun e5=>?_,fun e5=>?_⟩
  ·have ht:p.t=false:=by rw [←e3];simpa using e5
   refine fin hk h27 aw cw RW st.rows (Hp.le_refl hk) M27 I.w Ik.wi ?_
   rw [chgR_no (by rw [ht];simp),List.append_nil]
  ·have ht:p.t=true:=by rw [←e3];simpa using e5
   have hrm:=List.mem_of_getElem? hr
   have hacl:=(hao r hrm).1
   have hkj:=Hp.le_trans lk l19
   refine⟨_,_,_,_,_,_,_,row_cells' w29 (Nat.le_of_ble_eq_true rfl),?_⟩
   refine pane_Out_ok (r:=r) ⟨rfl,(Ij.t.i r hrm).le (Hp.le_trans lk M27.le0)⟩ (by omega) fun a34 c34 h30 V30=>⟨_,_,_,_,_,_,rfl,_,_,_,cell_cells (V30.le0 _ _ w27) rfl,?_⟩
   have M30:=M27.le V30.le0
   have z1:=M30.le0 _ _ (lk _ _ y1)
   have z7:=M30.le0 _ _ (lk _ _ y7)
   have S30:=(Tk.le M30.le0).s
   rw [hRl2] at S30
   have hks2:((R.set i ⟨r.k,a2',c2',accP r.acs (valsQ q e),r.t⟩).map (·.k)).Pairwise aheadK:=by
    have:(R.set i ⟨r.k,a2',c2',accP r.acs (valsQ q e),r.t⟩).map (·.k)=R.map (·.k):=by
     rw [List.map_set]
     apply List.ext_getElem?
     intro m
     rw [List.getElem?_set]
     split
     ·rename_i hm;subst hm
      rw [if_pos (by rw [List.length_map];exact hil),List.getElem?_map,hr];rfl
     ·rfl
    rw [this];exact hks
   have hxi:(R.set i ⟨r.k,a2',c2',accP r.acs (valsQ q e),r.t⟩)[i]?=some ⟨r.k,a2',c2',accP r.acs (valsQ q e),r.t⟩:=List.getElem?_set_self hil
   refine index_Pane_okN (R:=R.set i ⟨r.k,a2',c2',accP r.acs (valsQ q e),r.t⟩) hRl2.symm (p:=fun r=>decide (r.k=(s,keyQ q e))) (by rw [hRl2];exact S30) (by rw [hRl2];omega)
    (fun r0 _ K2 hk2=>⟨101,#[],#[vhp b1 0,vhp b7 0],rfl,⟨_,Tryz.func101,by kernel_rfl,rfl⟩,engine_change1_ok (cell_cells z1 rfl) (row_cells' z7 (Nat.le_of_ble_eq_true rfl)) hk2⟩)
    (fun m r2 hr2 hp2 _=>⟨_,rfl,?_⟩) (fun hno=>absurd hrk (of_decide_eq_false (hno ⟨r.k,a2',c2',accP r.acs (valsQ q e),r.t⟩ (List.mem_of_getElem? hxi))))
   have hm:m=i:=nodup_at hks2 hr2 hxi (by rw [of_decide_eq_true hp2,hrk])
   subst hm
   obtain⟨b,o,ea,hrow⟩:=S30.get encPr_len (by decide) hxi
   refine⟨_,_,_,cell_cells (V30.le0 _ _ w27) rfl,b,o,⟨ea,by omega,by omega⟩,_,_,_,_,_,_,_,by rw [Int.toNat_natCast];exact hrow,?_⟩
   have hacl2:=accP_len (acs:=r.acs) (r:=valsQ q e) (by omega)
   refine pane_Out_ok (r:=⟨r.k,a2',c2',accP r.acs (valsQ q e),r.t⟩) ⟨rfl,(Tk.i _ (List.mem_of_getElem? hxi)).le M30.le0⟩ (by simp only;omega) fun a50 c50 h46 V46=>⟨_,_,_,_,_,_,rfl,?_⟩
   have M46:=M30.le V46.le0
   have hml:(r.acs.map gOut).length≤1000000:=by rw [List.length_map];omega
   refine equal_Value_ok ((V30.slp encV_len (by decide)).le V46.le0) (V46.slp encV_len (by decide)) hml ⟨_,rfl,fun e6=>?_,fun e6=>?_⟩
   ·have hne:r.acs.map gOut≠(accP r.acs (valsQ q e)).map gOut:=by
     have e6:(!decide (r.acs.map gOut=(accP r.acs (valsQ q e)).map gOut))=true:=e6
     simpa using e6
    refine⟨_,_,_,cell_cells M46.blk rfl,?_⟩
    intro b55 hb55 h56
    obtain⟨hx,lx,Mx,trx,_⟩:=M27.rebase_new (Hp.le_trans V30.le0 V46.le0)
    have o1:=trx _ _ ((OwnV.row V30).le V46.le0) fun b o hb=>V30.new b (by rw [hb,OwnS.at0 (OwnV.own V30) b o hb])
    have o2:=trx _ _ (OwnV.row V46) fun b o hb=>Hp.none_of_le V30.le0 (V46.new b (by rw [hb,OwnS.at0 (OwnV.own V46) b o hb]))
    refine Mx.rows (m:=2) (news:=[vb true,vi r.k.1,vi r.k.2.1,vi r.k.2.2,vsl a34 (r.acs.map gOut).length c34,vb false,vi r.k.1,vi r.k.2.1,vi r.k.2.2,vsl a50 ((accP r.acs (valsQ q e)).map gOut).length c50]) hb55 rfl (by
     intro u hu
     simp only [List.mem_cons,List.not_mem_nil,or_false] at hu
     rcases hu with rfl|rfl|rfl|rfl|rfl|rfl|rfl|rfl|rfl|rfl<;>rfl) (by omega) fun aw' cw' h58 M58=>⟨_,_,_,rfl,?_⟩
    refine M58.put (j:=12) (Nat.le_of_ble_eq_true rfl) fun h60 M60=>?_
    have:=fin hx h60 aw' cw' (RW++[((true,(s,keyQ q e)),(a34,c34),r.acs.map gOut),((false,(s,keyQ q e)),(a50,c50),(accP r.acs (valsQ q e)).map gOut)]) (st.rows++chgR (kindsQ q) (s,keyQ q e) (valsQ q e) (some p)) lx
    refine this ?_ ?_ ?_ rfl
    ·rw [List.length_append,List.flatMap_append]
     have er:(([((true,(s,keyQ q e)),(a34,c34),r.acs.map gOut),((false,(s,keyQ q e)),(a50,c50),(accP r.acs (valsQ q e)).map gOut)]:List (GRow Vl (Bool × PK))).flatMap (growV rwRow))=[vb true,vi r.k.1,vi r.k.2.1,vi r.k.2.2,vsl a34 (r.acs.map gOut).length c34,vb false,vi r.k.1,vi r.k.2.1,vi r.k.2.2,vsl a50 ((accP r.acs (valsQ q e)).map gOut).length c50]:=by
      rw [hrk];rfl
     rw [er]
     exact M60
    ·have e7:chgR (kindsQ q) (s,keyQ q e) (valsQ q e) (some p)=[(true,(s,keyQ q e),r.acs.map gOut),(false,(s,keyQ q e),(accP r.acs (valsQ q e)).map gOut)]:=by
      have h1:outV (kindsQ q) p.rs=r.acs.map gOut:=by rw [e2];rfl
      have h2:outV (kindsQ q) (p.rs++[valsQ q e])=(accP r.acs (valsQ q e)).map gOut:=by rw [hacs];rfl
      rw [chgR_yes ⟨ht,by rw [h1,h2];exact hne⟩,h1,h2]
     rw [e7,List.map_append,←I.w]
     unfold growL
     rw [List.map_append]
     rfl
    ·intro r' hr'
     rcases List.mem_append.1 hr' with q1|q1
     ·exact(Ik.wi r' q1).le lx
     ·simp only [List.mem_cons,List.not_mem_nil,or_false] at q1
      rcases q1 with rfl|rfl
      ·exact o1
      ·exact o2
   ·have heq:r.acs.map gOut=(accP r.acs (valsQ q e)).map gOut:=by
     have e6:(!decide (r.acs.map gOut=(accP r.acs (valsQ q e)).map gOut))=false:=e6
     simpa using e6
    refine fin hk h46 aw cw RW st.rows (Hp.le_refl hk) M46 I.w Ik.wi ?_
    have h1:outV (kindsQ q) p.rs=r.acs.map gOut:=by rw [e2];rfl
    have h2:outV (kindsQ q) (p.rs++[valsQ q e])=(accP r.acs (valsQ q e)).map gOut:=by rw [hacs];rfl
    rw [chgR_no (fun q1=>q1.2 (by rw [h1,h2];exact heq)),List.append_nil]
 · -- it is new
  intro i a' c' a2' c2' hk hil hah hna hne lk Tk h19 l19 M19
  refine⟨_,_,_,_,_,_,_,_,_,_,_,rfl,?_⟩
  intro b27 hb27 h28 b29 hb29 h30
  refine M19.pair hb27 hb29 (by rfl) (by rfl) fun h32 M32 w27 w29 g27 g29=>⟨_,_,_,row_cells' w27 (Nat.le_of_ble_eq_true rfl),?_⟩
  refine M32.putK (j:=10) (Nat.le_of_ble_eq_true rfl) fun h27 M27 k27=>⟨false,fun q=>absurd q (by decide),fun _=>?_,fun q=>absurd q (by decide)⟩
  have keys:=prT_keys I.p
  have mapm:∀ x ∈ st.pn,∃ r ∈ R,r.k=x.k:=by
   intro x hx
   have:x.k ∈ R.map (·.k):=by rw [keys];exact List.mem_map.2 ⟨x,hx,rfl⟩
   obtain⟨r,hr,e1⟩:=List.mem_map.1 this
   exact⟨r,hr,e1⟩
  have hat:atP (s,keyQ q e) st.pn=none:=by
   unfold atP
   rw [List.find?_eq_none]
   intro x hx q1
   obtain⟨r,hr,e1⟩:=mapm x hx
   exact hne r hr (by rw [e1];exact of_decide_eq_true q1)
  have hput:putP (s,keyQ q e) (valsQ q e) st.pn=st.pn.take i++⟨(s,keyQ q e),[valsQ q e],false⟩ :: st.pn.drop i:=by
   refine putP_new (by omega) (fun x hx=>?_) (fun x hx=>?_) (fun x hx q1=>?_)
   ·have:x.k ∈ (R.take i).map (·.k):=by rw [List.map_take,keys,←List.map_take];exact List.mem_map.2 ⟨x,hx,rfl⟩
    obtain⟨r,hr,e1⟩:=List.mem_map.1 this
    rw [←e1];exact hah r hr
   ·have h1:(R.map (·.k))[i]?=some x.k:=by rw [keys,List.getElem?_map,hx];rfl
    rw [List.getElem?_map,Option.map_eq_some_iff] at h1
    obtain⟨r,hr,e1⟩:=h1
    rw [←e1];exact hna r hr
   ·obtain⟨r,hr,e1⟩:=mapm x hx
    exact hne r hr (e1.trans q1)
  have hRl2:(R.take i++(⟨(s,keyQ q e),a2',c2',accP (acc0 (kindsQ q)) (valsQ q e),false⟩:PR) :: R.drop i).length=R.length+1:=by rw [List.length_append,List.length_cons,List.length_take,List.length_drop];omega
  have Ik:=Ij.le lk
  refine hK h27 (Hp.le_trans l0 (Hp.le_trans lj (Hp.le_trans lk M27.le0))) ⟨qf,hk,a1,n1,c1,a2,n2,c2,a3,n3,c3,ak,nk,ck,ar,cr,ac,nc,cc,a',c',aw,cw,_,RW,Hp.le_trans l0 (Hp.le_trans lj lk),?_,⟨I.f,Ik.qa,Ik.k,Ik.c,Tk,?_,?_,Ik.wi⟩⟩
  ·rw [hRl2];exact M27
  ·simp only [chgE]
   rw [hput,List.map_append,List.map_append,List.map_cons,List.map_cons,List.map_take,List.map_drop,List.map_take,List.map_drop,I.p]
   congr 1
  ·simp only [chgE]
   rw [hat,I.w]
   simp [chgR]
theorem qbig_of {q:Qy}(Q:QOk q):QBig q:=by
 have w:q.wh.length≤40:=by
  by_cases h:q.wh=[]
  ·rw [h];exact Nat.zero_le _
  ·exact(exprF_ok (Q.w h)).2
 have b:q.by_.length≤40:=by
  by_cases h:q.by_=[]
  ·rw [h];exact Nat.zero_le _
  ·exact(exprF_ok (Q.b h)).2
 refine⟨by omega,by omega,fun a ha=>?_,by have:=Q.n2;omega⟩
 by_cases h:a.1=1
 ·rw [(Q.g a ha).2.2.2 h];exact Nat.zero_le _
 ·have:=(exprF_ok ((Q.g a ha).2.2.1 h)).2;omega
theorem qryF_ok {q:Qy}(B:QOk q):qryF q=0:=by
 have h1:=B.n1
 have h2:=B.n2
 have hA:firstF (q.aggs.map aggF)=0:=by
  refine firstF_zero fun x hx=>?_
  obtain⟨a,ha,rfl⟩:=List.mem_map.1 hx
  obtain⟨g1,g2,g3,g4⟩:=B.g a ha
  unfold aggF
  rw [if_neg (by
   rintro(q1|q1|⟨q1,q2⟩)
   ·omega
   ·omega
   ·exact q2 (g4 q1))]
  split
  ·rfl
  ·rename_i h;exact B.ga a ha h
 unfold qryF
 rw [if_neg (by omega),if_neg (by rw [hA];simp)]
 unfold tailF
 refine firstF_zero fun x hx=>?_
 simp only [List.mem_cons,List.not_mem_nil,or_false] at hx
 rcases hx with rfl|rfl|rfl
 ·split
  ·rfl
  ·rename_i h;exact B.wa h
 ·split
  ·rfl
  ·rename_i h;exact B.ba h
 ·have h3:=B.s
  have h4:=B.l
  have h5:=B.d
  have h6:=B.t
  have h7:=B.r
  unfold numsF
  rw [if_neg (by omega),if_neg (by omega)]
def csE (vA v2 v3:Value)(q:Qy)(vK vR vC:Value):List Value:=[vA,v2,v3,vi q.size,vi q.slide,vi q.delay,vi q.late,vK,vR,vC,vsl none 0 0,vi 0,vsl none 0 0]
theorem growL_snocN {α β:Type}(R:List (GRow α β))(r:GRow α β):growL (R++[r])=growL R++[(r.1,r.2.2)]:=by unfold growL;rw [List.map_append];rfl
def AggF (a b:Ag):Prop:=b.1=a.1∧(a.1=1→b.2=[])∧(a.1≠1→Rep (fun e=>valE e a.2) (tAt a.2 (a.2.length - 1)) a.2.length b.2)
theorem elAggN:ElT Tryz.prog 25 86 2 32:=.of (by kernel_rfl) (by kernel_rfl) (by decide)
abbrev owI (a:Option Addr)(n c:Nat)(xs:List Value):Ow:=⟨3,1,a,n,c,xs⟩
def EngO (q:Qy)(h0 h:Hp)(g parts:Nat):Prop:=
 ∃(qf:Qy) (hi:Hp) (a1:Option Addr) (n1 c1:Nat) (a2:Option Addr) (n2 c2:Nat) (a3:Option Addr) (n3 c3:Nat) (ak:Option Addr) (nk ck:Nat) (ar:Option Addr) (cr:Nat) (ac:Option Addr) (cc:Nat),
  h0.le hi∧Owns hi h [owI ac parts cc ((List.replicate parts (-1:Int)).map vi),owI ar parts cr ((List.replicate parts (0:Nat)).map fun n:Nat=>vi n),blkO g 64 (engC a1 n1 c1 a2 n2 c2 a3 n3 c3 qf ak nk ck ar parts cr ac parts cc none 0 0 0 none 0 0)] ∧
   FoldQ q qf∧QAt hi qf a1 n1 a2 n2 a3 n3∧SlI hi ak nk (kindsQ q)
theorem EngX.of_owns {q qf:Qy}{h0 hi h:Hp}{g:Nat}{st:En}{a1:Option Addr}{n1 c1:Nat}{a2:Option Addr}{n2 c2:Nat}{a3:Option Addr}{n3 c3:Nat}{ak:Option Addr}{nk ck:Nat}{ar:Option Addr}{cr:Nat}{ac:Option Addr}{cc:Nat}{tb:Option Addr}{tc:Nat}{aw:Option Addr}{cw:Nat}{R:List PR}{RW:List (GRow Vl (Bool × PK))}(l0:h0.le hi)
  (O:Owns hi h [owI ac st.far.length cc (st.far.map vi),owI ar st.rd.length cr (st.rd.map fun n:Nat=>vi n),blkO g 64 (engC a1 n1 c1 a2 n2 c2 a3 n3 c3 qf ak nk ck ar st.rd.length cr ac st.far.length cc tb R.length tc st.late aw RW.length cw),⟨79,5,tb,R.length,tc,R.flatMap encPr⟩,⟨74,5,aw,RW.length,cw,RW.flatMap (growV rwRow)⟩])
  (F:FoldQ q qf) (Q:QAt hi qf a1 n1 a2 n2 a3 n3) (K:SlI hi ak nk (kindsQ q)) (hR:∀ r ∈ R,HasRow hi r.a (r.acs.flatMap encAc)) (hW:∀ r ∈ RW,HasRow hi r.2.1.1 (r.2.2.flatMap encV)) (eR:R.map prT=st.pn.map (pnT (kindsQ q))) (eW:growL RW=st.rows.map rowG):EngX q h0 h g st:=by
 obtain⟨hj,lj,Oj,kj⟩:=O.rebase (L':=[owI ar st.rd.length cr (st.rd.map fun n:Nat=>vi n),blkO g 64 (engC a1 n1 c1 a2 n2 c2 a3 n3 c3 qf ak nk ck ar st.rd.length cr ac st.far.length cc tb R.length tc st.late aw RW.length cw),⟨74,5,aw,RW.length,cw,RW.flatMap (growV rwRow)⟩]) (by
  refine List.Sublist.cons _ (List.Sublist.cons_cons _ (List.Sublist.cons_cons _ (List.Sublist.cons _ ?_)))
  exact List.Sublist.refl _)
 have keepR:∀(s:Ow) (k:Nat),(k=0∨k=3)→[owI ac st.far.length cc (st.far.map vi),owI ar st.rd.length cr (st.rd.map fun n:Nat=>vi n),blkO g 64 (engC a1 n1 c1 a2 n2 c2 a3 n3 c3 qf ak nk ck ar st.rd.length cr ac st.far.length cc tb R.length tc st.late aw RW.length cw),⟨79,5,tb,R.length,tc,R.flatMap encPr⟩,⟨74,5,aw,RW.length,cw,RW.flatMap (growV rwRow)⟩][k]?=some s→HasRow hj s.a s.xs:=by
  intro s k hk hs
  have hrow:=(O.ownV (List.mem_of_getElem? hs)).row
  refine HasRow.over hrow fun b o ob hb ho=>kj b ob ho fun t ht q1=>?_
  have hb0:o=0:=(O.own s (List.mem_of_getElem? hs)).at0 b o hb
  subst hb0
  simp only [List.mem_cons,List.not_mem_nil,or_false] at ht
  rcases ht with rfl|rfl|rfl
  ·exact O.apart hs (j:=1) rfl (by omega) hb q1
  ·exact O.apart hs (j:=2) rfl (by omega) hb q1
  ·exact O.apart hs (j:=4) rfl (by omega) hb q1
 have hcl:SlI hj ac st.far.length st.far:=⟨rfl,keepR _ 0 (.inl rfl) rfl⟩
 have hT:SlP encPr hj tb R.length R:=⟨rfl,keepR _ 3 (.inr rfl) rfl⟩
 refine⟨qf,hj,a1,n1,c1,a2,n2,c2,a3,n3,c3,ak,nk,ck,ar,cr,ac,st.far.length,cc,tb,tc,aw,cw,R,RW,Hp.le_trans l0 lj,⟨Oj.blk (List.mem_cons_of_mem _ (List.mem_cons_self ..)),Oj.new _ (List.mem_cons_of_mem _ (List.mem_cons_self ..)) g rfl,Oj.ownV (s:=owI ar st.rd.length cr (st.rd.map fun n:Nat=>vi n)) (List.mem_cons_self ..),Oj.ownV (s:=⟨74,5,aw,RW.length,cw,RW.flatMap (growV rwRow)⟩) (by simp),fun q1=>?_,fun q1=>?_,fun b hb q1=>?_⟩,
  ⟨F,Q.le lj,K.le lj,hcl,⟨hT,fun r hr=>(hR r hr).le lj⟩,eR,eW,fun r hr=>(hW r hr).le lj⟩⟩
 ·exact Oj.apart (i:=0) (j:=1) rfl rfl (by decide) (b:=g) q1 rfl
 ·exact Oj.apart (i:=2) (j:=1) rfl rfl (by decide) (b:=g) q1 rfl
 ·exact Oj.apart (i:=0) (j:=2) rfl rfl (by decide) (b:=b) hb q1
set_option maxHeartbeats 1000000 in
theorem engine_NewO_ok {q:Qy}{a1:Option Addr}{n1 c1:Nat}{a2:Option Addr}{n2 c2:Nat}{a3:Option Addr}{n3 c3:Nat}{h:Hp}{p:Int}{R':Value→Hp→Prop}(Q:QAt h q a1 n1 a2 n2 a3 n3)(B:QOk q)
  (hbad:¬(1≤p∧p≤3)→∀ h',h.le h'→R' (vtup [vp none,ifv (some (99,vi 1))]) h')
  (hK:1≤p→p≤3→∀ g h',h.le h'→EngO q h h' g p.toNat→R' (vtup [vhp g 0,ifv none]) h'):CallOK Tryz.prog 13 [qV a1 n1 c1 a2 n2 c2 a3 n3 c3 q,vi p] h R':=by
 refine ok_engine_New ?_
 unfold VC_engine_New
 have hn1:=Q.g.len
 have hn4:=B.n2
 refine query_Check_ok Q (qbig_of B) fun h2 l2=>⟨_,rfl,?_⟩
 rw [errV_some,decide_eq_true (qryF_ok B)]
 refine⟨fun e=>(by cases e),fun _=>?_⟩
 refine clock_New_ok (fun hp=>⟨_,_,_,_,rfl,fun _=>hbad hp h2 l2,fun e=>(by cases e)⟩) fun hp1 hp3 a7 n7 c7 h6 O6=>⟨_,_,_,_,rfl,fun e=>(by cases e),fun _=>?_⟩
 have l6:=Hp.le_trans l2 O6.le
 obtain⟨parts,rfl⟩:∃ n:Nat,p=(n:Int):=⟨p.toNat,by omega⟩
 rw [Int.toNat_natCast] at O6 hK
 refine sem_make elInt (z:=[vi 0]) (by kernel_rfl) (n:=parts) (by omega) (by omega) fun b10 hb10=>⟨_,_,_,rfl,?_⟩
 have erep:(List.replicate parts [vi 0]).flatten=(List.replicate parts (0:Nat)).map fun n:Nat=>vi n:=by
  clear hK hbad O6 hp1 hp3
  induction parts with
  | zero=>rfl
  | succ n ih=>rw [List.replicate_succ,List.flatten_cons,ih,List.replicate_succ,List.map_cons];rfl
 rw [erep]
 have hrl:((List.replicate parts (0:Nat)).map fun n:Nat=>vi n).length=parts*1:=by rw [List.length_map,List.length_replicate,Nat.mul_one]
 have l11:h6.le (h6.set b10 (cellsO ((List.replicate parts (0:Nat)).map fun n:Nat=>vi n) 3)):=Hp.le_set (Hp.le_refl _) hb10 _
 have hn7:parts=n7:=by rw [(O6.sli:SlI h6 a7 n7 (List.replicate parts (-1:Int))).1,List.length_replicate]
 subst hn7
 have OC:=(Owns.nil (Hp.le_refl h2)).push O6.le (s:=owI a7 parts c7 ((List.replicate parts (-1:Int)).map vi)) O6.own (fun b hb=>O6.new b hb)
 have OR:=OC.push l11 (s:=⟨3,1,some ⟨b10,0,none⟩,parts,parts,(List.replicate parts (0:Nat)).map fun n:Nat=>vi n⟩) (OwnS.new h6 b10 3 _ hrl (by simp only [maxLen];omega)) (fun b hb=>by cases hb;exact hb10)
 generalize h6.set b10 (cellsO ((List.replicate parts (0:Nat)).map fun n:Nat=>vi n) 3)=h11 at l11 OR
 intro b13 hb13 h14
 have l14:h11.le h14:=Hp.le_set (Hp.le_refl _) hb13 _
 have OB:=OR.push l14 (s:=blkO b13 64 (csE (vsl a1 n1 c1) (vsl a2 n2 c2) (vsl a3 n3 c3) q (vsl none 0 0) (vsl (some ⟨b10,0,none⟩) parts parts) (vsl a7 parts c7))) (blkO_own (Hp.set_same _ _ _)) (fun b hb=>by cases hb;exact hb13)
 clear_value h14
 have OA:=OB.push (Hp.le_refl h14) (s:=⟨86,2,none,0,0,[]⟩) (OwnS.nil _ _ _) (fun b hb=>by cases hb)
 have OK:=OA.push (Hp.le_refl h14) (s:=⟨3,1,none,0,0,[]⟩) (OwnS.nil _ _ _) (fun b hb=>by cases hb)
 simp only [List.nil_append,List.cons_append] at OK
 refine OK.put (j:=2) rfl (i:=0) (Nat.le_of_ble_eq_true rfl) fun h15 O15 _=>?_
 have Q6:=Q.le l2
 generalize hcs:owI a7 parts c7 ((List.replicate parts (-1:Int)).map vi)=clS at O15
 generalize hrd:(⟨3,1,some ⟨b10,0,none⟩,parts,parts,(List.replicate parts (0:Nat)).map fun n:Nat=>vi n⟩:Ow)=rdS at O15
 refine⟨fun vs hh=>∃(i:Nat) (hi:Hp) (aA:Option Addr) (cA:Nat) (RA:List (GRow Nd Int)) (aK:Option Addr) (cK:Nat),vs=[vi i]∧i≤q.aggs.length∧h2.le hi∧RA.length=i ∧
   Owns hi hh [clS,rdS,blkO b13 64 (csE (vsl aA i cA) (vsl a2 n2 c2) (vsl a3 n3 c3) q (vsl aK i cK) (vsl (some ⟨b10,0,none⟩) parts parts) (vsl a7 parts c7)),⟨86,2,aA,i,cA,RA.flatMap (growV aggRw)⟩,⟨3,1,aK,i,cK,((kindsQ q).take i).map vi⟩] ∧
   (∀ r ∈ RA,HasRow hi r.2.1.1 (r.2.2.flatMap encN))∧∀(j:Nat) (a b:Ag),q.aggs[j]?=some a→(growL RA)[j]?=some b→AggF a b,
  fun vs hh=>q.aggs.length - (vint vs 0).toNat,⟨0,h2,none,0,[],none,0,rfl,Nat.zero_le _,Hp.le_refl h2,rfl,O15,fun r hr=>(by cases hr),fun j a b _ hb=>by simp [growL] at hb⟩,?_⟩
 rintro vs hh ⟨i,hi,aA,cA,RA,aK,cK,rfl,hi',lhi,hRl,O,hin,hag⟩
 refine⟨i,rfl,fun e1=>?_,fun e1=>?_⟩
 ·have hlt:i < q.aggs.length:=by have:=of_decide_eq_true e1;omega
  have hx:q.aggs[i]?=some q.aggs[i]:=List.getElem?_eq_getElem hlt
  have hg:=B.g _ (List.getElem_mem hlt)
  have hkt:(kindsQ q).take (i+1)=(kindsQ q).take i++[(q.aggs[i]).1]:=by
   rw [List.take_succ_eq_append_getElem (by rw [kindsQ_len];exact hlt)]
   congr 2
   unfold kindsQ
   rw [List.getElem_map]
  generalize q.aggs[i]=ag at *
  obtain⟨b,o,a',c',ha,hrow,hS⟩:=((Q6.le lhi).g).row aggRw_len (by decide) hx
  refine⟨b,o,⟨ha,by omega,by omega⟩,ag.1,a',ag.2.length,c',by rw [Int.toNat_natCast];exact Hp.row_le O.le hrow,?_⟩
  intro J33
  have hJ:∀(a38:Option Addr) (n38 c38:Nat) (hk h39:Hp) (z:List Nd),hi.le hk→Owns hk h39 [clS,rdS,blkO b13 64 (csE (vsl aA i cA) (vsl a2 n2 c2) (vsl a3 n3 c3) q (vsl aK i cK) (vsl (some ⟨b10,0,none⟩) parts parts) (vsl a7 parts c7)),⟨86,2,aA,i,cA,RA.flatMap (growV aggRw)⟩,⟨3,1,aK,i,cK,((kindsQ q).take i).map vi⟩]→n38=z.length→HasRow hk a38 (z.flatMap encN)→AggF ag (ag.1,z)→J33 a38 n38 c38 h39:=by
   intro a38 n38 c38 hk h39 z lk Ok hn38 hz hA
   refine⟨_,_,_,cell_cells (Ok.blk (List.mem_cons_of_mem _ (List.mem_cons_of_mem _ (List.mem_cons_self ..)))) rfl,?_⟩
   intro b41 hb41 h42
   refine Ok.app (j:=3) rfl elAggN (tn:=86) (m:=1) (news:=[vi ag.1,vsl a38 n38 c38]) hb41 rfl (by intro u hu;simp at hu;rcases hu with rfl|rfl<;>rfl) (by simp only;omega) (by simp only;omega) fun aA' cA' h44 O44 _=>⟨_,_,_,rfl,?_⟩
   simp only [List.set_cons_succ,List.set_cons_zero] at O44
   refine O44.put (j:=2) rfl (i:=0) (Nat.le_of_ble_eq_true rfl) fun h46 O46 _=>?_
   simp only [List.set_cons_succ,List.set_cons_zero,csE] at O46
   refine⟨_,_,_,cell_cells (O46.blk (List.mem_cons_of_mem _ (List.mem_cons_of_mem _ (List.mem_cons_self ..)))) rfl,?_⟩
   intro b48 hb48 h49
   refine O46.app (j:=4) rfl elInt (tn:=3) (m:=1) (news:=[vi ag.1]) hb48 rfl (by intro u hu;simp at hu;rcases hu with rfl;rfl) (by simp only;omega) (by simp only;omega) fun aK' cK' h51 O51 _=>⟨_,_,_,rfl,?_⟩
   simp only [List.set_cons_succ,List.set_cons_zero] at O51
   refine O51.put (j:=2) rfl (i:=7) (Nat.le_of_ble_eq_true rfl) fun h53 O53 _=>?_
   simp only [List.set_cons_succ,List.set_cons_zero] at O53
   refine⟨_,isW (by unfold InR;omega),⟨i+1,hk,aA',cA',RA++[(ag.1,(a38,c38),z)],aK',cK',by simp,by omega,Hp.le_trans lhi lk,by simp [hRl],?_,?_,?_⟩,by simp [vint];omega⟩
   ·rw [hkt,List.map_append,List.flatMap_append]
    have e3:([(ag.1,(a38,c38),z)]:List (GRow Nd Int)).flatMap (growV aggRw)=[vi ag.1,vsl a38 n38 c38]:=by rw [hn38];rfl
    rw [e3]
    exact O53
   ·intro r hr
    rcases List.mem_append.1 hr with q1|q1
    ·exact(hin r q1).le lk
    ·rw [List.mem_singleton.1 q1];exact hz
   ·intro j a b h1 h2
    have hgl:(growL RA).length=i:=by simp [growL,hRl]
    rw [growL_snocN] at h2
    rcases Nat.lt_or_ge j i with q1|q1
    ·rw [List.getElem?_append_left (by omega)] at h2
     exact hag j a b h1 h2
    ·rw [List.getElem?_append_right (by omega)] at h2
     have hj:j=i:=by
      have:=(List.getElem?_eq_some_iff.1 h2).1
      simp at this
      omega
     subst hj
     rw [hgl,Nat.sub_self] at h2
     cases h2
     rw [hx] at h1
     cases h1
     exact hA
  clear_value J33
  refine⟨fun e2=>?_,fun e2=>?_⟩
  ·have hne:ag.1≠1:=of_decide_eq_true e2
   obtain⟨OE,hlen⟩:=exprF_ok (hg.2.2.1 hne)
   refine O.frame (fold_Fold_ok hS OE (by omega) fun az nz cz hk z lk NSz Rp h29 l29 O29=>⟨_,_,_,rfl,?_⟩)
   exact hJ az nz cz hk h29 z lk O29 NSz.s.1 NSz.s.2 ⟨rfl,fun q1=>absurd q1 hne,fun _=>Rp⟩
  ·have he:ag.1=1:=Decidable.not_not.1 (of_decide_eq_false e2)
   have hz:=hg.2.2.2 he
   refine hJ a' ag.2.length c' hi hh [] (Hp.le_refl hi) O (by rw [hz]) (.inl rfl) ⟨rfl,fun _=>rfl,fun q1=>absurd he q1⟩
 ·have hge:i=q.aggs.length:=by have:=of_decide_eq_false e1;omega
  subst hge
  rw [List.take_of_length_le (by rw [kindsQ_len];exact Nat.le_refl _)] at O
  obtain⟨hj,lj,Oj,kj⟩:=O.rebase (L':=[clS,rdS,blkO b13 64 (csE (vsl aA q.aggs.length cA) (vsl a2 n2 c2) (vsl a3 n3 c3) q (vsl aK q.aggs.length cK) (vsl (some ⟨b10,0,none⟩) parts parts) (vsl a7 parts c7))]) (by simp)
  have keepR:∀(s:Ow) (k:Nat),(k=3∨k=4)→[clS,rdS,blkO b13 64 (csE (vsl aA q.aggs.length cA) (vsl a2 n2 c2) (vsl a3 n3 c3) q (vsl aK q.aggs.length cK) (vsl (some ⟨b10,0,none⟩) parts parts) (vsl a7 parts c7)),⟨86,2,aA,q.aggs.length,cA,RA.flatMap (growV aggRw)⟩,⟨3,1,aK,q.aggs.length,cK,(kindsQ q).map vi⟩][k]?=some s→HasRow hj s.a s.xs:=by
   intro s k hk hs
   have hrow:=(O.ownV (List.mem_of_getElem? hs)).row
   refine HasRow.over hrow fun b o ob hb ho=>kj b ob ho fun t ht q1=>?_
   have hb0:o=0:=(O.own s (List.mem_of_getElem? hs)).at0 b o hb
   subst hb0
   simp only [List.mem_cons,List.not_mem_nil,or_false] at ht
   rcases ht with rfl|rfl|rfl
   ·exact O.apart hs (j:=0) rfl (by omega) hb q1
   ·exact O.apart hs (j:=1) rfl (by omega) hb q1
   ·exact O.apart hs (j:=2) rfl (by omega) hb q1
  have hgA:GTab encN aggRw hj aA q.aggs.length (growL RA):=⟨RA,rfl,by simp [growL,hRl],keepR _ 3 (.inl rfl) rfl,fun r hr=>(hin r hr).le lj⟩
  have hkK:SlI hj aK q.aggs.length (kindsQ q):=⟨by rw [kindsQ_len],keepR _ 4 (.inr rfl) rfl⟩
  have Qj:=Q6.le (Hp.le_trans lhi lj)
  have l0j:h.le hj:=Hp.le_trans l2 (Hp.le_trans lhi lj)
  have hgl:(growL RA).length=q.aggs.length:=by simp [growL,hRl]
  clear O keepR hin kj
  -- all of it is there
  have fin:∀(hk h':Hp) (w2:Option Addr) (m2 d2:Nat) (w3:Option Addr) (m3 d3:Nat) (wh by_:List Nd),hj.le hk→Owns hk h' [clS,rdS,blkO b13 64 (csE (vsl aA q.aggs.length cA) (vsl w2 m2 d2) (vsl w3 m3 d3) q (vsl aK q.aggs.length cK) (vsl (some ⟨b10,0,none⟩) parts parts) (vsl a7 parts c7))]→SlP encN hk w2 m2 wh→SlP encN hk w3 m3 by_→FoldQ q { q with aggs:=growL RA,wh:=wh,by_:=by_ }→R' (vtup [vhp b13 0,ifv none]) h':=by
   intro hk h' w2 m2 d2 w3 m3 d3 wh by_ lk Ok S2 S3 F
   rw [←hrd,←hcs] at Ok
   exact hK hp1 hp3 b13 h' (Hp.le_trans l0j (Hp.le_trans lk Ok.le)) ⟨{ q with aggs:=growL RA,wh:=wh,by_:=by_ },hk,aA,q.aggs.length,cA,w2,m2,d2,w3,m3,d3,aK,q.aggs.length,cK,some ⟨b10,0,none⟩,parts,a7,c7,Hp.le_trans l0j lk,Ok,F,⟨hgA.le lk,S2,S3⟩,hkK.le lk⟩
  have F0:∀ wh by_,(q.wh=[]→wh=[])→(q.wh≠[]→Rep (fun e=>valE e q.wh) (tAt q.wh (q.wh.length - 1)) q.wh.length wh)→(q.by_=[]→by_=[])→(q.by_≠[]→Rep (fun e=>valE e q.by_) (tAt q.by_ (q.by_.length - 1)) q.by_.length by_)→FoldQ q { q with aggs:=growL RA,wh:=wh,by_:=by_ }:=
   fun wh by_ f1 f2 f3 f4=>⟨rfl,rfl,rfl,rfl,hgl,hag,f1,f2,f3,f4⟩
  intro J62
  have hJ62:∀(hk h':Hp) (w2:Option Addr) (m2 d2:Nat) (wh:List Nd),hj.le hk→Owns hk h' [clS,rdS,blkO b13 64 (csE (vsl aA q.aggs.length cA) (vsl w2 m2 d2) (vsl a3 n3 c3) q (vsl aK q.aggs.length cK) (vsl (some ⟨b10,0,none⟩) parts parts) (vsl a7 parts c7))]→SlP encN hk w2 m2 wh→(q.wh=[]→wh=[])→(q.wh≠[]→Rep (fun e=>valE e q.wh) (tAt q.wh (q.wh.length - 1)) q.wh.length wh)→J62 h':=by
   intro hk h' w2 m2 d2 wh lk Ok S2 f1 f2
   have hJ70:∀(hl h'':Hp) (w3:Option Addr) (m3 d3:Nat) (by_:List Nd),hk.le hl→Owns hl h'' [clS,rdS,blkO b13 64 (csE (vsl aA q.aggs.length cA) (vsl w2 m2 d2) (vsl w3 m3 d3) q (vsl aK q.aggs.length cK) (vsl (some ⟨b10,0,none⟩) parts parts) (vsl a7 parts c7))]→SlP encN hl w3 m3 by_→(q.by_=[]→by_=[])→(q.by_≠[]→Rep (fun e=>valE e q.by_) (tAt q.by_ (q.by_.length - 1)) q.by_.length by_)→R' (vtup [vhp b13 0,ifv none]) h'':=
    fun hl h'' w3 m3 d3 by_ ll Ol S3 f3 f4=>fin hl h'' w2 m2 d2 w3 m3 d3 wh by_ (Hp.le_trans lk ll) Ol (S2.le ll) S3 (F0 wh by_ f1 f2 f3 f4)
   refine⟨fun e2=>?_,fun e2=>?_⟩
   ·have hne:q.by_≠[]:=by
     intro q1
     have:=of_decide_eq_true e2
     rw [Q.b.1,q1] at this
     simp at this
    obtain⟨OE,hlen⟩:=exprF_ok (B.b hne)
    refine Ok.frame (fold_Fold_ok (Qj.b.le lk) OE (by omega) fun az nz cz hl z ll NSz Rp h65 l65 O65=>⟨_,_,_,rfl,?_⟩)
    refine O65.put (j:=2) rfl (i:=2) (Nat.le_of_ble_eq_true rfl) fun h67 O67 _=>?_
    exact hJ70 hl h67 az nz cz z ll O67 NSz.s (fun q1=>absurd q1 hne) (fun _=>Rp)
   ·have he:q.by_=[]:=by
     have:=of_decide_eq_false e2
     rw [Q.b.1] at this
     exact List.length_eq_zero_iff.1 (by omega)
    exact hJ70 hk h' a3 n3 c3 q.by_ (Hp.le_refl hk) Ok (Qj.b.le lk) (fun q1=>q1) (fun q1=>absurd he q1)
  clear_value J62
  refine⟨fun e2=>?_,fun e2=>?_⟩
  ·have hne:q.wh≠[]:=by
    intro q1
    have:=of_decide_eq_true e2
    rw [Q.w.1,q1] at this
    simp at this
   obtain⟨OE,hlen⟩:=exprF_ok (B.w hne)
   refine Oj.frame (fold_Fold_ok Qj.w OE (by omega) fun az nz cz hl z ll NSz Rp h57 l57 O57=>⟨_,_,_,rfl,?_⟩)
   refine O57.put (j:=2) rfl (i:=1) (Nat.le_of_ble_eq_true rfl) fun h59 O59 _=>?_
   exact hJ62 hl h59 az nz cz z ll O59 NSz.s (fun q1=>absurd q1 hne) (fun _=>Rp)
  ·have he:q.wh=[]:=by
    have:=of_decide_eq_false e2
    rw [Q.w.1] at this
    exact List.length_eq_zero_iff.1 (by omega)
   exact hJ62 hj hh a2 n2 c2 q.wh (Hp.le_refl hj) Oj Qj.w (fun q1=>q1) (fun q1=>absurd he q1)
theorem EngO.engX {q:Qy}{h0 h:Hp}{g parts:Nat}(X:EngO q h0 h g parts):EngX q h0 h g (newE parts):=by
 obtain⟨qf,hi,a1,n1,c1,a2,n2,c2,a3,n3,c3,ak,nk,ck,ar,cr,ac,cc,l0,O,F,Q,K⟩:=X
 have O1:=O.push (Hp.le_refl h) (s:=⟨79,5,none,0,0,[]⟩) (OwnS.nil _ _ _) (fun b hb=>by cases hb)
 have O2:=O1.push (Hp.le_refl h) (s:=⟨74,5,none,0,0,[]⟩) (OwnS.nil _ _ _) (fun b hb=>by cases hb)
 simp only [List.cons_append,List.nil_append] at O2
 refine EngX.of_owns (R:=[]) (RW:=[]) (tc:=0) (cw:=0) (tb:=none) (aw:=none) (c1:=c1) (c2:=c2) (c3:=c3) (ck:=ck) (ar:=ar) (cr:=cr) (ac:=ac) (cc:=cc) l0 ?_ F Q K (fun r hr=>by cases hr) (fun r hr=>by cases hr) rfl rfl
 simp only [newE,List.length_replicate]
 exact O2
theorem engine_New_ok {q:Qy}{a1:Option Addr}{n1 c1:Nat}{a2:Option Addr}{n2 c2:Nat}{a3:Option Addr}{n3 c3:Nat}{h:Hp}{p:Int}{R':Value→Hp→Prop}(Q:QAt h q a1 n1 a2 n2 a3 n3)(B:QOk q)
  (hbad:¬(1≤p∧p≤3)→∀ h',h.le h'→R' (vtup [vp none,ifv (some (99,vi 1))]) h')
  (hK:1≤p→p≤3→∀ g h',h.le h'→EngX q h h' g (newE p.toNat)→R' (vtup [vhp g 0,ifv none]) h'):CallOK Tryz.prog 13 [qV a1 n1 c1 a2 n2 c2 a3 n3 c3 q,vi p] h R':=
 engine_NewO_ok Q B hbad fun h1 h3 g h' l X=>hK h1 h3 g h' l X.engX
end Go.Proofs.YtiflgceoamkmnaaGreatDoor
