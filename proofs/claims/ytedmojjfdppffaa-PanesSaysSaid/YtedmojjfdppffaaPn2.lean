/-
  Laws and contracts on which the statement's proof stands, part 2. Conditions: those stated at each.
-/
import Derived.OpenShut
import Derived.ChangeSame
import Derived.ProofKit
import Derived.JoinedCond
import Derived.Test.YtedmojjfdppffaaProg
import Derived.Laws.StructEq
import Derived.Laws.Slices
import Derived.Laws.CopyRow
import Derived.Laws.IdiomStrings
import Derived.Laws.Shifts
import Derived.Laws.MathBits
import Derived.Laws.Cover3
import Derived.WalkSmall
import Derived.MapKept
import Derived.Sort.Grow
import Derived.Lib.Overlaps
import Derived.Lib.AppendZerosOnto
import Derived.Maps.RangeRun
import Derived.Maps.Keyed
import Derived.WideKeyPair
import Derived.Test.YtedmojjfdppffaaPn1
set_option linter.unusedVariables false
set_option maxRecDepth 100000
namespace Go.Vc
open Go Go.RowKit Go.ChangeShapes Go.WideShapes Go.ChangeAt
def hpOf (w:World):Hp:=fun b=>w.heap[b]?
structure Kept (w w':World):Prop where
 os:w'.os=w.os
 output:w'.output=w.output
 size:w.heap.size≤w'.heap.size
 heap:∀(b:Nat) (o:Obj),w.heap[b]?=some o→w'.heap[b]?=some o
section
variable {P:Program}
theorem calls_law {f:FuncId}{args:List Value}{W:World}(H:CallOK P f args (hpOf W) fun v h'=>v=vb true∧(hpOf W).le h') :
  Calls P f args.toArray W fun e W'=>e=.returned (.bool true)∧Kept W W':=by
 refine(H W fun b o hb=>hb).mono ?_
 rintro e W' ⟨v,h',rfl,hs,hF,rfl,hle⟩
 exact⟨rfl,hF.os,hF.output,hF.size,fun b o hb=>hs b o (hle b o hb)⟩
theorem mapM_kept {α β:Type}{f g:α→Option β}:∀{l:List α} {ys:List β},l.mapM f=some ys→(∀ x ∈ l,∀ y ∈ ys,f x=some y→g x=some y)→l.mapM g=some ys
 | [],ys,h,hg=>by simpa using h
 | x :: l,ys,h,hg=>by
  rw [List.mapM_cons] at h ⊢
  simp only [Option.bind_eq_bind,Option.bind_eq_some_iff,Option.pure_def,Option.some.injEq] at h ⊢
  obtain⟨y,hy,zs,hzs,rfl⟩:=h
  exact⟨y,hg x (by simp) y (by simp) hy,zs,mapM_kept hzs (fun x' hx y' hy'=>hg x' (by simp [hx]) y' (by simp [hy'])),rfl⟩
theorem length_mapM {α β:Type}{f:α→Option β}:∀{l:List α} {ys:List β},l.mapM f=some ys→ys.length=l.length
 | [],ys,h=>by simp at h;subst h;rfl
 | x :: l,ys,h=>by
  rw [List.mapM_cons] at h
  simp only [Option.bind_eq_bind,Option.bind_eq_some_iff,Option.pure_def,Option.some.injEq] at h
  obtain⟨y,hy,zs,hzs,rfl⟩:=h
  simp [length_mapM hzs]
theorem Kept.cell {w w':World}(K:Kept w w'){a:Addr}{v:Value}(h:w.cell? a=some v):w'.cell? a=some v:=by
 unfold World.cell? at h ⊢
 cases hb:w.heap[a.block]? with
 | none=>rw [hb] at h;cases h
 | some o=>rw [K.heap _ _ hb];rw [hb] at h;exact h
theorem Kept.cells {w w':World}(K:Kept w w'){base:Nat}{a:Addr}{n:Nat}{cs:List Value}(h:w.cells? base a n=some cs):w'.cells? base a n=some cs:=by
 unfold World.cells? at h ⊢
 split at h
 ·rename_i hb
  rw [if_pos hb]
  exact mapM_kept h fun _ _ _ _ e=>K.cell e
 ·cases h
def tyOK (P:Program)(N:Nat)(t:TypeId):Bool:=
 match P.underlying t with
 | some (.slice e)=>Nat.blt 0 (P.cellsOf e)&&Nat.blt e N
 | some (.pointer e)=>Nat.blt e N
 | some (.array _ e)=>Nat.blt e N
 | some (.map _ e)=>Nat.blt e N
 | some (.struct fs)=>fs.toList.all fun f=>Nat.blt f.type N
 | _=>true
structure slicesBig (P:Program):Prop where
 ty:∀ t,t < P.types.size→tyOK P P.types.size t=true
 gl:∀(g:Nat) (t:TypeId),(P.globals[g]?).map (·.type)=some t→t < P.types.size
theorem slicesBig_of {P:Program}(h1:((List.range P.types.size).all (tyOK P P.types.size))=true)(h2:(P.globals.toList.all fun g=>Nat.blt g.type P.types.size)=true):slicesBig P where
 ty t ht:=List.all_eq_true.1 h1 t (List.mem_range.2 ht)
 gl g t hg:=by
  cases hb:P.globals[g]? with
  | none=>rw [hb] at hg;cases hg
  | some x=>
   rw [hb] at hg
   simp only [Option.map_some,Option.some.injEq] at hg
   subst hg
   have:=List.all_eq_true.1 h2 x (by have:=Array.mem_of_getElem? hb;simpa using this)
   exact Nat.le_of_ble_eq_true this
theorem mem_row_mk {a:Addr}{n i:Nat}(hi:i < n):MemPlace.cell a.block (a.off+i) ∈ MemPlace.row a n:=by
 unfold MemPlace.row
 exact List.mem_map.2 ⟨i,List.mem_range.2 hi,rfl⟩
theorem trod_kept {H:Type}{enc:TypeId × Value→H}(hS:slicesBig P){w w':World}(K:Kept w w'){base:Nat}{sp:Nat→Bool} :
  ∀{fuel:Nat} {t:TypeId} {cs:List Value} {d:DataW H} {ps:List MemPlace},t < P.types.size→DataW.trod enc P w base (fun _=>true) true fuel t cs=some (d,ps) →
   (∀ p ∈ ps,sp p.block=true)→DataW.trod enc P w' base sp true fuel t cs=some (d,ps):=by
 intro fuel
 induction fuel with
 | zero=>intro t cs d ps ht h;simp [DataW.trod] at h
 | succ fuel ih=>
  intro t cs d ps ht h hp
  have htk:=hS.ty t ht
  unfold tyOK at htk
  unfold DataW.trod at h ⊢
  split at h
  case h_6=> -- pointer
   rename_i e a hu
   rw [hu] at htk
   dsimp only at htk
   simp only [Option.map_eq_some_iff,Option.bind_eq_some_iff] at h ⊢
   obtain⟨x,⟨cs',hc,hx⟩,he⟩:=h
   have he2:=he
   simp only [Prod.mk.injEq] at he2
   obtain⟨rfl,rfl⟩:=he2
   exact⟨x,⟨cs',K.cells hc,ih (Nat.le_of_ble_eq_true htk) hx fun p hpx=>hp p (List.mem_append_right _ hpx)⟩,rfl⟩
  case h_8=> -- slice
   rename_i e a len cap hu
   rw [hu] at htk
   simp only [Bool.and_eq_true] at htk
   split at h
   ·rename_i hc
    rw [if_pos hc]
    simp only [Option.bind_eq_some_iff,Option.map_eq_some_iff,if_true] at h
    obtain⟨elems,he,rest,hr,hx⟩:=h
    simp only [Prod.mk.injEq] at hx
    obtain⟨rfl,rfl⟩:=hx
    have hel:elems.length=len:=by have:=length_mapM he;simpa using this
    have hrl:rest.length=cap - len:=by have:=length_mapM hr;simpa using this
    have one:∀(i:Nat) (y:DataW H × List MemPlace),y ∈ elems++rest→((w.cells? base (a.add (i*P.cellsOf e)) (P.cellsOf e)).bind (DataW.trod enc P w base (fun _=>true) true fuel e))=some y →
      ((w'.cells? base (a.add (i*P.cellsOf e)) (P.cellsOf e)).bind (DataW.trod enc P w' base sp true fuel e))=some y:=by
     intro i y hy h1
     simp only [Option.bind_eq_some_iff] at h1 ⊢
     obtain⟨cs',h2,h3⟩:=h1
     exact⟨cs',K.cells h2,ih (Nat.le_of_ble_eq_true htk.2) h3 fun p hpy=>hp p (List.mem_append_right _ (List.mem_flatMap.2 ⟨y,hy,hpy⟩))⟩
    simp only [Option.bind_eq_some_iff,Option.map_eq_some_iff]
    refine⟨elems,mapM_kept he fun i _ y hy h1=>one i y (List.mem_append_left _ hy) h1,rest,?_,rfl⟩
    by_cases hz:cap=0
    ·have h0:rest=[]:=List.eq_nil_of_length_eq_zero (by omega)
     subst h0
     subst hz
     split<;>simp
    ·have hsp:sp a.block=true:=by
      have h0:0 < (elems.length+rest.length)*P.cellsOf e:=Nat.mul_pos (by omega) (Nat.le_of_ble_eq_true htk.1)
      exact hp _ (List.mem_append_left _ (mem_row_mk h0))
     rw [if_pos hsp]
     exact mapM_kept hr fun j _ y hy h1=>one (len+j) y (List.mem_append_right _ hy) h1
   ·cases h
  case h_9=> -- struct
   rename_i fs hu
   rw [hu] at htk
   dsimp only at htk
   split at h
   ·rename_i hc
    rw [if_pos hc]
    simp only [Option.map_eq_some_iff] at h ⊢
    obtain⟨xs,hx,he⟩:=h
    have he2:=he
    simp only [Prod.mk.injEq] at he2
    obtain⟨rfl,rfl⟩:=he2
    exact⟨xs,mapM_kept hx fun f hf y hy h1=>ih (Nat.le_of_ble_eq_true (List.all_eq_true.1 htk f hf)) h1 fun p hpy=>hp p (List.mem_flatMap.2 ⟨y,hy,hpy⟩),rfl⟩
   ·cases h
  case h_10=> -- array
   rename_i n e hu
   rw [hu] at htk
   dsimp only at htk
   split at h
   ·rename_i hc
    rw [if_pos hc]
    simp only [Option.map_eq_some_iff] at h ⊢
    obtain⟨xs,hx,he⟩:=h
    have he2:=he
    simp only [Prod.mk.injEq] at he2
    obtain⟨rfl,rfl⟩:=he2
    exact⟨xs,mapM_kept hx fun f _ y hy h1=>ih (Nat.le_of_ble_eq_true htk) h1 fun p hpy=>hp p (List.mem_flatMap.2 ⟨y,hy,hpy⟩),rfl⟩
   ·cases h
  case h_12=> -- interface
   simp only at h ⊢
   exact h
  case h_14=> -- map
   rename_i k e b hu
   rw [hu] at htk
   dsimp only at htk
   split at h
   ·rename_i es clock hb
    rw [K.heap _ _ hb]
    simp only
    split at h
    ·rename_i hc
     rw [if_pos hc]
     simp only [Option.bind_eq_some_iff] at h ⊢
     obtain⟨entries,hx,hrest⟩:=h
     refine⟨entries,?_,hrest⟩
     split at hrest
     ·simp only [Option.some.injEq,Prod.mk.injEq] at hrest
      obtain⟨rfl,rfl⟩:=hrest
      refine mapM_kept hx fun f _ y hy h1=>?_
      simp only [Option.bind_eq_some_iff] at h1 ⊢
      obtain⟨key,hk,h2⟩:=h1
      refine⟨key,hk,?_⟩
      split at h2
      ·rename_i hf
       rw [if_pos hf]
       simp only [Option.map_eq_some_iff] at h2 ⊢
       obtain⟨z,hz,rfl⟩:=h2
       exact⟨z,ih (Nat.le_of_ble_eq_true htk) hz fun p hpy=>hp p (List.mem_cons_of_mem _ (List.mem_flatMap.2 ⟨_,hy,hpy⟩)),rfl⟩
      ·cases h2
     ·cases hrest
    ·cases h
   ·cases h
  all_goals first|(cases h;done)|(simp_all;done)
theorem trodAll_kept {H:Type}{enc:TypeId × Value→H}(hS:slicesBig P){w w':World}(K:Kept w w'){base:Nat}{sp:Nat→Bool} :
  ∀{ts:List TypeId} {vs:List Value} {ds:List (DataW H)} {ps:List MemPlace},(∀ t ∈ ts,t < P.types.size)→DataW.TrodAll enc P w base (fun _=>true) true ts vs ds ps →
   (∀ p ∈ ps,sp p.block=true)→DataW.TrodAll enc P w' base sp true ts vs ds ps
 | [],[],[],ps,_,h,hp=>h
 | t :: ts,v :: vs,d :: ds,ps,ht,h,hp=>by
  obtain⟨p,q,⟨fuel,h1⟩,h2,rfl⟩:=h
  exact⟨p,q,⟨fuel,trod_kept hS K (ht t (by simp)) h1 fun x hx=>hp x (List.mem_append_left _ hx)⟩,trodAll_kept hS K (fun x hx=>ht x (by simp [hx])) h2 (fun x hx=>hp x (List.mem_append_right _ hx)),rfl⟩
 | [],_ :: _,_,_,_,h,_=>by simp [DataW.TrodAll] at h
 | [],[],_ :: _,_,_,h,_=>by simp [DataW.TrodAll] at h
 | _ :: _,[],_,_,_,h,_=>by simp [DataW.TrodAll] at h
 | _ :: _,_ :: _,[],_,_,h,_=>by simp [DataW.TrodAll] at h
theorem trodVars_kept {H:Type}{enc:TypeId × Value→H}(hS:slicesBig P){w w':World}(K:Kept w w'){sp:Nat→Bool} :
  ∀{ns:List String} {ds:List (DataW H)} {ps:List MemPlace},DataW.TrodVars enc P w (fun _=>true) ns ds ps →
   (∀ p ∈ ps,sp p.block=true)→DataW.TrodVars enc P w' sp ns ds ps
 | [],[],ps,h,hp=>h
 | n :: ns,d :: ds,ps,h,hp=>by
  obtain⟨g,t,cs,fuel,p,q,hn,ht,hv,h1,h2,rfl⟩:=h
  refine⟨g,t,cs,fuel,p,q,hn,ht,?_,trod_kept hS K (hS.gl g t ht) h1 fun x hx=>hp x (List.mem_append_left _ (List.mem_append_right _ hx)),trodVars_kept hS K h2 (fun x hx=>hp x (List.mem_append_right _ hx)),rfl⟩
  unfold World.var? at hv ⊢
  rw [hn] at hv ⊢
  simp only [Option.bind_some] at hv ⊢
  cases hb:w.heap[g]? with
  | none=>rw [hb] at hv;cases hv
  | some o=>rw [K.heap _ _ hb];rw [hb] at hv;exact hv
 | [],_ :: _,_,h,_=>by simp [DataW.TrodVars] at h
 | _ :: _,[],_,h,_=>by simp [DataW.TrodVars] at h
theorem law_post {H:Type}{enc:TypeId × Value→H}(hS:slicesBig P){f:Func}{s:ChangeSpec}{apart fresh handsOn again:Bool}{W W':World}{args:Array Value}{ds gs:List (DataW H)}{before:List MemPlace}
  (hW:DataW.Whole enc P f.params.toList s.vars apart W args.toList ds gs before) (K:Kept W W') (hts:(f.params.toList.all fun t=>Nat.blt t P.types.size)=true) {tb:TypeId} (hr:f.resultTypes=#[tb]) (hb:P.underlying tb=some .bool)
  (hs:s.fn H (ds++gs)={ results:=[.lit (.bool true)],args:=ds,vars:=gs }) :
  s.post enc P f apart fresh handsOn again W args (vb true) W':=by
 have hlt:∀ p ∈ before,p.block < W.heap.size:=fun p hp=>hW.lt p hp
 have hW0:=hW
 obtain⟨pa,pv,hA,hV,rfl,hz,hn⟩:=hW
 have hres:∀(b:Nat) (sp:Nat→Bool) (hd:Bool),DataW.TrodAll enc P W' b sp hd f.resultTypes.toList ((vb true).resultList f.resultTypes.size) [.lit (.bool true)] []:=by
  intro b sp hd
  rw [hr]
  exact trodAll_cons_mk (shut_bool hb _) trodAll_mk0
 have hargs:∀ sp:Nat→Bool,(∀ p ∈ pa++pv,sp p.block=true)→DataW.TrodAll enc P W' 0 sp true f.params.toList args.toList ds pa:=fun sp hp=>trodAll_kept hS K (fun t ht=>Nat.le_of_ble_eq_true (List.all_eq_true.1 hts t ht)) hA fun p h=>hp p (List.mem_append_left _ h)
 have hvars:∀ sp:Nat→Bool,(∀ p ∈ pa++pv,sp p.block=true)→DataW.TrodVars enc P W' sp s.vars gs pv:=fun sp hp=>trodVars_kept hS K hV fun p h=>hp p (List.mem_append_right _ h)
 have hold:∀ p ∈ pa++pv,(fun b=>decide (b < W.heap.size)) p.block=true:=fun p hp=>by simpa using hlt p hp
 have hall:∀ p ∈ pa++pv,(fun _:Nat=>true) p.block=true:=fun _ _=>rfl
 refine⟨ds,gs,pa++pv,[],pa,pv,hW0,?_,?_,?_,⟨K.os,K.output,fun i hi=>?_⟩,fun _=>⟨?_,_,gs,([]++pa)++pv,⟨[]++pa,pv,trodAll_append (hargs _ hall) (hres _ _ _),hvars _ hall,rfl,?_,?_⟩,?_⟩⟩
 ·rw [hs];exact hres _ _ _
 ·rw [hs];exact hargs _ hold
 ·rw [hs];exact hvars _ hold
 ·cases hb:W.heap[i]? with
  | none=>simp at hb;omega
  | some o=>rw [K.heap _ _ hb];cases o<;>simp
 ·intro j t r h1 h2
  exact ok_one hr rfl (okWide_bool_mk hb _) j t r h1 h2
 ·intro b off hp
  have h1:=hz b off (by simpa using hp)
  have h2:=hlt (.cell b off) (by simpa using hp)
  unfold World.frozen? at h1 ⊢
  cases hb:W.heap[b]? with
  | none=>simp [MemPlace.block] at hb h2;omega
  | some o=>rw [hb] at h1;rw [K.heap _ _ hb];exact h1
 ·intro ha
  simpa using hn ha
 ·intro p hp _
  simpa using hp
end
end Go.Vc
namespace Go.Proofs.Ytedmojjfdppffaa
open Go Go.Vc
theorem noNG:NoNG Try.prog:=by
 have h:(Try.prog.funcs.all fun fn=>!(fn.name == "runtime.NumGoroutine"))=true:=by kernel_rfl
 intro f fn hf
 rw [Array.all_eq_true] at h
 obtain⟨hlt,he⟩:=Array.getElem?_eq_some_iff.mp hf
 have:=h f hlt
 rw [he] at this
 simpa using this
theorem mixed:Try.prog.follows .mixedOrders=true:=by kernel_rfl
theorem big:slicesBig Try.prog:=slicesBig_of (by kernel_rfl) (by kernel_rfl)
def VC_law_tables  (h:Hp)(R:Value→Hp→Prop):Prop:=
 (∀ b1,h b1=none→let h2:= Hp.set h b1 (cellsO [vi 1] 3);(∀ b3,h2 b3=none→let h4:= Hp.set h2 b3 (cellsO [vi 0,vi 0] 30);(CallOK Try.prog 7 [vag [vsl none 0 0],vi 5,vag [vi 0,vi 0],(vsl (some (⟨b1,0,none⟩:Addr)) 1 1),(vsl (some (⟨b3,0,none⟩:Addr)) 1 1)] h4 fun v5 h6=>∃ a7 n7 c7 x8 x9 x10 a11 n11 c11 p12 p13,v5=(vtup [vag [vsl a7 n7 c7],vag [vi x8,vi x9,vi x10,vsl a11 n11 c11,vb p12],vb p13])∧(∃ b14 o15,((bif (!p13) then(decide ((n7:Int)=1)) else false)=true→(a7=some ⟨b14,o15,none⟩∧(0:Int)≤0∧0 < (n7:Int)))∧(∃ x16,((bif (!p13) then(decide ((n7:Int)=1)) else false)=true→Hp.cell h6 b14 (o15+(0:Int).toNat*5)=some (vi x16))∧R (vb (bif (bif (!p13) then(decide ((n7:Int)=1)) else false) then(decide (x16=5)) else false)) h6)))))
theorem ok_law_tables {h R}(H:VC_law_tables  h R):CallOK Try.prog 4 [] h R:=
 call_of (cfg:=⟨[],[],[]⟩) noNG mixed Try.func4 [] (by kernel_rfl) rfl (by kernel_rfl) H
def VC_law_of (u0:Option Addr)(u1 u2:Nat)(u3:Int)(u4:Int)(u5:Int)(h:Hp)(R:Value→Hp→Prop):Prop:=
 (∃(I2:List Value→Hp→Prop) (m3:List Value→Hp→Nat),I2 [vsl none 0 0,vi 0] h∧∀ vs4 h5,I2 vs4 h5→∃ a6 n6 c6 x7,vs4=[vsl a6 n6 c6,vi x7]∧(((decide (x7 < (u1:Int)))=true→(let J33:Option Addr→Nat→Nat→Hp→Prop:=fun a36 n36 c36 h37=>(∃ x38,(IsW x38 (x7+1))∧(I2 [vsl a36 n36 c36,vi x38] h37∧m3 [vsl a36 n36 c36,vi x38] h37 < m3 vs4 h5));(∃ b10 o11,(u0=some ⟨b10,o11,none⟩∧(0:Int)≤x7∧x7 < (u1:Int))∧(∃ x12,(Hp.cell h5 b10 (o11+x7.toNat*6)=some (vi x12))∧(∃ b13 o14,((decide (x12=u3))=true→(u0=some ⟨b13,o14,none⟩∧(0:Int)≤x7∧x7 < (u1:Int)))∧(∃ x15 x16,((decide (x12=u3))=true→Hp.row h5 b13 ((o14+x7.toNat*6)+1) 2=some [vi x15,vi x16])∧(∃ p17,((decide (x12=u3))=true→Rd Try.prog ((eqGuard .eql 30 (.tmp 27) (.tmp 28) (vag [vi x15,vi x16]) (vag [vi u4,vi u5]) >>= fun _=>binOp .eql 30 (vag [vi x15,vi x16]) (vag [vi u4,vi u5]))) h5 (vb p17))∧(((bif (decide (x12=u3)) then p17 else false)=true→(∃ b18 o19,(u0=some ⟨b18,o19,none⟩∧(0:Int)≤x7∧x7 < (u1:Int))∧(∃ x20 x21 x22 a23 n23 c23 x24 x25,(Hp.row h5 b18 (o19+x7.toNat*6) 6=some [vi x20,vi x21,vi x22,vsl a23 n23 c23,vi x24,vi x25])∧(∀ b26,h5 b26=none→let h27:= Hp.set h5 b26 (cellsO [vi x20,vi x21,vi x22,vsl a23 n23 c23,vi x24,vi x25] 33);(SemOK Try.prog (Builtin.append_ #[23,23] 23 #[vsl a6 n6 c6,(vsl (some (⟨b26,0,none⟩:Addr)) 1 1)]) h27 fun v28 h29=>∃ a30 n30 c30,v28=(vsl a30 n30 c30)∧(J33 a30 n30 c30 h29))))))∧((bif (decide (x12=u3)) then p17 else false)=false→(J33 a6 n6 c6 h5))))))))))∧((decide (x7 < (u1:Int)))=false→R (vsl a6 n6 c6) h5)))
theorem ok_law_of {u0 u1 u2 u3 u4 u5 h R}(H:VC_law_of u0 u1 u2 u3 u4 u5 h R):CallOK Try.prog 6 [vsl u0 u1 u2,vi u3,vag [vi u4,vi u5]] h R:=
 call_of (cfg:=⟨[],[(3,([7,8],[.one (.slice),.one (.int .i64)],[]))],[(5,[0,1,2,3,4,5,6,7,8,9,10,11,12,13,14,15])]⟩) noNG mixed Try.func6 [.one (.v (vsl u0 u1 u2)),.one (.v (vi u3)),.ag [.v (vi u4),.v (vi u5)]] (by kernel_rfl) rfl (by kernel_rfl) H
def VC_law_outOf (u0:Option Addr)(u1 u2:Nat)(u3:Option Addr)(u4 u5:Nat)(h:Hp)(R:Value→Hp→Prop):Prop:=
 (∃ b1 o2,(u0=some ⟨b1,o2,none⟩∧(0:Int)≤0∧0 < (u1:Int))∧(∃ x3,(Hp.cell h b1 (o2+(0:Int).toNat*6)=some (vi x3))∧(∃ b4 o5,(u0=some ⟨b4,o5,none⟩∧(0:Int)≤0∧0 < (u1:Int))∧(∃ x6 x7,(Hp.row h b4 ((o5+(0:Int).toNat*6)+1) 2=some [vi x6,vi x7])∧(let J57:Int→Int→Int→Option Addr→Nat→Nat→Hp→Prop:=fun x68 x69 x70 a71 n71 c71 h72=>R (vag [vi x68,vi x69,vi x70,vsl a71 n71 c71]) h72;(∃(I9:List Value→Hp→Prop) (m10:List Value→Hp→Nat),I9 [vi 0,vi x3,vi x6,vi x7,vsl none 0 0] h∧∀ vs11 h12,I9 vs11 h12→∃ x13 x14 x15 x16 a17 n17 c17,vs11=[vi x13,vi x14,vi x15,vi x16,vsl a17 n17 c17]∧(((decide (x13 < (u4:Int)))=true→(∃(I21:List Value→Hp→Prop) (m22:List Value→Hp→Nat),I21 [vsl none 0 0,vi 0] h12∧∀ vs23 h24,I21 vs23 h24→∃ a25 n25 c25 x26,vs23=[vsl a25 n25 c25,vi x26]∧(((decide (x26 < (u1:Int)))=true→(∃ b29 o30,(u0=some ⟨b29,o30,none⟩∧(0:Int)≤x26∧x26 < (u1:Int))∧(∃ a31 n31 c31,(Hp.cell h24 b29 ((o30+x26.toNat*6)+3)=some (vsl a31 n31 c31))∧(∃ b32 o33,(a31=some ⟨b32,o33,none⟩∧(0:Int)≤x13∧x13 < (n31:Int))∧(∃ x34 x35,(Hp.row h24 b32 (o33+x13.toNat*2) 2=some [vi x34,vi x35])∧(∀ b36,h24 b36=none→let h37:= Hp.set h24 b36 (cellsO [vi x34,vi x35] 30);(SemOK Try.prog (Builtin.append_ #[31,31] 31 #[vsl a25 n25 c25,(vsl (some (⟨b36,0,none⟩:Addr)) 1 1)]) h37 fun v38 h39=>∃ a40 n40 c40,v38=(vsl a40 n40 c40)∧(∃ x42,(IsW x42 (x26+1))∧(I21 [vsl a40 n40 c40,vi x42] h39∧m22 [vsl a40 n40 c40,vi x42] h39 < m22 vs23 h24)))))))))∧((decide (x26 < (u1:Int)))=false→(∃ b43 o44,(u3=some ⟨b43,o44,none⟩∧(0:Int)≤x13∧x13 < (u4:Int))∧(∃ x45,(Hp.cell h24 b43 (o44+x13.toNat*1)=some (vi x45))∧(CallOK Try.prog 23 [vi x45,vsl a25 n25 c25] h24 fun v46 h47=>∃ x48 x49,v46=(vag [vi x48,vi x49])∧(∀ b50,h47 b50=none→let h51:= Hp.set h47 b50 (cellsO [vi x48,vi x49] 30);(SemOK Try.prog (Builtin.append_ #[31,31] 31 #[vsl a17 n17 c17,(vsl (some (⟨b50,0,none⟩:Addr)) 1 1)]) h51 fun v52 h53=>∃ a54 n54 c54,v52=(vsl a54 n54 c54)∧(∃ x56,(IsW x56 (x13+1))∧(I9 [vi x56,vi x14,vi x15,vi x16,vsl a54 n54 c54] h53∧m10 [vi x56,vi x14,vi x15,vi x16,vsl a54 n54 c54] h53 < m10 vs11 h12)))))))))))∧((decide (x13 < (u4:Int)))=false→(J57 x14 x15 x16 a17 n17 c17 h12)))))))))
theorem ok_law_outOf {u0 u1 u2 u3 u4 u5 h R}(H:VC_law_outOf u0 u1 u2 u3 u4 u5 h R):CallOK Try.prog 10 [vsl u0 u1 u2,vsl u3 u4 u5] h R:=
 call_of (cfg:=⟨[],[(7,([7,8],[.one (.slice),.one (.int .i64)],[])),(3,([6],[.one (.int .i64)],[(1,[.int .i64,.int .i64,.int .i64,.slice])]))],[(1,[0,1,2,3,4,5,6,7,8,9,10])]⟩) noNG mixed Try.func10 [.one (.v (vsl u0 u1 u2)),.one (.v (vsl u3 u4 u5))] (by kernel_rfl) rfl (by kernel_rfl) H
def VC_law_ahead (u0:Int)(u1:Int)(u2:Int)(u3:Option Addr)(u4 u5:Nat)(u6:Bool)(u7:Int)(u8:Int)(u9:Int)(u10:Option Addr)(u11 u12:Nat)(u13:Bool)(h:Hp)(R:Value→Hp→Prop):Prop:=
 (((decide (u0≠u7))=true→R (vb (decide (u0 < u7))) h)∧((decide (u0≠u7))=false→(CallOK Try.prog 24 [vag [vi u1,vi u2],vag [vi u8,vi u9]] h fun v2 h3=>∃ x4,v2=(vi x4)∧R (vb (decide (x4 < 0))) h3)))
theorem ok_law_ahead {u0 u1 u2 u3 u4 u5 u6 u7 u8 u9 u10 u11 u12 u13 h R}(H:VC_law_ahead u0 u1 u2 u3 u4 u5 u6 u7 u8 u9 u10 u11 u12 u13 h R):CallOK Try.prog 12 [vag [vi u0,vi u1,vi u2,vsl u3 u4 u5,vb u6],vag [vi u7,vi u8,vi u9,vsl u10 u11 u12,vb u13]] h R:=
 call_of (cfg:=⟨[],[],[]⟩) noNG mixed Try.func12 [.ag [.v (vi u0),.v (vi u1),.v (vi u2),.v (vsl u3 u4 u5),.v (vb u6)],.ag [.v (vi u7),.v (vi u8),.v (vi u9),.v (vsl u10 u11 u12),.v (vb u13)]] (by kernel_rfl) rfl (by kernel_rfl) H
def VC_law_good (u0:Int)(u1:Int)(h:Hp)(R:Value→Hp→Prop):Prop:=
 (CallOK Try.prog 14 [vag [vi u0,vi u1]] h fun v1 h2=>∃ x3,v1=(vi x3)∧R (vb (decide (x3=0))) h2)
theorem ok_law_good {u0 u1 h R}(H:VC_law_good u0 u1 h R):CallOK Try.prog 5 [vag [vi u0,vi u1]] h R:=
 call_of (cfg:=⟨[],[],[]⟩) noNG mixed Try.func5 [.ag [.v (vi u0),.v (vi u1)]] (by kernel_rfl) rfl (by kernel_rfl) H
def VC_law_PanesSays (u0:Option Addr)(u1 u2:Nat)(u3:Int)(u4:Option Addr)(u5 u6:Nat)(h:Hp)(R:Value→Hp→Prop):Prop:=
 (CallOK Try.prog 4 [] h fun v1 h2=>∃ p3,v1=(vb p3)∧(((bif (bif (bif (bif (!p3) then true else(decide ((u1:Int) > 4))) then true else(decide ((u5:Int) > 40))) then true else(decide (u3 < 1))) then true else(decide (u3 > 1000)))=true→R (vb p3) h2)∧((bif (bif (bif (bif (!p3) then true else(decide ((u1:Int) > 4))) then true else(decide ((u5:Int) > 40))) then true else(decide (u3 < 1))) then true else(decide (u3 > 1000)))=false→(∃(I6:List Value→Hp→Prop) (m7:List Value→Hp→Nat),I6 [vi 0] h2∧∀ vs8 h9,I6 vs8 h9→∃ x10,vs8=[vi x10]∧(((decide (x10 < (u1:Int)))=true→(∃ b13 o14,(u0=some ⟨b13,o14,none⟩∧(0:Int)≤x10∧x10 < (u1:Int))∧(∃ x15,(Hp.cell h9 b13 (o14+x10.toNat*1)=some (vi x15))∧(∃ b16 o17,((decide (x15 < 1))=false→(u0=some ⟨b16,o17,none⟩∧(0:Int)≤x10∧x10 < (u1:Int)))∧(∃ x18,((decide (x15 < 1))=false→Hp.cell h9 b16 (o17+x10.toNat*1)=some (vi x18))∧(((bif (decide (x15 < 1)) then true else(decide (x18 > 5)))=true→R (vb true) h9)∧((bif (decide (x15 < 1)) then true else(decide (x18 > 5)))=false→(∃ x20,(IsW x20 (x10+1))∧(I6 [vi x20] h9∧m7 [vi x20] h9 < m7 vs8 h9)))))))))∧((decide (x10 < (u1:Int)))=false→(SemOK Try.prog (Instr.makeMap 28 none) h9 fun v21 h22=>∃(y23:Value),v21=y23∧(let J338:Hp→Prop:=fun h339=>R (vb true) h339;(∃(I25:List Value→Hp→Prop) (m26:List Value→Hp→Nat),I25 [vsl none 0 0,vi 0,vsl none 0 0] h22∧∀ vs27 h28,I25 vs27 h28→∃ a29 n29 c29 x30 a31 n31 c31,vs27=[vsl a29 n29 c29,vi x30,vsl a31 n31 c31]∧(((decide (x30 < (u5:Int)))=true→(∃ b34 o35,(u4=some ⟨b34,o35,none⟩∧(0:Int)≤x30∧x30 < (u5:Int))∧(∃ x36 x37 x38 a39 n39 c39 x40 x41,(Hp.row h28 b34 (o35+x30.toNat*6) 6=some [vi x36,vi x37,vi x38,vsl a39 n39 c39,vi x40,vi x41])∧(∃(J42:SV→Hp→Prop),((bif (bif (decide ((n39:Int)≠(u1:Int))) then true else(decide (x36 < (-1000)))) then true else(decide (x36 > 9999)))=false→(CallOK Try.prog 5 [vag [vi x37,vi x38]] h28 fun v43 h44=>∃ p45,v43=(vb p45)∧J42 (.t (.one (.v (vb p45)))) h44))∧(¬((bif (bif (decide ((n39:Int)≠(u1:Int))) then true else(decide (x36 < (-1000)))) then true else(decide (x36 > 9999)))=false)→J42 (.t (.one (.v (vb false)))) h28)∧∀ h46 p47,J42 (.t (.one (.v (vb p47)))) h46→(((bif (bif (bif (bif (bif (bif (bif (decide ((n39:Int)≠(u1:Int))) then true else(decide (x36 < (-1000)))) then true else(decide (x36 > 9999))) then true else(!p47)) then true else(decide (x40 < (-20000)))) then true else(decide (x40 > 20000))) then true else(decide (x41 < (-20000)))) then true else(decide (x41 > 20000)))=true→R (vb true) h46)∧((bif (bif (bif (bif (bif (bif (bif (decide ((n39:Int)≠(u1:Int))) then true else(decide (x36 < (-1000)))) then true else(decide (x36 > 9999))) then true else(!p47)) then true else(decide (x40 < (-20000)))) then true else(decide (x40 > 20000))) then true else(decide (x41 < (-20000)))) then true else(decide (x41 > 20000)))=false→(∃(I50:List Value→Hp→Prop) (m51:List Value→Hp→Nat),I50 [vi 0] h46∧∀ vs52 h53,I50 vs52 h53→∃ x54,vs52=[vi x54]∧(((decide (x54 < (u1:Int)))=true→(∃ b57 o58,(a39=some ⟨b57,o58,none⟩∧(0:Int)≤x54∧x54 < (n39:Int))∧(∃ x59 x60,(Hp.row h53 b57 (o58+x54.toNat*2) 2=some [vi x59,vi x60])∧(CallOK Try.prog 5 [vag [vi x59,vi x60]] h53 fun v61 h62=>∃ p63,v61=(vb p63)∧(∃ b64 o65,((!p63)=false→(u0=some ⟨b64,o65,none⟩∧(0:Int)≤x54∧x54 < (u1:Int)))∧(∃ x66,((!p63)=false→Hp.cell h62 b64 (o65+x54.toNat*1)=some (vi x66))∧(∃ b67 o68,(((!p63)=false∧(decide (x66 > 2))=true)→(a39=some ⟨b67,o68,none⟩∧(0:Int)≤x54∧x54 < (n39:Int)))∧(∃ x69,(((!p63)=false∧(decide (x66 > 2))=true)→Hp.cell h62 b67 (o68+x54.toNat*2)=some (vi x69))∧(((bif (!p63) then true else(bif (decide (x66 > 2)) then(decide (x69=2)) else false))=true→R (vb true) h62)∧((bif (!p63) then true else(bif (decide (x66 > 2)) then(decide (x69=2)) else false))=false→(∃ x71,(IsW x71 (x54+1))∧(I50 [vi x71] h62∧m51 [vi x71] h62 < m51 vs52 h53))))))))))))∧((decide (x54 < (u1:Int)))=false→(CallOK Try.prog 6 [vsl a29 n29 c29,vi x36,vag [vi x37,vi x38]] h53 fun v72 h73=>∃ a74 n74 c74,v72=(vsl a74 n74 c74)∧(CallOK Try.prog 7 [vag [vsl a31 n31 c31],vi x36,vag [vi x37,vi x38],vsl u0 u1 u2,vsl a39 n39 c39] h73 fun v75 h76=>∃ a77 n77 c77 x78 x79 x80 a81 n81 c81 p82 p83,v75=(vtup [vag [vsl a77 n77 c77],vag [vi x78,vi x79,vi x80,vsl a81 n81 c81,vb p82],vb p83])∧(∃ p84,(Rd Try.prog ((eqGuard .neq 4 (.tmp 183) (.tmp 186) (vb p83) (vb (decide ((n74:Int) > 0))) >>= fun _=>binOp .neq 4 (vb p83) (vb (decide ((n74:Int) > 0))))) h76 (vb p84))∧(∃(J85:SV→Hp→Prop),((p84=false∧p83=true)→(CallOK Try.prog 9 [vag [vi x78,vi x79,vi x80,vsl a81 n81 c81,vb p82]] h76 fun v86 h87=>∃ x88 x89 x90 a91 n91 c91,v86=(vag [vi x88,vi x89,vi x90,vsl a91 n91 c91])∧J85 (.t (.ag [.v (vi x88),.v (vi x89),.v (vi x90),.v (vsl a91 n91 c91)])) h87))∧(¬(p84=false∧p83=true)→J85 (.t (.ag [.v (vi 0),.v (vi 0),.v (vi 0),.v (vsl none 0 0)])) h76)∧∀ h92 x93 x94 x95 a96 n96 c96,J85 (.t (.ag [.v (vi x93),.v (vi x94),.v (vi x95),.v (vsl a96 n96 c96)])) h92→(∃(J97:SV→Hp→Prop),((p84=false∧p83=true)→(CallOK Try.prog 10 [vsl a74 n74 c74,vsl u0 u1 u2] h92 fun v98 h99=>∃ x100 x101 x102 a103 n103 c103,v98=(vag [vi x100,vi x101,vi x102,vsl a103 n103 c103])∧J97 (.t (.ag [.v (vi x100),.v (vi x101),.v (vi x102),.v (vsl a103 n103 c103)])) h99))∧(¬(p84=false∧p83=true)→J97 (.t (.ag [.v (vi 0),.v (vi 0),.v (vi 0),.v (vsl none 0 0)])) h92)∧∀ h104 x105 x106 x107 a108 n108 c108,J97 (.t (.ag [.v (vi x105),.v (vi x106),.v (vi x107),.v (vsl a108 n108 c108)])) h104→(∃(J109:SV→Hp→Prop),((p84=false∧p83=true)→(CallOK Try.prog 8 [vag [vi x93,vi x94,vi x95,vsl a96 n96 c96],vag [vi x105,vi x106,vi x107,vsl a108 n108 c108]] h104 fun v110 h111=>∃ p112,v110=(vb p112)∧J109 (.t (.one (.v (vb p112)))) h111))∧(¬(p84=false∧p83=true)→J109 (.t (.one (.v (vb false)))) h104)∧∀ h113 p114,J109 (.t (.one (.v (vb p114)))) h113→(∃ p115,(((p84=false∧p83=true)∧(!p114)=false)→Rd Try.prog (Instr.lookup 28 y23 (vag [vi x36,vi x37,vi x38]) false) h113 (vb p115))∧(∃ p116,(((p84=false∧p83=true)∧(!p114)=false)→Rd Try.prog ((eqGuard .neq 4 (.tmp 200) (.tmp 203) (vb p82) (vb p115) >>= fun _=>binOp .neq 4 (vb p82) (vb p115))) h113 (vb p116))∧(((bif (bif p84 then true else(bif p83 then(bif (!p114) then true else p116) else false)) then true else(bif (!p83) then(bif (decide (x78≠0)) then true else(decide ((n81:Int) > 0))) else false))=true→R (vb false) h113)∧((bif (bif p84 then true else(bif p83 then(bif (!p114) then true else p116) else false)) then true else(bif (!p83) then(bif (decide (x78≠0)) then true else(decide ((n81:Int) > 0))) else false))=false→(∀ b118,h113 b118=none→let h119:= Hp.set h113 b118 (cellsO [vi x36,vi x37,vi x38,vsl a39 n39 c39,vi x40,vi x41] 33);(SemOK Try.prog (Builtin.append_ #[23,23] 23 #[vsl a29 n29 c29,(vsl (some (⟨b118,0,none⟩:Addr)) 1 1)]) h119 fun v120 h121=>∃ a122 n122 c122,v120=(vsl a122 n122 c122)∧(CallOK Try.prog 11 [vag [vsl a77 n77 c77],vi u3,vi x40] h121 fun v123 h124=>∃ a125 n125 c125 a126 n126 c126,v123=(vtup [vag [vsl a125 n125 c125],vsl a126 n126 c126])∧(∃(I128:List Value→Hp→Prop) (m129:List Value→Hp→Nat),I128 [vi 0] h124∧∀ vs130 h131,I128 vs130 h131→∃ x132,vs130=[vi x132]∧(((decide (x132 < (n126:Int)))=true→(∃ b135 o136,(a126=some ⟨b135,o136,none⟩∧(0:Int)≤x132∧x132 < (n126:Int))∧(∃ x137,(Hp.cell h131 b135 (o136+x132.toNat*5)=some (vi x137))∧(∃ b138 o139,(a126=some ⟨b138,o139,none⟩∧(0:Int)≤x132∧x132 < (n126:Int))∧(∃ x140,(Hp.cell h131 b138 ((o139+x132.toNat*5)+1)=some (vi x140))∧(∃ b141 o142,(a126=some ⟨b141,o142,none⟩∧(0:Int)≤x132∧x132 < (n126:Int))∧(∃ x143,(Hp.cell h131 b141 (((o142+x132.toNat*5)+1)+1)=some (vi x143))∧(∃ p144,(Rd Try.prog (Instr.lookup 28 y23 (vag [vi x137,vi x140,vi x143]) false) h131 (vb p144))∧(∃ b145 o146,(p144=false→(a126=some ⟨b145,o146,none⟩∧(0:Int)≤x132∧x132 < (n126:Int)))∧(∃ x147,(p144=false→Hp.cell h131 b145 (o146+x132.toNat*5)=some (vi x147))∧(∃ x148,(p144=false→IsW x148 (x147+u3))∧(∃ x149,(((bif p144 then true else(decide (x148 > x40)))=false∧(decide (x132 > 0))=true)→IsW x149 (x132 - 1))∧(∃ b150 o151,(((bif p144 then true else(decide (x148 > x40)))=false∧(decide (x132 > 0))=true)→(a126=some ⟨b150,o151,none⟩∧(0:Int)≤x149∧x149 < (n126:Int)))∧(∃ x152 x153 x154 a155 n155 c155 p156,(((bif p144 then true else(decide (x148 > x40)))=false∧(decide (x132 > 0))=true)→Hp.row h131 b150 (o151+x149.toNat*5) 5=some [vi x152,vi x153,vi x154,vsl a155 n155 c155,vb p156])∧(∃ b157 o158,(((bif p144 then true else(decide (x148 > x40)))=false∧(decide (x132 > 0))=true)→(a126=some ⟨b157,o158,none⟩∧(0:Int)≤x132∧x132 < (n126:Int)))∧(∃ x159 x160 x161 a162 n162 c162 p163,(((bif p144 then true else(decide (x148 > x40)))=false∧(decide (x132 > 0))=true)→Hp.row h131 b157 (o158+x132.toNat*5) 5=some [vi x159,vi x160,vi x161,vsl a162 n162 c162,vb p163])∧(∃(J164:SV→Hp→Prop),(((bif p144 then true else(decide (x148 > x40)))=false∧(decide (x132 > 0))=true)→(CallOK Try.prog 12 [vag [vi x152,vi x153,vi x154,vsl a155 n155 c155,vb p156],vag [vi x159,vi x160,vi x161,vsl a162 n162 c162,vb p163]] h131 fun v165 h166=>∃ p167,v165=(vb p167)∧J164 (.t (.one (.v (vb p167)))) h166))∧(¬((bif p144 then true else(decide (x148 > x40)))=false∧(decide (x132 > 0))=true)→J164 (.t (.one (.v (vb false)))) h131)∧∀ h168 p169,J164 (.t (.one (.v (vb p169)))) h168→(((bif (bif p144 then true else(decide (x148 > x40))) then true else(bif (decide (x132 > 0)) then(!p169) else false))=true→R (vb false) h168)∧((bif (bif p144 then true else(decide (x148 > x40))) then true else(bif (decide (x132 > 0)) then(!p169) else false))=false→(SemOKu Try.prog (Instr.mapUpdate 28 y23 (vag [vi x137,vi x140,vi x143]) (vb true)) h168 fun h171=>(∃ x173,(IsW x173 (x132+1))∧(I128 [vi x173] h171∧m129 [vi x173] h171 < m129 vs130 h131))))))))))))))))))))))∧((decide (x132 < (n126:Int)))=false→(CallOK Try.prog 13 [vag [vsl a125 n125 c125],vi u3,vi x41] h131 fun v174 h175=>∃ a176 n176 c176,v174=(vag [vsl a176 n176 c176])∧(∃(I178:List Value→Hp→Prop) (m179:List Value→Hp→Nat),I178 [vsl none 0 0,vi 0] h175∧∀ vs180 h181,I178 vs180 h181→∃ a182 n182 c182 x183,vs180=[vsl a182 n182 c182,vi x183]∧(((decide (x183 < (n122:Int)))=true→(let J205:Option Addr→Nat→Nat→Hp→Prop:=fun a208 n208 c208 h209=>(∃ x210,(IsW x210 (x183+1))∧(I178 [vsl a208 n208 c208,vi x210] h209∧m179 [vsl a208 n208 c208,vi x210] h209 < m179 vs180 h181));(∃ b186 o187,(a122=some ⟨b186,o187,none⟩∧(0:Int)≤x183∧x183 < (n122:Int))∧(∃ x188,(Hp.cell h181 b186 (o187+x183.toNat*6)=some (vi x188))∧(∃ x189,(IsW x189 (x188+u3))∧(((decide (x189 > x41))=true→(∃ b190 o191,(a122=some ⟨b190,o191,none⟩∧(0:Int)≤x183∧x183 < (n122:Int))∧(∃ x192 x193 x194 a195 n195 c195 x196 x197,(Hp.row h181 b190 (o191+x183.toNat*6) 6=some [vi x192,vi x193,vi x194,vsl a195 n195 c195,vi x196,vi x197])∧(∀ b198,h181 b198=none→let h199:= Hp.set h181 b198 (cellsO [vi x192,vi x193,vi x194,vsl a195 n195 c195,vi x196,vi x197] 33);(SemOK Try.prog (Builtin.append_ #[23,23] 23 #[vsl a182 n182 c182,(vsl (some (⟨b198,0,none⟩:Addr)) 1 1)]) h199 fun v200 h201=>∃ a202 n202 c202,v200=(vsl a202 n202 c202)∧(J205 a202 n202 c202 h201))))))∧((decide (x189 > x41))=false→(J205 a182 n182 c182 h181))))))))∧((decide (x183 < (n122:Int)))=false→(SemOK Try.prog (Instr.range 28 y23) h181 fun v211 h212=>(∃(I214:List Value→Hp→Prop) (m215:List Value→Hp→Nat),I214 [] h212∧∀ vs216 h217,I214 vs216 h217→vs216=[]∧(SemOK Try.prog (Instr.next v211 false 0) h217 fun v218 h219=>(∃ p220,(Rd Try.prog (Instr.extract v218 0) h219 (vb p220))∧((p220=true→(∃(y223:Value),(Rd Try.prog (Instr.entry v211) h219 y223)∧(∃ x224 x225 x226,(Rd Try.prog (Instr.extract y223 0) h219 (vag [vi x224,vi x225,vi x226]))∧(∀ b227,h219 b227=none→let h228:= Hp.set h219 b227 (cellsO [vi 0,vi 0,vi 0] 35);(Hp.store h228 b227 0 [vi x224,vi x225,vi x226] fun h229=>(((0:Int)≤0∧0 < ((3:Nat):Int))∧(∃ x230,(Hp.cell h229 b227 (0+(0:Int).toNat*1)=some (vi x230))∧(∃ x231,(IsW x231 (x230+u3))∧(((decide (x231≤x41))=true→(∃ x232 x233 x234,(Hp.row h229 b227 0 3=some [vi x232,vi x233,vi x234])∧(SemOK Try.prog (Builtin.delete_ #[28,35] 0 #[y23,vag [vi x232,vi x233,vi x234]]) h229 fun v235 h236=>v235=(vtup [])∧(I214 [] h236∧m215 [] h236 < m215 vs216 h217))))∧((decide (x231≤x41))=false→(I214 [] h229∧m215 [] h229 < m215 vs216 h217)))))))))))∧(p220=false→(∃(I238:List Value→Hp→Prop) (m239:List Value→Hp→Nat),I238 [vi 0,vi 0] h219∧∀ vs240 h241,I238 vs240 h241→∃ x242 x243,vs240=[vi x242,vi x243]∧(((decide (x243 < (n182:Int)))=true→(let J260:Int→Hp→Prop:=fun x263 h264=>(∃ x265,(IsW x265 (x243+1))∧(I238 [vi x263,vi x265] h264∧m239 [vi x263,vi x265] h264 < m239 vs240 h241));(∃ a246 n246 c246,(Rd Try.prog (Instr.sliceAt 23 (vsl a182 n182 c182) none (some (vi x243)) none) h241 (vsl a246 n246 c246))∧(∃ b247 o248,(a182=some ⟨b247,o248,none⟩∧(0:Int)≤x243∧x243 < (n182:Int))∧(∃ x249,(Hp.cell h241 b247 (o248+x243.toNat*6)=some (vi x249))∧(∃ b250 o251,(a182=some ⟨b250,o251,none⟩∧(0:Int)≤x243∧x243 < (n182:Int))∧(∃ x252 x253,(Hp.row h241 b250 ((o251+x243.toNat*6)+1) 2=some [vi x252,vi x253])∧(CallOK Try.prog 6 [vsl a246 n246 c246,vi x249,vag [vi x252,vi x253]] h241 fun v254 h255=>∃ a256 n256 c256,v254=(vsl a256 n256 c256)∧(((decide ((n256:Int)=0))=true→(∃ x257,(IsW x257 (x242+1))∧(J260 x257 h255)))∧((decide ((n256:Int)=0))=false→(J260 x242 h255)))))))))))∧((decide (x243 < (n182:Int)))=false→(((decide ((n176:Int)≠x242))=true→R (vb false) h241)∧((decide ((n176:Int)≠x242))=false→(∃(I268:List Value→Hp→Prop) (m269:List Value→Hp→Nat),I268 [vi 0] h241∧∀ vs270 h271,I268 vs270 h271→∃ x272,vs270=[vi x272]∧(((decide (x272 < (n176:Int)))=true→(∃ b275 o276,(a176=some ⟨b275,o276,none⟩∧(0:Int)≤x272∧x272 < (n176:Int))∧(∃ x277 x278 x279 a280 n280 c280 p281,(Hp.row h271 b275 (o276+x272.toNat*5) 5=some [vi x277,vi x278,vi x279,vsl a280 n280 c280,vb p281])∧(∃ x282,((decide (x272 > 0))=true→IsW x282 (x272 - 1))∧(∃ b283 o284,((decide (x272 > 0))=true→(a176=some ⟨b283,o284,none⟩∧(0:Int)≤x282∧x282 < (n176:Int)))∧(∃ x285 x286 x287 a288 n288 c288 p289,((decide (x272 > 0))=true→Hp.row h271 b283 (o284+x282.toNat*5) 5=some [vi x285,vi x286,vi x287,vsl a288 n288 c288,vb p289])∧(∃(J290:SV→Hp→Prop),((decide (x272 > 0))=true→(CallOK Try.prog 12 [vag [vi x285,vi x286,vi x287,vsl a288 n288 c288,vb p289],vag [vi x277,vi x278,vi x279,vsl a280 n280 c280,vb p281]] h271 fun v291 h292=>∃ p293,v291=(vb p293)∧J290 (.t (.one (.v (vb p293)))) h292))∧(¬((decide (x272 > 0))=true)→J290 (.t (.one (.v (vb false)))) h271)∧∀ h294 p295,J290 (.t (.one (.v (vb p295)))) h294→(∃ p296,((bif (decide (x272 > 0)) then(!p295) else false)=false→Rd Try.prog (Instr.lookup 28 y23 (vag [vi x277,vi x278,vi x279]) false) h294 (vb p296))∧(∃ p297,((bif (decide (x272 > 0)) then(!p295) else false)=false→Rd Try.prog ((eqGuard .neq 4 (.tmp 403) (.tmp 406) (vb p281) (vb p296) >>= fun _=>binOp .neq 4 (vb p281) (vb p296))) h294 (vb p297))∧(∃ x298,((bif (bif (decide (x272 > 0)) then(!p295) else false) then true else p297)=false→IsW x298 (x277+u3))∧(∃(J299:SV→Hp→Prop),((bif (bif (bif (decide (x272 > 0)) then(!p295) else false) then true else p297) then true else(bif (decide (x298≤x40)) then(!p281) else false))=false→(CallOK Try.prog 9 [vag [vi x277,vi x278,vi x279,vsl a280 n280 c280,vb p281]] h294 fun v300 h301=>∃ x302 x303 x304 a305 n305 c305,v300=(vag [vi x302,vi x303,vi x304,vsl a305 n305 c305])∧J299 (.t (.ag [.v (vi x302),.v (vi x303),.v (vi x304),.v (vsl a305 n305 c305)])) h301))∧(¬((bif (bif (bif (decide (x272 > 0)) then(!p295) else false) then true else p297) then true else(bif (decide (x298≤x40)) then(!p281) else false))=false)→J299 (.t (.ag [.v (vi 0),.v (vi 0),.v (vi 0),.v (vsl none 0 0)])) h294)∧∀ h306 x307 x308 x309 a310 n310 c310,J299 (.t (.ag [.v (vi x307),.v (vi x308),.v (vi x309),.v (vsl a310 n310 c310)])) h306→(∃(J311:SV→Hp→Prop),((bif (bif (bif (decide (x272 > 0)) then(!p295) else false) then true else p297) then true else(bif (decide (x298≤x40)) then(!p281) else false))=false→(CallOK Try.prog 6 [vsl a182 n182 c182,vi x277,vag [vi x278,vi x279]] h306 fun v312 h313=>∃ a314 n314 c314,v312=(vsl a314 n314 c314)∧J311 (.t (.one (.v (vsl a314 n314 c314)))) h313))∧(¬((bif (bif (bif (decide (x272 > 0)) then(!p295) else false) then true else p297) then true else(bif (decide (x298≤x40)) then(!p281) else false))=false)→J311 (.t (.one (.v (vsl none 0 0)))) h306)∧∀ h315 a316 n316 c316,J311 (.t (.one (.v (vsl a316 n316 c316)))) h315→(∃(J317:SV→Hp→Prop),((bif (bif (bif (decide (x272 > 0)) then(!p295) else false) then true else p297) then true else(bif (decide (x298≤x40)) then(!p281) else false))=false→(CallOK Try.prog 10 [vsl a316 n316 c316,vsl u0 u1 u2] h315 fun v318 h319=>∃ x320 x321 x322 a323 n323 c323,v318=(vag [vi x320,vi x321,vi x322,vsl a323 n323 c323])∧J317 (.t (.ag [.v (vi x320),.v (vi x321),.v (vi x322),.v (vsl a323 n323 c323)])) h319))∧(¬((bif (bif (bif (decide (x272 > 0)) then(!p295) else false) then true else p297) then true else(bif (decide (x298≤x40)) then(!p281) else false))=false)→J317 (.t (.ag [.v (vi 0),.v (vi 0),.v (vi 0),.v (vsl none 0 0)])) h315)∧∀ h324 x325 x326 x327 a328 n328 c328,J317 (.t (.ag [.v (vi x325),.v (vi x326),.v (vi x327),.v (vsl a328 n328 c328)])) h324→(∃(J329:SV→Hp→Prop),((bif (bif (bif (decide (x272 > 0)) then(!p295) else false) then true else p297) then true else(bif (decide (x298≤x40)) then(!p281) else false))=false→(CallOK Try.prog 8 [vag [vi x307,vi x308,vi x309,vsl a310 n310 c310],vag [vi x325,vi x326,vi x327,vsl a328 n328 c328]] h324 fun v330 h331=>∃ p332,v330=(vb p332)∧J329 (.t (.one (.v (vb p332)))) h331))∧(¬((bif (bif (bif (decide (x272 > 0)) then(!p295) else false) then true else p297) then true else(bif (decide (x298≤x40)) then(!p281) else false))=false)→J329 (.t (.one (.v (vb false)))) h324)∧∀ h333 p334,J329 (.t (.one (.v (vb p334)))) h333→(((bif (bif (bif (bif (decide (x272 > 0)) then(!p295) else false) then true else p297) then true else(bif (decide (x298≤x40)) then(!p281) else false)) then true else(!p334))=true→R (vb false) h333)∧((bif (bif (bif (bif (decide (x272 > 0)) then(!p295) else false) then true else p297) then true else(bif (decide (x298≤x40)) then(!p281) else false)) then true else(!p334))=false→(∃ x336,(IsW x336 (x272+1))∧(I268 [vi x336] h333∧m269 [vi x336] h333 < m269 vs270 h271))))))))))))))))))∧((decide (x272 < (n176:Int)))=false→(∃ x337,(IsW x337 (x30+1))∧(I25 [vsl a182 n182 c182,vi x337,vsl a176 n176 c176] h271∧m26 [vsl a182 n182 c182,vi x337,vsl a176 n176 c176] h271 < m26 vs27 h28)))))))))))))))))))))))))))))))))))))))))))))∧((decide (x30 < (u5:Int)))=false→(J338 h28))))))))))))
theorem ok_law_PanesSays {u0 u1 u2 u3 u4 u5 u6 h R}(H:VC_law_PanesSays u0 u1 u2 u3 u4 u5 u6 h R):CallOK Try.prog 3 [vsl u0 u1 u2,vi u3,vsl u4 u5 u6] h R:=
 call_of (cfg:=⟨[26],[(5,([8],[.one (.int .i64)],[])),(19,([14],[.one (.int .i64)],[])),(32,([22],[.one (.int .i64)],[])),(41,([24,25],[.one (.slice),.one (.int .i64)],[])),(47,([],[],[])),(53,([27,28],[.one (.int .i64),.one (.int .i64)],[])),(60,([29],[.one (.int .i64)],[])),(13,([10,12],[.one (.slice),.one (.int .i64)],[(0,[.slice])]))],[(26,[0,1,2,3,4,5,6,7,8,10,11,9,12,13,14,15,16,17,18,19,20,21,22,23,24,25,26,27,28,29,30,31,32,33,34,35,36,37,38,39]),(34,[0,1,2,3,4,5,6,7,8,9,10,11,12,13,14,15,16,17,18,19]),(35,[0,1,2,3,4,5,6,7,8,9,10,11,12,13,14,15,16,17,18,19,20,21,22,23,24,25,26,27,28,29,30,31]),(43,[0,1,2,3,4,5,6,7,8,9]),(55,[0,1,2,3,4,5,6,7,8,9,10,11,12,13,14,15]),(64,[0,1,2,3,4,5,6,7,8,9,10,11,12,13,14,15,16,17,18,19,20,21,22,23,24,25,26,27,28,29,30,31,32,33,34,35,36,38,39,40,41,42,44,37,43,45,46,47,48])]⟩) noNG mixed Try.func3 [.one (.v (vsl u0 u1 u2)),.one (.v (vi u3)),.one (.v (vsl u4 u5 u6))] (by kernel_rfl) rfl (by kernel_rfl) H
def VC_value_Null  (h:Hp)(R:Value→Hp→Prop):Prop:=
 R (vag [vi 0,vi 0]) h
theorem ok_value_Null {h R}(H:VC_value_Null  h R):CallOK Try.prog 34 [] h R:=
 call_of (cfg:=⟨[],[],[]⟩) noNG mixed Try.func34 [] (by kernel_rfl) rfl (by kernel_rfl) H
def VC_value_Number (u0:Int)(h:Hp)(R:Value→Hp→Prop):Prop:=
 (((bif (decide (u0 < (-1000000000))) then true else(decide (u0 > 1000000000)))=true→R (vag [vi 0,vi 0]) h)∧((bif (decide (u0 < (-1000000000))) then true else(decide (u0 > 1000000000)))=false→R (vag [vi 1,vi u0]) h))
theorem ok_value_Number {u0 h R}(H:VC_value_Number u0 h R):CallOK Try.prog 33 [vi u0] h R:=
 call_of (cfg:=⟨[],[],[]⟩) noNG mixed Try.func33 [.one (.v (vi u0))] (by kernel_rfl) rfl (by kernel_rfl) H
end Go.Proofs.Ytedmojjfdppffaa
namespace Go.Vc
open Go
theorem isW {e:Int}(h:InR e):IsW e e:=(IntWalk.i64_in _ (by unfold InR at h;exact h)).symm
instance (z:Int):Decidable (InR z):=by unfold InR;infer_instance
structure OwnV (h0 h:Hp)(e:TypeId)(sz:Nat)(a:Option Addr)(n c:Nat)(xs:List Value):Prop where
 le:h0.le h
 own:OwnS h e sz a n c xs
 new:∀ g,a=some ⟨g,0,none⟩→h0 g=none
theorem OwnV.nil {h0 h:Hp}(hl:h0.le h)(e:TypeId)(sz:Nat):OwnV h0 h e sz none 0 0 []:=⟨hl,OwnS.nil h e sz,by simp⟩
theorem OwnV.mk_new {h0 h:Hp}(hl:h0.le h){b:Nat}(hb:h b=none)(e:TypeId){sz n:Nat}(xs:List Value)(hx:xs.length=n*sz)(hn:n≤maxLen) :
  OwnV h0 (h.set b (cellsO xs e)) e sz (some ⟨b,0,none⟩) n n xs:=
 ⟨Hp.le_set hl hb _,OwnS.new h b e xs hx hn,fun g hg=>by simp only [Option.some.injEq,Addr.mk.injEq,and_true] at hg;subst hg;exact Hp.none_of_le hl hb⟩
theorem OwnV.row {h0 h:Hp}{e:TypeId}{sz n c:Nat}{a:Option Addr}{xs:List Value}(O:OwnV h0 h e sz a n c xs):HasRow h a xs:=O.own.row
theorem OwnV.mono {h0 h h':Hp}(hl:h.le h'){e:TypeId}{sz n c:Nat}{a:Option Addr}{xs:List Value}(O:OwnV h0 h e sz a n c xs):OwnV h0 h' e sz a n c xs:=⟨Hp.le_trans O.le hl,O.own.le hl,O.new⟩
theorem OwnV.set {h0 h:Hp}{b:Nat}(hb:h b=none)(o:Obj){e:TypeId}{sz n c:Nat}{a:Option Addr}{xs:List Value}(O:OwnV h0 h e sz a n c xs):OwnV h0 (h.set b o) e sz a n c xs:=O.mono (Hp.le_set (Hp.le_refl h) hb o)
section
variable {P:Program}
theorem OwnV.append {h0 h:Hp}{t ty e:TypeId}{sz bytes:Nat}(T:ElT P t e sz bytes){a:Option Addr}{n c:Nat}{xs:List Value}(O:OwnV h0 h e sz a n c xs)
  {a2:Option Addr} {m c2:Nat} {news:List Value} (H2:HasRow h a2 news) (hl:news.length=m*sz) (h1:∀ u ∈ news,u.oneCell'=true)
  (hb:(n+m)*bytes≤140737488355328) (hm:n+m≤140737488355328) {K:Value→Hp→Prop}
  (hK:∀ a' c' h',OwnV h0 h' e sz a' (n+m) c' (xs++news)→(∀ b o,h b=some o→a≠some ⟨b,0,none⟩→h' b=some o)→(∀ g,a'=some ⟨g,0,none⟩→a=a'∨h g=none)→K (vsl a' (n+m) c') h') :
  SemOK P (Builtin.append_ #[t,t] ty #[vsl a n c,vsl a2 m c2]) h K:=by
 refine sem_append T O.own H2 hl h1 hb hm fun a' c' h' o1 o2 o3 _ _=>hK a' c' h' ⟨?_,o1,?_⟩ o2 o3
 ·intro b o hb
  refine o2 b o (O.le b o hb) fun e=>?_
  rw [O.new b e] at hb
  cases hb
 ·intro g hg
  rcases o3 g hg with e|e
  ·exact O.new g (e.trans hg)
  ·exact Hp.none_of_le O.le e
end
def SlI (h:Hp)(a:Option Addr)(n:Nat)(l:List Int):Prop:=n=l.length∧HasRow h a (l.map vi)
theorem SlI.le {h h':Hp}(hl:h.le h'){a:Option Addr}{n:Nat}{l:List Int}(H:SlI h a n l):SlI h' a n l:=⟨H.1,H.2.le hl⟩
theorem SlI.get {h:Hp}{a:Option Addr}{n:Nat}{l:List Int}(H:SlI h a n l){i:Nat}(hi:i < n):∃ b o,a=some ⟨b,o,none⟩∧h.cell b (o+i*1)=some (vi (l.getD i 0)):=by
 obtain⟨rfl,h1|⟨b,o,rfl,hr⟩⟩:=H
 ·have:l.length=0:=by simpa using congrArg List.length h1
  omega
 ·refine⟨b,o,rfl,?_⟩
  rw [Nat.mul_one]
  refine Hp.row_cell hr ?_
  rw [List.getElem?_map,List.getD_eq_getElem?_getD,List.getElem?_eq_getElem hi]
  rfl
def vint (l:List Value)(i:Nat):Int:=match l[i]? with|some (.int _ x)=>x|_=>0
def upto (p:Int→Bool)(lo:Int):Nat→List Int
 | 0=>[]
 | n+1=>upto p lo n++(if p (lo+(n+1:Nat)) then [lo+(n+1:Nat)] else [])
def leafEq:TypeDesc→List Value→List Value→Option Bool
 | .int _,[.int k a],[.int k' b]=>bif k == k' then some (decide (a=b)) else none
 | .bool,[.bool a],[.bool b]=>some (a == b)
 | .string,[.string a],[.string b]=>some (a == b)
 | _,_,_=>none
def andO:Option Bool→Option Bool→Option Bool
 | some a,some b=>some (a&&b)
 | _,_=>none
section
variable (P:Program)
def cutF (f:Field)(xs:List Value):List Value:=(xs.drop f.offset).take (bif isAggT P f.type then szT P f.type else 1)
def eqFl:Nat→TypeId→List Value→List Value→Option Bool
 | 0,_,_,_=>none
 | d+1,t,xs,ys=>
  match P.underlying t with
  | some (.struct fs)=>bif P.stoodInHeld t then none else fs.toList.foldr (fun f acc=>bif f.name == "_" then none else andO (eqFl d f.type (cutF P f xs) (cutF P f ys)) acc) (some true)
  | some u=>leafEq u xs ys
  | none=>none
end
section
variable {P:Program}
def valT (P:Program)(t:TypeId)(xs:List Value):Value:=bif isAggT P t then .agg xs.toArray else xs.headD undef
theorem run_isAgg' {t:TypeId}{u:TypeDesc}(h:P.underlying t=some u)(w:World):(isAgg t).run P w=.ok (isAggT P t) w:=by
 simp only [isAgg,Sem.run_bind,run_underlying h,Result.andThen_ok,isAggT,h]
 cases u<;>simp
theorem run_part' {t:TypeId}{u:TypeDesc}(h:P.underlying t=some u){xs:List Value}{off:Nat}(hb:isAggT P t=false→off < xs.length)(w:World) :
  (part t xs.toArray off).run P w=.ok (valT P t ((xs.drop off).take (bif isAggT P t then szT P t else 1))) w:=by
 have hi:∃ i,P.info? t=some i:=by
  unfold Program.underlying at h
  split at h<;>first|(rename_i hi;exact⟨_,hi⟩)|cases h
 obtain⟨i,hi⟩:=hi
 unfold part
 simp only [Sem.run_bind,run_isAgg' h,Result.andThen_ok]
 cases hA:isAggT P t with
 | true=>
  simp [valT,hA,sizeOf,typeInfo,hi,szT,Program.cellsOf,List.extract_eq_take_drop]
 | false=>
  have:=hb hA
  simp only [Bool.false_eq_true,if_false]
  have e:xs.toArray[off]?=some xs[off]:=by simp [this]
  rw [e]
  simp [valT,hA,List.take_one,this]
theorem eqFl_ok:∀(d:Nat) {t:TypeId} {xs ys:List Value} {b:Bool},eqFl P d t xs ys=some b→∀(k:Nat) (w:World),(Op.equalIn (d+k) t (valT P t xs) (valT P t ys)).run P w=.ok b w
 | 0,t,xs,ys,b,h,k,w=>by simp [eqFl] at h
 | d+1,t,xs,ys,b,h,k,w=>by
  have IH:=fun {t:TypeId} {xs ys:List Value} {b:Bool} h=>@eqFl_ok d t xs ys b h
  unfold eqFl at h
  rw [show d+1+k=(d+k)+1 by omega]
  split at h
  ·rename_i fs hu
   cases hp:P.stoodInHeld t with
   | true=>rw [hp] at h;cases h
   | false=>
    rw [hp] at h
    simp only [cond_false] at h
    have hA:isAggT P t=true:=by simp [isAggT,hu]
    have hF:P.underlying t=some (.struct (P.fieldsOf t)):=by simp [Program.fieldsOf,hu]
    have hfs:P.fieldsOf t=fs:=by simp [Program.fieldsOf,hu]
    simp only [valT,hA,cond_true]
    rw [run_equalIn_struct w (d+k) t _ _ hF hp,hfs]
    generalize fs.toList=l at h
    clear hF hfs hu
    induction l generalizing b w with
    | nil=>simp only [List.foldr_nil,Option.some.injEq] at h;subst h;simp [Op.eqFields]
    | cons f l ih=>
     simp only [List.foldr_cons] at h
     cases hn:(f.name == "_") with
     | true=>rw [hn] at h;cases h
     | false=>
      rw [hn] at h
      simp only [cond_false] at h
      have hne:f.name≠ "_":=by simpa using hn
      cases h1:eqFl P d f.type (cutF P f xs) (cutF P f ys) with
      | none=>rw [h1] at h;simp [andO] at h
      | some b1=>
       cases h2:List.foldr (fun f acc=>bif f.name == "_" then none else andO (eqFl P d f.type (cutF P f xs) (cutF P f ys)) acc) (some true) l with
       | none=>rw [h1,h2] at h;simp [andO] at h
       | some b2=>
        rw [h1,h2] at h
        simp only [andO,Option.some.injEq] at h
        subst h
        have hu':∃ u,P.underlying f.type=some u:=by
         cases d with
         | zero=>simp [eqFl] at h1
         | succ d=>
          unfold eqFl at h1
          split at h1
          ·rename_i hu;exact⟨_,hu⟩
          ·rename_i hu;exact⟨_,hu⟩
          ·cases h1
        obtain⟨u,hu'⟩:=hu'
        have hlen:∀ zs:List Value,(∃ zs',eqFl P d f.type (cutF P f zs) zs'=some b1)∨(∃ zs',eqFl P d f.type zs' (cutF P f zs)=some b1)→isAggT P f.type=false→f.offset < zs.length:=by
         intro zs hz hA'
         rcases Nat.lt_or_ge f.offset zs.length with hh|hh
         ·exact hh
         ·have hnil:cutF P f zs=[]:=by simp [cutF,List.drop_eq_nil_of_le hh]
          exfalso
          have nl:∀ zs',eqFl P d f.type [] zs'≠some b1∧eqFl P d f.type zs' []≠some b1:=by
           intro zs'
           cases d with
           | zero=>simp [eqFl]
           | succ d=>
            unfold eqFl
            rw [hu']
            cases u with
            | struct fs=>simp [isAggT,hu'] at hA'
            | _=>constructor<;>(cases zs'<;>simp [leafEq])
          rw [hnil] at hz
          rcases hz with ⟨z,hz⟩|⟨z,hz⟩
          ·exact(nl z).1 hz
          ·exact(nl z).2 hz
        have p1:=run_part' hu' (xs:=xs) (off:=f.offset) (hlen xs (.inl ⟨_,h1⟩)) w
        have p2:=run_part' hu' (xs:=ys) (off:=f.offset) (hlen ys (.inr ⟨_,h1⟩)) w
        have e:=IH h1 k w
        simp only [cutF] at e
        simp only [Op.eqFields,hne,ne_eq,not_false_eq_true,if_true,Sem.run_bind,p1,p2,Result.andThen_ok,e]
        cases b1 with
        | false=>simp
        | true=>
         have:=@ih b2
         first|simpa using this w h2|simpa using this h2 w
  ·rename_i u hns hu
   unfold leafEq at h
   split at h
   ·rename_i kt k1 a k2 b'
    cases hk:(k1 == k2) with
    | false=>rw [hk] at h;cases h
    | true=>
     rw [hk] at h
     simp only [cond_true,Option.some.injEq] at h
     have:k1=k2:=eq_of_beq hk
     subst this
     subst h
     have hA:isAggT P t=false:=by simp [isAggT,hu]
     simp only [valT,hA,cond_false,List.headD_cons]
     rw [run_equalIn_int w (d+k) t _ _ _ _ hu]
     rfl
   ·simp only [Option.some.injEq] at h
    subst h
    have hA:isAggT P t=false:=by simp [isAggT,hu]
    simp only [valT,hA,cond_false,List.headD_cons]
    rw [run_equalIn_bool' w (d+k) t _ _ hu]
   ·simp only [Option.some.injEq] at h
    subst h
    have hA:isAggT P t=false:=by simp [isAggT,hu]
    simp only [valT,hA,cond_false,List.headD_cons]
    rw [run_equalIn_string w (d+k) t _ _ hu,beq_toListBytes]
   ·cases h
  ·cases h
theorem rd_eql {h:Hp}{t:TypeId}{x y:Operand}{xs ys:List Value}{b:Bool}(h1:eqFl P 8 t xs ys=some b)(hA:isAggT P t=true)(h2:P.eqGuardType P.depth t=false) :
  Rd P (eqGuard .eql t x y (vag xs) (vag ys) >>= fun _=>binOp .eql t (vag xs) (vag ys)) h (vb b):=by
 intro w _
 have e:=eqFl_ok 8 h1 9992 w
 simp only [valT,hA,cond_true] at e
 rw [Sem.run_bind,run_eqGuard_agg w .eql t x y _ _ h2,Result.andThen_ok,run_eql_struct,e]
 rfl
theorem rd_neq {h:Hp}{t:TypeId}{x y:Operand}{xs ys:List Value}{b:Bool}(h1:eqFl P 8 t xs ys=some b)(hA:isAggT P t=true)(h2:P.eqGuardType P.depth t=false) :
  Rd P (eqGuard .neq t x y (vag xs) (vag ys) >>= fun _=>binOp .neq t (vag xs) (vag ys)) h (vb (!b)):=by
 intro w _
 have e:=eqFl_ok 8 h1 9992 w
 simp only [valT,hA,cond_true] at e
 rw [Sem.run_bind,run_eqGuard_agg w .neq t x y _ _ h2,Result.andThen_ok,run_neq_struct,e]
 rfl
end
def SlP {α:Type}(enc:α→List Value)(h:Hp)(a:Option Addr)(n:Nat)(l:List α):Prop:=n=l.length∧HasRow h a (l.flatMap enc)
theorem flatMap_length {α:Type}{enc:α→List Value}{sz:Nat}(he:∀ x,(enc x).length=sz):∀ l:List α,(l.flatMap enc).length=l.length*sz
 | []=>by simp
 | x :: l=>by simp [flatMap_length he l,he x,Nat.add_mul,Nat.add_comm]
theorem flatMap_drop {α:Type}{enc:α→List Value}{sz:Nat}(he:∀ x,(enc x).length=sz):∀(i:Nat) (l:List α),(l.flatMap enc).drop (i*sz)=(l.drop i).flatMap enc
 | 0,l=>by simp
 | i+1,[]=>by simp
 | i+1,x :: l=>by
  have e:(enc x++l.flatMap enc).drop sz=l.flatMap enc:=by
   have:=List.drop_left (l₁:=enc x) (l₂:=l.flatMap enc)
   rw [he] at this
   exact this
  rw [List.flatMap_cons,Nat.add_mul,Nat.one_mul,Nat.add_comm,←List.drop_drop,e,flatMap_drop he i l]
  rfl
theorem flatMap_take {α:Type}{enc:α→List Value}{sz:Nat}(he:∀ x,(enc x).length=sz):∀(i:Nat) (l:List α),(l.flatMap enc).take (i*sz)=(l.take i).flatMap enc
 | 0,l=>by simp
 | i+1,[]=>by simp
 | i+1,x :: l=>by
  rw [List.flatMap_cons,List.take_append,List.take_of_length_le (by rw [he,Nat.add_mul];omega),he,List.take_succ_cons,List.flatMap_cons,show (i+1)*sz - sz=i*sz by rw [Nat.add_mul];omega,flatMap_take he i l]
theorem SlP.le {α:Type}{enc:α→List Value}{h h':Hp}(hl:h.le h'){a:Option Addr}{n:Nat}{l:List α}(H:SlP enc h a n l):SlP enc h' a n l:=⟨H.1,H.2.le hl⟩
section
variable {α:Type}{enc:α→List Value}{sz:Nat}{h:Hp}{a:Option Addr}{n:Nat}{l:List α}
theorem SlP.get (he:∀ x,(enc x).length=sz)(hz:0 < sz)(H:SlP enc h a n l){i:Nat}{x:α}(hx:l[i]?=some x):∃ b o,a=some ⟨b,o,none⟩∧h.row b (o+i*sz) sz=some (enc x):=by
 have hi:i < l.length:=(List.getElem?_eq_some_iff.1 hx).1
 have hlen:=flatMap_length he l
 rcases H.2 with h1|⟨b,o,rfl,hr⟩
 ·rw [h1] at hlen
  have h2:1*sz≤l.length*sz:=Nat.mul_le_mul_right _ (by omega)
  simp only [List.length_nil] at hlen
  omega
 ·refine⟨b,o,rfl,?_⟩
  have h3:i*sz+sz≤(l.flatMap enc).length:=by
   rw [hlen]
   have:(i+1)*sz≤l.length*sz:=Nat.mul_le_mul_right _ hi
   rw [Nat.add_mul] at this
   omega
  rw [Hp.row_sub hr h3,flatMap_drop he]
  have h4:=flatMap_take he 1 (l.drop i)
  rw [Nat.one_mul] at h4
  rw [h4,show (l.drop i).take 1=[x] by
   rw [List.drop_eq_getElem_cons hi]
   have:l[i]=x:=by rw [List.getElem?_eq_getElem hi] at hx;exact Option.some.inj hx
   simp [this]]
  simp
theorem SlP.take (he:∀ x,(enc x).length=sz)(H:SlP enc h a n l){i:Nat}(hi:i≤n):SlP enc h a i (l.take i):=by
 refine⟨by rw [List.length_take,←H.1];omega,?_⟩
 rw [←flatMap_take he]
 rcases H.2 with h1|⟨b,o,rfl,hr⟩
 ·rw [h1];exact .inl (by simp)
 ·refine .inr ⟨b,o,rfl,?_⟩
  have hlen:=flatMap_length he l
  have h3:i*sz≤(l.flatMap enc).length:=by rw [hlen];exact Nat.mul_le_mul_right _ (by rw [←H.1];exact hi)
  have:=Hp.row_sub hr (i:=0) (k:=i*sz) (by omega)
  rw [List.length_take,Nat.min_eq_left h3]
  simpa using this
def cutA (a:Option Addr)(i c sz:Nat):Option Addr:=if c=i then a else a.map (·.add (i*sz))
theorem SlP.drop (he:∀ x,(enc x).length=sz)(H:SlP enc h a n l){i c:Nat}(hi:i≤n)(hc:n≤c):SlP enc h (cutA a i c sz) (n - i) (l.drop i):=by
 refine⟨by rw [List.length_drop,←H.1],?_⟩
 rw [←flatMap_drop he]
 rcases H.2 with h1|⟨b,o,rfl,hr⟩
 ·rw [h1];exact .inl (by simp)
 ·have hlen:=flatMap_length he l
  rcases Nat.eq_or_lt_of_le hi with h2|h2
  ·refine .inl (List.drop_eq_nil_of_le ?_)
   rw [hlen,←H.1,h2]
   exact Nat.le_refl _
  ·refine .inr ⟨b,o+i*sz,?_,?_⟩
   ·have:c≠i:=by omega
    simp only [cutA,if_neg this,Option.map_some,Addr.add]
    split
    ·rename_i h0;rw [h0];rfl
    ·rfl
   ·have h3:i*sz≤(l.flatMap enc).length:=by rw [hlen];exact Nat.mul_le_mul_right _ (by rw [←H.1];exact hi)
    have:=Hp.row_sub hr (i:=i*sz) (k:=(l.flatMap enc).length - i*sz) (by omega)
    rw [List.length_drop]
    rw [this,List.take_of_length_le (by rw [List.length_drop];exact Nat.le_refl _)]
theorem OwnV.slp {h0:Hp}{e:TypeId}{c:Nat}(he:∀ x,(enc x).length=sz)(hz:0 < sz)(O:OwnV h0 h e sz a n c (l.flatMap enc)):SlP enc h a n l:=by
 refine⟨?_,O.row⟩
 have:=O.own.1
 rw [flatMap_length he] at this
 exact(Nat.eq_of_mul_eq_mul_right hz this).symm
end
section
variable {P:Program}
theorem rd_slice_h {h:Hp}{t e:TypeId}(ht:P.underlying t=some (.slice e))(hi:(P.info? e).isSome=true){a:Option Addr}{n c:Nat}{x:Int}(h0:0≤x)(h1:x≤c):Rd P (Instr.sliceAt t (vsl a n c) none (some (vi x)) none) h (vsl a x.toNat c):=by
 intro w _
 have he:P.elem t=e:=by simp [Program.elem,ht]
 obtain⟨i,hi⟩:=Option.isSome_iff_exists.1 hi
 rw [run_sliceAt_slice w t _ _ _ _ (by rw [he];exact ht),run_slice_h w t a n c (by rw [he];exact ht) _ x h0 h1,he]
 simp [sizeOf,typeInfo,hi,sliced]
 intro _
 cases a<;>simp [Addr.add]
theorem rd_slice_l {h:Hp}{t e:TypeId}(ht:P.underlying t=some (.slice e))(hi:(P.info? e).isSome=true){a:Option Addr}{n c:Nat}{x:Int}(h0:0≤x)(h1:x≤n) :
  Rd P (Instr.sliceAt t (vsl a n c) (some (vi x)) none none) h (vsl (cutA a x.toNat c (szT P e)) (n - x.toNat) (c - x.toNat)):=by
 intro w _
 have he:P.elem t=e:=by simp [Program.elem,ht]
 obtain⟨i,hi⟩:=Option.isSome_iff_exists.1 hi
 rw [run_sliceAt_slice w t _ _ _ _ (by rw [he];exact ht),run_slice_l w t a n c (by rw [he];exact ht) _ x h0 h1,he]
 simp [sizeOf,typeInfo,hi,sliced,cutA,szT,Program.cellsOf]
end
end Go.Vc
namespace Go.Proofs.Ytedmojjfdppffaa
open Go Go.Vc
def encV (v:Int × Int):List Value:=[vi v.1,vi v.2]
theorem encV_len (v:Int × Int):(encV v).length=2:=rfl
def numV (n:Int):Int × Int:=if n < -1000000000∨n > 1000000000 then(0,0) else(1,n)
theorem value_Number_ok {n:Int}{h:Hp}{R:Value→Hp→Prop}(hK:R (vag (encV (numV n))) h):CallOK Try.prog 33 [vi n] h R:=by
 refine ok_value_Number ?_
 unfold VC_value_Number
 refine⟨fun e=>?_,fun e=>?_⟩
 ·simp [Bool.cond_eq_ite] at e
  have:numV n=(0,0):=by unfold numV;rw [if_pos (by omega)]
  rw [this] at hK
  exact hK
 ·simp [Bool.cond_eq_ite] at e
  have:numV n=(1,n):=by unfold numV;rw [if_neg (by omega)]
  rw [this] at hK
  exact hK
theorem value_Null_ok {h:Hp}{R:Value→Hp→Prop}(hK:R (vag (encV (0,0))) h):CallOK Try.prog 34 [] h R:=ok_value_Null hK
theorem eqFl_V (a b c d:Int):eqFl Try.prog 8 30 [vi a,vi b] [vi c,vi d]=some (decide (a=c)&&(decide (b=d)&&true)):=by kernel_rfl
theorem dec_V (a b:Int × Int):(decide (a.1=b.1)&&(decide (a.2=b.2)&&true))=decide (a=b):=by
 obtain⟨a1,a2⟩:=a
 obtain⟨b1,b2⟩:=b
 rw [Bool.eq_iff_iff]
 simp [Prod.ext_iff]
theorem rd_eqV {h:Hp}{x y:Operand}{a b:Int × Int}:Rd Try.prog (eqGuard .eql 30 x y (vag (encV a)) (vag (encV b)) >>= fun _=>binOp .eql 30 (vag (encV a)) (vag (encV b))) h (vb (decide (a=b))):=by
 rw [←dec_V]
 exact rd_eql (eqFl_V _ _ _ _) (by kernel_rfl) (by kernel_rfl)
theorem rd_neqV {h:Hp}{x y:Operand}{a b:Int × Int}:Rd Try.prog (eqGuard .neq 30 x y (vag (encV a)) (vag (encV b)) >>= fun _=>binOp .neq 30 (vag (encV a)) (vag (encV b))) h (vb (!decide (a=b))):=by
 rw [←dec_V]
 exact rd_neq (eqFl_V _ _ _ _) (by kernel_rfl) (by kernel_rfl)
def smallV (v:Int × Int):Prop:=-1000000000≤v.2∧v.2≤1000000000
def goodV (v:Int × Int):Prop:=(v.1=0∧v.2=0)∨(v.1=1∧-1000000000≤v.2∧v.2≤1000000000)∨(v.1=2∧(v.2=0∨v.2=1))
instance (v:Int × Int):Decidable (goodV v):=by unfold goodV;infer_instance
theorem goodV.small {v:Int × Int}(h:goodV v):smallV v:=by
 unfold goodV at h
 unfold smallV
 omega
end Go.Proofs.Ytedmojjfdppffaa
namespace Go.Vc
open Go
section
variable {P:Program}{h:Hp}
theorem rd_neB {t:TypeId}{x y:Operand}{a b:Bool}(ht:P.underlying t=some .bool):Rd P (eqGuard .neq t x y (vb a) (vb b) >>= fun _=>binOp .neq t (vb a) (vb b)) h (vb (a != b)):=by
 intro w _
 rw [eqGuard_at_bool]
 simp only [binOp,Sem.run_bind,Sem.run_pure,Result.andThen_ok]
 show ((Op.equalIn 10000 t (vb a) (vb b)).run P w).andThen _=_
 rw [run_equalIn_bool' w 9999 t _ _ ht]
 rfl
end
theorem OwnS.at0 {h:Hp}{e:TypeId}{sz n c:Nat}{a:Option Addr}{xs:List Value}(H:OwnS h e sz a n c xs):∀ b o,a=some ⟨b,o,none⟩→o=0:=by
 rintro b o rfl
 rcases H.2 with ⟨h1,_⟩|⟨g,cur,h1,_⟩
 ·cases h1
 ·cases h1;rfl
theorem OwnV.trans {h0 h1 h:Hp}(l:h0.le h1){e:TypeId}{sz n c:Nat}{a:Option Addr}{xs:List Value}(O:OwnV h1 h e sz a n c xs):OwnV h0 h e sz a n c xs:=
 ⟨Hp.le_trans l O.le,O.own,fun g hg=>Hp.none_of_le l (O.new g hg)⟩
theorem setL_length {α:Type}(l:List α)(o:Nat)(vs:List α)(h:o+vs.length≤l.length):(setL l o vs).length=l.length:=by
 unfold setL
 simp
 omega
theorem setL_take {α:Type}(l:List α)(o:Nat)(vs:List α)(m:Nat)(h:o+vs.length≤m)(hm:m≤l.length):(setL l o vs).take m=setL (l.take m) o vs:=by
 unfold setL
 have h1:(l.take m).take o=l.take o:=by rw [List.take_take];congr 1;omega
 have h2:(l.take m).drop (o+vs.length)=(l.drop (o+vs.length)).take (m - (o+vs.length)):=List.drop_take ..
 have h3:(l.take o++vs).length=o+vs.length:=by simp;omega
 rw [h1,h2,List.take_append,h3,List.take_of_length_le (by rw [h3];exact h)]
theorem OwnV.store {h0 h:Hp}{e:TypeId}{sz n c:Nat}{a:Option Addr}{xs:List Value}(O:OwnV h0 h e sz a n c xs){j:Nat}{vs:List Value}(hv:0 < vs.length)(hj:j+vs.length≤n*sz){K:Hp→Prop}{b o:Nat}(ha:a=some ⟨b,o,none⟩)
  (hK:∀ ob,OwnV h0 (h.set b ob) e sz a n c (setL xs j vs)→K (h.set b ob)):h.store b (o+j) vs K:=by
 obtain rfl:=O.own.at0 b o ha
 obtain⟨hl,h1⟩:=O.own
 rcases h1 with ⟨h1,h2,h3⟩|⟨g,cur,h1,hg,hn,hc,hs,ht⟩
 ·rw [h1] at ha;cases ha
 ·rw [h1] at ha
  cases ha
  have hcur:n*sz≤cur.size:=by rw [hs];exact Nat.mul_le_mul_right _ hn
  refine⟨cur,e,hg,by omega,?_⟩
  rw [Nat.zero_add]
  refine hK _ ⟨?_,⟨?_,.inr ⟨b,_,h1,by simp [Hp.set];rfl,hn,hc,?_,?_⟩⟩,O.new⟩
  ·intro i p hp
   have hne:i≠b:=fun hib=>by rw [hib,O.new b h1] at hp;cases hp
   simp [Hp.set,hne,O.le i p hp]
  ·rw [setL_length _ _ _ (by omega)];exact hl
  ·show (setL cur.toList j vs).length=_
   have h9:cur.toList.length=cur.size:=Array.length_toList
   rw [setL_length _ _ _ (by omega),h9];exact hs
  ·show (setL cur.toList j vs).take (n*sz)=_
   rw [setL_take _ _ _ _ hj (by rw [Array.length_toList];exact hcur),ht]
theorem cell_cells {h:Hp}{b:Nat}{l:List Value}{t:TypeId}(hb:h b=some (cellsO l t)){o:Nat}{v:Value}(hv:l[o]?=some v):h.cell b o=some v:=by
 unfold Hp.cell
 rw [hb]
 simpa using hv
theorem row_cells' {h:Hp}{b:Nat}{l:List Value}{t:TypeId}(hb:h b=some (cellsO l t)){o n:Nat}(hn:o+n≤l.length):h.row b o n=some ((l.drop o).take n):=by
 unfold Hp.row
 rw [hb]
 simp [hn]
section
variable {P:Program}
end
end Go.Vc
namespace Go.Proofs.Ytedmojjfdppffaa
open Go Go.Vc
def cmpI (x y:Int):Int:=if x < y then -1 else if x > y then 1 else 0
def cmpV (a b:Int × Int):Int:=if cmpI a.1 b.1≠0 then cmpI a.1 b.1 else cmpI a.2 b.2
def VC_R_ValueFault (u0:Int)(u1:Int)(h:Hp)(R:Value→Hp→Prop):Prop:=
 (((bif (bif (bif (decide (u0=0)) then(decide (u1=0)) else false) then true else(bif (bif (decide (u0=1)) then(decide (u1≥(-1000000000))) else false) then(decide (u1≤1000000000)) else false)) then true else(bif (decide (u0=2)) then(bif (decide (u1=0)) then true else(decide (u1=1))) else false))=true→R (vi 0) h)∧((bif (bif (bif (decide (u0=0)) then(decide (u1=0)) else false) then true else(bif (bif (decide (u0=1)) then(decide (u1≥(-1000000000))) else false) then(decide (u1≤1000000000)) else false)) then true else(bif (decide (u0=2)) then(bif (decide (u1=0)) then true else(decide (u1=1))) else false))=false→R (vi 3) h))
theorem ok_R_ValueFault {u0 u1 h R}(H:VC_R_ValueFault u0 u1 h R):CallOK Try.prog 14 [vag [vi u0,vi u1]] h R:=
 call_of (cfg:=⟨[],[],[]⟩) noNG mixed Try.func14 [.ag [.v (vi u0),.v (vi u1)]] (by kernel_rfl) rfl (by kernel_rfl) H
end Go.Proofs.Ytedmojjfdppffaa
namespace Go.Vc
open Go
variable {P:Program}{h:Hp}
theorem OwnS.cut {e:TypeId}{sz n c m:Nat}{a:Option Addr}{xs:List Value}(O:OwnS h e sz a n c xs)(hm:m≤n):OwnS h e sz a m c (xs.take (m*sz)):=by
 obtain⟨hl,O⟩:=O
 have h1:m*sz≤n*sz:=Nat.mul_le_mul_right _ hm
 refine⟨by rw [List.length_take];omega,?_⟩
 rcases O with ⟨ha,hn,hc⟩|⟨g,cur,ha,hg,h2,h3,h4,h5⟩
 ·exact .inl ⟨ha,by omega,hc⟩
 ·refine .inr ⟨g,cur,ha,hg,by omega,h3,h4,?_⟩
  rw [←h5,List.take_take,Nat.min_eq_left h1]
theorem OwnS.cap {e:TypeId}{sz n c:Nat}{a:Option Addr}{xs:List Value}(O:OwnS h e sz a n c xs):n≤c:=by
 rcases O.2 with ⟨ha,hn,hc⟩|⟨g,cur,ha,hg,h2,h3,h4,h5⟩<;>omega
theorem flatMap_vi (l:List Int):l.flatMap (fun x=>[vi x])=l.map vi:=by
 induction l with
 | nil=>rfl
 | cons x l ih=>rw [List.flatMap_cons,ih];rfl
theorem SlI.of_slp {a:Option Addr}{n:Nat}{l:List Int}(S:SlP (fun x=>[vi x]) h a n l):SlI h a n l:=⟨S.1,by rw [←flatMap_vi];exact S.2⟩
theorem cand (p q:Prop)[Decidable p][Decidable q]:(bif decide p then decide q else false)=decide (p∧q):=by
 by_cases h:p<;>simp [h]
theorem bor_false {a b:Bool}(h:(bif a then true else b)=false):a=false∧b=false:=by
 cases a
 ·exact⟨rfl,h⟩
 ·cases h
end Go.Vc
namespace Go.Vc
open Go
section
variable {P:Program}{h:Hp}
theorem rd_shrU {t:TypeId}{k:Int}{j:Nat}(hj:j < 64)(hk:0≤k):Rd P (binOp .shr t (vk .u64 k) (vk .u64 j)) h (vk .u64 (k / 2 ^ j)):=by
 intro w _
 have e:min ((j:Nat):Int).toNat IntKind.u64.bits=j:=by simp only [IntKind.bits,Int.toNat_natCast];omega
 simp only [binOp,shift_shr_any _ _ _ _ (show (0:Int)≤(j:Nat) by omega),Sem.run_pure,e]
theorem rd_eqNilS {t e:TypeId}(ht:P.underlying t=some (.slice e)){x y:Operand}{a:Option Addr}{n c:Nat}:Rd P (eqGuard .eql t x y (vsl a n c) (vsl none 0 0) >>= fun _=>binOp .eql t (vsl a n c) (vsl none 0 0)) h (vb a.isNone):=by
 intro w _
 simp [eqGuard,binOp,run_equal_slice_nil w t e a n c ht]
end
theorem Hp.set_set (h:Hp)(b:Nat)(o o':Obj):(h.set b o).set b o'=h.set b o':=by
 funext i
 unfold Hp.set
 split<;>simp_all
section
variable {α:Type}(enc:α→List Value)(sz:Nat)(e T:TypeId)
end
section
variable {α:Type}{enc:α→List Value}{sz:Nat}{e T:TypeId}{h:Hp}{F:Nat→Prop}{t:Nat}{L:List (List α)}
variable {P:Program}
end
section
variable {α:Type}(enc:α→List Value)(T:TypeId)
end
section
variable {α:Type}{enc:α→List Value}{T:TypeId}{h0 h:Hp}{a:Option Addr}{c:Nat}{L:List (List α)}
variable {P:Program}
end
theorem setL_app_l {β:Type}(a b:List β)(k:Nat)(vs:List β)(h:k+vs.length≤a.length):setL (a++b) k vs=setL a k vs++b:=by
 unfold setL
 rw [List.take_append_of_le_length (by omega),List.drop_append_of_le_length (by omega)]
 simp
theorem setL_app_r {β:Type}(a b:List β)(k:Nat)(vs:List β):setL (a++b) (a.length+k) vs=a++setL b k vs:=by
 unfold setL
 rw [show a.length+k+vs.length=a.length+(k+vs.length) by omega,List.take_length_add_append,List.drop_length_add_append]
 simp
theorem setL_flat {α:Type}{enc:α→List Value}{sz:Nat}(he:∀ x,(enc x).length=sz){k:Nat}{vs:List Value}(hk:k+vs.length≤sz):∀(l:List α) (i:Nat) (x x':α),l[i]?=some x→enc x'=setL (enc x) k vs→setL (l.flatMap enc) (i*sz+k) vs=(l.set i x').flatMap enc
 | [],i,x,x',h,_=>by cases h
 | y :: l,0,x,x',h,hx=>by
  cases h
  rw [List.flatMap_cons,List.set_cons_zero,List.flatMap_cons,Nat.zero_mul,Nat.zero_add,setL_app_l _ _ _ _ (by rw [he];exact hk),hx]
 | y :: l,i+1,x,x',h,hx=>by
  rw [List.flatMap_cons,List.set_cons_succ,List.flatMap_cons,show (i+1)*sz+k=(enc y).length+(i*sz+k) by rw [he,Nat.succ_mul];omega,setL_app_r,setL_flat he hk l i x x' h hx]
def Vec {α:Type}(enc:α→List Value)(sz:Nat)(T:TypeId)(h0 h:Hp)(a:Option Addr)(c:Nat)(l:List α):Prop:=OwnV h0 h T sz a l.length c (l.flatMap enc)
section
variable {α:Type}{enc:α→List Value}{sz:Nat}{T:TypeId}{h0 h:Hp}{a:Option Addr}{c:Nat}{l:List α}
theorem Vec.le0 (V:Vec enc sz T h0 h a c l):h0.le h:=OwnV.le V
theorem Vec.slp (he:∀ x,(enc x).length=sz)(hz:0 < sz)(V:Vec enc sz T h0 h a c l):SlP enc h a l.length l:=OwnV.slp he hz V
theorem Vec.keep0 {h1:Hp}(V:Vec enc sz T h0 h a c l)(hl:h.le h1):Vec enc sz T h0 h1 a c l:=⟨Hp.le_trans V.le0 hl,(OwnV.own V).le hl,OwnV.new V⟩
variable {P:Program}
theorem Vec.app {t ty:TypeId}{bytes:Nat}(E:ElT P t T sz bytes)(he:∀ x,(enc x).length=sz)(h1:∀ x,∀ u ∈ enc x,u.oneCell'=true)(V:Vec enc sz T h0 h a c l)(hb:(l.length+1)*bytes≤140737488355328)(hb2:l.length+1≤140737488355328){x:α}{b:Nat}(hbn:h b=none){K:Value→Hp→Prop}
  (hK:∀ a' c' h',Vec enc sz T h0 h' a' c' (l++[x])→K (vsl a' (l++[x]).length c') h'):SemOK P (Builtin.append_ #[t,t] ty #[vsl a l.length c,vsl (some ⟨b,0,none⟩) 1 1]) (h.set b (cellsO (enc x) T)) K:=by
 refine OwnV.append E (OwnV.set hbn _ V) (HasRow.new _ _ (enc x) _) (m:=1) (by rw [he,Nat.one_mul]) (h1 x) hb hb2 fun a' c' h' O' _ _=>?_
 have:=hK a' c' h' (by
  unfold Vec
  rw [List.length_append,List.flatMap_append,List.flatMap_singleton]
  exact O')
 rw [List.length_append] at this
 exact this
end
structure Fp (P:Hp→(Nat→Prop)→Prop):Prop where
 al:∀{h F},P h F→∀ b,F b→h b≠none
 keep:∀{h h' F},P h F→(∀ b,F b→∀ o,h b=some o→h' b=some o)→P h' F
structure Both (h0 h:Hp)(F1 F2:Nat→Prop)(P Q:Hp→(Nat→Prop)→Prop):Prop where
 le:h0.le h
 n1:∀ b,F1 b→h0 b=none
 n2:∀ b,F2 b→h0 b=none
 d:∀ b,F1 b→¬ F2 b
 p:P h F1
 q:Q h F2
end Go.Vc
namespace Go.Proofs.Ytedmojjfdppffaa
open Go Go.Vc
theorem R_ValueFault_ok {v:Int × Int}{h:Hp}{R:Value→Hp→Prop}(hK:R (vi (if goodV v then 0 else 3)) h):CallOK Try.prog 14 [vag (encV v)] h R:=by
 refine ok_R_ValueFault ?_
 unfold VC_R_ValueFault
 refine⟨fun e=>?_,fun e=>?_⟩
 ·rw [if_pos (by unfold goodV;simp [Bool.cond_eq_ite] at e;omega)] at hK;exact hK
 ·rw [if_neg (by unfold goodV;simp [Bool.cond_eq_ite] at e;omega)] at hK;exact hK
structure Nd where
 op:Int
 x:Int
 y:Int
 n:Int
 v:Int × Int
deriving DecidableEq
open Go.Txt
abbrev Ag:=Int × List Nd
structure Qy where
 aggs:List Ag
 wh:List Nd
 by_:List Nd
 size:Int
 slide:Int
 delay:Int
 late:Int
end Go.Proofs.Ytedmojjfdppffaa
namespace Go.Proofs.Ytedmojjfdppffaa
open Go Go.Vc
def VC_gather_New (u0:Int)(h:Hp)(R:Value→Hp→Prop):Prop:=
 R (vag [vi u0,vi 0,vi 0,vi 0]) h
theorem ok_gather_New {u0 h R}(H:VC_gather_New u0 h R):CallOK Try.prog 17 [vi u0] h R:=
 call_of (cfg:=⟨[],[],[]⟩) noNG mixed Try.func17 [.one (.v (vi u0))] (by kernel_rfl) rfl (by kernel_rfl) H
def VC_gather_Acc_Add (u0:Int)(u1:Int)(u2:Int)(u3:Int)(u4:Int)(u5:Int)(h:Hp)(R:Value→Hp→Prop):Prop:=
 (((bif (decide (u0≠1)) then(decide (u4=0)) else false)=true→R (vag [vi u0,vi u1,vi u2,vi u3]) h)∧((bif (decide (u0≠1)) then(decide (u4=0)) else false)=false→(let J4:Int→Prop:=fun x7=>(∃ x8,(IsW x8 (u1+1))∧(∃ x9,(IsW x9 (u2+u5))∧R (vag [vi u0,vi x8,vi x9,vi x7]) h));(((bif (bif (decide (u1=0)) then true else(bif (decide (u0=4)) then(decide (u5 < u3)) else false)) then true else(bif (decide (u0=5)) then(decide (u5 > u3)) else false))=true→(J4 u5))∧((bif (bif (decide (u1=0)) then true else(bif (decide (u0=4)) then(decide (u5 < u3)) else false)) then true else(bif (decide (u0=5)) then(decide (u5 > u3)) else false))=false→(J4 u3))))))
theorem ok_gather_Acc_Add {u0 u1 u2 u3 u4 u5 h R}(H:VC_gather_Acc_Add u0 u1 u2 u3 u4 u5 h R):CallOK Try.prog 20 [vag [vi u0,vi u1,vi u2,vi u3],vag [vi u4,vi u5]] h R:=
 call_of (cfg:=⟨[],[],[]⟩) noNG mixed Try.func20 [.ag [.v (vi u0),.v (vi u1),.v (vi u2),.v (vi u3)],.ag [.v (vi u4),.v (vi u5)]] (by kernel_rfl) rfl (by kernel_rfl) H
def VC_gather_Acc_Value (u0:Int)(u1:Int)(u2:Int)(u3:Int)(h:Hp)(R:Value→Hp→Prop):Prop:=
 (((bif (decide (u0=1)) then true else(decide (u0=2)))=true→(CallOK Try.prog 33 [vi u1] h fun v1 h2=>∃ x3 x4,v1=(vag [vi x3,vi x4])∧R (vag [vi x3,vi x4]) h2))∧((bif (decide (u0=1)) then true else(decide (u0=2)))=false→(((decide (u1=0))=true→(CallOK Try.prog 34 [] h fun v5 h6=>∃ x7 x8,v5=(vag [vi x7,vi x8])∧R (vag [vi x7,vi x8]) h6))∧((decide (u1=0))=false→(((decide (u0=3))=true→(CallOK Try.prog 33 [vi u2] h fun v9 h10=>∃ x11 x12,v9=(vag [vi x11,vi x12])∧R (vag [vi x11,vi x12]) h10))∧((decide (u0=3))=false→(CallOK Try.prog 33 [vi u3] h fun v14 h15=>∃ x16 x17,v14=(vag [vi x16,vi x17])∧R (vag [vi x16,vi x17]) h15)))))))
theorem ok_gather_Acc_Value {u0 u1 u2 u3 h R}(H:VC_gather_Acc_Value u0 u1 u2 u3 h R):CallOK Try.prog 22 [vag [vi u0,vi u1,vi u2,vi u3]] h R:=
 call_of (cfg:=⟨[],[],[]⟩) noNG mixed Try.func22 [.ag [.v (vi u0),.v (vi u1),.v (vi u2),.v (vi u3)]] (by kernel_rfl) rfl (by kernel_rfl) H
def gStep (k:Int)(s:Int × Int × Int)(v:Int × Int):Int × Int × Int:=
 if k≠1∧v.1=0 then s else(s.1+1,s.2.1+v.2,if s.1=0∨(k=4∧v.2 < s.2.2)∨(k=5∧v.2 > s.2.2) then v.2 else s.2.2)
def gVal (k:Int)(s:Int × Int × Int):Int × Int:=
 if k=1∨k=2 then numV s.1 else if s.1=0 then(0,0) else if k=3 then numV s.2.1 else numV s.2.2
def encA (k:Int)(s:Int × Int × Int):List Value:=[vi k,vi s.1,vi s.2.1,vi s.2.2]
theorem gather_New_ok {k:Int}{h:Hp}{R:Value→Hp→Prop}(hK:R (vag (encA k (0,0,0))) h):CallOK Try.prog 17 [vi k] h R:=ok_gather_New hK
def gStepW (k:Int)(s:Int × Int × Int)(v:Int × Int):Int × Int × Int:=
 if k≠1∧v.1=0 then s else(IntKind.i64.wrap (s.1+1),IntKind.i64.wrap (s.2.1+v.2),if s.1=0∨(k=4∧v.2 < s.2.2)∨(k=5∧v.2 > s.2.2) then v.2 else s.2.2)
theorem gStepW_eq {k:Int}{s:Int × Int × Int}{v:Int × Int}(h1:InR (s.1+1))(h2:InR (s.2.1+v.2)):gStepW k s v=gStep k s v:=by
 unfold gStepW gStep
 rw [←(isW h1:_=_),←(isW h2:_=_)]
theorem gather_AddW_ok {k:Int}{s:Int × Int × Int}{v:Int × Int}{h:Hp}{R:Value→Hp→Prop}(hK:R (vag (encA k (gStepW k s v))) h) :
  CallOK Try.prog 20 [vag (encA k s),vag (encV v)] h R:=by
 obtain⟨n,sum,best⟩:=s
 obtain⟨vk,vn⟩:=v
 refine ok_gather_Acc_Add ?_
 unfold VC_gather_Acc_Add
 simp only [gStepW] at hK
 refine⟨fun e=>?_,fun e=>?_⟩
 ·simp [Bool.cond_eq_ite] at e
  rw [if_pos e] at hK
  exact hK
 ·have e':¬(k≠1∧vk=0):=by simpa [Bool.cond_eq_ite] using e
  rw [if_neg e'] at hK
  refine⟨fun e=>?_,fun e=>?_⟩
  ·have e2:n=0∨(k=4∧vn < best)∨(k=5∧vn > best):=by simp [Bool.cond_eq_ite] at e;omega
   rw [if_pos e2] at hK
   exact⟨_,rfl,_,rfl,hK⟩
  ·have e2:¬(n=0∨(k=4∧vn < best)∨(k=5∧vn > best)):=by simp [Bool.cond_eq_ite] at e;omega
   rw [if_neg e2] at hK
   exact⟨_,rfl,_,rfl,hK⟩
theorem gather_Add_ok {k:Int}{s:Int × Int × Int}{v:Int × Int}{h:Hp}{R:Value→Hp→Prop}(h1:InR (s.1+1))(h2:InR (s.2.1+v.2))(hK:R (vag (encA k (gStep k s v))) h) :
  CallOK Try.prog 20 [vag (encA k s),vag (encV v)] h R:=gather_AddW_ok (by rw [gStepW_eq h1 h2];exact hK)
theorem gather_Value_ok {k:Int}{s:Int × Int × Int}{h:Hp}{R:Value→Hp→Prop}(hK:R (vag (encV (gVal k s))) h):CallOK Try.prog 22 [vag (encA k s)] h R:=by
 obtain⟨n,sum,best⟩:=s
 refine ok_gather_Acc_Value ?_
 unfold VC_gather_Acc_Value
 simp only [gVal] at hK
 refine⟨fun e=>?_,fun e=>⟨fun e2=>?_,fun e2=>⟨fun e3=>?_,fun e3=>?_⟩⟩⟩
 ·have e:k=1∨k=2:=by simp [Bool.cond_eq_ite] at e;omega
  rw [if_pos e] at hK
  exact value_Number_ok ⟨_,_,rfl,hK⟩
 all_goals have e:¬(k=1∨k=2):=by simp [Bool.cond_eq_ite] at e;omega
 all_goals rw [if_neg e] at hK
 ·have e2:n=0:=by simpa using e2
  rw [if_pos e2] at hK
  exact value_Null_ok ⟨_,_,rfl,hK⟩
 all_goals have e2:¬ n=0:=by simpa using e2
 all_goals rw [if_neg e2] at hK
 ·have e3:k=3:=by simpa using e3
  rw [if_pos e3] at hK
  exact value_Number_ok ⟨_,_,rfl,hK⟩
 ·have e3:¬ k=3:=by simpa using e3
  rw [if_neg e3] at hK
  exact value_Number_ok ⟨_,_,rfl,hK⟩
theorem gfold_bound {k:Int}:∀(l:List (Int × Int)) (s:Int × Int × Int),(∀ v ∈ l,smallV v)→0≤s.1 →
  s.1≤(l.foldl (gStep k) s).1∧(l.foldl (gStep k) s).1≤s.1+l.length∧s.2.1 - l.length*1000000000≤(l.foldl (gStep k) s).2.1∧(l.foldl (gStep k) s).2.1≤s.2.1+l.length*1000000000
 | [],s,_,h0=>by simp
 | v :: l,s,hv,h0=>by
  have h1:=hv v (by simp)
  unfold smallV at h1
  have h2:s.1≤(gStep k s v).1∧(gStep k s v).1≤s.1+1∧s.2.1 - 1000000000≤(gStep k s v).2.1∧(gStep k s v).2.1≤s.2.1+1000000000:=by
   unfold gStep
   split<;>simp<;>omega
  have h3:=gfold_bound (k:=k) l (gStep k s v) (fun u hu=>hv u (by simp [hu])) (by omega)
  rw [List.foldl_cons,List.length_cons]
  push_cast
  omega
abbrev Vl:=Int × Int
abbrev PK:=Int × Vl
abbrev Ad:=PK × List Vl
def keysU (A:List Ad):List PK:=A.foldl (fun ks a=>if a.1 ∈ ks then ks else ks++[a.1]) []
theorem keysU_snoc (A:List Ad)(a:Ad):keysU (A++[a])=if a.1 ∈ keysU A then keysU A else keysU A++[a.1]:=by
 unfold keysU
 rw [List.foldl_append]
 rfl
def rowsOf (A:List Ad)(k:PK):List (List Vl):=(A.filter fun a=>a.1=k).map (·.2)
theorem rowsOf_snoc (A:List Ad)(a:Ad)(k:PK):rowsOf (A++[a]) k=rowsOf A k++if a.1=k then [a.2] else []:=by
 unfold rowsOf
 rw [List.filter_append,List.map_append]
 by_cases h:a.1=k<;>simp [h]
theorem snocInd {α:Type}{P:List α→Prop}(h0:P [])(h1:∀ l x,P l→P (l++[x]))(l:List α):P l:=by
 have key:∀ l:List α,P l.reverse:=by
  intro l
  induction l with
  | nil=>exact h0
  | cons x l ih=>rw [List.reverse_cons];exact h1 _ _ ih
 have:=key l.reverse
 rwa [List.reverse_reverse] at this
theorem keysU_nodup (A:List Ad):(keysU A).Nodup:=by
 induction A using snocInd with
 | h0=>exact List.nodup_nil
 | h1 A a ih=>
  rw [keysU_snoc]
  split
  ·exact ih
  ·rename_i h
   refine List.nodup_append.2 ⟨ih,by simp,?_⟩
   intro x hx y hy
   rw [List.mem_singleton.1 hy]
   intro e
   exact h (e▸hx)
theorem keysU_mem (A:List Ad)(k:PK):k ∈ keysU A↔∃ a ∈ A,a.1=k:=by
 induction A using snocInd with
 | h0=>simp [keysU]
 | h1 A a ih=>
  rw [keysU_snoc]
  by_cases h:a.1 ∈ keysU A
  ·rw [if_pos h,ih]
   constructor
   ·rintro⟨x,hx,e⟩;exact⟨x,List.mem_append_left _ hx,e⟩
   ·rintro⟨x,hx,e⟩
    rcases List.mem_append.1 hx with h2|h2
    ·exact⟨x,h2,e⟩
    ·rw [List.mem_singleton.1 h2] at e
     rw [e] at h
     exact ih.1 h
  ·rw [if_neg h,List.mem_append,ih]
   constructor
   ·rintro(⟨x,hx,e⟩|h2)
    ·exact⟨x,List.mem_append_left _ hx,e⟩
    ·exact⟨a,by simp,(List.mem_singleton.1 h2).symm⟩
   ·rintro⟨x,hx,e⟩
    rcases List.mem_append.1 hx with h2|h2
    ·exact .inl ⟨x,h2,e⟩
    ·rw [List.mem_singleton.1 h2] at e;exact .inr (by rw [e];simp)
theorem rowsOf_new {A:List Ad}{k:PK}(h:k ∉ keysU A):rowsOf A k=[]:=by
 unfold rowsOf
 rw [List.map_eq_nil_iff,List.filter_eq_nil_iff]
 intro a ha e
 exact h ((keysU_mem A k).2 ⟨a,ha,by simpa using e⟩)
def aheadK (a b:PK):Prop:=a.1 < b.1∨(a.1=b.1∧(a.2.1 < b.2.1∨(a.2.1=b.2.1∧a.2.2 < b.2.2)))
instance (a b:PK):Decidable (aheadK a b):=by unfold aheadK;infer_instance
theorem aheadK_irr (a:PK):¬ aheadK a a:=by unfold aheadK;omega
theorem aheadK_trans {a b c:PK}(h:aheadK a b)(h2:aheadK b c):aheadK a c:=by unfold aheadK at *;omega
theorem aheadK_tri {a b:PK}(h:¬ aheadK a b)(h2:¬ aheadK b a):a=b:=by
 obtain⟨a1,a2,a3⟩:=a
 obtain⟨b1,b2,b3⟩:=b
 unfold aheadK at h h2
 simp only at h h2
 have e1:a1=b1:=by omega
 have e2:a2=b2:=by omega
 have e3:a3=b3:=by omega
 rw [e1,e2,e3]
def insK (k:PK):List PK→List PK
 | []=>[k]
 | x :: l=>if aheadK x k then x :: insK k l else if x=k then x :: l else k :: x :: l
theorem insK_mem (k x:PK):∀ l,x ∈ insK k l↔x=k∨x ∈ l
 | []=>by simp [insK]
 | y :: l=>by
  rw [insK]
  split
  ·rw [List.mem_cons,insK_mem k x l,List.mem_cons]
   constructor
   ·rintro(h|h|h)
    ·exact .inr (.inl h)
    ·exact .inl h
    ·exact .inr (.inr h)
   ·rintro(h|h|h)
    ·exact .inr (.inl h)
    ·exact .inl h
    ·exact .inr (.inr h)
  ·split
   ·rename_i h1 h2
    subst h2
    simp
   ·rw [List.mem_cons]
theorem insK_sorted (k:PK):∀{l:List PK},l.Pairwise aheadK→(insK k l).Pairwise aheadK
 | [],_=>by simp [insK]
 | y :: l,h=>by
  obtain⟨h1,h2⟩:=List.pairwise_cons.1 h
  rw [insK]
  split
  ·rename_i hy
   refine List.pairwise_cons.2 ⟨fun x hx=>?_,insK_sorted k h2⟩
   rcases (insK_mem k x l).1 hx with e|hx
   ·rw [e];exact hy
   ·exact h1 x hx
  ·split
   ·exact h
   ·rename_i h3 h4
    have hk:aheadK k y:=Decidable.byContradiction fun q=>h4 (aheadK_tri h3 q)
    refine List.pairwise_cons.2 ⟨fun x hx=>?_,h⟩
    rcases List.mem_cons.1 hx with rfl|hx
    ·exact hk
    ·exact aheadK_trans hk (h1 x hx)
theorem sorted_nodup {l:List PK}(h:l.Pairwise aheadK):l.Nodup:=by
 unfold List.Nodup
 refine List.Pairwise.imp (fun {a b} (hab:aheadK a b)=>?_) h
 intro e
 rw [e] at hab
 exact aheadK_irr b hab
abbrev AcS:=Int × (Int × Int × Int)
def accP (acs:List AcS)(r:List Vl):List AcS:=List.zipWith (fun a v=>(a.1,gStep a.1 a.2 v)) acs r
def acc0 (ks:List Int):List AcS:=ks.map fun k=>(k,(0,0,0))
def accsOf (ks:List Int)(rs:List (List Vl)):List AcS:=rs.foldl accP (acc0 ks)
def outV (ks:List Int)(rs:List (List Vl)):List Vl:=(accsOf ks rs).map fun a=>gVal a.1 a.2
def colP (cs:List (List Vl))(r:List Vl):List (List Vl):=List.zipWith (fun c v=>c++[v]) cs r
def colsOf (n:Nat)(rs:List (List Vl)):List (List Vl):=rs.foldl colP (List.replicate n [])
def accF (k:Int)(c:List Vl):AcS:=(k,c.foldl (gStep k) (0,0,0))
theorem accsOf_snoc (ks:List Int)(rs:List (List Vl))(r:List Vl):accsOf ks (rs++[r])=accP (accsOf ks rs) r:=by unfold accsOf;rw [List.foldl_append];rfl
theorem colsOf_snoc (n:Nat)(rs:List (List Vl))(r:List Vl):colsOf n (rs++[r])=colP (colsOf n rs) r:=by unfold colsOf;rw [List.foldl_append];rfl
theorem colP_len {cs:List (List Vl)}{r:List Vl}(h:r.length=cs.length):(colP cs r).length=cs.length:=by unfold colP;rw [List.length_zipWith];omega
theorem colsOf_len {n:Nat}{rs:List (List Vl)}(h:∀ r ∈ rs,r.length=n):(colsOf n rs).length=n:=by
 induction rs using snocInd with
 | h0=>simp [colsOf]
 | h1 rs r ih=>
  have h2:=ih fun x hx=>h x (List.mem_append_left _ hx)
  rw [colsOf_snoc,colP_len (by rw [h2];exact h r (by simp)),h2]
theorem acc_cols (ks:List Int){rs:List (List Vl)}(h:∀ r ∈ rs,r.length=ks.length):accsOf ks rs=List.zipWith accF ks (colsOf ks.length rs):=by
 induction rs using snocInd with
 | h0=>
  show acc0 ks=List.zipWith accF ks (List.replicate ks.length [])
  induction ks with
  | nil=>rfl
  | cons k ks ih=>
   simp only [acc0,List.map_cons,List.length_cons,List.replicate_succ,List.zipWith_cons_cons]
   rw [show List.map (fun k=>((k,(0,0,0)):AcS)) ks=acc0 ks from rfl,ih (fun r hr=>by cases hr)]
   rfl
 | h1 rs r ih=>
  have h2:=ih fun x hx=>h x (List.mem_append_left _ hx)
  have hl:=colsOf_len (n:=ks.length) (rs:=rs) fun x hx=>h x (List.mem_append_left _ hx)
  have hr:=h r (by simp)
  rw [accsOf_snoc,colsOf_snoc,h2]
  generalize colsOf ks.length rs=cs at hl
  clear ih h2 h
  unfold accP colP
  induction ks generalizing cs r with
  | nil=>rfl
  | cons k ks ih=>
   match cs,r,hl,hr with
   | c :: cs,v :: r,hl,hr=>
    simp only [List.zipWith_cons_cons,List.length_cons,Nat.add_right_cancel_iff] at hl hr ⊢
    rw [ih r (by omega) cs (by omega)]
    congr 1
    unfold accF
    rw [List.foldl_append]
    rfl
def VC_R_Num (u0:Int)(h:Hp)(R:Value→Hp→Prop):Prop:=
 (((bif (decide (u0 < (-1000000000))) then true else(decide (u0 > 1000000000)))=true→R (vag [vi 0,vi 0]) h)∧((bif (decide (u0 < (-1000000000))) then true else(decide (u0 > 1000000000)))=false→R (vag [vi 1,vi u0]) h))
theorem ok_R_Num {u0 h R}(H:VC_R_Num u0 h R):CallOK Try.prog 35 [vi u0] h R:=
 call_of (cfg:=⟨[],[],[]⟩) noNG mixed Try.func35 [.one (.v (vi u0))] (by kernel_rfl) rfl (by kernel_rfl) H
theorem R_Num_ok {n:Int}{h:Hp}{R:Value→Hp→Prop}(hK:R (vag (encV (numV n))) h):CallOK Try.prog 35 [vi n] h R:=by
 refine ok_R_Num ?_
 unfold VC_R_Num
 refine⟨fun e=>?_,fun e=>?_⟩
 ·simp [Bool.cond_eq_ite] at e
  have:numV n=(0,0):=by unfold numV;rw [if_pos (by omega)]
  rw [this] at hK
  exact hK
 ·simp [Bool.cond_eq_ite] at e
  have:numV n=(1,n):=by unfold numV;rw [if_neg (by omega)]
  rw [this] at hK
  exact hK
end Go.Proofs.Ytedmojjfdppffaa
namespace Go.Vc
open Go Go.MapKept
section
variable {P:Program}{h:Hp}
theorem sem_makeMap {T:TypeId}{K:Value→Hp→Prop}(hK:∀ b,h b=none→K (.map (some b)) (h.set b (.map #[] 0))):SemOK P (Instr.makeMap T none) h K:=by
 intro w hs
 refine⟨.map (some w.heap.size),_,_,?_,Sub.pushSet hs _,Fr.pushSet h w _,hK _ hs.none⟩
 simp [Instr.makeMap,newObj,Sem.run_bind,Sem.run]
theorem Sub.mapSet {w:World}(hs:Sub h w){b:Nat}{o o':Obj}(hb:h b=some o):Sub (h.set b o') { w with heap:=w.heap.setIfInBounds b o' }∧Fr h (h.set b o') w { w with heap:=w.heap.setIfInBounds b o' }:=by
 have hw:=hs b _ hb
 obtain⟨k1,k2⟩:=heap_set (o':=o') hw
 refine⟨fun c oc hc=>?_,⟨rfl,rfl,rfl,by simp,fun c hc hn=>?_⟩⟩
 ·by_cases e:c=b
  ·subst e;rw [Hp.set_same] at hc;cases hc;exact k1
  ·rw [Hp.set_other _ _ e] at hc;exact(k2 c e).trans (hs c oc hc)
 ·have e:c≠b:=fun e=>by subst e;rw [hn] at hb;cases hb
  exact⟨k2 c e,by rw [Hp.set_other _ _ e];exact hn⟩
end
end Go.Vc
namespace Go.Vc
open Go
abbrev GRow (α β:Type):=β × (Option Addr × Nat) × List α
section
variable {α β:Type}(enc:α→List Value)(rw_:β→Value→List Value)(sz:Nat)(T:TypeId)
def growV (r:GRow α β):List Value:=rw_ r.1 (vsl r.2.1.1 r.2.2.length r.2.1.2)
end
section
variable {α β:Type}{enc:α→List Value}{rw_:β→Value→List Value}{sz:Nat}{T:TypeId}{G:Nat→Prop}{h0 h:Hp}{a:Option Addr}{c:Nat}{L:List (β × List α)}
variable {P:Program}
end
section
variable {α:Type}
variable {P:α→Hp→(Nat→Prop)→Prop}
end
def OwnF (e:TypeId)(sz:Nat)(a:Option Addr)(n c:Nat)(xs:List Value)(h:Hp)(F:Nat→Prop):Prop:=OwnS h e sz a n c xs∧F=fun b=>a=some ⟨b,0,none⟩
theorem OwnF.fp (e:TypeId)(sz:Nat)(a:Option Addr)(n c:Nat)(xs:List Value):Fp (OwnF e sz a n c xs) where
 al:=by
  rintro h F ⟨⟨_,O⟩,rfl⟩ b hb
  rcases O with ⟨ha,_⟩|⟨g,cur,ha,hg,_⟩
  ·rw [ha] at hb;cases hb
  ·rw [ha] at hb;cases hb;rw [hg];simp
 keep:=by
  rintro h h' F ⟨⟨h1,O⟩,rfl⟩ hk
  refine⟨⟨h1,?_⟩,rfl⟩
  rcases O with O|⟨g,cur,ha,hg,O⟩
  ·exact .inl O
  ·exact .inr ⟨g,cur,ha,hk g ha _ hg,O⟩
structure Beside (a:Option Addr)(h h':Hp):Prop where
 keep:∀ b o,h b=some o→a≠some ⟨b,0,none⟩→h' b=some o
section
variable {α:Type}{enc:α→List Value}{sz:Nat}{T:TypeId}{h0 h:Hp}{a:Option Addr}{c:Nat}{l:List α}
theorem Vec.putF (he:∀ x,(enc x).length=sz)(V:Vec enc sz T h0 h a c l){i:Nat}{x x':α}(hx:l[i]?=some x){k:Nat}{vs:List Value}(hv:0 < vs.length)(hk:k+vs.length≤sz)(hx':enc x'=setL (enc x) k vs) :
  ∃ b o,a=some ⟨b,o,none⟩∧∀ K:Hp→Prop,(∀ h',Vec enc sz T h0 h' a c (l.set i x')→Beside a h h'→K h')→h.store b (o+i*sz+k) vs K:=by
 have hi:i < l.length:=(List.getElem?_eq_some_iff.1 hx).1
 have hb:(i+1)*sz≤l.length*sz:=Nat.mul_le_mul_right _ hi
 rw [Nat.succ_mul] at hb
 rcases V.own.2 with ⟨ha,hn,_⟩|⟨g,cur,ha,_⟩
 ·omega
 ·refine⟨g,0,ha,fun K hK=>?_⟩
  rw [Nat.add_assoc]
  refine OwnV.store V (j:=i*sz+k) hv (by omega) ha fun ob V'=>hK _ ?_ ⟨fun b o ho hn=>?_⟩
  ·unfold Vec
   rw [←setL_flat he hk l i x x' hx hx',List.length_set]
   exact V'
  ·have e:b≠g:=fun q=>hn (by rw [ha,q])
   rw [Hp.set_other _ _ e];exact ho
variable {P:Program}
theorem Vec.ownF (V:Vec enc sz T h0 h a c l):OwnF T sz a l.length c (l.flatMap enc) h (fun b=>a=some ⟨b,0,none⟩):=⟨V.own,rfl⟩
end
end Go.Vc
namespace Go.Proofs.Ytedmojjfdppffaa
open Go Go.Vc
def VC_slices_IndexFunc_panes_Pane_panes_Pane (u0:Option Addr)(u1 u2:Nat)(u3:Value)(h:Hp)(R:Value→Hp→Prop):Prop:=
 (∃(I2:List Value→Hp→Prop) (m3:List Value→Hp→Nat),I2 [vi 0] h∧∀ vs4 h5,I2 vs4 h5→∃ x6,vs4=[vi x6]∧(((decide (x6 < (u1:Int)))=true→(∃ b9 o10,(u0=some ⟨b9,o10,none⟩∧(0:Int)≤x6∧x6 < (u1:Int))∧(∃ x11 x12 x13 a14 n14 c14 p15,(Hp.row h5 b9 (o10+x6.toNat*5) 5=some [vi x11,vi x12,vi x13,vsl a14 n14 c14,vb p15])∧(InvOK Try.prog u3 [vag [vi x11,vi x12,vi x13,vsl a14 n14 c14,vb p15]] h5 fun v16 h17=>∃ p18,v16=(vb p18)∧((p18=true→R (vi x6) h17)∧(p18=false→(∃ x20,(IsW x20 (x6+1))∧(I2 [vi x20] h17∧m3 [vi x20] h17 < m3 vs4 h5))))))))∧((decide (x6 < (u1:Int)))=false→R (vi (-1)) h5)))
theorem ok_slices_IndexFunc_panes_Pane_panes_Pane {u0 u1 u2 u3 h R}(H:VC_slices_IndexFunc_panes_Pane_panes_Pane u0 u1 u2 u3 h R):CallOK Try.prog 36 [vsl u0 u1 u2,u3] h R:=
 call_of (cfg:=⟨[],[(2,([8],[.one (.int .i64)],[]))],[]⟩) noNG mixed Try.func36 [.one (.v (vsl u0 u1 u2)),.one (.v u3)] (by kernel_rfl) rfl (by kernel_rfl) H
def VC_panes_Pane_Out (u0:Int)(u1:Int)(u2:Int)(u3:Option Addr)(u4 u5:Nat)(u6:Bool)(h:Hp)(R:Value→Hp→Prop):Prop:=
 (let J30:Int→Int→Int→Option Addr→Nat→Nat→Hp→Prop:=fun x41 x42 x43 a44 n44 c44 h45=>R (vag [vi x41,vi x42,vi x43,vsl a44 n44 c44]) h45;(∃(I2:List Value→Hp→Prop) (m3:List Value→Hp→Nat),I2 [vi 0,vi u0,vi u1,vi u2,vsl none 0 0] h∧∀ vs4 h5,I2 vs4 h5→∃ x6 x7 x8 x9 a10 n10 c10,vs4=[vi x6,vi x7,vi x8,vi x9,vsl a10 n10 c10]∧(((decide (x6 < (u4:Int)))=true→(∃ b13 o14,(u3=some ⟨b13,o14,none⟩∧(0:Int)≤x6∧x6 < (u4:Int))∧(∃ x15 x16 x17 x18,(Hp.row h5 b13 (o14+x6.toNat*4) 4=some [vi x15,vi x16,vi x17,vi x18])∧(CallOK Try.prog 22 [vag [vi x15,vi x16,vi x17,vi x18]] h5 fun v19 h20=>∃ x21 x22,v19=(vag [vi x21,vi x22])∧(∀ b23,h20 b23=none→let h24:= Hp.set h20 b23 (cellsO [vi x21,vi x22] 30);(SemOK Try.prog (Builtin.append_ #[31,31] 31 #[vsl a10 n10 c10,(vsl (some (⟨b23,0,none⟩:Addr)) 1 1)]) h24 fun v25 h26=>∃ a27 n27 c27,v25=(vsl a27 n27 c27)∧(∃ x29,(IsW x29 (x6+1))∧(I2 [vi x29,vi x7,vi x8,vi x9,vsl a27 n27 c27] h26∧m3 [vi x29,vi x7,vi x8,vi x9,vsl a27 n27 c27] h26 < m3 vs4 h5))))))))∧((decide (x6 < (u4:Int)))=false→(J30 x7 x8 x9 a10 n10 c10 h5)))))
theorem ok_panes_Pane_Out {u0 u1 u2 u3 u4 u5 u6 h R}(H:VC_panes_Pane_Out u0 u1 u2 u3 u4 u5 u6 h R):CallOK Try.prog 9 [vag [vi u0,vi u1,vi u2,vsl u3 u4 u5,vb u6]] h R:=
 call_of (cfg:=⟨[],[(3,([14],[.one (.int .i64)],[(2,[.int .i64,.int .i64,.int .i64,.slice])]))],[(5,[0,1,2,3,4,5,6,7])]⟩) noNG mixed Try.func9 [.ag [.v (vi u0),.v (vi u1),.v (vi u2),.v (vsl u3 u4 u5),.v (vb u6)]] (by kernel_rfl) rfl (by kernel_rfl) H
open Go.Txt
def encAc (a:AcS):List Value:=encA a.1 a.2
theorem encAc_len (a:AcS):(encAc a).length=4:=rfl
theorem one_ac (a:AcS):∀ u ∈ encAc a,u.oneCell'=true:=by
 intro u hu
 simp only [encAc,encA,List.mem_cons,List.not_mem_nil,or_false] at hu
 rcases hu with rfl|rfl|rfl|rfl<;>rfl
def AcB (a:AcS):Prop:=0≤a.2.1∧a.2.1≤1000000000∧-1000000000000000000≤a.2.2.1∧a.2.2.1≤1000000000000000000
theorem accsOf_small {ks:List Int}{rs:List (List Vl)}(hl:∀ r ∈ rs,r.length=ks.length)(hv:∀ r ∈ rs,∀ v ∈ r,smallV v)(hn:rs.length≤1000000000):∀ a ∈ accsOf ks rs,AcB a:=by
 have hcol:∀(rs:List (List Vl)),(∀ r ∈ rs,∀ v ∈ r,smallV v)→∀ c ∈ colsOf ks.length rs,c.length≤rs.length∧∀ v ∈ c,smallV v:=by
  intro rs
  induction rs using snocInd with
  | h0=>
   intro _ c hc
   rw [List.eq_of_mem_replicate hc]
   exact⟨Nat.le_refl _,fun v hv=>by cases hv⟩
  | h1 rs r ih=>
   intro hv c hc
   have ih:=ih fun x hx=>hv x (List.mem_append_left _ hx)
   rw [colsOf_snoc] at hc
   unfold colP at hc
   obtain⟨i,hi,rfl⟩:=List.mem_iff_getElem.1 hc
   rw [List.length_zipWith] at hi
   rw [List.getElem_zipWith]
   obtain⟨h1,h2⟩:=ih _ (List.getElem_mem (by omega:i < (colsOf ks.length rs).length))
   refine⟨by simp;omega,fun v hv2=>?_⟩
   rcases List.mem_append.1 hv2 with h3|h3
   ·exact h2 v h3
   ·rw [List.mem_singleton.1 h3]
    exact hv r (by simp) _ (List.getElem_mem _)
 intro a ha
 rw [acc_cols ks hl] at ha
 obtain⟨i,hi,rfl⟩:=List.mem_iff_getElem.1 ha
 rw [List.length_zipWith] at hi
 rw [List.getElem_zipWith]
 obtain⟨h1,h2⟩:=hcol rs hv _ (List.getElem_mem (by omega:i < (colsOf ks.length rs).length))
 generalize (colsOf ks.length rs)[i]=c at h1 h2
 have:=gfold_bound (k:=ks[i]) c (0,0,0) h2 (Int.le_refl _)
 unfold AcB accF
 simp only at this ⊢
 omega
theorem elAcc:ElT Try.prog 37 57 4 32:=.of (by kernel_rfl) (by kernel_rfl) (by decide)
theorem accP_len {acs:List AcS}{r:List Vl}(h:r.length=acs.length):(accP acs r).length=acs.length:=by unfold accP;rw [List.length_zipWith];omega
abbrev VecA:=Vec encAc 4 57
end Go.Proofs.Ytedmojjfdppffaa
namespace Go.Proofs.Ytedmojjfdppffaa.D
open Go Go.Vd
open Go.Vc (Hp IsW NoNG cellsO vag vb vi vs vsl)
structure PRow where
 s:Int
 k:Int × Int
 a:Option Addr
 n:Nat
 c:Nat
 t:Bool
 deriving Inhabited
def PRow.enc (r:PRow):List Value:=[vi r.s,vi r.k.1,vi r.k.2,vsl r.a r.n r.c,vb r.t]
end Go.Proofs.Ytedmojjfdppffaa.D
namespace Go.Proofs.Ytedmojjfdppffaa
open Go Go.Vc Go.Txt
structure PR where
 k:PK
 a:Option Addr
 c:Nat
 acs:List AcS
 t:Bool
def prRow (r:PR):D.PRow:=⟨r.k.1,r.k.2,r.a,r.acs.length,r.c,r.t⟩
theorem one_prow (r:D.PRow):∀ u ∈ r.enc,u.oneCell'=true:=by
 intro u hu
 simp only [D.PRow.enc,List.mem_cons,List.not_mem_nil,or_false] at hu
 rcases hu with rfl|rfl|rfl|rfl|rfl<;>rfl
section
variable {h0 h:Hp}{a:Option Addr}{c:Nat}{R:List PR}
theorem elPane:ElT Try.prog 25 39 5 56:=.of (by kernel_rfl) (by kernel_rfl) (by decide)
end
theorem elValP:ElT Try.prog 31 30 2 16:=.of (by kernel_rfl) (by kernel_rfl) (by decide)
theorem one_v (v:Vl):∀ u ∈ encV v,u.oneCell'=true:=by
 intro u hu
 simp only [encV,List.mem_cons,List.not_mem_nil,or_false] at hu
 rcases hu with rfl|rfl<;>rfl
abbrev VecV:=Vec encV 2 30
def gOut (a:AcS):Vl:=gVal a.1 a.2
theorem pane_Out_ok {r:PR}{h:Hp}{R':Value→Hp→Prop}(S:SlP encAc h r.a r.acs.length r.acs)(hn:r.acs.length≤1000)
  (hK:∀ a c h',VecV h h' a c (r.acs.map gOut)→R' (vag [vi r.k.1,vi r.k.2.1,vi r.k.2.2,vsl a (r.acs.map gOut).length c]) h'):CallOK Try.prog 9 [vag (prRow r).enc] h R':=by
 refine ok_panes_Pane_Out ?_
 unfold VC_panes_Pane_Out
 intro J30
 have hJ:∀ a c h',VecV h h' a c (r.acs.map gOut)→J30 r.k.1 r.k.2.1 r.k.2.2 a (r.acs.map gOut).length c h':=hK
 clear_value J30
 refine⟨fun vs hh=>∃(i:Nat) (a:Option Addr) (c:Nat),vs=[vi i,vi r.k.1,vi r.k.2.1,vi r.k.2.2,vsl a ((r.acs.take i).map gOut).length c]∧i≤r.acs.length∧VecV h hh a c ((r.acs.take i).map gOut),fun vs hh=>r.acs.length - (vint vs 0).toNat,⟨0,none,0,rfl,Nat.zero_le _,OwnV.nil (Hp.le_refl h) _ _⟩,?_⟩
 rintro vs hh ⟨i,a,c,rfl,hi,V⟩
 refine⟨_,_,_,_,_,_,_,rfl,fun e=>?_,fun e=>?_⟩
 ·have hlt:i < r.acs.length:=by
   have:=of_decide_eq_true e
   have h2:(prRow r).n=r.acs.length:=rfl
   omega
  have hx:r.acs[i]?=some r.acs[i]:=List.getElem?_eq_getElem hlt
  have tk:r.acs.take (i+1)=r.acs.take i++[r.acs[i]]:=List.take_succ_eq_append_getElem hlt
  obtain⟨b,o,ea,hr⟩:=(S.le V.le0).get encAc_len (by decide) hx
  have h2:(prRow r).n=r.acs.length:=rfl
  refine⟨b,o,⟨ea,by omega,by omega⟩,_,_,_,_,by rw [Int.toNat_natCast];exact hr,gather_Value_ok (k:=(r.acs[i]).1) (s:=(r.acs[i]).2) ⟨_,_,rfl,?_⟩⟩
  intro b23 hb23 h24
  have hl:((r.acs.take i).map gOut).length=i:=by rw [List.length_map,List.length_take];omega
  refine Vec.app elValP (fun v=>rfl) one_v V (by rw [hl];omega) (by rw [hl];omega) (x:=gOut r.acs[i]) hb23 fun a' c' h' V'=>⟨_,_,_,rfl,_,isW (by unfold InR;omega),⟨i+1,a',c',?_,by omega,?_⟩,by simp [vint];omega⟩
  ·rw [tk,List.map_append];rfl
  ·rw [tk,List.map_append];exact V'
 ·have hge:i=r.acs.length:=by
   have:=of_decide_eq_false e
   have h2:(prRow r).n=r.acs.length:=rfl
   omega
  rw [hge,List.take_length] at V ⊢
  exact hJ a c hh V
def prT (r:PR):PK × List AcS × Bool:=(r.k,r.acs,r.t)
section
variable {ks:List Int}{A:List Ad}{R:List PR}
end
section
variable {h0 h:Hp}{a:Option Addr}{c:Nat}{R:List PR}
end
end Go.Proofs.Ytedmojjfdppffaa
namespace Go.Proofs.Ytedmojjfdppffaa
open Go Go.Vc
def VC_value_Compare (u0:Int)(u1:Int)(u2:Int)(u3:Int)(h:Hp)(R:Value→Hp→Prop):Prop:=
 (CallOK Try.prog 30 [vi u0,vi u2] h fun v1 h2=>∃ x3,v1=(vi x3)∧(CallOK Try.prog 30 [vi u1,vi u3] h2 fun v4 h5=>∃ x6,v4=(vi x6)∧(∀ b7,h5 b7=none→let h8:= Hp.set h5 b7 (cellsO [vi x3,vi x6] 3);(CallOK Try.prog 29 [(vsl (some (⟨b7,0,none⟩:Addr)) 2 2)] h8 fun v9 h10=>∃ x11,v9=(vi x11)∧R (vi x11) h10))))
theorem ok_value_Compare {u0 u1 u2 u3 h R}(H:VC_value_Compare u0 u1 u2 u3 h R):CallOK Try.prog 24 [vag [vi u0,vi u1],vag [vi u2,vi u3]] h R:=
 call_of (cfg:=⟨[],[],[(1,[0,1,2,3,5,6,7,8,4,9,10,11,12])]⟩) noNG mixed Try.func24 [.ag [.v (vi u0),.v (vi u1)],.ag [.v (vi u2),.v (vi u3)]] (by kernel_rfl) rfl (by kernel_rfl) H
def VC_cmp_Or_int (u0:Option Addr)(u1 u2:Nat)(h:Hp)(R:Value→Hp→Prop):Prop:=
 (∃(I2:List Value→Hp→Prop) (m3:List Value→Hp→Nat),I2 [vi 0] h∧∀ vs4 h5,I2 vs4 h5→∃ x6,vs4=[vi x6]∧(((decide (x6 < (u1:Int)))=true→(∃ b9 o10,(u0=some ⟨b9,o10,none⟩∧(0:Int)≤x6∧x6 < (u1:Int))∧(∃ x11,(Hp.cell h5 b9 (o10+x6.toNat*1)=some (vi x11))∧(((decide (x11≠0))=true→R (vi x11) h5)∧((decide (x11≠0))=false→(∃ x13,(IsW x13 (x6+1))∧(I2 [vi x13] h5∧m3 [vi x13] h5 < m3 vs4 h5)))))))∧((decide (x6 < (u1:Int)))=false→R (vi 0) h5)))
theorem ok_cmp_Or_int {u0 u1 u2 h R}(H:VC_cmp_Or_int u0 u1 u2 h R):CallOK Try.prog 29 [vsl u0 u1 u2] h R:=
 call_of (cfg:=⟨[],[(3,([8],[.one (.int .i64)],[]))],[]⟩) noNG mixed Try.func29 [.one (.v (vsl u0 u1 u2))] (by kernel_rfl) rfl (by kernel_rfl) H
def VC_cmp_Compare_int (u0:Int)(u1:Int)(h:Hp)(R:Value→Hp→Prop):Prop:=
 (CallOK Try.prog 37 [vi u0] h fun v1 h2=>∃ p3,v1=(vb p3)∧(CallOK Try.prog 37 [vi u1] h2 fun v4 h5=>∃ p6,v4=(vb p6)∧((p3=true→((p6=true→R (vi 0) h5)∧(p6=false→R (vi (-1)) h5)))∧(p3=false→((p6=true→R (vi 1) h5)∧(p6=false→(((decide (u0 < u1))=true→R (vi (-1)) h5)∧((decide (u0 < u1))=false→(((decide (u0 > u1))=true→R (vi 1) h5)∧((decide (u0 > u1))=false→R (vi 0) h5))))))))))
theorem ok_cmp_Compare_int {u0 u1 h R}(H:VC_cmp_Compare_int u0 u1 h R):CallOK Try.prog 30 [vi u0,vi u1] h R:=
 call_of (cfg:=⟨[],[],[]⟩) noNG mixed Try.func30 [.one (.v (vi u0)),.one (.v (vi u1))] (by kernel_rfl) rfl (by kernel_rfl) H
def VC_cmp_isNaN_int (u0:Int)(h:Hp)(R:Value→Hp→Prop):Prop:=
 R (vb (decide (u0≠u0))) h
theorem ok_cmp_isNaN_int {u0 h R}(H:VC_cmp_isNaN_int u0 h R):CallOK Try.prog 37 [vi u0] h R:=
 call_of (cfg:=⟨[],[],[]⟩) noNG mixed Try.func37 [.one (.v (vi u0))] (by kernel_rfl) rfl (by kernel_rfl) H
theorem cmp_Compare_ok {x y:Int}{h:Hp}{R:Value→Hp→Prop}(hK:R (vi (cmpI x y)) h):CallOK Try.prog 30 [vi x,vi y] h R:=by
 have nan:∀{z:Int} {K:Value→Hp→Prop},K (vb false) h→CallOK Try.prog 37 [vi z] h K:=by
  intro z K hk
  refine ok_cmp_isNaN_int ?_
  unfold VC_cmp_isNaN_int
  simpa using hk
 refine ok_cmp_Compare_int ?_
 unfold VC_cmp_Compare_int
 unfold cmpI at hK
 refine nan ⟨_,rfl,nan ⟨_,rfl,fun e=>by (cases e),fun _=>⟨fun e=>by (cases e),fun _=>⟨fun e=>?_,fun e=>⟨fun e2=>?_,fun e2=>?_⟩⟩⟩⟩⟩
 ·rw [if_pos (of_decide_eq_true e)] at hK;exact hK
 ·rw [if_neg (of_decide_eq_false e),if_pos (of_decide_eq_true e2)] at hK;exact hK
 ·rw [if_neg (of_decide_eq_false e),if_neg (of_decide_eq_false e2)] at hK;exact hK
theorem cmp_Or2_ok {x y:Int}{a:Option Addr}{c:Nat}{h:Hp}{R:Value→Hp→Prop}(S:SlI h a 2 [x,y])(hK:R (vi (if x≠0 then x else y)) h):CallOK Try.prog 29 [vsl a 2 c] h R:=by
 refine ok_cmp_Or_int ?_
 unfold VC_cmp_Or_int
 refine⟨fun vs hh=>hh=h∧∃ i:Nat,vs=[vi i]∧i≤2∧(0 < i→x=0)∧(1 < i→y=0),fun vs hh=>2 - (vint vs 0).toNat,⟨rfl,0,rfl,by decide,by simp,by simp⟩,?_⟩
 rintro vs hh ⟨rfl,i,rfl,hi,h1,h2⟩
 refine⟨i,rfl,fun e=>?_,fun e=>?_⟩
 ·have hlt:i < 2:=by have:=of_decide_eq_true e;omega
  obtain⟨b,o,ea,hc⟩:=S.get hlt
  refine⟨b,o,⟨ea,by omega,by omega⟩,_,hc,fun e=>?_,fun e=>⟨_,isW (by unfold InR;omega),⟨rfl,i+1,rfl,by omega,?_,?_⟩,by simp [vint];omega⟩⟩
  ·match i,hlt with
   | 0,_=>
    have hx:x≠0:=of_decide_eq_true e
    rw [if_pos hx] at hK;exact hK
   | 1,_=>
    have hx:=h1 (by decide)
    rw [if_neg (by simp [hx])] at hK;exact hK
  ·intro _
   match i,hlt with
   | 0,_=>have:=of_decide_eq_false e;simpa using this
   | 1,_=>exact h1 (by decide)
  ·intro hi1
   match i,hlt with
   | 0,_=>omega
   | 1,_=>have:=of_decide_eq_false e;simpa using this
 ·have hge:i=2:=by have:=of_decide_eq_false e;omega
  subst hge
  have hx:=h1 (by decide)
  have hy:=h2 (by decide)
  rw [if_neg (by simp [hx]),hy] at hK
  exact hK
theorem value_Compare_ok {a b:Int × Int}{h:Hp}{R:Value→Hp→Prop}(hK:∀ h',h.le h'→R (vi (cmpV a b)) h'):CallOK Try.prog 24 [vag (encV a),vag (encV b)] h R:=by
 refine ok_value_Compare ?_
 unfold VC_value_Compare
 refine cmp_Compare_ok ⟨_,rfl,cmp_Compare_ok ⟨_,rfl,?_⟩⟩
 intro b7 hb7 h8
 refine cmp_Or2_ok (x:=cmpI a.1 b.1) (y:=cmpI a.2 b.2) ⟨rfl,HasRow.new _ _ [vi (cmpI a.1 b.1),vi (cmpI a.2 b.2)] _⟩ ⟨_,rfl,hK _ (Hp.le_set (Hp.le_refl h) hb7 _)⟩
end Go.Proofs.Ytedmojjfdppffaa
namespace Go.Vc
open Go
section
variable {P:Program}{h:Hp}
theorem run_copy_rowK (w:World)(dT sT ty elem:TypeId)(k g o dLen dCap:Nat)(a:Addr)(sLen sCap:Nat)(cur:Array Value)(t:TypeId)(cs:List Value)
  (hu:P.underlying dT=some (.slice elem)) (hs:(P.info? elem).map (·.size)=some k)
  (hg:w.heap[g]?=some (.cells cur t (0,0))) (hn:cs.length=Nat.min sLen dLen*k)
  (hsrc:∀ j v,cs[j]?=some v→w.cell? (a.add j)=some v) (hfit:o+cs.length≤cur.size) (h1:∀ v ∈ cs,v.oneCell'=true) :
  (Builtin.copy_ #[dT,sT] ty #[.slice (some ⟨g,o,none⟩) dLen dCap,.slice (some a) sLen sCap]).run P w =
   .ok (goInt (Nat.min sLen dLen)) (w.setRow g (cur.toList.take o++cs++cur.toList.drop (o+cs.length)).toArray):=by
 have hl:=run_firstCells_some (P:=P) w k (Nat.min sLen dLen) a sLen sCap cs hn hsrc
 have hst:=run_storeCells_at P g o t cs 0 cur w hg (by simpa using hfit) h1
 cases hq:P.info? elem with
 | none=>simp [hq] at hs
 | some i=>
  have hi:i.size=k:=by simpa [hq] using hs
  simp [Builtin.copy_,run_underlying hu,Builtin.lenOf,sizeOf,typeInfo,hq,hi,hl,hst]
theorem sem_copyK {dT sT ty e:TypeId}(hu:P.underlying dT=some (.slice e)){k:Nat}(hi:(P.info? e).map (·.size)=some k){g o dLen dCap:Nat}{a2:Option Addr}{sLen c2:Nat}{L ys:List Value}{t:TypeId}(hg:h g=some (cellsO L t))(H:HasRow h a2 ys)(hl:ys.length=Nat.min sLen dLen*k)(hfit:o+ys.length≤L.length)
  (h1:∀ u ∈ ys,u.oneCell'=true) (hne:ys≠[]) {K:Value→Hp→Prop} (hK:K (vi (Nat.min sLen dLen:Nat)) (h.set g (cellsO (setL L o ys) t))):SemOK P (Builtin.copy_ #[dT,sT] ty #[vsl (some ⟨g,o,none⟩) dLen dCap,vsl a2 sLen c2]) h K:=by
 intro w hs
 rcases H with h4|⟨b2,o2,rfl,hr⟩
 ·exact absurd h4 hne
 ·have hrun:=run_copy_rowK (P:=P) w dT sT ty e k g o dLen dCap ⟨b2,o2,none⟩ sLen c2 L.toArray t ys hu hi (hs g _ hg) hl (fun j v hj=>by rw [addr_add];exact cell_cell (Hp.row_cell hr hj) hs) (by simpa using hfit) h1
  exact⟨_,_,_,hrun,setRow_Sub hs hg,setRow_Fr hg,hK⟩
theorem sem_clearK {t ty e:TypeId}{k bytes:Nat}(T:ElT P t e k bytes){z:List Value}(hz:(zeroL P e).map tvals=some z)(h1:∀ u ∈ z,u.oneCell'=true){g o n c:Nat}{L:List Value}(hn:0 < n)(hg:h g=some (cellsO L e))(hfit:o+n*k≤L.length){K:Value→Hp→Prop}
  (hK:K (vtup []) (h.set g (cellsO (setL L o ((List.replicate n z).flatten)) e))):SemOK P (Builtin.clear_ #[t] ty #[vsl (some ⟨g,o,none⟩) n c]) h K:=by
 intro w hs
 obtain⟨i,zv,hi,hiz,hsz,hby,hzs⟩:=T.el
 have hzl:z=zv.cells.toList:=by
  unfold zeroL at hz
  rw [hi] at hz
  simp only [Option.bind_some,hiz,Option.map_some,Option.some.injEq] at hz
  rw [←hz,tvals_tvsOf]
 have hzl2:z.length=k:=by rw [hzl,Array.length_toList];exact hzs
 have hfl:(Builtin.zeroCells zv.cells n).toList=(List.replicate n z).flatten:=by
  have e1:Builtin.zeroCells zv.cells n=((List.replicate n zv.cells.toList).flatten).toArray:=flat_zero zv.cells n (by rw [hzs];exact T.pos)
  rw [e1,hzl]
 have hlen:((List.replicate n z).flatten).length=n*k:=by rw [List.length_flatten];simp [hzl2]
 have h1':∀ u ∈ (List.replicate n z).flatten,u.oneCell'=true:=by
  intro u hu
  obtain⟨l,hl,hu⟩:=List.mem_flatten.1 hu
  rw [List.eq_of_mem_replicate hl] at hu
  exact h1 u hu
 have hst:=run_storeCells_at P g o e ((List.replicate n z).flatten) 0 L.toArray w (hs g _ hg) (by simp only [Nat.add_zero,List.size_toArray];rw [hlen];exact hfit) h1'
 have hrun:(Builtin.clear_ #[t] ty #[vsl (some ⟨g,o,none⟩) n c]).run P w=.ok (vtup []) (w.setRow g (setL L o ((List.replicate n z).flatten)).toArray):=by
  obtain⟨m,rfl⟩:∃ m,n=m+1:=⟨n - 1,by omega⟩
  simp only [Nat.add_zero] at hst
  simp [Builtin.clear_,run_underlying T.sl,zeroValue,typeInfo,hi,hiz,hfl,hst,setL]
 exact⟨_,_,_,hrun,setRow_Sub hs hg,setRow_Fr hg,hK⟩
theorem sem_append_zeros {t tn ty e:TypeId}{k bytes:Nat}(T:ElT P t e k bytes)(htn:P.underlying tn=some (.int .i64)){z:List Value}(hz:(zeroL P e).map tvals=some z){a:Option Addr}{n c m:Nat}{xs:List Value}(H:HasRow h a xs)(hxs:xs.length=n*k)(hm:0 < m)(hc:c < n+m)
  (hb:(n+m)*bytes≤140737488355328) (h63:n+m≤140737488355328) {K:Value→Hp→Prop}
  (hK:∀ a' c' h',OwnV h h' e k a' (n+m) c' (xs++(List.replicate m z).flatten)→K (vsl a' (n+m) c') h') :
  SemOK P (Builtin.append_ #[t,tn] ty #[vsl a n c,vi (m:Int)]) h K:=by
 intro w hs
 obtain⟨i,zv,hi,hiz,rfl,rfl,hzs⟩:=T.el
 have hzl:z=zv.cells.toList:=by
  unfold zeroL at hz
  rw [hi] at hz
  simp only [Option.bind_some,hiz,Option.map_some,Option.some.injEq] at hz
  rw [←hz,tvals_tvsOf]
 have hzl2:z.length=i.size:=by rw [hzl,Array.length_toList];exact hzs
 have hfl:∀ m,(Builtin.zeroCells zv.cells m).toList=(List.replicate m z).flatten:=fun m=>by
  have e1:Builtin.zeroCells zv.cells m=((List.replicate m zv.cells.toList).flatten).toArray:=flat_zero zv.cells m (by rw [hzs];exact T.pos)
  rw [e1,hzl]
 have hlen:((List.replicate m z).flatten).length=m*i.size:=by rw [List.length_flatten];simp [hzl2]
 have hold:(Builtin.firstCells i.size n (.slice a n c)).run P w.drew=.ok xs.toArray w.drew:=by
  cases a with
  | none=>
   have:xs=[]:=by
    rcases H with h4|⟨b,o,e,_⟩
    ·exact h4
    ·cases e
   subst this
   exact run_firstCells_none _ _ _ _ _
  | some ad=>
   have hsrc:=HasRow.cells hs H
   exact run_firstCells_some w.drew i.size n ad n c xs hxs (fun j v hj=>hsrc j v hj)
 have hbm:m*i.bytes≤(n+m)*i.bytes:=Nat.mul_le_mul_right _ (by omega)
 have hr:=Lib.run_append_grow_zeros (P:=P) w t tn ty e i zv .i64 .i64 T.sl htn hi hiz a n c xs hold m hm T.pos hc (by omega) (by omega) (growslice_fits hc hb)
 have hno:h w.heap.size=none:=Sub.none hs
 refine⟨_,_,_,hr,drew_alloc_Sub hs _,drew_alloc_Fr h w _,hK _ _ _ ⟨Hp.le_set (Hp.le_refl h) hno _,⟨?_,.inr ⟨w.heap.size,_,rfl,Hp.set_same _ _ _,grownCap_ge w (n+m) c e,grownCap_le_maxLen w (n+m) c e (by simp only [maxLen];omega),?_,?_⟩⟩,fun g hg=>by cases hg;exact hno⟩⟩
 ·rw [List.length_append,hlen,hxs,Nat.add_mul]
 ·have hge:=grownCap_ge w (n+m) c e
  simp only [Array.size_append,List.size_toArray,size_zeroCells,hzs,hxs,←Nat.add_mul]
  congr 1
  omega
 ·simp only [Array.toList_append,hfl m]
  rw [List.take_left' (by rw [List.length_append,hlen,hxs,Nat.add_mul])]
theorem ext_overlaps {f:FuncId}{fn:Func}{tS tR e:TypeId}(hf:P.funcs[f]?=some fn)(hname:(fn.name == "runtime.NumGoroutine")=false)(hb:fn.body.isNone=true)(hn:Extern.findNext fn=none)(he:Extern.find fn=some (Extern.SlicesOverlaps.overlaps #[tS,tS] #[tR]))
  (ht:P.underlying tS=some (.slice e)) (hi:(P.info? e).isSome=true) {b1 o1 b2 o2 la ca lb cb:Nat} (hne:b1≠b2) {L1 L2:List Value} {t1 t2:TypeId} (h1:h b1=some (cellsO L1 t1)) (h2:h b2=some (cellsO L2 t2)) (hL2:L2≠[]) {K:Value→Hp→Prop} (hK:K (vb false) h) :
  ExtOK P f [vsl (some ⟨b1,o1,none⟩) la ca,vsl (some ⟨b2,o2,none⟩) lb cb] h K:=by
 intro w hs
 obtain⟨i,hi⟩:=Option.isSome_iff_exists.1 hi
 have w1:=hs b1 _ h1
 have w2:=hs b2 _ h2
 refine⟨vb false,w,h,?_,hs,Fr.refl h w,hK⟩
 rw [run_callFunc_extern hf hname hb hn he]
 have:=Lib.run_overlaps_apart (P:=P) w tS tR e ht i.size (fun w=>by simp [sizeOf,typeInfo,hi]) ⟨b1,o1,none⟩ ⟨b2,o2,none⟩ la ca lb cb hne t1 t2 L1.length L2.length (by simp [World.shape?,w1]) (by simp [World.shape?,w2]) (by simpa using hL2) (by simp [World.frozen?,w1]) (by simp [World.frozen?,w1])
 show ((Extern.SlicesOverlaps.overlaps #[tS,tS] #[tR] #[.slice (some ⟨b1,o1,none⟩) la ca,.slice (some ⟨b2,o2,none⟩) lb cb]).run P w).andThen _=_
 rw [this]
 rfl
theorem rd_cap {t e ty:TypeId}(ht:P.underlying t=some (.slice e)){a:Option Addr}{n c:Nat}:Rd P (Builtin.cap_ #[t] ty #[vsl a n c]) h (vi (c:Int)):=by
 intro w _
 simp [Builtin.cap_,run_underlying ht,goInt]
theorem OwnV.grow {h0:Hp}{e:TypeId}{sz n m c:Nat}{a:Option Addr}{xs:List Value}(O:OwnV h0 h e sz a n c xs)(h1:n≤m)(h2:m≤c):∃ ys,ys.length=(m - n)*sz∧OwnV h0 h e sz a m c (xs++ys):=by
 obtain⟨l,⟨hl,O'⟩,nw⟩:=O
 rcases O' with ⟨ha,hn,hc⟩|⟨g,cur,ha,hg,h3,h4,h5,h6⟩
 ·have:m=n:=by omega
  subst this
  exact⟨[],by simp,l,by rw [List.append_nil];exact⟨hl,.inl ⟨ha,hn,hc⟩⟩,nw⟩
 ·have hb:n*sz≤m*sz:=Nat.mul_le_mul_right _ h1
  have hb2:m*sz≤c*sz:=Nat.mul_le_mul_right _ h2
  have hcl:cur.toList.length=c*sz:=by rw [Array.length_toList];exact h5
  refine⟨(cur.toList.take (m*sz)).drop (n*sz),by rw [List.length_drop,List.length_take,hcl,Nat.min_eq_left hb2,Nat.sub_mul],l,⟨?_,.inr ⟨g,cur,ha,hg,h2,h4,h5,?_⟩⟩,nw⟩
  ·rw [List.length_append,hl,List.length_drop,List.length_take,hcl,Nat.min_eq_left hb2]
   omega
  ·have h7:(cur.toList.take (m*sz)).take (n*sz)=xs:=by rw [List.take_take,Nat.min_eq_left hb];exact h6
   have h8:=List.take_append_drop (n*sz) (cur.toList.take (m*sz))
   rw [h7] at h8
   exact h8.symm
theorem OwnV.blk {h0:Hp}{e:TypeId}{sz n c:Nat}{a:Option Addr}{xs:List Value}(O:OwnV h0 h e sz a n c xs)(hc:0 < c)(hz:0 < sz):∃ g L,a=some ⟨g,0,none⟩∧h g=some (cellsO L e)∧L≠[]:=by
 obtain⟨l,⟨hl,O'⟩,nw⟩:=O
 rcases O' with ⟨ha,hn,hc'⟩|⟨g,cur,ha,hg,h3,h4,h5,h6⟩
 ·omega
 ·refine⟨g,cur.toList,ha,by rw [hg],fun e2=>?_⟩
  have:=congrArg List.length e2
  rw [Array.length_toList,h5] at this
  have:=Nat.mul_pos hc hz
  simp at *
  omega
theorem OwnV.copy {h0:Hp}{dT sT ty e:TypeId}(hu:P.underlying dT=some (.slice e)){sz:Nat}(hi:(P.info? e).map (·.size)=some sz){n c:Nat}{a:Option Addr}{xs:List Value}(O:OwnV h0 h e sz a n c xs){g j dLen dCap:Nat}(ha:a=some ⟨g,0,none⟩){a2:Option Addr}{sLen c2:Nat}{ys:List Value}(H:HasRow h a2 ys)
  (hl:ys.length=Nat.min sLen dLen*sz) (hfit:j+ys.length≤n*sz) (h1:∀ u ∈ ys,u.oneCell'=true) (hne:ys≠[]) {K:Value→Hp→Prop}
  (hK:∀ h',OwnV h0 h' e sz a n c (setL xs j ys)→(∀ b o,b≠g→h b=some o→h' b=some o)→K (vi (Nat.min sLen dLen:Nat)) h'):SemOK P (Builtin.copy_ #[dT,sT] ty #[vsl (some ⟨g,j,none⟩) dLen dCap,vsl a2 sLen c2]) h K:=by
 obtain⟨l,⟨hl0,O'⟩,nw⟩:=O
 rcases O' with ⟨ha',_⟩|⟨g',cur,ha',hg,h3,h4,h5,h6⟩
 ·rw [ha'] at ha;cases ha
 ·rw [ha'] at ha
  cases ha
  have hb:n*sz≤c*sz:=Nat.mul_le_mul_right _ h3
  have hcl:cur.toList.length=c*sz:=by rw [Array.length_toList];exact h5
  refine sem_copyK hu hi (L:=cur.toList) (t:=e) (by rw [hg]) H hl (by omega) h1 hne ?_
  refine hK _ ⟨fun b o ho=>?_,⟨?_,.inr ⟨g,_,ha',Hp.set_same _ _ _,h3,h4,?_,?_⟩⟩,nw⟩ fun b o hne ho=>(Hp.set_other h _ hne).trans ho
  ·have hne:b≠g:=fun q=>by subst q;rw [nw b ha'] at ho;cases ho
   exact(Hp.set_other h _ hne).trans (l b o ho)
  ·rw [setL_length _ _ _ (by omega)];exact hl0
  ·show (setL cur.toList j ys).length=_
   rw [setL_length _ _ _ (by omega)];exact hcl
  ·show (setL cur.toList j ys).take (n*sz)=_
   rw [setL_take _ _ _ _ hfit (by rw [hcl];exact hb),h6]
theorem OwnV.clear {h0:Hp}{t ty e:TypeId}{sz bytes:Nat}(T:ElT P t e sz bytes){z:List Value}(hz:(zeroL P e).map tvals=some z)(h1:∀ u ∈ z,u.oneCell'=true)(hzl:z.length=sz){n c:Nat}{a:Option Addr}{xs:List Value}(O:OwnV h0 h e sz a n c xs){g j k dCap:Nat}(ha:a=some ⟨g,0,none⟩)(hk:0 < k)(hfit:j+k*sz≤n*sz){K:Value→Hp→Prop}
  (hK:∀ h',OwnV h0 h' e sz a n c (setL xs j ((List.replicate k z).flatten))→K (vtup []) h'):SemOK P (Builtin.clear_ #[t] ty #[vsl (some ⟨g,j,none⟩) k dCap]) h K:=by
 have hlen:((List.replicate k z).flatten).length=k*sz:=by rw [List.length_flatten];simp [hzl]
 obtain⟨l,⟨hl0,O'⟩,nw⟩:=O
 rcases O' with ⟨ha',_⟩|⟨g',cur,ha',hg,h3,h4,h5,h6⟩
 ·rw [ha'] at ha;cases ha
 ·rw [ha'] at ha
  cases ha
  have hb:n*sz≤c*sz:=Nat.mul_le_mul_right _ h3
  have hcl:cur.toList.length=c*sz:=by rw [Array.length_toList];exact h5
  refine sem_clearK T hz h1 hk (L:=cur.toList) (by rw [hg]) (by omega) ?_
  refine hK _ ⟨fun b o ho=>?_,⟨?_,.inr ⟨g,_,ha',Hp.set_same _ _ _,h3,h4,?_,?_⟩⟩,nw⟩
  ·have hne:b≠g:=fun q=>by subst q;rw [nw b ha'] at ho;cases ho
   exact(Hp.set_other h _ hne).trans (l b o ho)
  ·rw [setL_length _ _ _ (by omega)];exact hl0
  ·show (setL cur.toList j _).length=_
   rw [setL_length _ _ _ (by omega)];exact hcl
  ·show (setL cur.toList j _).take (n*sz)=_
   rw [setL_take _ _ _ _ (by omega) (by rw [hcl];exact hb),h6]
end
end Go.Vc
namespace Go.Proofs.Ytedmojjfdppffaa
open Go Go.Vc
def VC_panes_Table_find (u0:Option Addr)(u1 u2:Nat)(u3:Int)(u4:Int)(u5:Int)(h:Hp)(R:Value→Hp→Prop):Prop:=
 (∀ b1,h b1=none→let h2:= Hp.set h b1 (cellsO [vi u3] 3);(CallOK Try.prog 27 [vsl u0 u1 u2,vag [vi u4,vi u5],(Value.func (.func 28) #[] #[vhp b1 0])] h2 fun v3 h4=>∃ x5 p6,v3=(vtup [vi x5,vb p6])∧R (vtup [vi x5,vb p6]) h4))
theorem ok_panes_Table_find {u0 u1 u2 u3 u4 u5 h R}(H:VC_panes_Table_find u0 u1 u2 u3 u4 u5 h R):CallOK Try.prog 15 [vag [vsl u0 u1 u2],vi u3,vag [vi u4,vi u5]] h R:=
 call_of (cfg:=⟨[4],[],[]⟩) noNG mixed Try.func15 [.ag [.v (vsl u0 u1 u2)],.one (.v (vi u3)),.ag [.v (vi u4),.v (vi u5)]] (by kernel_rfl) rfl (by kernel_rfl) H
def VC_panes_Table_find_1 (u0:Int)(u1:Int)(u2:Int)(u3:Option Addr)(u4 u5:Nat)(u6:Bool)(u7:Int)(u8:Int)(f_0b f_0o:Nat)(h:Hp)(R:Value→Hp→Prop):Prop:=
 (∃ x1,(Hp.cell h f_0b f_0o=some (vi x1))∧(CallOK Try.prog 30 [vi u0,vi x1] h fun v2 h3=>∃ x4,v2=(vi x4)∧(CallOK Try.prog 24 [vag [vi u1,vi u2],vag [vi u7,vi u8]] h3 fun v5 h6=>∃ x7,v5=(vi x7)∧(∀ b8,h6 b8=none→let h9:= Hp.set h6 b8 (cellsO [vi x4,vi x7] 3);(CallOK Try.prog 29 [(vsl (some (⟨b8,0,none⟩:Addr)) 2 2)] h9 fun v10 h11=>∃ x12,v10=(vi x12)∧R (vi x12) h11)))))
theorem ok_panes_Table_find_1 {u0 u1 u2 u3 u4 u5 u6 u7 u8 f_0b f_0o h R}(H:VC_panes_Table_find_1 u0 u1 u2 u3 u4 u5 u6 u7 u8 f_0b f_0o h R):CallOK Try.prog 28 [vag [vi u0,vi u1,vi u2,vsl u3 u4 u5,vb u6],vag [vi u7,vi u8],vhp f_0b f_0o] h R:=
 call_of (cfg:=⟨[],[],[(1,[0,1,2,4,5,6,3,7,8,9,10])]⟩) noNG mixed Try.func28 [.ag [.v (vi u0),.v (vi u1),.v (vi u2),.v (vsl u3 u4 u5),.v (vb u6)],.ag [.v (vi u7),.v (vi u8)],.one (.hp f_0b f_0o)] (by kernel_rfl) rfl (by kernel_rfl) H
def VC_slices_BinarySearchFunc_panes_Pane_panes_Pane_api_Value (u0:Option Addr)(u1 u2:Nat)(u3:Int)(u4:Int)(u5:Value)(h:Hp)(R:Value→Hp→Prop):Prop:=
 (∃(I2:List Value→Hp→Prop) (m3:List Value→Hp→Nat),I2 [vi 0,(vi (u1:Int))] h∧∀ vs4 h5,I2 vs4 h5→∃ x6 x7,vs4=[vi x6,vi x7]∧(((decide (x6 < x7))=true→(∃ x10,(IsW x10 (x6+x7))∧(∃ x11,(Rd Try.prog (binOp .shr 76 (vk .u64 (IntKind.wrap .u64 x10)) (vk .u64 1)) h5 (vk .u64 x11))∧(∃ b12 o13,(u0=some ⟨b12,o13,none⟩∧(0:Int)≤(IntKind.wrap .i64 x11)∧(IntKind.wrap .i64 x11) < (u1:Int))∧(∃ x14 x15 x16 a17 n17 c17 p18,(Hp.row h5 b12 (o13+(IntKind.wrap .i64 x11).toNat*5) 5=some [vi x14,vi x15,vi x16,vsl a17 n17 c17,vb p18])∧(InvOK Try.prog u5 [vag [vi x14,vi x15,vi x16,vsl a17 n17 c17,vb p18],vag [vi u3,vi u4]] h5 fun v19 h20=>∃ x21,v19=(vi x21)∧(((decide (x21 < 0))=true→(∃ x22,(IsW x22 ((IntKind.wrap .i64 x11)+1))∧(I2 [vi x22,vi x7] h20∧m3 [vi x22,vi x7] h20 < m3 vs4 h5)))∧((decide (x21 < 0))=false→(I2 [vi x6,(vi (IntKind.wrap .i64 x11))] h20∧m3 [vi x6,(vi (IntKind.wrap .i64 x11))] h20 < m3 vs4 h5)))))))))∧((decide (x6 < x7))=false→(∃ b23 o24,((decide (x6 < (u1:Int)))=true→(u0=some ⟨b23,o24,none⟩∧(0:Int)≤x6∧x6 < (u1:Int)))∧(∃ x25 x26 x27 a28 n28 c28 p29,((decide (x6 < (u1:Int)))=true→Hp.row h5 b23 (o24+x6.toNat*5) 5=some [vi x25,vi x26,vi x27,vsl a28 n28 c28,vb p29])∧(∃(J30:SV→Hp→Prop),((decide (x6 < (u1:Int)))=true→(InvOK Try.prog u5 [vag [vi x25,vi x26,vi x27,vsl a28 n28 c28,vb p29],vag [vi u3,vi u4]] h5 fun v31 h32=>∃ x33,v31=(vi x33)∧J30 (.t (.one (.v (vi x33)))) h32))∧(¬((decide (x6 < (u1:Int)))=true)→J30 (.t (.one (.v (vi 0)))) h5)∧∀ h34 x35,J30 (.t (.one (.v (vi x35)))) h34→R (vtup [vi x6,(vb (bif (decide (x6 < (u1:Int))) then(decide (x35=0)) else false))]) h34))))))
theorem ok_slices_BinarySearchFunc_panes_Pane_panes_Pane_api_Value {u0 u1 u2 u3 u4 u5 h R}(H:VC_slices_BinarySearchFunc_panes_Pane_panes_Pane_api_Value u0 u1 u2 u3 u4 u5 h R):CallOK Try.prog 27 [vsl u0 u1 u2,vag [vi u3,vi u4],u5] h R:=
 call_of (cfg:=⟨[],[(3,([9,10],[.one (.int .i64),.one (.int .i64)],[]))],[(5,[0,1,2,3,4,5,6,7]),(8,[0,1,2,3,4,5,6,7,8,9,10,11,12,13,14,15])]⟩) noNG mixed Try.func27 [.one (.v (vsl u0 u1 u2)),.ag [.v (vi u3),.v (vi u4)],.one (.v u5)] (by kernel_rfl) rfl (by kernel_rfl) H
def VC_slices_Clone_panes_Pane_panes_Pane (u0:Option Addr)(u1 u2:Nat)(h:Hp)(R:Value→Hp→Prop):Prop:=
 (∃ p1,(Rd Try.prog ((eqGuard .eql 25 (.tmp 3) (.const (vsl none 0 0)) (vsl u0 u1 u2) (vsl none 0 0) >>= fun _=>binOp .eql 25 (vsl u0 u1 u2) (vsl none 0 0))) h (vb p1))∧((p1=true→R (vsl none 0 0) h)∧(p1=false→(∀ b3,h b3=none→let h4:= Hp.set h b3 (cellsO [] 39);(SemOK Try.prog (Builtin.append_ #[25,25] 25 #[(vsl (some (⟨b3,0,none⟩:Addr)) 0 0),vsl u0 u1 u2]) h4 fun v5 h6=>∃ a7 n7 c7,v5=(vsl a7 n7 c7)∧R (vsl a7 n7 c7) h6)))))
theorem ok_slices_Clone_panes_Pane_panes_Pane {u0 u1 u2 h R}(H:VC_slices_Clone_panes_Pane_panes_Pane u0 u1 u2 h R):CallOK Try.prog 16 [vsl u0 u1 u2] h R:=
 call_of (cfg:=⟨[],[],[]⟩) noNG mixed Try.func16 [.one (.v (vsl u0 u1 u2))] (by kernel_rfl) rfl (by kernel_rfl) H
def VC_slices_Clone_gather_Acc_gather_Acc (u0:Option Addr)(u1 u2:Nat)(h:Hp)(R:Value→Hp→Prop):Prop:=
 (∃ p1,(Rd Try.prog ((eqGuard .eql 37 (.tmp 3) (.const (vsl none 0 0)) (vsl u0 u1 u2) (vsl none 0 0) >>= fun _=>binOp .eql 37 (vsl u0 u1 u2) (vsl none 0 0))) h (vb p1))∧((p1=true→R (vsl none 0 0) h)∧(p1=false→(∀ b3,h b3=none→let h4:= Hp.set h b3 (cellsO [] 57);(SemOK Try.prog (Builtin.append_ #[37,37] 37 #[(vsl (some (⟨b3,0,none⟩:Addr)) 0 0),vsl u0 u1 u2]) h4 fun v5 h6=>∃ a7 n7 c7,v5=(vsl a7 n7 c7)∧R (vsl a7 n7 c7) h6)))))
theorem ok_slices_Clone_gather_Acc_gather_Acc {u0 u1 u2 h R}(H:VC_slices_Clone_gather_Acc_gather_Acc u0 u1 u2 h R):CallOK Try.prog 19 [vsl u0 u1 u2] h R:=
 call_of (cfg:=⟨[],[],[]⟩) noNG mixed Try.func19 [.one (.v (vsl u0 u1 u2))] (by kernel_rfl) rfl (by kernel_rfl) H
def VC_slices_Insert_panes_Pane_panes_Pane (u0:Option Addr)(u1 u2:Nat)(u3:Int)(u4:Option Addr)(u5 u6:Nat)(h:Hp)(R:Value→Hp→Prop):Prop:=
 (∃ a1 n1 c1,(Rd Try.prog (Instr.sliceAt 25 (vsl u0 u1 u2) (some (vi u3)) none none) h (vsl a1 n1 c1))∧(((decide ((u5:Int)=0))=true→R (vsl u0 u1 u2) h)∧((decide ((u5:Int)=0))=false→(((decide (u3=(u1:Int)))=true→(SemOK Try.prog (Builtin.append_ #[25,25] 25 #[vsl u0 u1 u2,vsl u4 u5 u6]) h fun v3 h4=>∃ a5 n5 c5,v3=(vsl a5 n5 c5)∧R (vsl a5 n5 c5) h4))∧((decide (u3=(u1:Int)))=false→(∃ x7,(IsW x7 ((u1:Int)+(u5:Int)))∧(∃ x8,(Rd Try.prog (Builtin.cap_ #[25] 3 #[vsl u0 u1 u2]) h (vi x8))∧(((decide (x7 > x8))=true→(∃ a9 n9 c9,(Rd Try.prog (Instr.sliceAt 25 (vsl u0 u1 u2) none (some (vi u3)) none) h (vsl a9 n9 c9))∧(∃ x10,(IsW x10 ((u1:Int)+(u5:Int)))∧(∃ x11,(IsW x11 (x10 - u3))∧(SemOK Try.prog (Builtin.append_ #[25,3] 25 #[vsl a9 n9 c9,vi x11]) h fun v12 h13=>∃ a14 n14 c14,v12=(vsl a14 n14 c14)∧(∃ a15 n15 c15,(Rd Try.prog (Instr.sliceAt 25 (vsl a14 n14 c14) (some (vi u3)) none none) h13 (vsl a15 n15 c15))∧(SemOK Try.prog (Builtin.copy_ #[25,25] 3 #[vsl a15 n15 c15,vsl u4 u5 u6]) h13 fun v16 h17=>∃ x18,v16=(vi x18)∧(∃ x19,(IsW x19 (u3+(u5:Int)))∧(∃ a20 n20 c20,(Rd Try.prog (Instr.sliceAt 25 (vsl a14 n14 c14) (some (vi x19)) none none) h17 (vsl a20 n20 c20))∧(∃ a21 n21 c21,(Rd Try.prog (Instr.sliceAt 25 (vsl u0 u1 u2) (some (vi u3)) none none) h17 (vsl a21 n21 c21))∧(SemOK Try.prog (Builtin.copy_ #[25,25] 3 #[vsl a20 n20 c20,vsl a21 n21 c21]) h17 fun v22 h23=>∃ x24,v22=(vi x24)∧R (vsl a14 n14 c14) h23)))))))))))∧((decide (x7 > x8))=false→(∃ x26,(IsW x26 ((u1:Int)+(u5:Int)))∧(∃ a27 n27 c27,(Rd Try.prog (Instr.sliceAt 25 (vsl u0 u1 u2) none (some (vi x26)) none) h (vsl a27 n27 c27))∧(∃ x28,(IsW x28 (u3+(u5:Int)))∧(∃ a29 n29 c29,(Rd Try.prog (Instr.sliceAt 25 (vsl a27 n27 c27) (some (vi x28)) none none) h (vsl a29 n29 c29))∧(ExtOK Try.prog 31 [vsl u4 u5 u6,vsl a29 n29 c29] h fun v30 h31=>∃ p32,v30=(vb p32)∧(((!p32)=true→(∃ x33,(IsW x33 (u3+(u5:Int)))∧(∃ a34 n34 c34,(Rd Try.prog (Instr.sliceAt 25 (vsl a27 n27 c27) (some (vi x33)) none none) h31 (vsl a34 n34 c34))∧(∃ a35 n35 c35,(Rd Try.prog (Instr.sliceAt 25 (vsl a27 n27 c27) (some (vi u3)) none none) h31 (vsl a35 n35 c35))∧(SemOK Try.prog (Builtin.copy_ #[25,25] 3 #[vsl a34 n34 c34,vsl a35 n35 c35]) h31 fun v36 h37=>∃ x38,v36=(vi x38)∧(∃ a39 n39 c39,(Rd Try.prog (Instr.sliceAt 25 (vsl a27 n27 c27) (some (vi u3)) none none) h37 (vsl a39 n39 c39))∧(SemOK Try.prog (Builtin.copy_ #[25,25] 3 #[vsl a39 n39 c39,vsl u4 u5 u6]) h37 fun v40 h41=>∃ x42,v40=(vi x42)∧R (vsl a27 n27 c27) h41)))))))∧((!p32)=false→(∃ a44 n44 c44,(Rd Try.prog (Instr.sliceAt 25 (vsl a27 n27 c27) (some (vi (u1:Int))) none none) h31 (vsl a44 n44 c44))∧(SemOK Try.prog (Builtin.copy_ #[25,25] 3 #[vsl a44 n44 c44,vsl u4 u5 u6]) h31 fun v45 h46=>∃ x47,v45=(vi x47)∧(∃ a48 n48 c48,(Rd Try.prog (Instr.sliceAt 25 (vsl a27 n27 c27) (some (vi u3)) none none) h46 (vsl a48 n48 c48))∧(CallOK Try.prog 32 [vsl a48 n48 c48,(vi (u5:Int))] h46 fun v49 h50=>v49=(vtup [])∧R (vsl a27 n27 c27) h50))))))))))))))))))))
theorem ok_slices_Insert_panes_Pane_panes_Pane {u0 u1 u2 u3 u4 u5 u6 h R}(H:VC_slices_Insert_panes_Pane_panes_Pane u0 u1 u2 u3 u4 u5 u6 h R):CallOK Try.prog 18 [vsl u0 u1 u2,vi u3,vsl u4 u5 u6] h R:=
 call_of (cfg:=⟨[],[],[(11,[0,1,2,3,4,5,6,7,8]),(15,[0,1,2,3,4,5,6,7,8])]⟩) noNG mixed Try.func18 [.one (.v (vsl u0 u1 u2)),.one (.v (vi u3)),.one (.v (vsl u4 u5 u6))] (by kernel_rfl) rfl (by kernel_rfl) H
def VC_panes_Table_Add (u0:Option Addr)(u1 u2:Nat)(u3:Int)(u4:Int)(u5:Int)(u6:Option Addr)(u7 u8:Nat)(u9:Option Addr)(u10 u11:Nat)(h:Hp)(R:Value→Hp→Prop):Prop:=
 (CallOK Try.prog 15 [vag [vsl u0 u1 u2],vi u3,vag [vi u4,vi u5]] h fun v1 h2=>∃ x3 p4,v1=(vtup [vi x3,vb p4])∧(CallOK Try.prog 16 [vsl u0 u1 u2] h2 fun v5 h6=>∃ a7 n7 c7,v5=(vsl a7 n7 c7)∧(let J83:Option Addr→Nat→Nat→Int→Int→Int→Option Addr→Nat→Nat→Bool→Hp→Prop:=fun a315 n315 c315 x316 x317 x318 a319 n319 c319 p320 h321=>(∃ b322 o323,(a315=some ⟨b322,o323,none⟩∧(0:Int)≤x3∧x3 < (n315:Int))∧(∃ x324 x325 x326 a327 n327 c327 p328,(Hp.row h321 b322 (o323+x3.toNat*5) 5=some [vi x324,vi x325,vi x326,vsl a327 n327 c327,vb p328])∧(CallOK Try.prog 19 [vsl a327 n327 c327] h321 fun v329 h330=>∃ a331 n331 c331,v329=(vsl a331 n331 c331)∧(∃(I333:List Value→Hp→Prop) (m334:List Value→Hp→Nat),I333 [vi 0] h330∧∀ vs335 h336,I333 vs335 h336→∃ x337,vs335=[vi x337]∧(((decide (x337 < (u10:Int)))=true→(∃ b340 o341,(u9=some ⟨b340,o341,none⟩∧(0:Int)≤x337∧x337 < (u10:Int))∧(∃ x342 x343,(Hp.row h336 b340 (o341+x337.toNat*2) 2=some [vi x342,vi x343])∧(∃ b344 o345,(a331=some ⟨b344,o345,none⟩∧(0:Int)≤x337∧x337 < (n331:Int))∧(∃ x346 x347 x348 x349,(Hp.row h336 b344 (o345+x337.toNat*4) 4=some [vi x346,vi x347,vi x348,vi x349])∧(CallOK Try.prog 20 [vag [vi x346,vi x347,vi x348,vi x349],vag [vi x342,vi x343]] h336 fun v350 h351=>∃ x352 x353 x354 x355,v350=(vag [vi x352,vi x353,vi x354,vi x355])∧(∃ b356 o357,(a331=some ⟨b356,o357,none⟩∧(0:Int)≤x337∧x337 < (n331:Int))∧(Hp.store h351 b356 (o357+x337.toNat*4) [vi x352,vi x353,vi x354,vi x355] fun h358=>(∃ x360,(IsW x360 (x337+1))∧(I333 [vi x360] h358∧m334 [vi x360] h358 < m334 vs335 h336))))))))))∧((decide (x337 < (u10:Int)))=false→(∃ b361 o362,(a315=some ⟨b361,o362,none⟩∧(0:Int)≤x3∧x3 < (n315:Int))∧(Hp.store h336 b361 (o362+x3.toNat*5) [vi x324,vi x325,vi x326,vsl a331 n331 c331,vb p328] fun h363=>R (vtup [vag [vsl a315 n315 c315],vag [vi x316,vi x317,vi x318,vsl a319 n319 c319,vb p320],vb p4]) h363))))))));((p4=true→(∃ b8 o9,(a7=some ⟨b8,o9,none⟩∧(0:Int)≤x3∧x3 < (n7:Int))∧(∃ x10 x11 x12 a13 n13 c13 p14,(Hp.row h6 b8 (o9+x3.toNat*5) 5=some [vi x10,vi x11,vi x12,vsl a13 n13 c13,vb p14])∧(J83 a7 n7 c7 x10 x11 x12 a13 n13 c13 p14 h6))))∧(p4=false→(let J45:Int→Int→Int→Option Addr→Nat→Nat→Bool→Hp→Prop:=fun x71 x72 x73 a74 n74 c74 p75 h76=>(∀ b77,h76 b77=none→let h78:= Hp.set h76 b77 (cellsO [vi x71,vi x72,vi x73,vsl a74 n74 c74,vb p75] 39);(CallOK Try.prog 18 [vsl a7 n7 c7,vi x3,(vsl (some (⟨b77,0,none⟩:Addr)) 1 1)] h78 fun v79 h80=>∃ a81 n81 c81,v79=(vsl a81 n81 c81)∧(J83 a81 n81 c81 0 0 0 none 0 0 false h80)));(∃(I17:List Value→Hp→Prop) (m18:List Value→Hp→Nat),I17 [vi 0,vi u3,vi u4,vi u5,vsl none 0 0,vb false] h6∧∀ vs19 h20,I17 vs19 h20→∃ x21 x22 x23 x24 a25 n25 c25 p26,vs19=[vi x21,vi x22,vi x23,vi x24,vsl a25 n25 c25,vb p26]∧(((decide (x21 < (u7:Int)))=true→(∃ b29 o30,(u6=some ⟨b29,o30,none⟩∧(0:Int)≤x21∧x21 < (u7:Int))∧(∃ x31,(Hp.cell h20 b29 (o30+x21.toNat*1)=some (vi x31))∧(CallOK Try.prog 17 [vi x31] h20 fun v32 h33=>∃ x34 x35 x36 x37,v32=(vag [vi x34,vi x35,vi x36,vi x37])∧(∀ b38,h33 b38=none→let h39:= Hp.set h33 b38 (cellsO [vi x34,vi x35,vi x36,vi x37] 57);(SemOK Try.prog (Builtin.append_ #[37,37] 37 #[vsl a25 n25 c25,(vsl (some (⟨b38,0,none⟩:Addr)) 1 1)]) h39 fun v40 h41=>∃ a42 n42 c42,v40=(vsl a42 n42 c42)∧(∃ x44,(IsW x44 (x21+1))∧(I17 [vi x44,vi x22,vi x23,vi x24,vsl a42 n42 c42,vb p26] h41∧m18 [vi x44,vi x22,vi x23,vi x24,vsl a42 n42 c42,vb p26] h41 < m18 vs19 h20))))))))∧((decide (x21 < (u7:Int)))=false→(J45 x22 x23 x24 a25 n25 c25 p26 h20))))))))))
theorem ok_panes_Table_Add {u0 u1 u2 u3 u4 u5 u6 u7 u8 u9 u10 u11 h R}(H:VC_panes_Table_Add u0 u1 u2 u3 u4 u5 u6 u7 u8 u9 u10 u11 h R):CallOK Try.prog 7 [vag [vsl u0 u1 u2],vi u3,vag [vi u4,vi u5],vsl u6 u7 u8,vsl u9 u10 u11] h R:=
 call_of (cfg:=⟨[],[(7,([41],[.one (.int .i64)],[(4,[.int .i64,.int .i64,.int .i64,.slice,.bool])])),(15,([68],[.one (.int .i64)],[]))],[(9,[0,1,2,3,4,5,6,7]),(17,[0,1,2,3,4,5,6,7,8,9,10,11]),(20,[0,1,2,3,4,5,6])]⟩) noNG mixed Try.func7 [.ag [.v (vsl u0 u1 u2)],.one (.v (vi u3)),.ag [.v (vi u4),.v (vi u5)],.one (.v (vsl u6 u7 u8)),.one (.v (vsl u9 u10 u11))] (by kernel_rfl) rfl (by kernel_rfl) H
def VC_panes_Table_Tell (u0:Option Addr)(u1 u2:Nat)(u3:Int)(u4:Int)(h:Hp)(R:Value→Hp→Prop):Prop:=
 (CallOK Try.prog 16 [vsl u0 u1 u2] h fun v1 h2=>∃ a3 n3 c3,v1=(vsl a3 n3 c3)∧(∃(I5:List Value→Hp→Prop) (m6:List Value→Hp→Nat),I5 [vsl none 0 0,vi 0] h2∧∀ vs7 h8,I5 vs7 h8→∃ a9 n9 c9 x10,vs7=[vsl a9 n9 c9,vi x10]∧(((decide (x10 < (n3:Int)))=true→(let J38:Option Addr→Nat→Nat→Hp→Prop:=fun a41 n41 c41 h42=>(∃ x43,(IsW x43 (x10+1))∧(I5 [vsl a41 n41 c41,vi x43] h42∧m6 [vsl a41 n41 c41,vi x43] h42 < m6 vs7 h8));(∃ b13 o14,(a3=some ⟨b13,o14,none⟩∧(0:Int)≤x10∧x10 < (n3:Int))∧(∃ x15 x16 x17 a18 n18 c18 p19,(Hp.row h8 b13 (o14+x10.toNat*5) 5=some [vi x15,vi x16,vi x17,vsl a18 n18 c18,vb p19])∧(∃ x20,((!p19)=true→IsW x20 (x15+u3))∧(((bif (!p19) then(decide (x20≤u4)) else false)=true→(∃ b21 o22,(a3=some ⟨b21,o22,none⟩∧(0:Int)≤x10∧x10 < (n3:Int))∧(Hp.store h8 b21 ((o22+x10.toNat*5)+4) [vb true] fun h23=>(∃ b24 o25,(a3=some ⟨b24,o25,none⟩∧(0:Int)≤x10∧x10 < (n3:Int))∧(∃ x26 x27 x28 a29 n29 c29 p30,(Hp.row h23 b24 (o25+x10.toNat*5) 5=some [vi x26,vi x27,vi x28,vsl a29 n29 c29,vb p30])∧(∀ b31,h23 b31=none→let h32:= Hp.set h23 b31 (cellsO [vi x26,vi x27,vi x28,vsl a29 n29 c29,vb p30] 39);(SemOK Try.prog (Builtin.append_ #[25,25] 25 #[vsl a9 n9 c9,(vsl (some (⟨b31,0,none⟩:Addr)) 1 1)]) h32 fun v33 h34=>∃ a35 n35 c35,v33=(vsl a35 n35 c35)∧(J38 a35 n35 c35 h34))))))))∧((bif (!p19) then(decide (x20≤u4)) else false)=false→(J38 a9 n9 c9 h8))))))))∧((decide (x10 < (n3:Int)))=false→R (vtup [vag [vsl a3 n3 c3],vsl a9 n9 c9]) h8))))
theorem ok_panes_Table_Tell {u0 u1 u2 u3 u4 h R}(H:VC_panes_Table_Tell u0 u1 u2 u3 u4 h R):CallOK Try.prog 11 [vag [vsl u0 u1 u2],vi u3,vi u4] h R:=
 call_of (cfg:=⟨[],[(4,([9,17],[.one (.slice),.one (.int .i64)],[]))],[]⟩) noNG mixed Try.func11 [.ag [.v (vsl u0 u1 u2)],.one (.v (vi u3)),.one (.v (vi u4))] (by kernel_rfl) rfl (by kernel_rfl) H
def VC_panes_Table_Drop (u0:Option Addr)(u1 u2:Nat)(u3:Int)(u4:Int)(h:Hp)(R:Value→Hp→Prop):Prop:=
 (∀ b1,h b1=none→let h2:= Hp.set h b1 (cellsO [vi u3] 3);(∀ b3,h2 b3=none→let h4:= Hp.set h2 b3 (cellsO [vi u4] 3);(CallOK Try.prog 16 [vsl u0 u1 u2] h4 fun v5 h6=>∃ a7 n7 c7,v5=(vsl a7 n7 c7)∧(CallOK Try.prog 25 [vsl a7 n7 c7,(Value.func (.func 26) #[] #[vhp b1 0,vhp b3 0])] h6 fun v8 h9=>∃ a10 n10 c10,v8=(vsl a10 n10 c10)∧R (vag [vsl a10 n10 c10]) h9))))
theorem ok_panes_Table_Drop {u0 u1 u2 u3 u4 h R}(H:VC_panes_Table_Drop u0 u1 u2 u3 u4 h R):CallOK Try.prog 13 [vag [vsl u0 u1 u2],vi u3,vi u4] h R:=
 call_of (cfg:=⟨[4,5],[],[]⟩) noNG mixed Try.func13 [.ag [.v (vsl u0 u1 u2)],.one (.v (vi u3)),.one (.v (vi u4))] (by kernel_rfl) rfl (by kernel_rfl) H
def VC_panes_Table_Drop_1 (u0:Int)(u1:Int)(u2:Int)(u3:Option Addr)(u4 u5:Nat)(u6:Bool)(f_0b f_0o:Nat)(f_1b f_1o:Nat)(h:Hp)(R:Value→Hp→Prop):Prop:=
 (∃ x1,(Hp.cell h f_0b f_0o=some (vi x1))∧(∃ x2,(IsW x2 (u0+x1))∧(∃ x3,(Hp.cell h f_1b f_1o=some (vi x3))∧R (vb (decide (x2≤x3))) h)))
theorem ok_panes_Table_Drop_1 {u0 u1 u2 u3 u4 u5 u6 f_0b f_0o f_1b f_1o h R}(H:VC_panes_Table_Drop_1 u0 u1 u2 u3 u4 u5 u6 f_0b f_0o f_1b f_1o h R):CallOK Try.prog 26 [vag [vi u0,vi u1,vi u2,vsl u3 u4 u5,vb u6],vhp f_0b f_0o,vhp f_1b f_1o] h R:=
 call_of (cfg:=⟨[],[],[]⟩) noNG mixed Try.func26 [.ag [.v (vi u0),.v (vi u1),.v (vi u2),.v (vsl u3 u4 u5),.v (vb u6)],.one (.hp f_0b f_0o),.one (.hp f_1b f_1o)] (by kernel_rfl) rfl (by kernel_rfl) H
def VC_slices_DeleteFunc_panes_Pane_panes_Pane (u0:Option Addr)(u1 u2:Nat)(u3:Value)(h:Hp)(R:Value→Hp→Prop):Prop:=
 (CallOK Try.prog 36 [vsl u0 u1 u2,u3] h fun v1 h2=>∃ x3,v1=(vi x3)∧(((decide (x3=(-1)))=true→R (vsl u0 u1 u2) h2)∧((decide (x3=(-1)))=false→(∃ x5,(IsW x5 (x3+1))∧(∃(I7:List Value→Hp→Prop) (m8:List Value→Hp→Nat),I7 [vi x3,vi x5] h2∧∀ vs9 h10,I7 vs9 h10→∃ x11 x12,vs9=[vi x11,vi x12]∧(((decide (x12 < (u1:Int)))=true→(let J31:Int→Hp→Prop:=fun x34 h35=>(∃ x36,(IsW x36 (x12+1))∧(I7 [vi x34,vi x36] h35∧m8 [vi x34,vi x36] h35 < m8 vs9 h10));(∃ b15 o16,(u0=some ⟨b15,o16,none⟩∧(0:Int)≤x12∧x12 < (u1:Int))∧(∃ x17 x18 x19 a20 n20 c20 p21,(Hp.row h10 b15 (o16+x12.toNat*5) 5=some [vi x17,vi x18,vi x19,vsl a20 n20 c20,vb p21])∧(InvOK Try.prog u3 [vag [vi x17,vi x18,vi x19,vsl a20 n20 c20,vb p21]] h10 fun v22 h23=>∃ p24,v22=(vb p24)∧(((!p24)=true→(∃ b25 o26,(u0=some ⟨b25,o26,none⟩∧(0:Int)≤x11∧x11 < (u1:Int))∧(Hp.store h23 b25 (o26+x11.toNat*5) [vi x17,vi x18,vi x19,vsl a20 n20 c20,vb p21] fun h27=>(∃ x28,(IsW x28 (x11+1))∧(J31 x28 h27)))))∧((!p24)=false→(J31 x11 h23))))))))∧((decide (x12 < (u1:Int)))=false→(∃ a37 n37 c37,(Rd Try.prog (Instr.sliceAt 25 (vsl u0 u1 u2) (some (vi x11)) none none) h10 (vsl a37 n37 c37))∧(SemOK Try.prog (Builtin.clear_ #[25] 0 #[vsl a37 n37 c37]) h10 fun v38 h39=>v38=(vtup [])∧(∃ a40 n40 c40,(Rd Try.prog (Instr.sliceAt 25 (vsl u0 u1 u2) none (some (vi x11)) none) h39 (vsl a40 n40 c40))∧R (vsl a40 n40 c40) h39))))))))))
theorem ok_slices_DeleteFunc_panes_Pane_panes_Pane {u0 u1 u2 u3 h R}(H:VC_slices_DeleteFunc_panes_Pane_panes_Pane u0 u1 u2 u3 h R):CallOK Try.prog 25 [vsl u0 u1 u2,u3] h R:=
 call_of (cfg:=⟨[],[(5,([5,6],[.one (.int .i64),.one (.int .i64)],[]))],[]⟩) noNG mixed Try.func25 [.one (.v (vsl u0 u1 u2)),.one (.v u3)] (by kernel_rfl) rfl (by kernel_rfl) H
def encPr (r:PR):List Value:=(prRow r).enc
theorem encPr_len (r:PR):(encPr r).length=5:=rfl
theorem one_encPr (r:PR):∀ u ∈ encPr r,u.oneCell'=true:=one_prow _
theorem one_prs (R:List PR):∀ u ∈ R.flatMap encPr,u.oneCell'=true:=by
 intro u hu
 obtain⟨r,_,hr⟩:=List.mem_flatMap.1 hu
 exact one_encPr r u hr
structure Tb (h:Hp)(a:Option Addr)(R:List PR):Prop where
 s:SlP encPr h a R.length R
 i:∀ r ∈ R,HasRow h r.a (r.acs.flatMap encAc)
theorem Tb.le {h h':Hp}{a:Option Addr}{R:List PR}(T:Tb h a R)(l:h.le h'):Tb h' a R:=⟨T.s.le l,fun r hr=>(T.i r hr).le l⟩
section
variable {h:Hp}{K':Value→Hp→Prop}{a:Option Addr}{R:List PR}{c:Nat}
theorem clone_Pane_ok (S:SlP encPr h a R.length R)(hn:R.length≤1000000)(hK:∀ a' c' h',OwnV h h' 39 5 a' R.length c' (R.flatMap encPr)→K' (vsl a' R.length c') h'):CallOK Try.prog 16 [vsl a R.length c] h K':=by
 refine ok_slices_Clone_panes_Pane_panes_Pane ?_
 unfold VC_slices_Clone_panes_Pane_panes_Pane
 refine⟨_,rd_eqNilS (e:=39) (by kernel_rfl),fun e=>?_,fun e=>?_⟩
 ·have h0:R.flatMap encPr=[]:=by
   rcases S.2 with h1|⟨b,o,ha,_⟩
   ·exact h1
   ·rw [ha] at e;cases e
  have hn0:R=[]:=by
   have:=congrArg List.length h0
   rw [flatMap_length encPr_len] at this
   exact List.eq_nil_of_length_eq_zero (by simp at this;omega)
  subst hn0
  exact hK none 0 h (OwnV.nil (Hp.le_refl h) _ _)
 ·intro b3 hb3 h4
  have O0:OwnV h h4 39 5 (some ⟨b3,0,none⟩) 0 0 []:=OwnV.mk_new (Hp.le_refl h) hb3 _ [] rfl (by simp [maxLen])
  refine OwnV.append elPane O0 (S.le (Hp.le_set (Hp.le_refl h) hb3 _)).2 (flatMap_length encPr_len R) (one_prs R) (by omega) (by omega) fun a' c' h' O' _ _=>⟨_,_,_,rfl,?_⟩
  rw [Nat.zero_add,List.nil_append] at *
  exact hK a' c' h' O'
theorem clone_Acc_ok {l:List AcS}(S:HasRow h a (l.flatMap encAc))(hn:l.length≤1000000)(hK:∀ a' c' h',VecA h h' a' c' l→K' (vsl a' l.length c') h'):CallOK Try.prog 19 [vsl a l.length c] h K':=by
 refine ok_slices_Clone_gather_Acc_gather_Acc ?_
 unfold VC_slices_Clone_gather_Acc_gather_Acc
 refine⟨_,rd_eqNilS (e:=57) (by kernel_rfl),fun e=>?_,fun e=>?_⟩
 ·have h0:l.flatMap encAc=[]:=by
   rcases S with h1|⟨b,o,ha,_⟩
   ·exact h1
   ·rw [ha] at e;cases e
  have hn0:l=[]:=by
   have:=congrArg List.length h0
   rw [flatMap_length encAc_len] at this
   exact List.eq_nil_of_length_eq_zero (by simp at this;omega)
  subst hn0
  exact hK none 0 h (OwnV.nil (Hp.le_refl h) _ _)
 ·intro b3 hb3 h4
  have O0:OwnV h h4 57 4 (some ⟨b3,0,none⟩) 0 0 []:=OwnV.mk_new (Hp.le_refl h) hb3 _ [] rfl (by simp [maxLen])
  have h1:∀ u ∈ l.flatMap encAc,u.oneCell'=true:=by
   intro u hu
   obtain⟨r,_,hr⟩:=List.mem_flatMap.1 hu
   exact one_ac r u hr
  refine OwnV.append elAcc O0 (S.le (Hp.le_set (Hp.le_refl h) hb3 _)) (flatMap_length encAc_len l) h1 (by omega) (by omega) fun a' c' h' O' _ _=>⟨_,_,_,rfl,?_⟩
  rw [Nat.zero_add,List.nil_append] at *
  exact hK a' c' h' O'
theorem index_Pane_ok {fv:Value}{p:PR→Bool}(S:SlP encPr h a R.length R)(hn:R.length≤1000000)(hf:∀ r ∈ R,∀ K2:Value→Hp→Prop,K2 (vb (p r)) h→InvOK Try.prog fv [vag (encPr r)] h K2)
  (hy:∀(i:Nat) (r:PR),R[i]?=some r→p r=true→(∀ x ∈ R.take i,p x=false)→K' (vi i) h) (hno:(∀ r ∈ R,p r=false)→K' (vi (-1)) h):CallOK Try.prog 36 [vsl a R.length c,fv] h K':=by
 refine ok_slices_IndexFunc_panes_Pane_panes_Pane ?_
 unfold VC_slices_IndexFunc_panes_Pane_panes_Pane
 refine⟨fun vs hh=>hh=h∧∃ i:Nat,vs=[vi i]∧i≤R.length∧∀ r ∈ R.take i,p r=false,fun vs hh=>R.length - (vint vs 0).toNat,⟨rfl,0,rfl,Nat.zero_le _,by simp⟩,?_⟩
 rintro vs hh ⟨rfl,i,rfl,hi,hz⟩
 refine⟨i,rfl,fun e=>?_,fun e=>?_⟩
 ·have hlt:i < R.length:=by have:=of_decide_eq_true e;omega
  have hx:R[i]?=some R[i]:=List.getElem?_eq_getElem hlt
  have tk:R.take (i+1)=R.take i++[R[i]]:=List.take_succ_eq_append_getElem hlt
  obtain⟨b,o,ea,hr⟩:=S.get encPr_len (by decide) hx
  refine⟨b,o,⟨ea,by omega,by omega⟩,_,_,_,_,_,_,_,by rw [Int.toNat_natCast];exact hr,hf _ (List.getElem_mem hlt) _ ⟨_,rfl,fun e2=>hy i _ hx e2 hz,fun e2=>?_⟩⟩
  refine⟨_,isW (by unfold InR;omega),⟨rfl,i+1,rfl,by omega,fun r hr=>?_⟩,by simp [vint];omega⟩
  rw [tk] at hr
  rcases List.mem_append.1 hr with h3|h3
  ·exact hz r h3
  ·rw [List.mem_singleton.1 h3];exact e2
 ·have hge:i=R.length:=by have:=of_decide_eq_false e;omega
  refine hno ?_
  rw [hge,List.take_length] at hz
  exact hz
theorem insert_Pane_ok {h0:Hp}{x:PR}{i b:Nat}(O:OwnV h0 h 39 5 a R.length c (R.flatMap encPr))(hn:R.length≤1000000)(hi:i≤R.length)(hb:h b=some (cellsO (encPr x) 39))(hab:a≠some ⟨b,0,none⟩)
  (hK:∀ a' c' h',OwnV h0 h' 39 5 a' (R.length+1) c' ((R.take i++x :: R.drop i).flatMap encPr)→K' (vsl a' (R.length+1) c') h'):CallOK Try.prog 18 [vsl a R.length c,vi i,vsl (some ⟨b,0,none⟩) 1 1] h K':=by
 refine ok_slices_Insert_panes_Pane_panes_Pane ?_
 unfold VC_slices_Insert_panes_Pane_panes_Pane
 have hT:Try.prog.underlying 25=some (.slice 39):=by kernel_rfl
 have hI:(Try.prog.info? 39).isSome=true:=by kernel_rfl
 have hS:(Try.prog.info? 39).map (·.size)=some 5:=by kernel_rfl
 have hsz:szT Try.prog 39=5:=by kernel_rfl
 have hcap:=O.own.cap
 have hHv:HasRow h (some ⟨b,0,none⟩) (encPr x):=.inr ⟨b,0,rfl,row_cells' hb (by simp)⟩
 have hA:((R.take i).flatMap encPr).length=i*5:=by rw [flatMap_length encPr_len,List.length_take,Nat.min_eq_left hi]
 have hD:((R.drop i).flatMap encPr).length=(R.length - i)*5:=by rw [flatMap_length encPr_len,List.length_drop]
 have hAD:R.flatMap encPr=(R.take i).flatMap encPr++(R.drop i).flatMap encPr:=by rw [←List.flatMap_append,List.take_append_drop]
 have hres:(R.take i++x :: R.drop i).flatMap encPr=(R.take i).flatMap encPr++(encPr x++(R.drop i).flatMap encPr):=by rw [List.flatMap_append,List.flatMap_cons]
 rw [hres] at hK
 have S:SlP encPr h a R.length R:=⟨rfl,O.row⟩
 have rdl:=fun(n c:Nat) (a:Option Addr) (x:Nat) (hh:Hp) (h1:x≤n)=>rd_slice_l (P:=Try.prog) (h:=hh) (t:=25) (e:=39) hT hI (a:=a) (n:=n) (c:=c) (x:=(x:Int)) (by omega) (by omega)
 have rdh:=fun(n c:Nat) (a:Option Addr) (x:Nat) (hh:Hp) (h1:x≤c)=>rd_slice_h (P:=Try.prog) (h:=hh) (t:=25) (e:=39) hT hI (a:=a) (n:=n) (c:=c) (x:=(x:Int)) (by omega) (by omega)
 simp only [Int.toNat_natCast,hsz] at rdl rdh
 have cutG:∀(g x c:Nat),c≠x→cutA (some ⟨g,0,none⟩) x c 5=some ⟨g,x*5,none⟩:=by
  intro g x c hne
  unfold cutA
  rw [if_neg hne]
  simp only [Option.map_some,Addr.add]
  split
  ·rename_i h0;simp [h0]
  ·simp
 refine⟨_,_,_,rdl R.length c a i h hi,fun e=>absurd (of_decide_eq_true e) (by decide),fun _=>⟨fun e=>?_,fun e=>?_⟩⟩
 ·have hie:i=R.length:=by have:=of_decide_eq_true e;omega
  refine OwnV.append elPane O (m:=1) hHv rfl (one_encPr x) (by omega) (by omega) fun a' c' h' O' _ _=>⟨_,_,_,rfl,hK a' c' h' ?_⟩
  subst hie
  rw [List.take_length,List.drop_length]
  simpa using O'
 ·have hlt:i < R.length:=by have:=of_decide_eq_false e;omega
  have hDne:(R.drop i).flatMap encPr≠[]:=by
   intro e2
   rw [e2] at hD
   simp at hD
   omega
  refine⟨_,isW (by unfold InR;omega),_,rd_cap hT,fun e2=>?_,fun e2=>?_⟩
  ·have hgt:c < R.length+1:=by have:=of_decide_eq_true e2;omega
   refine⟨_,_,_,rdh R.length c a i h (by omega),_,isW (by unfold InR;omega),_,isW (by unfold InR;omega),?_⟩
   have e3:((R.length:Int)+((1:Nat):Int) - (i:Int))=((R.length+1 - i:Nat):Int):=by omega
   rw [e3]
   have hz:(zeroL Try.prog 39).map tvals=some [vi 0,vi 0,vi 0,vsl none 0 0,vb false]:=by kernel_rfl
   refine sem_append_zeros elPane (by kernel_rfl) hz (n:=i) (S.take encPr_len hi).2 hA (m:=R.length+1 - i) (by omega) (by omega) (by omega) (by omega) fun a14 c14 h13 O13=>⟨_,_,_,rfl,?_⟩
   have hnn:i+(R.length+1 - i)=R.length+1:=by omega
   rw [hnn] at O13 ⊢
   have hc14:=O13.own.cap
   obtain⟨g,L14,rfl,hg14,_⟩:=O13.blk (by omega) (by decide)
   have hZ:((List.replicate (R.length+1 - i) [vi 0,vi 0,vi 0,vsl none 0 0,vb false]).flatten).length=(R.length+1 - i)*5:=by rw [List.length_flatten];simp
   generalize hZe:(List.replicate (R.length+1 - i) [vi 0,vi 0,vi 0,vsl none 0 0,vb false]).flatten=Z at O13 hZ
   have hga:h g=none:=O13.new g rfl
   refine⟨_,_,_,rdl (R.length+1) c14 _ i h13 (by omega),?_⟩
   rw [cutG g i c14 (by omega)]
   refine OwnV.copy hT hS O13 rfl (hHv.le O13.le) (by rw [encPr_len,show Nat.min 1 (R.length+1 - i)=1 from Nat.min_eq_left (by omega)]) (by rw [encPr_len];omega) (one_encPr x) (by simp [encPr,D.PRow.enc]) fun h17 O17 k17=>⟨_,rfl,_,isW (by unfold InR;omega),?_⟩
   have e4:((i:Int)+((1:Nat):Int))=((i+1:Nat):Int):=by omega
   rw [e4]
   refine⟨_,_,_,rdl (R.length+1) c14 _ (i+1) h17 (by omega),_,_,_,rdl R.length c a i h17 hi,?_⟩
   rw [cutG g (i+1) c14 (by omega)]
   have l17:h.le h17:=O17.le
   refine OwnV.copy hT hS O17 rfl (((S.drop encPr_len hi hcap).le l17).2) (by rw [hD];congr 1;simp only [Nat.min_def];split<;>omega) (by rw [hD];omega) (one_prs _) hDne fun h23 O23 _=>⟨_,rfl,?_⟩
   refine hK _ _ h23 ?_
   have s1:setL ((R.take i).flatMap encPr++Z) (i*5) (encPr x)=(R.take i).flatMap encPr++(encPr x++Z.drop 5):=by
    have:=setL_app_r ((R.take i).flatMap encPr) Z 0 (encPr x)
    rw [Nat.add_zero,hA] at this
    rw [this]
    simp [setL,encPr_len]
   have s2:setL ((R.take i).flatMap encPr++(encPr x++Z.drop 5)) ((i+1)*5) ((R.drop i).flatMap encPr)=(R.take i).flatMap encPr++(encPr x++(R.drop i).flatMap encPr):=by
    have h1:=setL_app_r ((R.take i).flatMap encPr) (encPr x++Z.drop 5) 5 ((R.drop i).flatMap encPr)
    have h2:=setL_app_r (encPr x) (Z.drop 5) 0 ((R.drop i).flatMap encPr)
    rw [Nat.add_zero,encPr_len] at h2
    rw [hA,show i*5+5=(i+1)*5 by omega] at h1
    rw [h1,h2]
    congr 2
    unfold setL
    have h3:(Z.drop 5).drop (0+((R.drop i).flatMap encPr).length)=[]:=List.drop_eq_nil_of_le (by rw [List.length_drop,hZ,hD];omega)
    rw [List.take_zero,List.nil_append,h3,List.append_nil]
   rw [s1,s2] at O23
   exact O23.trans O.le
  ·have hle:R.length+1≤c:=by have:=of_decide_eq_false e2;omega
   obtain⟨Y,hY,O1⟩:=OwnV.grow O (m:=R.length+1) (by omega) hle
   obtain⟨g,L0,ha,hg,hL0⟩:=O.blk (by omega) (by decide)
   subst ha
   have e3:((R.length:Int)+((1:Nat):Int))=((R.length+1:Nat):Int):=by omega
   have e4:((i:Int)+((1:Nat):Int))=((i+1:Nat):Int):=by omega
   have hbg:b≠g:=fun e=>hab (by rw [e])
   refine⟨_,isW (by unfold InR;omega),?_⟩
   rw [e3]
   refine⟨_,_,_,rdh R.length c _ (R.length+1) h hle,_,isW (by unfold InR;omega),?_⟩
   rw [e4]
   refine⟨_,_,_,rdl (R.length+1) c _ (i+1) h (by omega),?_⟩
   rw [cutG g (i+1) c (by omega)]
   refine ext_overlaps (tR:=4) Try.func31 (by kernel_rfl) (by kernel_rfl) (by kernel_rfl) (by kernel_rfl) hT hI hbg hb hg hL0 ⟨_,rfl,fun _=>?_,fun e=>absurd e (by decide)⟩
   refine⟨_,isW (by unfold InR;omega),?_⟩
   refine⟨_,_,_,rdl (R.length+1) c _ (i+1) h (by omega),_,_,_,rdl (R.length+1) c _ i h (by omega),?_⟩
   rw [cutG g (i+1) c (by omega),cutG g i c (by omega)]
   have hsrc:=(S.drop encPr_len hi hcap).2
   rw [cutG g i c (by omega)] at hsrc
   refine OwnV.copy hT hS O1 rfl hsrc (by rw [hD];congr 1;simp only [Nat.min_def];split<;>omega) (by rw [hD];omega) (one_prs _) hDne fun h37 O37 k37=>⟨_,rfl,?_⟩
   refine⟨_,_,_,rdl (R.length+1) c _ i h37 (by omega),?_⟩
   rw [cutG g i c (by omega)]
   have hHv37:HasRow h37 (some ⟨b,0,none⟩) (encPr x):=.inr ⟨b,0,rfl,row_cells' (k37 b _ hbg hb) (by simp)⟩
   refine OwnV.copy hT hS O37 rfl hHv37 (by rw [encPr_len,show Nat.min 1 (R.length+1 - i)=1 from Nat.min_eq_left (by omega)]) (by rw [encPr_len];omega) (one_encPr x) (by simp [encPr,D.PRow.enc]) fun h41 O41 _=>⟨_,rfl,?_⟩
   refine hK _ _ h41 ?_
   have hY5:Y.length=5:=by rw [hY];omega
   have s1:setL (R.flatMap encPr++Y) ((i+1)*5) ((R.drop i).flatMap encPr)=(R.take i).flatMap encPr++(((R.drop i).flatMap encPr++Y).take 5++(R.drop i).flatMap encPr):=by
    have h1:=setL_app_r ((R.take i).flatMap encPr) ((R.drop i).flatMap encPr++Y) 5 ((R.drop i).flatMap encPr)
    rw [hA,show i*5+5=(i+1)*5 by omega,←List.append_assoc,←hAD] at h1
    rw [h1]
    congr 1
    unfold setL
    have h3:((R.drop i).flatMap encPr++Y).drop (5+((R.drop i).flatMap encPr).length)=[]:=List.drop_eq_nil_of_le (by rw [List.length_append,hY5];omega)
    rw [h3,List.append_nil]
   have s2:setL ((R.take i).flatMap encPr++(((R.drop i).flatMap encPr++Y).take 5++(R.drop i).flatMap encPr)) (i*5) (encPr x)=(R.take i).flatMap encPr++(encPr x++(R.drop i).flatMap encPr):=by
    have h1:=setL_app_r ((R.take i).flatMap encPr) (((R.drop i).flatMap encPr++Y).take 5++(R.drop i).flatMap encPr) 0 (encPr x)
    rw [Nat.add_zero,hA] at h1
    rw [h1]
    congr 1
    unfold setL
    have h5:(((R.drop i).flatMap encPr++Y).take 5).length=5:=by rw [List.length_take,List.length_append,hY5];omega
    rw [List.take_zero,List.nil_append,Nat.zero_add,encPr_len,List.drop_left' h5]
   rw [s1,s2] at O41
   exact O41
end
theorem cell_newT {h:Hp}{b i:Nat}{xs:List Value}{t:TypeId}{v:Value}(hv:xs[i]?=some v):Hp.cell (h.set b (cellsO xs t)) b i=some v:=by
 unfold Hp.cell
 rw [Hp.set_same]
 simpa using hv
def cmpK (a k:PK):Int:=if cmpI a.1 k.1≠0 then cmpI a.1 k.1 else cmpV a.2 k.2
theorem cmpK_lt (a k:PK):cmpK a k < 0↔aheadK a k:=by
 unfold cmpK aheadK cmpV cmpI
 repeat' split
 all_goals omega
theorem cmpK_eq (a k:PK):cmpK a k=0↔a=k:=by
 obtain⟨a1,a2,a3⟩:=a
 obtain⟨k1,k2,k3⟩:=k
 rw [Prod.mk.injEq,Prod.mk.injEq]
 unfold cmpK cmpV cmpI
 simp only
 repeat' split
 all_goals omega
section
variable {h:Hp}{K':Value→Hp→Prop}{a:Option Addr}{R:List PR}{c:Nat}
theorem find1_ok {r:PR}{k:PK}{b:Nat}(h1:h.cell b 0=some (vi k.1))(hK:∀ h',h.le h'→K' (vi (cmpK r.k k)) h'):CallOK Try.prog 28 [vag (encPr r),vag (encV k.2),vhp b 0] h K':=by
 refine ok_panes_Table_find_1 ?_
 unfold VC_panes_Table_find_1
 refine⟨_,h1,cmp_Compare_ok ⟨_,rfl,value_Compare_ok fun h6 l6=>⟨_,rfl,?_⟩⟩⟩
 intro b8 hb8 h9
 refine cmp_Or2_ok (x:=cmpI r.k.1 k.1) (y:=cmpV r.k.2 k.2) ⟨rfl,HasRow.new _ _ [vi (cmpI r.k.1 k.1),vi (cmpV r.k.2 k.2)] _⟩ ⟨_,rfl,?_⟩
 exact hK _ (Hp.le_trans l6 (Hp.le_set (Hp.le_refl h6) hb8 _))
theorem search_Pane_ok {k:PK}{b:Nat}(S:SlP encPr h a R.length R)(hn:R.length≤1000000)(hs:(R.map (·.k)).Pairwise aheadK)(h1:h.cell b 0=some (vi k.1))
  (hK:∀(i:Nat) (is:Bool) (h':Hp),h.le h'→i≤R.length→(∀ x ∈ R.take i,aheadK x.k k)→(∀ x,R[i]?=some x→¬ aheadK x.k k)→(is=true↔∃ x,R[i]?=some x∧x.k=k)→K' (vtup [vi i,vb is]) h') :
  CallOK Try.prog 27 [vsl a R.length c,vag (encV k.2),Value.func (.func 28) #[] #[vhp b 0]] h K':=by
 refine ok_slices_BinarySearchFunc_panes_Pane_panes_Pane_api_Value ?_
 unfold VC_slices_BinarySearchFunc_panes_Pane_panes_Pane_api_Value
 have inv:∀(r:PR) (hh:Hp) (K2:Value→Hp→Prop),h.le hh→(∀ h',hh.le h'→K2 (vi (cmpK r.k k)) h')→InvOK Try.prog (Value.func (.func 28) #[] #[vhp b 0]) [vag (encPr r),vag (encV k.2)] hh K2:=by
  intro r hh K2 l hk
  exact⟨28,#[],#[vhp b 0],rfl,⟨_,Try.func28,by kernel_rfl,rfl⟩,find1_ok (Hp.cell_le l h1) hk⟩
 have mono:∀{i j:Nat} {x y:PR},i < j→R[i]?=some x→R[j]?=some y→aheadK x.k y.k:=by
  intro i j x y hij hx hy
  obtain⟨hi,ex⟩:=List.getElem?_eq_some_iff.1 hx
  obtain⟨hj,ey⟩:=List.getElem?_eq_some_iff.1 hy
  have:=List.pairwise_iff_getElem.1 hs i j (by simpa using hi) (by simpa using hj) hij
  simpa [ex,ey] using this
 refine⟨fun vs hh=>∃ i j:Nat,vs=[vi i,vi j]∧i≤j∧j≤R.length∧h.le hh∧(∀ m x,m < i→R[m]?=some x→aheadK x.k k)∧(∀ m x,j≤m→R[m]?=some x→¬ aheadK x.k k),fun vs hh=>(vint vs 1 - vint vs 0).toNat,⟨0,R.length,rfl,Nat.zero_le _,Nat.le_refl _,Hp.le_refl h,fun m x hm _=>absurd hm (Nat.not_lt_zero _),fun m x hm hx=>absurd (List.getElem?_eq_some_iff.1 hx).1 (by omega)⟩,?_⟩
 rintro vs hh ⟨i,j,rfl,hij,hj,lh,hlo,hhi⟩
 refine⟨i,j,rfl,fun e=>?_,fun e=>?_⟩
 ·have hlt:i < j:=by have:=of_decide_eq_true e;omega
  have hw:IntKind.wrap .u64 ((i:Int)+(j:Int))=((i+j:Nat):Int):=by
   rw [IntKind.wrap_u64]
   omega
  refine⟨(i:Int)+(j:Int),isW (by unfold InR;omega),((i+j:Nat):Int) / 2 ^ 1,?_,?_⟩
  ·rw [hw]
   exact rd_shrU (j:=1) (by decide) (by omega)
  have hm:IntKind.wrap .i64 (((i+j:Nat):Int) / 2 ^ 1)=(((i+j) / 2:Nat):Int):=by
   rw [IntKind.wrap_i64]
   omega
  rw [hm]
  have hm1:i≤(i+j) / 2:=by omega
  have hm2:(i+j) / 2 < j:=by omega
  generalize (i+j) / 2=m at hm1 hm2
  have hx:R[m]?=some (R[m]'(by omega)):=List.getElem?_eq_getElem (by omega)
  obtain⟨b2,o2,ea,hr⟩:=(S.le lh).get encPr_len (by decide) hx
  generalize R[m]'(by omega)=r at hx hr
  refine⟨b2,o2,⟨ea,by omega,by omega⟩,_,_,_,_,_,_,_,by rw [Int.toNat_natCast];exact hr,inv r hh _ lh fun h20 l20=>⟨_,rfl,fun e2=>?_,fun e2=>?_⟩⟩
  ·have hah:=(cmpK_lt r.k k).1 (of_decide_eq_true e2)
   refine⟨_,isW (by unfold InR;omega),⟨m+1,j,by simp,by omega,hj,Hp.le_trans lh l20,fun m' x hm' hx'=>?_,hhi⟩,by simp [vint];omega⟩
   rcases Nat.lt_or_ge m' m with h5|h5
   ·exact aheadK_trans (mono h5 hx' hx) hah
   ·have:m'=m:=by omega
    subst this
    rw [hx] at hx'
    cases hx'
    exact hah
  ·have hna:¬ aheadK r.k k:=fun q=>of_decide_eq_false e2 ((cmpK_lt r.k k).2 q)
   refine⟨⟨i,m,rfl,hm1,by omega,Hp.le_trans lh l20,hlo,fun m' x hm' hx'=>?_⟩,by simp [vint];omega⟩
   rcases Nat.eq_or_lt_of_le hm' with h5|h5
   ·subst h5
    rw [hx] at hx'
    cases hx'
    exact hna
   ·intro q
    exact hna (aheadK_trans (mono h5 hx hx') q)
 ·have hge:i=j:=by have:=of_decide_eq_false e;omega
  subst hge
  have hlo':∀ x ∈ R.take i,aheadK x.k k:=by
   intro x hx
   obtain⟨m,hm⟩:=List.getElem?_of_mem hx
   have hml:m < i:=by
    have:=(List.getElem?_eq_some_iff.1 hm).1
    rw [List.length_take] at this
    omega
   rw [List.getElem?_take,if_pos hml] at hm
   exact hlo m x hml hm
  by_cases hlt:i < R.length
  ·have hd:decide (((i:Nat):Int) < ((R.length:Nat):Int))=true:=decide_eq_true (by omega)
   have hx:R[i]?=some R[i]:=List.getElem?_eq_getElem hlt
   obtain⟨b2,o2,ea,hr⟩:=(S.le lh).get encPr_len (by decide) hx
   generalize R[i]=r at hx hr
   refine⟨b2,o2,fun _=>⟨ea,by omega,by omega⟩,_,_,_,_,_,_,_,fun _=>by rw [Int.toNat_natCast];exact hr,?_⟩
   refine⟨fun x hh'=>hh.le hh'∧x=.t (.one (.v (vi (cmpK r.k k)))),fun _=>inv r hh _ lh fun h' l'=>⟨_,rfl,l',rfl⟩,fun q=>absurd hd q,?_⟩
   rintro h34 x35 ⟨l34,e35⟩
   cases e35
   rw [hd]
   refine hK i _ h34 (Hp.le_trans lh l34) hj hlo' (fun x hx'=>hhi i x (Nat.le_refl _) hx') ?_
   show decide (cmpK r.k k=0)=true↔_
   rw [decide_eq_true_iff,cmpK_eq]
   constructor
   ·intro q;exact⟨r,hx,q⟩
   ·rintro⟨x,hx',q⟩
    rw [hx] at hx'
    cases hx'
    exact q
  ·have hd:decide (((i:Nat):Int) < ((R.length:Nat):Int))=false:=decide_eq_false (by omega)
   refine⟨0,0,fun q=>(by rw [hd] at q;cases q),0,0,0,none,0,0,false,fun q=>(by rw [hd] at q;cases q),?_⟩
   refine⟨fun x hh'=>hh'=hh,fun q=>(by rw [hd] at q;cases q),fun _=>rfl,?_⟩
   rintro h34 x35 rfl
   rw [hd]
   refine hK i _ h34 lh hj hlo' (fun x hx'=>hhi i x (Nat.le_refl _) hx') ?_
   constructor
   ·intro q;cases q
   ·rintro⟨x,hx',q⟩
    exact absurd (List.getElem?_eq_some_iff.1 hx').1 hlt
theorem Table_find_ok {k:PK}(S:SlP encPr h a R.length R)(hn:R.length≤1000000)(hs:(R.map (·.k)).Pairwise aheadK)
  (hK:∀(i:Nat) (is:Bool) (h':Hp),h.le h'→i≤R.length→(∀ x ∈ R.take i,aheadK x.k k)→(∀ x,R[i]?=some x→¬ aheadK x.k k)→(is=true↔∃ x,R[i]?=some x∧x.k=k)→K' (vtup [vi i,vb is]) h') :
  CallOK Try.prog 15 [vag [vsl a R.length c],vi k.1,vag (encV k.2)] h K':=by
 refine ok_panes_Table_find ?_
 unfold VC_panes_Table_find
 intro b1 hb1 h2
 have l2:h.le h2:=Hp.le_set (Hp.le_refl h) hb1 _
 refine search_Pane_ok (S.le l2) hn hs (cell_newT rfl) fun i is h' l' q1 q2 q3 q4=>⟨_,_,rfl,hK i is h' (Hp.le_trans l2 l') q1 q2 q3 q4⟩
theorem delete_Pane_ok {h0:Hp}{fv:Value}{p:PR→Bool}(O:OwnV h0 h 39 5 a R.length c (R.flatMap encPr))(hn:R.length≤1000000)(hf:∀(hh:Hp) (r:PR),h0.le hh→∀ K2:Value→Hp→Prop,r ∈ R→K2 (vb (p r)) hh→InvOK Try.prog fv [vag (encPr r)] hh K2)
  (hK:∀ h',h0.le h'→SlP encPr h' a (R.filter fun r=>!p r).length (R.filter fun r=>!p r)→K' (vsl a (R.filter fun r=>!p r).length c) h'):CallOK Try.prog 25 [vsl a R.length c,fv] h K':=by
 refine ok_slices_DeleteFunc_panes_Pane_panes_Pane ?_
 unfold VC_slices_DeleteFunc_panes_Pane_panes_Pane
 have S:SlP encPr h a R.length R:=⟨rfl,O.row⟩
 have hT:Try.prog.underlying 25=some (.slice 39):=by kernel_rfl
 have hI:(Try.prog.info? 39).isSome=true:=by kernel_rfl
 have hsz:szT Try.prog 39=5:=by kernel_rfl
 have hcap:=O.own.cap
 refine index_Pane_ok (p:=p) S hn (fun r hr K2 hk=>hf h r O.le K2 hr hk) (fun i0 r0 hr0 hp0 hz=>⟨_,rfl,fun e=>absurd (of_decide_eq_true e) (by omega),fun _=>?_⟩) (fun hno=>⟨_,rfl,fun _=>?_,fun e=>absurd rfl (of_decide_eq_false e)⟩)
 ·have hi0:=(List.getElem?_eq_some_iff.1 hr0).1
  have tk0:R.take (i0+1)=R.take i0++[r0]:=by rw [List.take_succ_eq_append_getElem hi0,(List.getElem?_eq_some_iff.1 hr0).2]
  have f0:(R.take (i0+1)).filter (fun r=>!p r)=R.take i0:=by
   rw [tk0,List.filter_append,List.filter_cons,hp0]
   simp only [Bool.not_true,Bool.false_eq_true,if_false,List.filter_nil,List.append_nil]
   rw [List.filter_eq_self]
   intro x hx
   rw [hz x hx];rfl
  refine⟨_,isW (by unfold InR;omega),?_⟩
  refine⟨fun vs hh=>∃(j:Nat) (Q:List PR),vs=[vi ((R.take j).filter fun r=>!p r).length,vi j]∧i0 < j∧j≤R.length∧Q.length=R.length∧OwnV h0 hh 39 5 a R.length c (Q.flatMap encPr)∧Q.take ((R.take j).filter fun r=>!p r).length=(R.take j).filter (fun r=>!p r)∧Q.drop j=R.drop j,fun vs hh=>R.length - (vint vs 1).toNat,⟨i0+1,R,?_,by omega,hi0,rfl,O,?_,rfl⟩,?_⟩
  ·rw [f0,List.length_take,Nat.min_eq_left (by omega)];simp
  ·rw [f0,List.length_take,Nat.min_eq_left (by omega)]
  rintro vs hh ⟨j,Q,rfl,hij,hj,hQ,OQ,hQ1,hQ2⟩
  have hle:((R.take j).filter fun r=>!p r).length < j:=by
   have h1:R.take j=R.take (i0+1)++(R.take j).drop (i0+1):=by
    have:=(List.take_append_drop (i0+1) (R.take j)).symm
    rw [List.take_take,Nat.min_eq_left (by omega)] at this
    exact this
   rw [h1,List.filter_append,f0,List.length_append,List.length_take]
   have:=List.length_filter_le (fun r=>!p r) ((R.take j).drop (i0+1))
   rw [List.length_drop,List.length_take] at this
   omega
  have SQ:SlP encPr hh a R.length Q:=⟨hQ.symm,OQ.row⟩
  refine⟨_,_,rfl,fun e=>?_,fun e=>?_⟩
  ·have hlt:j < R.length:=by have:=of_decide_eq_true e;omega
   have hx:R[j]?=some R[j]:=List.getElem?_eq_getElem hlt
   have hxQ:Q[j]?=some R[j]:=by
    have:=congrArg (fun l=>l[0]?) hQ2
    simpa [List.getElem?_drop,hx] using this
   have tk:R.take (j+1)=R.take j++[R[j]]:=List.take_succ_eq_append_getElem hlt
   have hmem:=List.getElem_mem hlt
   obtain⟨b,o,ea,hr⟩:=SQ.get encPr_len (by decide) hxQ
   generalize R[j]=r at *
   have tkf:(R.take (j+1)).filter (fun r=>!p r)=(R.take j).filter (fun r=>!p r)++if p r then [] else [r]:=by
    rw [tk,List.filter_append,List.filter_cons,List.filter_nil]
    cases p r<;>rfl
   generalize hkept:(R.take j).filter (fun r=>!p r)=kept at *
   intro J31
   have hJ:∀(Q2:List PR) (h2:Hp),Q2.length=R.length→OwnV h0 h2 39 5 a R.length c (Q2.flatMap encPr)→Q2.take ((R.take (j+1)).filter fun r=>!p r).length=(R.take (j+1)).filter (fun r=>!p r)→Q2.drop (j+1)=R.drop (j+1)→J31 (((R.take (j+1)).filter fun r=>!p r).length:Nat) h2:=by
    intro Q2 h2 q1 q2 q3 q4
    exact⟨_,isW (by unfold InR;omega),⟨j+1,Q2,by simp,by omega,by omega,q1,q2,q3,q4⟩,by simp [vint];omega⟩
   clear_value J31
   have hd1:Q.drop (j+1)=R.drop (j+1):=by
    have:=congrArg (List.drop 1) hQ2
    rw [List.drop_drop,List.drop_drop] at this
    exact this
   refine⟨b,o,⟨ea,by omega,by omega⟩,_,_,_,_,_,_,_,by rw [Int.toNat_natCast];exact hr,hf hh r OQ.le _ hmem ⟨_,rfl,fun e2=>?_,fun e2=>?_⟩⟩
   ·have hp:p r=false:=by simpa using e2
    rw [hp] at tkf
    simp only [Bool.false_eq_true,if_false] at tkf
    have hki:kept.length < Q.length:=by omega
    have hkx:Q[kept.length]?=some Q[kept.length]:=List.getElem?_eq_getElem hki
    obtain⟨b2,o2,ea2,H2⟩:=Vec.putF (α:=PR) (enc:=encPr) (sz:=5) (T:=39) (h0:=h0) (h:=hh) (a:=a) (c:=c) (l:=Q) encPr_len (by unfold Vec;rw [hQ];exact OQ) hkx (x':=r) (k:=0) (vs:=encPr r) (by simp [encPr,D.PRow.enc]) (by simp [encPr_len]) (by simp [setL,encPr_len,List.drop_of_length_le])
    refine⟨b2,o2,⟨ea2,by omega,by omega⟩,?_⟩
    rw [Int.toNat_natCast]
    refine H2 _ fun h27 V27 _=>⟨_,isW (by unfold InR;omega),?_⟩
    have e5:((kept.length:Int)+1)=((((R.take (j+1)).filter fun r=>!p r).length:Nat):Int):=by rw [tkf];simp
    rw [e5]
    unfold Vec at V27
    rw [List.length_set,hQ] at V27
    refine hJ _ h27 (by rw [List.length_set];exact hQ) V27 ?_ ?_
    ·rw [tkf,List.length_append,List.length_singleton,List.take_succ_eq_append_getElem (by rw [List.length_set];exact hki),List.getElem_set_self,List.take_set_of_le (Nat.le_refl _),hQ1]
    ·rw [List.drop_set_of_lt (by omega),hd1]
   ·have hp:p r=true:=by simpa using e2
    rw [hp] at tkf
    simp only [if_true,List.append_nil] at tkf
    have:=hJ Q hh hQ OQ (by rw [tkf];exact hQ1) hd1
    rw [tkf] at this
    exact this
  ·have hge:j=R.length:=by have:=of_decide_eq_false e;omega
   subst hge
   rw [List.take_length] at hQ1 hle ⊢
   generalize hkept:R.filter (fun r=>!p r)=kept at *
   have rdl:=rd_slice_l (P:=Try.prog) (h:=hh) (t:=25) (e:=39) hT hI (a:=a) (n:=R.length) (c:=c) (x:=(kept.length:Int)) (by omega) (by omega)
   rw [Int.toNat_natCast,hsz] at rdl
   refine⟨_,_,_,rdl,?_⟩
   obtain⟨g,L,rfl,hg,_⟩:=OQ.blk (by omega) (by decide)
   have hcut:cutA (some ⟨g,0,none⟩) kept.length c 5=some ⟨g,kept.length*5,none⟩:=by
    unfold cutA
    rw [if_neg (by omega)]
    simp only [Option.map_some,Addr.add]
    split
    ·rename_i h0';simp [h0']
    ·simp
   rw [hcut]
   have hz:(zeroL Try.prog 39).map tvals=some [vi 0,vi 0,vi 0,vsl none 0 0,vb false]:=by kernel_rfl
   refine OwnV.clear elPane hz (by intro u hu;simp at hu;rcases hu with rfl|rfl|rfl|rfl|rfl<;>rfl) rfl OQ rfl (by omega) (by omega) fun h39 O39=>⟨rfl,?_⟩
   have rdh:=rd_slice_h (P:=Try.prog) (h:=h39) (t:=25) (e:=39) hT hI (a:=some ⟨g,0,none⟩) (n:=R.length) (c:=c) (x:=(kept.length:Int)) (by omega) (by omega)
   rw [Int.toNat_natCast] at rdh
   refine⟨_,_,_,rdh,hK h39 O39.le ⟨rfl,?_⟩⟩
   have:=O39.own.cut (m:=kept.length) (by omega)
   have e6:(setL (Q.flatMap encPr) (kept.length*5) ((List.replicate (R.length - kept.length) [vi 0,vi 0,vi 0,vsl none 0 0,vb false]).flatten)).take (kept.length*5)=kept.flatMap encPr:=by
    have hl1:((Q.flatMap encPr).take (kept.length*5)).length=kept.length*5:=by rw [List.length_take,flatMap_length encPr_len];omega
    unfold setL
    rw [List.append_assoc,List.take_append_of_le_length (by rw [hl1];exact Nat.le_refl _),List.take_of_length_le (by rw [hl1];exact Nat.le_refl _)]
    have h7:(Q.take kept.length).flatMap encPr=(Q.flatMap encPr).take (kept.length*5):=by
     have h8:Q.flatMap encPr=(Q.take kept.length).flatMap encPr++(Q.drop kept.length).flatMap encPr:=by rw [←List.flatMap_append,List.take_append_drop]
     rw [h8,List.take_left' (by rw [flatMap_length encPr_len,List.length_take];omega)]
    rw [←h7,hQ1]
   rw [e6] at this
   exact this.row
 ·have e:R.filter (fun r=>!p r)=R:=by
   rw [List.filter_eq_self]
   intro x hx
   rw [hno x hx];rfl
  rw [e] at hK
  exact hK h O.le S
theorem Table_Drop_ok {size upto:Int}(T:Tb h a R)(hn:R.length≤1000000)(hb:∀ r ∈ R,InR (r.k.1+size))
  (hK:∀ a' c' h',h.le h'→Tb h' a' (R.filter fun r=>!decide (r.k.1+size≤upto))→K' (vag [vsl a' (R.filter fun r=>!decide (r.k.1+size≤upto)).length c']) h'):CallOK Try.prog 13 [vag [vsl a R.length c],vi size,vi upto] h K':=by
 refine ok_panes_Table_Drop ?_
 unfold VC_panes_Table_Drop
 intro b1 hb1 h2 b3 hb3 h4
 have l2:h.le h2:=Hp.le_set (Hp.le_refl h) hb1 _
 have l4:h2.le h4:=Hp.le_set (Hp.le_refl h2) hb3 _
 have c1:h4.cell b1 0=some (vi size):=Hp.cell_le l4 (cell_newT rfl)
 have c3:h4.cell b3 0=some (vi upto):=cell_newT rfl
 clear_value h4
 clear_value h2
 have l04:=Hp.le_trans l2 l4
 refine clone_Pane_ok (T.le l04).s hn fun a' c' h6 O6=>⟨_,_,_,rfl,?_⟩
 refine delete_Pane_ok (p:=fun r=>decide (r.k.1+size≤upto)) O6 hn (fun hh r lh K2 hr hk=>?_) fun h9 l9 S9=>⟨_,_,_,rfl,hK _ _ h9 (Hp.le_trans l04 l9) ⟨S9,fun r hr=>(T.i r (List.mem_filter.1 hr).1).le (Hp.le_trans l04 l9)⟩⟩
 refine⟨26,#[],#[vhp b1 0,vhp b3 0],rfl,⟨_,Try.func26,by kernel_rfl,rfl⟩,?_⟩
 refine ok_panes_Table_Drop_1 ?_
 unfold VC_panes_Table_Drop_1
 exact⟨_,Hp.cell_le lh c1,_,isW (hb r hr),_,Hp.cell_le lh c3,hk⟩
end
def duePr (size upto:Int)(r:PR):Bool:=decide (r.k.1+size≤upto)
def tellPr (size upto:Int)(r:PR):PR:={ r with t:=r.t||duePr size upto r }
def newPr (size upto:Int)(r:PR):Bool:=!r.t&&duePr size upto r
def toldPr (r:PR):PR:={ r with t:=true }
section
variable {h:Hp}{K':Value→Hp→Prop}{a:Option Addr}{R:List PR}{c:Nat}
theorem OwnV.apart {h0 h h':Hp}{e:TypeId}{sz n c:Nat}{a:Option Addr}{xs:List Value}(O:OwnV h0 h e sz a n c xs)(l:h0.le h')(hk:∀ b o,a=some ⟨b,0,none⟩→h b=some o→h' b=some o):OwnV h0 h' e sz a n c xs:=
 ⟨l,O.own.keep fun g o hg ho=>hk g o hg ho,O.new⟩
theorem OwnV.self {h0 h:Hp}{e:TypeId}{sz n c:Nat}{a:Option Addr}{xs:List Value}(O:OwnV h0 h e sz a n c xs):∃ hB:Hp,h0.le hB∧OwnV hB h e sz a n c xs∧∀ b o,a≠some ⟨b,0,none⟩→h b=some o→hB b=some o:=by
 have e1:∀ b,a=some ⟨b,0,none⟩→(fun b=>if a=some ⟨b,0,none⟩ then none else h b:Hp) b=none:=fun b hb=>if_pos hb
 have e2:∀ b,¬ a=some ⟨b,0,none⟩→(fun b=>if a=some ⟨b,0,none⟩ then none else h b:Hp) b=h b:=fun b hb=>if_neg hb
 generalize (fun b=>if a=some ⟨b,0,none⟩ then none else h b:Hp)=hB at e1 e2
 refine⟨hB,fun b o ho=>?_,⟨fun b o ho=>?_,O.own,e1⟩,fun b o hn ho=>(e2 b hn).trans ho⟩
 ·have:¬ a=some ⟨b,0,none⟩:=fun q=>by rw [O.new b q] at ho;cases ho
  exact(e2 b this).trans (O.le b o ho)
 ·by_cases hq:a=some ⟨b,0,none⟩
  ·rw [e1 b hq] at ho;cases ho
  ·rw [e2 b hq] at ho;exact ho
theorem HasRow.over {h h':Hp}{a:Option Addr}{xs:List Value}(H:HasRow h a xs)(hk:∀ b o ob,a=some ⟨b,o,none⟩→h b=some ob→h' b=some ob):HasRow h' a xs:=by
 rcases H with q|⟨b,o,q,hrw⟩
 ·exact .inl q
 ·refine .inr ⟨b,o,q,?_⟩
  unfold Hp.row at hrw ⊢
  cases hq:h b with
  | none=>rw [hq] at hrw;cases hrw
  | some ob=>rw [hk b o ob q hq];rw [hq] at hrw;exact hrw
theorem Table_Tell_ok {size upto:Int}(T:Tb h a R)(hn:R.length≤1000000)(hb:∀ r ∈ R,InR (r.k.1+size))
  (hK:∀ a' c' a2 c2 h',h.le h'→Tb h' a' (R.map (tellPr size upto))→Tb h' a2 ((R.filter (newPr size upto)).map toldPr)→K' (vtup [vag [vsl a' R.length c'],vsl a2 ((R.filter (newPr size upto)).map toldPr).length c2]) h'):CallOK Try.prog 11 [vag [vsl a R.length c],vi size,vi upto] h K':=by
 refine ok_panes_Table_Tell ?_
 unfold VC_panes_Table_Tell
 refine clone_Pane_ok T.s hn fun a3 c3 h2 O2=>⟨_,_,_,rfl,?_⟩
 refine⟨fun vs hh=>∃(i:Nat) (a9:Option Addr) (c9:Nat),vs=[vsl a9 (((R.take i).filter (newPr size upto)).map toldPr).length c9,vi i]∧i≤R.length∧OwnV h hh 39 5 a3 R.length c3 (((R.take i).map (tellPr size upto)++R.drop i).flatMap encPr)∧OwnV h hh 39 5 a9 (((R.take i).filter (newPr size upto)).map toldPr).length c9 ((((R.take i).filter (newPr size upto)).map toldPr).flatMap encPr)∧∀ g,a9=some ⟨g,0,none⟩→a3≠some ⟨g,0,none⟩,fun vs hh=>R.length - (vint vs 1).toNat,⟨0,none,0,rfl,Nat.zero_le _,by simpa using O2,OwnV.nil O2.le _ _,fun g hg=>by cases hg⟩,?_⟩
 rintro vs hh ⟨i,a9,c9,rfl,hi,OA,OB,hap⟩
 refine⟨a9,_,c9,_,rfl,fun e=>?_,fun e=>?_⟩
 ·have hlt:i < R.length:=by have:=of_decide_eq_true e;omega
  have hx:R[i]?=some R[i]:=List.getElem?_eq_getElem hlt
  have tk:R.take (i+1)=R.take i++[R[i]]:=List.take_succ_eq_append_getElem hlt
  have dr:R.drop i=R[i] :: R.drop (i+1):=List.drop_eq_getElem_cons hlt
  have hbr:=hb _ (List.getElem_mem hlt)
  generalize R[i]=r at *
  have htl:((R.take i).map (tellPr size upto)).length=i:=by rw [List.length_map,List.length_take];omega
  have hll:((R.take i).map (tellPr size upto)++R.drop i).length=R.length:=by rw [List.length_append,htl,List.length_drop];omega
  have hxi:((R.take i).map (tellPr size upto)++R.drop i)[i]?=some r:=by
   rw [List.getElem?_append_right (by omega),htl,Nat.sub_self,dr];rfl
  have hnl:(((R.take i).filter (newPr size upto)).map toldPr).length≤i:=by
   rw [List.length_map]
   have:=List.length_filter_le (newPr size upto) (R.take i)
   rw [List.length_take] at this
   omega
  have V:Vec encPr 5 39 h hh a3 c3 ((R.take i).map (tellPr size upto)++R.drop i):=by unfold Vec;rw [hll];exact OA
  obtain⟨b,o,ea,hr⟩:=(V.slp encPr_len (by decide)).get encPr_len (by decide) hxi
  intro J38
  have hJ:∀(a9:Option Addr) (c9:Nat) (h2:Hp),OwnV h h2 39 5 a3 R.length c3 (((R.take (i+1)).map (tellPr size upto)++R.drop (i+1)).flatMap encPr)→OwnV h h2 39 5 a9 (((R.take (i+1)).filter (newPr size upto)).map toldPr).length c9 ((((R.take (i+1)).filter (newPr size upto)).map toldPr).flatMap encPr)→(∀ g,a9=some ⟨g,0,none⟩→a3≠some ⟨g,0,none⟩)→J38 a9 (((R.take (i+1)).filter (newPr size upto)).map toldPr).length c9 h2:=by
   intro a9 c9 h2 q1 q2 q3
   exact⟨_,isW (by unfold InR;omega),⟨i+1,a9,c9,by simp,by omega,q1,q2,q3⟩,by simp [vint];omega⟩
  clear_value J38
  have ecnd:(bif (!r.t) then(decide ((r.k.1+size:Int)≤upto)) else false)=newPr size upto r:=by unfold newPr duePr;cases r.t<;>rfl
  refine⟨b,o,⟨ea,by omega,by omega⟩,_,_,_,_,_,_,r.t,by rw [Int.toNat_natCast];exact hr,_,fun _=>isW hbr,?_⟩
  show ((bif (!r.t) then(decide ((r.k.1+size:Int)≤upto)) else false)=true→_)∧((bif (!r.t) then(decide ((r.k.1+size:Int)≤upto)) else false)=false→_)
  rw [ecnd]
  have tkf:((R.take (i+1)).filter (newPr size upto)).map toldPr=((R.take i).filter (newPr size upto)).map toldPr++if newPr size upto r=true then [toldPr r] else []:=by
   rw [tk,List.filter_append,List.map_append,List.filter_cons,List.filter_nil]
   split<;>rfl
  have tkm:(R.take (i+1)).map (tellPr size upto)=(R.take i).map (tellPr size upto)++[tellPr size upto r]:=by rw [tk,List.map_append];rfl
  refine⟨fun e2=>?_,fun e2=>?_⟩
  ·rw [if_pos e2] at tkf
   have etell:tellPr size upto r=toldPr r:=by
    unfold newPr at e2
    unfold tellPr toldPr
    cases ht:r.t<;>simp_all
   obtain⟨b2,o2,ea2,H2⟩:=V.putF encPr_len hxi (x':=toldPr r) (k:=4) (vs:=[vb true]) (by simp) (by simp) (by simp [setL,encPr,prRow,D.PRow.enc,toldPr])
   have hset:((R.take i).map (tellPr size upto)++R.drop i).set i (toldPr r)=(R.take (i+1)).map (tellPr size upto)++R.drop (i+1):=by
    rw [List.set_append_right _ _ (by omega),htl,Nat.sub_self,dr,List.set_cons_zero,tkm,etell,List.append_assoc];rfl
   refine⟨b2,o2,⟨ea2,by omega,by omega⟩,?_⟩
   rw [Int.toNat_natCast]
   refine H2 _ fun h23 V23 B23=>?_
   rw [hset] at V23
   have hll2:((R.take (i+1)).map (tellPr size upto)++R.drop (i+1)).length=R.length:=by rw [←hset,List.length_set,hll]
   have hxi2:((R.take (i+1)).map (tellPr size upto)++R.drop (i+1))[i]?=some (toldPr r):=by
    rw [←hset,List.getElem?_set_self (by rw [hll];exact hlt)]
   obtain⟨b3,o3,ea3,hr3⟩:=(V23.slp encPr_len (by decide)).get encPr_len (by decide) hxi2
   have OB23:OwnV h h23 39 5 a9 (((R.take i).filter (newPr size upto)).map toldPr).length c9 ((((R.take i).filter (newPr size upto)).map toldPr).flatMap encPr):=OwnV.apart OB V23.le0 fun g o hg ho=>B23.keep g o ho (hap g hg)
   refine⟨b3,o3,⟨ea3,by omega,by omega⟩,_,_,_,_,_,_,_,hr3,?_⟩
   intro b31 hb31 h32
   have V32:=V23.keep0 (Hp.le_set (Hp.le_refl h23) hb31 (cellsO (encPr (toldPr r)) 39))
   refine OwnV.append elPane (OwnV.set hb31 _ OB23) (HasRow.new _ _ (encPr (toldPr r)) _) (m:=1) rfl (one_encPr _) (by omega) (by omega) fun a35 c35 h34 O34 k1 k2=>⟨_,_,_,rfl,?_⟩
   have hal:∀ g,a3=some ⟨g,0,none⟩→∃ ob,h23.set b31 (cellsO (encPr (toldPr r)) 39) g=some ob:=by
    intro g hg
    have:=(OwnF.fp _ _ _ _ _ _).al V32.ownF g hg
    cases hq:h23.set b31 (cellsO (encPr (toldPr r)) 39) g with
    | none=>exact absurd hq this
    | some ob=>exact⟨ob,rfl⟩
   have:=hJ a35 c35 h34 ?_ ?_ ?_
   ·rw [tkf,List.length_append] at this;exact this
   ·have V34:Vec encPr 5 39 h h34 a3 c3 ((R.take (i+1)).map (tellPr size upto)++R.drop (i+1)):=OwnV.apart V32 O34.le fun g o hg ho=>k1 g o ho fun q=>hap g q hg
    unfold Vec at V34
    rw [hll2] at V34
    exact V34
   ·rw [tkf,List.length_append,List.flatMap_append,List.flatMap_singleton];exact O34
   ·intro g hg hg3
    rcases k2 g hg with q|q
    ·exact hap g (q.trans hg) hg3
    ·obtain⟨ob,hob⟩:=hal g hg3
     rw [hob] at q;cases q
  ·rw [if_neg (by rw [e2];decide),List.append_nil] at tkf
   have etell:tellPr size upto r=r:=by
    unfold newPr at e2
    unfold tellPr
    obtain⟨k,ra,rc,acs,t⟩:=r
    cases t<;>simp_all
   have:=hJ a9 c9 hh ?_ ?_ hap
   ·rw [tkf] at this;exact this
   ·rw [tkm,etell,List.append_assoc]
    rw [dr] at OA
    exact OA
   ·rw [tkf];exact OB
 ·have hge:i=R.length:=by have:=of_decide_eq_false e;omega
  subst hge
  rw [List.take_length,List.drop_length,List.append_nil] at OA
  rw [List.take_length] at OB ⊢
  refine hK a3 c3 a9 c9 hh OA.le ⟨⟨rfl,by exact OA.row⟩,fun r hr=>?_⟩ ⟨⟨rfl,OB.row⟩,fun r hr=>?_⟩
  ·obtain⟨r0,h0,rfl⟩:=List.mem_map.1 hr
   exact(T.i r0 h0).le OA.le
  ·obtain⟨r0,h0,rfl⟩:=List.mem_map.1 hr
   exact(T.i r0 (List.mem_filter.1 h0).1).le OA.le
theorem Table_Add_ok {k:PK}{ka va:Option Addr}{kn kc vn vc:Nat}{ks:List Int}{v:List Vl}(T:Tb h a R)(hn:R.length≤900000)(hs:(R.map (·.k)).Pairwise aheadK)(SK:SlI h ka kn ks)(SV:SlP encV h va vn v)(hv:v.length=ks.length)(hks:ks.length≤1000)
  (hkd:∀ r ∈ R,r.acs.length=ks.length) (hbd:∀ r ∈ R,∀ x ∈ r.acs,AcB x) (hvs:∀ u ∈ v,smallV u)
  (hIn:∀(i:Nat) (r:PR) (a':Option Addr) (c':Nat) (a2:Option Addr) (c2:Nat) (h':Hp),R[i]?=some r→r.k=k→h.le h'→Tb h' a' (R.set i ⟨r.k,a2,c2,accP r.acs v,r.t⟩)→K' (vtup [vag [vsl a' R.length c'],vag (encPr r),vb true]) h')
  (hNew:∀(i:Nat) (a':Option Addr) (c':Nat) (a2:Option Addr) (c2:Nat) (h':Hp),i≤R.length→(∀ x ∈ R.take i,aheadK x.k k)→(∀ x,R[i]?=some x→¬ aheadK x.k k)→(∀ x ∈ R,x.k≠k)→h.le h'→Tb h' a' (R.take i++⟨k,a2,c2,accP (acc0 ks) v,false⟩ :: R.drop i)→K' (vtup [vag [vsl a' (R.length+1) c'],vag [vi 0,vi 0,vi 0,vsl none 0 0,vb false],vb false]) h') :
  CallOK Try.prog 7 [vag [vsl a R.length c],vi k.1,vag (encV k.2),vsl ka kn kc,vsl va vn vc] h K':=by
 refine ok_panes_Table_Add ?_
 unfold VC_panes_Table_Add
 refine Table_find_ok T.s (by omega) hs fun i is h2 l2 hi hah hna his=>⟨_,_,rfl,?_⟩
 refine clone_Pane_ok (T.le l2).s (by omega) fun a7 c7 h6 O6=>⟨_,_,_,rfl,?_⟩
 have l6:=Hp.le_trans l2 O6.le
 have hvn:=SV.1
 have hkn:=SK.1
 intro J83
 have hJ:∀(a315:Option Addr) (c315:Nat) (Q:List PR) (x316 x317 x318:Int) (a319:Option Addr) (n319 c319:Nat) (p320:Bool) (h321:Hp) (r:PR),OwnV h2 h321 39 5 a315 Q.length c315 (Q.flatMap encPr)→Q.length≤1000000→Q[i]?=some r→r.acs.length=ks.length→(∀ x ∈ r.acs,AcB x)→HasRow h321 r.a (r.acs.flatMap encAc) →
   (∀(a2:Option Addr) (c2:Nat) (h':Hp),OwnV h2 h' 39 5 a315 Q.length c315 ((Q.set i ⟨r.k,a2,c2,accP r.acs v,r.t⟩).flatMap encPr)→(∀ g xs,(∀ b o,g=some ⟨b,o,none⟩→a315≠some ⟨b,0,none⟩)→HasRow h321 g xs→HasRow h' g xs)→HasRow h' a2 ((accP r.acs v).flatMap encAc)→K' (vtup [vag [vsl a315 Q.length c315],vag [vi x316,vi x317,vi x318,vsl a319 n319 c319,vb p320],vb is]) h')→J83 a315 Q.length c315 x316 x317 x318 a319 n319 c319 p320 h321:=by
  intro a315 c315 Q x316 x317 x318 a319 n319 c319 p320 h321 r OQ hQn hr hrl hrb hri hfin
  have hiQ:=(List.getElem?_eq_some_iff.1 hr).1
  have VQ:Vec encPr 5 39 h2 h321 a315 c315 Q:=OQ
  obtain⟨b,o,ea,hrow⟩:=(VQ.slp encPr_len (by decide)).get encPr_len (by decide) hr
  refine⟨b,o,⟨ea,by omega,by omega⟩,_,_,_,r.a,r.acs.length,r.c,r.t,by rw [Int.toNat_natCast];exact hrow,?_⟩
  refine clone_Acc_ok hri (by omega) fun a331 c331 h330 V330=>⟨_,_,_,rfl,?_⟩
  have l330:=V330.le0
  have hacl:=accP_len (acs:=r.acs) (r:=v) (by omega)
  refine⟨fun vs hh=>∃ m:Nat,vs=[vi m]∧m≤v.length∧VecA h321 hh a331 c331 ((accP r.acs v).take m++r.acs.drop m),fun vs hh=>v.length - (vint vs 0).toNat,⟨0,rfl,Nat.zero_le _,by simpa using V330⟩,?_⟩
  rintro vs hh ⟨m,rfl,hm,V5⟩
  have hlen5:((accP r.acs v).take m++r.acs.drop m).length=r.acs.length:=by rw [List.length_append,List.length_take,List.length_drop];omega
  refine⟨m,rfl,fun e=>?_,fun e=>?_⟩
  ·have hlt:m < v.length:=by have:=of_decide_eq_true e;omega
   have hltA:m < r.acs.length:=by omega
   have lh:h.le hh:=Hp.le_trans l2 (Hp.le_trans OQ.le V5.le0)
   have hxv:v[m]?=some v[m]:=List.getElem?_eq_getElem hlt
   obtain⟨b2,o2,ea2,hr2⟩:=(SV.le lh).get encV_len (by decide) hxv
   have hxi:((accP r.acs v).take m++r.acs.drop m)[m]?=some r.acs[m]:=by
    rw [List.getElem?_append_right (by rw [List.length_take];omega),List.length_take,Nat.min_eq_left (by omega),Nat.sub_self,List.getElem?_drop,Nat.add_zero,List.getElem?_eq_getElem hltA]
   obtain⟨b3,o3,ea3,hr3⟩:=(V5.slp encAc_len (by decide)).get encAc_len (by decide) hxi
   have hni:(accP r.acs v)[m]'(by omega)=(r.acs[m].1,gStep r.acs[m].1 r.acs[m].2 v[m]):=by unfold accP;rw [List.getElem_zipWith]
   have hset:((accP r.acs v).take m++r.acs.drop m).set m (r.acs[m].1,gStep r.acs[m].1 r.acs[m].2 v[m])=(accP r.acs v).take (m+1)++r.acs.drop (m+1):=by
    rw [←hni,List.set_append_right _ _ (by rw [List.length_take];omega),List.length_take,Nat.min_eq_left (by omega),Nat.sub_self,List.drop_eq_getElem_cons hltA,List.set_cons_zero,List.take_succ_eq_append_getElem (by omega:m < (accP r.acs v).length),List.append_assoc]
    rfl
   have hb1:=hrb _ (List.getElem_mem hltA)
   have hb2:=hvs _ (List.getElem_mem hlt)
   unfold AcB at hb1
   unfold smallV at hb2
   have hA0:VecA h321 hh a331 c331 ((accP r.acs v).take m++r.acs.drop m):=V5
   obtain⟨b4,o4,ea4,H4⟩:=V5.putF encAc_len hxi (x':=(r.acs[m].1,gStep r.acs[m].1 r.acs[m].2 v[m])) (k:=0) (vs:=encAc (r.acs[m].1,gStep r.acs[m].1 r.acs[m].2 v[m])) (by simp [encAc,encA]) (by simp [encAc_len]) (by simp [setL,encAc_len,List.drop_of_length_le])
   refine⟨b2,o2,⟨ea2,by omega,by omega⟩,_,_,by rw [Int.toNat_natCast];exact hr2,b3,o3,⟨ea3,by omega,by omega⟩,_,_,_,_,by rw [Int.toNat_natCast];exact hr3,?_⟩
   refine gather_Add_ok (k:=r.acs[m].1) (s:=r.acs[m].2) (v:=v[m]) (by unfold InR;omega) (by unfold InR;omega) ⟨_,_,_,_,rfl,b4,o4,⟨ea4,by omega,by omega⟩,?_⟩
   rw [Int.toNat_natCast]
   refine H4 _ fun h358 V358 _=>⟨_,isW (by unfold InR;omega),⟨m+1,by simp,by omega,?_⟩,by simp [vint];omega⟩
   rw [hset] at V358
   exact V358
  ·have hge:m=v.length:=by have:=of_decide_eq_false e;omega
   subst hge
   rw [List.take_of_length_le (by omega),List.drop_of_length_le (by omega),List.append_nil] at V5
   have VQ5:=VQ.keep0 V5.le0
   obtain⟨b2,o2,ea2,H2⟩:=VQ5.putF encPr_len hr (x':=⟨r.k,a331,c331,accP r.acs v,r.t⟩) (k:=0) (vs:=encPr ⟨r.k,a331,c331,accP r.acs v,r.t⟩) (by simp [encPr,D.PRow.enc]) (by simp [encPr_len]) (by simp [setL,encPr_len,List.drop_of_length_le])
   refine⟨b2,o2,⟨ea2,by omega,by omega⟩,?_⟩
   rw [Int.toNat_natCast]
   have est:encPr ⟨r.k,a331,c331,accP r.acs v,r.t⟩=[vi r.k.1,vi r.k.2.1,vi r.k.2.2,vsl a331 r.acs.length c331,vb r.t]:=by unfold encPr prRow;simp [D.PRow.enc,hacl]
   rw [est,Nat.add_zero] at H2
   refine H2 _ fun h363 V363 B363=>?_
   unfold Vec at V363
   rw [List.length_set] at V363
   have keep:∀ g xs,(∀ b o,g=some ⟨b,o,none⟩→a315≠some ⟨b,0,none⟩)→HasRow hh g xs→HasRow h363 g xs:=by
    intro g xs hg H
    rcases H with q|⟨b,o,q,hrw⟩
    ·exact .inl q
    ·refine .inr ⟨b,o,q,?_⟩
     unfold Hp.row at hrw ⊢
     cases hq:hh b with
     | none=>rw [hq] at hrw;cases hrw
     | some ob=>rw [B363.keep b ob hq (hg b o q)];rw [hq] at hrw;exact hrw
   refine hfin a331 c331 h363 V363 (fun g xs hg H=>keep g xs hg (H.le V5.le0)) (keep _ _ (fun b o hb he=>?_) (OwnV.row V5))
   have hb0:o=0:=OwnS.at0 (OwnV.own V5) b o hb
   subst hb0
   have:=V5.new b hb
   have hal:=(OwnF.fp _ _ _ _ _ _).al VQ.ownF b he
   exact hal this
 clear_value J83
 have hiold:∀{hx:Hp} {r:PR},r ∈ R→h6.le hx→∀(a315:Option Addr) (h2':h2.le hx),HasRow hx r.a (r.acs.flatMap encAc):=fun hr l _ _=>(T.i _ hr).le (Hp.le_trans l6 l)
 -- what is there stays behind a change of the own slice
 have kept:∀{hx h':Hp} {a315:Option Addr} {g:Option Addr} {xs:List Value},h2.le h'→HasRow h2 g xs→HasRow h' g xs:=fun l H=>H.le l
 refine⟨fun e=>?_,fun e=>?_⟩
 ·obtain⟨r,hr,hrk⟩:=his.1 e
  have hmem:=List.mem_of_getElem? hr
  have VQ:Vec encPr 5 39 h2 h6 a7 c7 R:=O6
  obtain⟨b,o,ea,hrow⟩:=(VQ.slp encPr_len (by decide)).get encPr_len (by decide) hr
  have hil:=(List.getElem?_eq_some_iff.1 hr).1
  refine⟨b,o,⟨ea,by omega,by omega⟩,_,_,_,_,_,_,_,by rw [Int.toNat_natCast];exact hrow,?_⟩
  refine hJ a7 c7 R _ _ _ _ _ _ _ h6 r O6 (by omega) hr (hkd r hmem) (hbd r hmem) ((T.i r hmem).le l6) fun a2 c2 h' O' _ H2=>?_
  rw [e]
  refine hIn i r a7 c7 a2 c2 h' hr hrk (Hp.le_trans l2 O'.le) ⟨⟨by rw [List.length_set],by exact O'.row⟩,fun r' hr'=>?_⟩
  rcases List.mem_or_eq_of_mem_set hr' with q|q
  ·exact(T.i r' q).le (Hp.le_trans l2 O'.le)
  ·rw [q];exact H2
 ·have hne:∀ x ∈ R,x.k≠k:=by
   intro x hx ek
   obtain⟨m,hm⟩:=List.getElem?_of_mem hx
   rcases Nat.lt_trichotomy m i with h5|h5|h5
   ·have:x ∈ R.take i:=by
     have:(R.take i)[m]?=some x:=by rw [List.getElem?_take,if_pos h5];exact hm
     exact List.mem_of_getElem? this
    have:=hah x this
    rw [ek] at this
    exact aheadK_irr _ this
   ·subst h5
    have:=his.2 ⟨x,hm,ek⟩
    rw [e] at this;cases this
   ·have hil:i < R.length:=by have:=(List.getElem?_eq_some_iff.1 hm).1;omega
    have hy:R[i]?=some R[i]:=List.getElem?_eq_getElem hil
    have h1:=hna _ hy
    have:=List.pairwise_iff_getElem.1 hs i m (by simpa using hil) (by simpa using (List.getElem?_eq_some_iff.1 hm).1) h5
    simp only [List.getElem_map] at this
    rw [(List.getElem?_eq_some_iff.1 hm).2,ek] at this
    exact h1 this
  intro J45
  have hJ45:∀(a74:Option Addr) (c74:Nat) (h76:Hp),VecA h6 h76 a74 c74 (acc0 ks)→J45 k.1 k.2.1 k.2.2 a74 (acc0 ks).length c74 false h76:=by
   intro a74 c74 h76 VA b77 hb77 h78
   have l78:h76.le h78:=Hp.le_set (Hp.le_refl h76) hb77 _
   have k77:h78 b77=some (cellsO (encPr ⟨k,a74,c74,acc0 ks,false⟩) 39):=Hp.set_same _ _ _
   clear_value h78
   have O78:=(OwnV.mono VA.le0 O6).mono l78
   obtain⟨hB,lB,OB,kB⟩:=OwnV.self O78
   have hrowB:HasRow hB a74 ((acc0 ks).flatMap encAc):=HasRow.over ((OwnV.row VA).le l78) fun b o ob hb ho=>kB b ob (fun q=>by
    have hb0:o=0:=OwnS.at0 (OwnV.own VA) b o hb
    subst hb0
    have h1:=VA.new b hb
    exact(OwnF.fp _ _ _ _ _ _).al (Vec.ownF (show Vec encPr 5 39 h2 h6 a7 c7 R from O6)) b q h1) ho
   refine insert_Pane_ok (x:=⟨k,a74,c74,acc0 ks,false⟩) OB (by omega) hi k77 (fun q=>?_) fun a81 c81 h80 O80=>⟨_,_,_,rfl,?_⟩
   ·have hal:=(OwnF.fp _ _ _ _ _ _).al (Vec.ownF (show Vec encPr 5 39 h2 h6 a7 c7 R from O6)) b77 q
    exact hal (Hp.none_of_le VA.le0 hb77)
   have hQl:(R.take i++(⟨k,a74,c74,acc0 ks,false⟩:PR) :: R.drop i).length=R.length+1:=by rw [List.length_append,List.length_cons,List.length_take,List.length_drop];omega
   have htl:(R.take i).length=i:=by rw [List.length_take];omega
   have hQi:(R.take i++(⟨k,a74,c74,acc0 ks,false⟩:PR) :: R.drop i)[i]?=some ⟨k,a74,c74,acc0 ks,false⟩:=by rw [List.getElem?_append_right (by omega),htl,Nat.sub_self];rfl
   have ha0:(acc0 ks).length=ks.length:=by unfold acc0;rw [List.length_map]
   have hrow:HasRow h80 a74 ((acc0 ks).flatMap encAc):=hrowB.le O80.le
   have O80:=O80.trans lB
   have:=hJ a81 c81 (R.take i++(⟨k,a74,c74,acc0 ks,false⟩:PR) :: R.drop i) 0 0 0 none 0 0 false h80 ⟨k,a74,c74,acc0 ks,false⟩ (by rw [hQl];exact O80) (by omega) hQi ha0 ?_ hrow fun a2 c2 h' O' _ H2=>?_
   ·rw [hQl] at this;exact this
   ·intro x hx
    unfold acc0 at hx
    obtain⟨k0,_,rfl⟩:=List.mem_map.1 hx
    unfold AcB
    simp only
    omega
   ·rw [e]
    have hset:(R.take i++(⟨k,a74,c74,acc0 ks,false⟩:PR) :: R.drop i).set i ⟨k,a2,c2,accP (acc0 ks) v,false⟩=R.take i++⟨k,a2,c2,accP (acc0 ks) v,false⟩ :: R.drop i:=by
     rw [List.set_append_right _ _ (by omega),htl,Nat.sub_self,List.set_cons_zero]
    rw [hset,hQl] at O'
    rw [hQl]
    have hQl2:(R.take i++(⟨k,a2,c2,accP (acc0 ks) v,false⟩:PR) :: R.drop i).length=R.length+1:=by rw [List.length_append,List.length_cons,List.length_take,List.length_drop];omega
    refine hNew i a81 c81 a2 c2 h' hi hah hna hne (Hp.le_trans l2 O'.le) ⟨⟨rfl,O'.row⟩,fun r' hr'=>?_⟩
    rcases List.mem_append.1 hr' with q|q
    ·exact(T.i r' (List.mem_of_mem_take q)).le (Hp.le_trans l2 O'.le)
    ·rcases List.mem_cons.1 q with rfl|q
     ·exact H2
     ·exact(T.i r' (List.mem_of_mem_drop q)).le (Hp.le_trans l2 O'.le)
  clear_value J45
  refine⟨fun vs hh=>∃(m:Nat) (aa:Option Addr) (ca:Nat),vs=[vi m,vi k.1,vi k.2.1,vi k.2.2,vsl aa (acc0 (ks.take m)).length ca,vb false]∧m≤ks.length∧VecA h6 hh aa ca (acc0 (ks.take m)),fun vs hh=>ks.length - (vint vs 0).toNat,⟨0,none,0,rfl,Nat.zero_le _,OwnV.nil (Hp.le_refl _) _ _⟩,?_⟩
  rintro vs hh ⟨m,aa,ca,rfl,hm,V⟩
  refine⟨_,_,_,_,aa,_,ca,false,rfl,fun e5=>?_,fun e5=>?_⟩
  ·have hltm:m < ks.length:=by have:=of_decide_eq_true e5;omega
   have tkm:ks.take (m+1)=ks.take m++[ks[m]]:=List.take_succ_eq_append_getElem hltm
   have hal:(acc0 (ks.take m)).length=m:=by unfold acc0;rw [List.length_map,List.length_take];omega
   obtain⟨b,o,ea,hc⟩:=(SK.le (Hp.le_trans l6 V.le0)).get (i:=m) (by omega)
   have hgd:ks.getD m 0=ks[m]:=by rw [List.getD_eq_getElem?_getD,List.getElem?_eq_getElem hltm];rfl
   rw [hgd] at hc
   generalize ks[m]=km at *
   refine⟨b,o,⟨ea,by omega,by omega⟩,_,by rw [Int.toNat_natCast];exact hc,gather_New_ok ⟨_,_,_,_,rfl,?_⟩⟩
   intro b38 hb38 h39
   refine Vec.app elAcc encAc_len one_ac V (by rw [hal];omega) (by rw [hal];omega) (x:=(km,(0,0,0))) hb38 fun a' c' h' V'=>⟨_,_,_,rfl,_,isW (by unfold InR;omega),⟨m+1,a',c',?_,by omega,?_⟩,by simp [vint];omega⟩
   ·rw [tkm];unfold acc0;rw [List.map_append];rfl
   ·rw [tkm];unfold acc0 at V' ⊢;rw [List.map_append];exact V'
  ·have hge:m=ks.length:=by have:=of_decide_eq_false e5;omega
   rw [hge,List.take_length] at V ⊢
   exact hJ45 aa ca hh V
end
open Go.Txt
theorem accsOf_kinds {ks:List Int}{rs:List (List Vl)}(hl:∀ r ∈ rs,r.length=ks.length):(accsOf ks rs).map (·.1)=ks:=by
 rw [acc_cols ks hl,List.map_zipWith]
 have hc:=colsOf_len (n:=ks.length) hl
 generalize colsOf ks.length rs=cs at hc
 clear hl
 induction ks generalizing cs with
 | nil=>rfl
 | cons k ks ih=>
  match cs,hc with
  | c :: cs,hc=>
   rw [List.zipWith_cons_cons,ih cs (by simpa using hc)]
   rfl
end Go.Proofs.Ytedmojjfdppffaa
namespace Go.Proofs.Ytedmojjfdppffaa
open Go Go.Vc
def VC_R_Gathered (u0:Int)(u1:Option Addr)(u2 u3:Nat)(h:Hp)(R:Value→Hp→Prop):Prop:=
 (∃(I2:List Value→Hp→Prop) (m3:List Value→Hp→Nat),I2 [vi 0,vi 0,vi 0,vi 0] h∧∀ vs4 h5,I2 vs4 h5→∃ x6 x7 x8 x9,vs4=[vi x6,vi x7,vi x8,vi x9]∧(((decide (x9 < (u2:Int)))=true→(let J25:Int→Int→Int→Prop:=fun x32 x33 x34=>(∃ x35,(IsW x35 (x9+1))∧(I2 [vi x32,vi x33,vi x34,vi x35] h5∧m3 [vi x32,vi x33,vi x34,vi x35] h5 < m3 vs4 h5));(∃ b12 o13,(u1=some ⟨b12,o13,none⟩∧(0:Int)≤x9∧x9 < (u2:Int))∧(∃ x14 x15,(Hp.row h5 b12 (o13+x9.toNat*2) 2=some [vi x14,vi x15])∧(((bif (decide (u0≠1)) then(decide (x14=0)) else false)=true→(J25 x6 x7 x8))∧((bif (decide (u0≠1)) then(decide (x14=0)) else false)=false→(let J20:Int→Prop:=fun x21=>(∃ x22,(IsW x22 (x6+1))∧(∃ x23,(IsW x23 (x7+x15))∧(J25 x22 x23 x21)));(((bif (bif (decide (x6=0)) then true else(bif (decide (u0=4)) then(decide (x15 < x8)) else false)) then true else(bif (decide (u0=5)) then(decide (x15 > x8)) else false))=true→(J20 x15))∧((bif (bif (decide (x6=0)) then true else(bif (decide (u0=4)) then(decide (x15 < x8)) else false)) then true else(bif (decide (u0=5)) then(decide (x15 > x8)) else false))=false→(J20 x8))))))))))∧((decide (x9 < (u2:Int)))=false→(((decide (u0 < 3))=true→(CallOK Try.prog 35 [vi x6] h5 fun v36 h37=>∃ x38 x39,v36=(vag [vi x38,vi x39])∧R (vag [vi x38,vi x39]) h37))∧((decide (u0 < 3))=false→(((decide (x6=0))=true→R (vag [vi 0,vi 0]) h5)∧((decide (x6=0))=false→(((decide (u0=3))=true→(CallOK Try.prog 35 [vi x7] h5 fun v42 h43=>∃ x44 x45,v42=(vag [vi x44,vi x45])∧R (vag [vi x44,vi x45]) h43))∧((decide (u0=3))=false→(CallOK Try.prog 35 [vi x8] h5 fun v47 h48=>∃ x49 x50,v47=(vag [vi x49,vi x50])∧R (vag [vi x49,vi x50]) h48))))))))))
theorem ok_R_Gathered {u0 u1 u2 u3 h R}(H:VC_R_Gathered u0 u1 u2 u3 h R):CallOK Try.prog 23 [vi u0,vsl u1 u2 u3] h R:=
 call_of (cfg:=⟨[],[(5,([5,6,7,8],[.one (.int .i64),.one (.int .i64),.one (.int .i64),.one (.int .i64)],[]))],[]⟩) noNG mixed Try.func23 [.one (.v (vi u0)),.one (.v (vsl u1 u2 u3))] (by kernel_rfl) rfl (by kernel_rfl) H
open Go.Txt
theorem R_Gathered_ok {k:Int}(hk:1≤k){a:Option Addr}{n c:Nat}{l:List (Int × Int)}{h:Hp}{R:Value→Hp→Prop}(S:SlP encV h a n l)(hv:∀ v ∈ l,smallV v)(hn:n≤1048576)
  (hK:R (vag (encV (gVal k (l.foldl (gStep k) (0,0,0))))) h):CallOK Try.prog 23 [vi k,vsl a n c] h R:=by
 refine ok_R_Gathered ?_
 unfold VC_R_Gathered
 have hl:=S.1
 refine⟨fun vs hh=>hh=h∧∃ i:Nat,i≤n∧vs=[vi ((l.take i).foldl (gStep k) (0,0,0)).1,vi ((l.take i).foldl (gStep k) (0,0,0)).2.1,vi ((l.take i).foldl (gStep k) (0,0,0)).2.2,vi i],
  fun vs hh=>n - (vint vs 3).toNat,⟨rfl,0,Nat.zero_le _,by simp⟩,?_⟩
 rintro vs hh ⟨rfl,i,hi,rfl⟩
 refine⟨_,_,_,_,rfl,fun e=>?_,fun e=>?_⟩
 ·have hlt:i < n:=by simpa using e
  have hx:l[i]?=some l[i]:=List.getElem?_eq_getElem (by omega)
  obtain⟨b,o,ea,hr⟩:=S.get encV_len (by decide) hx
  have tk:l.take (i+1)=l.take i++[l[i]]:=List.take_succ_eq_append_getElem (by omega)
  have B:=gfold_bound (k:=k) (l.take i) (0,0,0) (fun v hm=>hv v (List.mem_of_mem_take hm)) (by decide)
  have hs:=hv l[i] (List.getElem_mem _)
  have st:((l.take (i+1)).foldl (gStep k) (0,0,0))=gStep k ((l.take i).foldl (gStep k) (0,0,0)) l[i]:=by rw [tk,List.foldl_append];rfl
  have len:(l.take i).length≤i:=by rw [List.length_take];exact Nat.min_le_left _ _
  simp only at B
  have go:∀ x y z:Int,(x,y,z)=((l.take (i+1)).foldl (gStep k) (0,0,0))→∃ u:Int,IsW u ((i:Int)+1)∧((hh=hh∧∃ j:Nat,j≤n∧[vi x,vi y,vi z,vi u]=[vi ((l.take j).foldl (gStep k) (0,0,0)).1,vi ((l.take j).foldl (gStep k) (0,0,0)).2.1,vi ((l.take j).foldl (gStep k) (0,0,0)).2.2,vi j]) ∧
    n - (vint [vi x,vi y,vi z,vi u] 3).toNat < n - (vint [vi ((l.take i).foldl (gStep k) (0,0,0)).1,vi ((l.take i).foldl (gStep k) (0,0,0)).2.1,vi ((l.take i).foldl (gStep k) (0,0,0)).2.2,vi (i:Int)] 3).toNat):=by
   intro x y z e
   refine⟨_,isW (by unfold InR;omega),⟨rfl,i+1,hlt,?_⟩,by simp [vint];omega⟩
   rw [←e]
   simp
  generalize hG:(l.take i).foldl (gStep k) (0,0,0)=G at *
  generalize hG2:(l.take (i+1)).foldl (gStep k) (0,0,0)=G2 at *
  unfold smallV at hs
  have i1:InR (G.1+1):=by unfold InR;omega
  have i2:InR (G.2.1+l[i].2):=by unfold InR;omega
  intro J23
  refine⟨b,o,⟨ea,by omega,by omega⟩,_,_,by simpa [encV] using hr,fun e=>?_,fun e=>?_⟩
  ·have e':k≠1∧l[i].1=0:=by simpa [Bool.cond_eq_ite] using e
   refine go _ _ _ ?_
   rw [st,gStep,if_pos e']
  ·have e':¬(k≠1∧l[i].1=0):=by simpa [Bool.cond_eq_ite] using e
   intro J20
   refine⟨fun e=>?_,fun e=>?_⟩
   ·have e2:G.1=0∨(k=4∧l[i].2 < G.2.2)∨(k=5∧l[i].2 > G.2.2):=by simp [Bool.cond_eq_ite] at e;omega
    refine⟨_,isW i1,_,isW i2,go _ _ _ ?_⟩
    rw [st,gStep,if_neg e',if_pos e2]
   ·have e2:¬(G.1=0∨(k=4∧l[i].2 < G.2.2)∨(k=5∧l[i].2 > G.2.2)):=by simp [Bool.cond_eq_ite] at e;omega
    refine⟨_,isW i1,_,isW i2,go _ _ _ ?_⟩
    rw [st,gStep,if_neg e',if_neg e2]
 ·have hge:i=n:=by simp at e;omega
  have ht:l.take i=l:=List.take_of_length_le (by omega)
  rw [ht]
  generalize hG:l.foldl (gStep k) (0,0,0)=G at *
  unfold gVal at hK
  refine⟨fun e=>?_,fun e=>⟨fun e2=>?_,fun e2=>⟨fun e3=>?_,fun e3=>?_⟩⟩⟩
  ·have e:k=1∨k=2:=by simp at e;omega
   rw [if_pos e] at hK
   exact R_Num_ok ⟨_,_,rfl,hK⟩
  all_goals have e:¬(k=1∨k=2):=by simp at e;omega
  all_goals rw [if_neg e] at hK
  ·have e2:G.1=0:=by simpa using e2
   rw [if_pos e2] at hK
   exact hK
  all_goals have e2:¬ G.1=0:=by simpa using e2
  all_goals rw [if_neg e2] at hK
  ·have e3:k=3:=by simpa using e3
   rw [if_pos e3] at hK
   exact R_Num_ok ⟨_,_,rfl,hK⟩
  ·have e3:¬ k=3:=by simpa using e3
   rw [if_neg e3] at hK
   exact R_Num_ok ⟨_,_,rfl,hK⟩
section
variable {q:Qy}{a1:Option Addr}{n1 c1:Nat}{a2:Option Addr}{n2 c2:Nat}{a3:Option Addr}{n3 c3:Nat}{h:Hp}{R:Value→Hp→Prop}
end
structure PN where
 k:PK
 b:Nat
 t:Nat
 cs:List (List Vl)
 told:Bool
section
variable {h0 h:Hp}{a:Option Addr}{c:Nat}{R:List PN}
end
theorem store_new {h:Hp}{b:Nat}{xs ys:List Value}{t:TypeId}(hl:ys.length=xs.length){K:Hp→Prop}(hK:K (h.set b (cellsO ys t))):Hp.store (h.set b (cellsO xs t)) b 0 ys K:=by
 refine⟨xs.toArray,t,Hp.set_same _ _ _,by simp [hl],?_⟩
 rw [Hp.set_set]
 have e:setL xs.toArray.toList 0 ys=ys:=by
  unfold setL
  rw [List.take_zero,List.nil_append,List.toList_toArray,Nat.zero_add,List.drop_of_length_le (by omega),List.append_nil]
 rw [e]
 exact hK
def pkRw (k:PK)(v:Value):List Value:=[vi k.1,vi k.2.1,vi k.2.2,v]
end Go.Proofs.Ytedmojjfdppffaa
namespace Go.Proofs.Ytedmojjfdppffaa
open Go Go.Vc
def VC_R_SameValues (u0:Option Addr)(u1 u2:Nat)(u3:Option Addr)(u4 u5:Nat)(h:Hp)(R:Value→Hp→Prop):Prop:=
 (((decide ((u1:Int)≠(u4:Int)))=true→R (vb false) h)∧((decide ((u1:Int)≠(u4:Int)))=false→(∃(I3:List Value→Hp→Prop) (m4:List Value→Hp→Nat),I3 [vi 0] h∧∀ vs5 h6,I3 vs5 h6→∃ x7,vs5=[vi x7]∧(((decide (x7 < (u1:Int)))=true→(∃ b10 o11,(u0=some ⟨b10,o11,none⟩∧(0:Int)≤x7∧x7 < (u1:Int))∧(∃ x12 x13,(Hp.row h6 b10 (o11+x7.toNat*2) 2=some [vi x12,vi x13])∧(∃ b14 o15,(u3=some ⟨b14,o15,none⟩∧(0:Int)≤x7∧x7 < (u4:Int))∧(∃ x16 x17,(Hp.row h6 b14 (o15+x7.toNat*2) 2=some [vi x16,vi x17])∧(∃ p18,(Rd Try.prog ((eqGuard .neq 30 (.tmp 20) (.tmp 24) (vag [vi x12,vi x13]) (vag [vi x16,vi x17]) >>= fun _=>binOp .neq 30 (vag [vi x12,vi x13]) (vag [vi x16,vi x17]))) h6 (vb p18))∧((p18=true→R (vb false) h6)∧(p18=false→(∃ x20,(IsW x20 (x7+1))∧(I3 [vi x20] h6∧m4 [vi x20] h6 < m4 vs5 h6))))))))))∧((decide (x7 < (u1:Int)))=false→R (vb true) h6)))))
theorem ok_R_SameValues {u0 u1 u2 u3 u4 u5 h R}(H:VC_R_SameValues u0 u1 u2 u3 u4 u5 h R):CallOK Try.prog 21 [vsl u0 u1 u2,vsl u3 u4 u5] h R:=
 call_of (cfg:=⟨[],[(4,([5],[.one (.int .i64)],[]))],[(6,[0,1,2,3,4,5,6,7,8])]⟩) noNG mixed Try.func21 [.one (.v (vsl u0 u1 u2)),.one (.v (vsl u3 u4 u5))] (by kernel_rfl) rfl (by kernel_rfl) H
def VC_R_SamePane (u0:Int)(u1:Int)(u2:Int)(u3:Option Addr)(u4 u5:Nat)(u6:Int)(u7:Int)(u8:Int)(u9:Option Addr)(u10 u11:Nat)(h:Hp)(R:Value→Hp→Prop):Prop:=
 (CallOK Try.prog 21 [vsl u3 u4 u5,vsl u9 u10 u11] h fun v1 h2=>∃ p3,v1=(vb p3)∧(∃ p4,((decide (u0=u6))=true→Rd Try.prog ((eqGuard .eql 30 (.tmp 18) (.tmp 20) (vag [vi u1,vi u2]) (vag [vi u7,vi u8]) >>= fun _=>binOp .eql 30 (vag [vi u1,vi u2]) (vag [vi u7,vi u8]))) h2 (vb p4))∧R (vb (bif (bif (decide (u0=u6)) then p4 else false) then p3 else false)) h2))
theorem ok_R_SamePane {u0 u1 u2 u3 u4 u5 u6 u7 u8 u9 u10 u11 h R}(H:VC_R_SamePane u0 u1 u2 u3 u4 u5 u6 u7 u8 u9 u10 u11 h R):CallOK Try.prog 8 [vag [vi u0,vi u1,vi u2,vsl u3 u4 u5],vag [vi u6,vi u7,vi u8,vsl u9 u10 u11]] h R:=
 call_of (cfg:=⟨[],[],[]⟩) noNG mixed Try.func8 [.ag [.v (vi u0),.v (vi u1),.v (vi u2),.v (vsl u3 u4 u5)],.ag [.v (vi u6),.v (vi u7),.v (vi u8),.v (vsl u9 u10 u11)]] (by kernel_rfl) rfl (by kernel_rfl) H
section
variable {h:Hp}{R':Value→Hp→Prop}
theorem R_SameValues_ok {l:List Vl}{a b:Option Addr}{c d:Nat}(S:SlP encV h a l.length l)(S2:SlP encV h b l.length l)(hn:l.length≤1000000)(hK:R' (vb true) h):CallOK Try.prog 21 [vsl a l.length c,vsl b l.length d] h R':=by
 refine ok_R_SameValues ?_
 unfold VC_R_SameValues
 refine⟨fun e=>absurd rfl (of_decide_eq_true e),fun _=>?_⟩
 refine⟨fun vs hh=>hh=h∧∃ i:Nat,vs=[vi i]∧i≤l.length,fun vs hh=>l.length - (vint vs 0).toNat,⟨rfl,0,rfl,Nat.zero_le _⟩,?_⟩
 rintro vs hh ⟨rfl,i,rfl,hi⟩
 refine⟨i,rfl,fun e=>?_,fun _=>hK⟩
 have hlt:i < l.length:=by have:=of_decide_eq_true e;omega
 have hx:l[i]?=some l[i]:=List.getElem?_eq_getElem hlt
 obtain⟨b1,o1,e1,r1⟩:=S.get (sz:=2) (fun _=>rfl) (by decide) hx
 obtain⟨b2,o2,e2,r2⟩:=S2.get (sz:=2) (fun _=>rfl) (by decide) hx
 refine⟨b1,o1,⟨e1,by omega,by omega⟩,_,_,by rw [Int.toNat_natCast];exact r1,b2,o2,⟨e2,by omega,by omega⟩,_,_,by rw [Int.toNat_natCast];exact r2,!decide (l[i]=l[i]),rd_neqV,fun e3=>(by simp at e3),fun _=>⟨_,isW (by unfold InR;omega),⟨rfl,i+1,rfl,by omega⟩,by simp [vint];omega⟩⟩
theorem R_SamePane_ok {k:PK}{l:List Vl}{a b:Option Addr}{c d:Nat}(S:SlP encV h a l.length l)(S2:SlP encV h b l.length l)(hn:l.length≤1000000)(hK:R' (vb true) h):CallOK Try.prog 8 [vag (pkRw k (vsl a l.length c)),vag (pkRw k (vsl b l.length d))] h R':=by
 refine ok_R_SamePane ?_
 unfold VC_R_SamePane
 refine R_SameValues_ok S S2 hn ⟨_,rfl,decide (k.2=k.2),fun _=>rd_eqV,?_⟩
 rw [decide_eq_true (rfl:k.1=k.1),decide_eq_true (rfl:k.2=k.2)]
 exact hK
end
structure Pn where
 k:PK
 rs:List (List Vl)
 t:Bool
def putP (k:PK)(v:List Vl):List Pn→List Pn
 | []=>[⟨k,[v],false⟩]
 | p :: l=>if aheadK p.k k then p :: putP k v l else if p.k=k then⟨k,p.rs++[v],p.t⟩ :: l else⟨k,[v],false⟩ :: p :: l
def atP (k:PK)(l:List Pn):Option Pn:=l.find? fun p=>decide (p.k=k)
def dueP (size upto:Int)(p:Pn):Bool:=decide (p.k.1+size≤upto)
def tellP (size upto:Int)(l:List Pn):List Pn:=l.map fun p=>⟨p.k,p.rs,p.t||dueP size upto p⟩
def newP (size upto:Int)(l:List Pn):List Pn:=l.filter fun p=>!p.t&&dueP size upto p
def dropP (size upto:Int)(l:List Pn):List Pn:=l.filter fun p=>!dueP size upto p
theorem putP_keys (k:PK)(v:List Vl):∀ l:List Pn,(putP k v l).map (·.k)=insK k (l.map (·.k))
 | []=>rfl
 | p :: l=>by
  rw [putP,List.map_cons,insK]
  split
  ·rw [List.map_cons,putP_keys k v l]
  ·split
   ·rename_i h;rw [List.map_cons,h]
   ·rfl
theorem putP_mem {k:PK}{v:List Vl}:∀{l:List Pn} {p:Pn},p ∈ putP k v l→p ∈ l∨(p=⟨k,[v],false⟩∧True)∨∃ p0 ∈ l,p0.k=k∧p=⟨k,p0.rs++[v],p0.t⟩
 | [],p,h=>by rw [putP] at h;exact .inr (.inl ⟨List.mem_singleton.1 h,trivial⟩)
 | x :: l,p,h=>by
  rw [putP] at h
  split at h
  ·rcases List.mem_cons.1 h with rfl|h
   ·exact .inl (List.mem_cons_self ..)
   ·rcases putP_mem h with h1|h1|⟨p0,h1,h2⟩
    ·exact .inl (List.mem_cons_of_mem _ h1)
    ·exact .inr (.inl h1)
    ·exact .inr (.inr ⟨p0,List.mem_cons_of_mem _ h1,h2⟩)
  ·split at h
   ·rename_i hk
    rcases List.mem_cons.1 h with rfl|h
    ·exact .inr (.inr ⟨x,List.mem_cons_self ..,hk,rfl⟩)
    ·exact .inl (List.mem_cons_of_mem _ h)
   ·rcases List.mem_cons.1 h with rfl|h
    ·exact .inr (.inl ⟨rfl,trivial⟩)
    ·exact .inl h
theorem sortedP_keys {l:List Pn}:(l.Pairwise fun a b=>aheadK a.k b.k)↔(l.map (·.k)).Pairwise aheadK:=by rw [List.pairwise_map]
theorem atP_mem {l:List Pn}(hs:l.Pairwise fun a b=>aheadK a.k b.k){p:Pn}(hp:p ∈ l):atP p.k l=some p:=by
 induction l with
 | nil=>cases hp
 | cons x l ih=>
  obtain⟨h1,h2⟩:=List.pairwise_cons.1 hs
  unfold atP
  rw [List.find?_cons]
  rcases List.mem_cons.1 hp with rfl|hp
  ·rw [decide_eq_true rfl]
  ·have hne:¬ x.k=p.k:=fun e=>aheadK_irr p.k (by have:=h1 p hp;rw [e] at this;exact this)
   rw [decide_eq_false hne]
   exact ih h2 hp
structure PanI (A:List Ad)(pn:List Pn)(T:List PK):Prop where
 s:pn.Pairwise fun a b=>aheadK a.k b.k
 r:∀ p ∈ pn,p.rs=rowsOf A p.k∧p.rs≠[]
 a:∀ x ∈ A,∃ p ∈ pn,p.k=x.1
 t:∀ p ∈ pn,p.t=decide (p.k ∈ T)
 k:∀ k ∈ T,∃ p ∈ pn,p.k=k
theorem PanI.nil:PanI [] [] []:=⟨List.Pairwise.nil,by simp,by simp,by simp,by simp⟩
section
variable {A:List Ad}{pn:List Pn}{T:List PK}
theorem key_one (hs:pn.Pairwise fun a b=>aheadK a.k b.k){p q:Pn}(hp:p ∈ pn)(hq:q ∈ pn)(e:p.k=q.k):p=q:=by
 have h1:=atP_mem hs hp
 rw [e,atP_mem hs hq] at h1
 exact(Option.some.inj h1).symm
theorem mem_putP {k:PK}{v:List Vl}:∀{l:List Pn},l.Pairwise (fun a b=>aheadK a.k b.k)→∀{p:Pn},p ∈ l→p.k≠k→p ∈ putP k v l
 | [],_,p,h,_=>by cases h
 | x :: l,hs,p,h,hne=>by
  rw [putP]
  rcases List.mem_cons.1 h with rfl|h
  ·split
   ·exact List.mem_cons_self ..
   ·exact List.mem_cons_of_mem _ (List.mem_cons_self ..)
  ·split
   ·exact List.mem_cons_of_mem _ (mem_putP (List.pairwise_cons.1 hs).2 h hne)
   ·split
    ·exact List.mem_cons_of_mem _ h
    ·exact List.mem_cons_of_mem _ (List.mem_cons_of_mem _ h)
theorem putP_at (k:PK)(v:List Vl):∀(l:List Pn),∃ p ∈ putP k v l,p.k=k
 | []=>⟨_,by rw [putP];exact List.mem_cons_self ..,rfl⟩
 | x :: l=>by
  rw [putP]
  split
  ·obtain⟨p,hp,e⟩:=putP_at k v l
   exact⟨p,List.mem_cons_of_mem _ hp,e⟩
  ·split
   ·exact⟨_,List.mem_cons_self ..,rfl⟩
   ·exact⟨_,List.mem_cons_self ..,rfl⟩
theorem putP_own {k:PK}{v:List Vl}:∀{l:List Pn},l.Pairwise (fun a b=>aheadK a.k b.k)→∀{p:Pn},p ∈ putP k v l→p.k=k→(∃ q ∈ l,q.k=k∧p=⟨k,q.rs++[v],q.t⟩)∨((∀ q ∈ l,q.k≠k)∧p=⟨k,[v],false⟩)
 | [],_,p,h,_=>by rw [putP] at h;exact .inr ⟨by simp,List.mem_singleton.1 h⟩
 | x :: l,hs,p,h,hk=>by
  obtain⟨h1,h2⟩:=List.pairwise_cons.1 hs
  rw [putP] at h
  split at h
  ·rename_i hx
   rcases List.mem_cons.1 h with rfl|h
   ·rw [hk] at hx;exact absurd hx (aheadK_irr _)
   ·rcases putP_own h2 h hk with ⟨q,q1,q2⟩|⟨q1,q2⟩
    ·exact .inl ⟨q,List.mem_cons_of_mem _ q1,q2⟩
    ·refine .inr ⟨fun q hq=>?_,q2⟩
     rcases List.mem_cons.1 hq with rfl|hq
     ·intro e;rw [e] at hx;exact aheadK_irr _ hx
     ·exact q1 q hq
  ·split at h
   ·rename_i hx
    rcases List.mem_cons.1 h with rfl|h
    ·exact .inl ⟨x,List.mem_cons_self ..,hx,rfl⟩
    ·have:=h1 p h
     rw [hx,hk] at this
     exact absurd this (aheadK_irr _)
   ·rename_i n1 n2
    rcases List.mem_cons.1 h with rfl|h
    ·refine .inr ⟨fun q hq e=>?_,rfl⟩
     rcases List.mem_cons.1 hq with rfl|hq
     ·exact n2 e
     ·have:=h1 q hq
      rw [e] at this
      exact n1 this
    ·exfalso
     rcases List.mem_cons.1 h with rfl|h
     ·exact n2 hk
     ·have:=h1 p h
      rw [hk] at this
      exact n1 this
theorem PanI.add (I:PanI A pn T)(k:PK)(v:List Vl):PanI (A++[(k,v)]) (putP k v pn) T:=by
 have hs:(putP k v pn).Pairwise fun a b=>aheadK a.k b.k:=by
  rw [sortedP_keys,putP_keys]
  exact insK_sorted k (sortedP_keys.1 I.s)
 have key:∀ p ∈ putP k v pn,(p ∈ pn∧p.k≠k)∨(p.k=k∧((∃ q ∈ pn,q.k=k∧p=⟨k,q.rs++[v],q.t⟩)∨((∀ q ∈ pn,q.k≠k)∧p=⟨k,[v],false⟩))):=by
  intro p hp
  by_cases e:p.k=k
  ·exact .inr ⟨e,putP_own I.s hp e⟩
  ·rcases putP_mem hp with h|⟨h,_⟩|⟨q,h1,h2,h3⟩
   ·exact .inl ⟨h,e⟩
   ·rw [h] at e;exact absurd rfl e
   ·rw [h3] at e;exact absurd rfl e
 refine⟨hs,fun p hp=>?_,fun x hx=>?_,fun p hp=>?_,fun k' hk'=>?_⟩
 ·rcases key p hp with ⟨h1,h2⟩|⟨h1,⟨q,q1,q2,rfl⟩|⟨q1,rfl⟩⟩
  ·obtain⟨e1,e2⟩:=I.r p h1
   refine⟨?_,e2⟩
   rw [rowsOf_snoc,if_neg (fun e=>h2 e.symm),List.append_nil]
   exact e1
  ·obtain⟨e1,e2⟩:=I.r q q1
   refine⟨?_,by simp⟩
   rw [rowsOf_snoc,if_pos rfl,e1,q2]
  ·refine⟨?_,by simp⟩
   rw [rowsOf_snoc,if_pos rfl,rowsOf_new (fun h=>?_)]
   ·rfl
   ·obtain⟨x,hx,e⟩:=(keysU_mem A k).1 h
    obtain⟨p,hp2,e2⟩:=I.a x hx
    exact q1 p hp2 (e2.trans e)
 ·rcases List.mem_append.1 hx with hx|hx
  ·obtain⟨p,hp,e⟩:=I.a x hx
   by_cases e2:p.k=k
   ·obtain⟨p',hp',e'⟩:=putP_at k v pn
    exact⟨p',hp',by rw [e',←e2,e]⟩
   ·exact⟨p,mem_putP I.s hp e2,e⟩
  ·rw [List.mem_singleton.1 hx]
   exact putP_at k v pn
 ·rcases key p hp with ⟨h1,h2⟩|⟨h1,⟨q,q1,q2,rfl⟩|⟨q1,rfl⟩⟩
  ·exact I.t p h1
  ·rw [←q2];exact I.t q q1
  ·symm
   refine decide_eq_false fun h=>?_
   obtain⟨p,hp2,e⟩:=I.k k h
   exact q1 p hp2 e
 ·obtain⟨p,hp,e⟩:=I.k k' hk'
  by_cases e2:p.k=k
  ·obtain⟨p',hp',e'⟩:=putP_at k v pn
   exact⟨p',hp',by rw [e',←e2,e]⟩
  ·exact⟨p,mem_putP I.s hp e2,e⟩
theorem PanI.tell (I:PanI A pn T)(size upto:Int):PanI A (tellP size upto pn) (T++(newP size upto pn).map (·.k)):=by
 unfold tellP
 refine⟨List.pairwise_map.2 I.s,fun p hp=>?_,fun x hx=>?_,fun p hp=>?_,fun k hk=>?_⟩
 ·obtain⟨q,hq,rfl⟩:=List.mem_map.1 hp
  exact I.r q hq
 ·obtain⟨p,hp,e⟩:=I.a x hx
  exact⟨_,List.mem_map.2 ⟨p,hp,rfl⟩,e⟩
 ·obtain⟨q,hq,rfl⟩:=List.mem_map.1 hp
  show (q.t||dueP size upto q)=decide (q.k ∈ T++(newP size upto pn).map (·.k))
  rw [I.t q hq]
  by_cases h1:q.k ∈ T
  ·rw [decide_eq_true h1,decide_eq_true (List.mem_append_left _ h1)];rfl
  ·rw [decide_eq_false h1,Bool.false_or]
   cases hd:dueP size upto q
   ·symm
    refine decide_eq_false fun h=>?_
    rcases List.mem_append.1 h with h|h
    ·exact h1 h
    ·obtain⟨q',hq',e⟩:=List.mem_map.1 h
     unfold newP at hq'
     obtain⟨m1,m2⟩:=List.mem_filter.1 hq'
     rw [key_one I.s m1 hq e,hd] at m2
     simp at m2
   ·symm
    refine decide_eq_true (List.mem_append_right _ (List.mem_map.2 ⟨q,?_,rfl⟩))
    unfold newP
    refine List.mem_filter.2 ⟨hq,?_⟩
    rw [I.t q hq,decide_eq_false h1,hd]
    rfl
 ·rcases List.mem_append.1 hk with h|h
  ·obtain⟨p,hp,e⟩:=I.k k h
   exact⟨_,List.mem_map.2 ⟨p,hp,rfl⟩,e⟩
  ·obtain⟨q,hq,e⟩:=List.mem_map.1 h
   unfold newP at hq
   exact⟨_,List.mem_map.2 ⟨q,(List.mem_filter.1 hq).1,rfl⟩,e⟩
theorem newP_not (I:PanI A pn T)(size upto:Int):∀ p ∈ newP size upto pn,p.k ∉ T∧p.k.1+size≤upto:=by
 intro p hp
 unfold newP at hp
 obtain⟨h1,h2⟩:=List.mem_filter.1 hp
 rw [I.t p h1,Bool.and_eq_true] at h2
 exact⟨by simpa using h2.1,of_decide_eq_true h2.2⟩
theorem PanI.drop (I:PanI A pn T)(size d:Int):PanI (A.filter fun x=>!decide (x.1.1+size≤d)) (dropP size d pn) (T.filter fun k=>!decide (k.1+size≤d)):=by
 unfold dropP
 have hd:∀ p:Pn,dueP size d p=decide (p.k.1+size≤d):=fun _=>rfl
 refine⟨I.s.filter _,fun p hp=>?_,fun x hx=>?_,fun p hp=>?_,fun k hk=>?_⟩
 ·obtain⟨h1,h2⟩:=List.mem_filter.1 hp
  obtain⟨e1,e2⟩:=I.r p h1
  refine⟨e1.trans ?_,e2⟩
  unfold rowsOf
  rw [List.filter_filter]
  congr 1
  refine List.filter_congr fun x _=>?_
  by_cases e:x.1=p.k
  ·rw [e,←hd p]
   simp [h2]
  ·simp [e]
 ·obtain⟨h1,h2⟩:=List.mem_filter.1 hx
  obtain⟨p,hp,e⟩:=I.a x h1
  refine⟨p,List.mem_filter.2 ⟨hp,?_⟩,e⟩
  rw [hd,e];exact h2
 ·obtain⟨h1,h2⟩:=List.mem_filter.1 hp
  rw [I.t p h1]
  by_cases h:p.k ∈ T
  ·rw [decide_eq_true h,decide_eq_true (List.mem_filter.2 ⟨h,by rw [←hd p];exact h2⟩)]
  ·rw [decide_eq_false h,decide_eq_false (fun q=>h (List.mem_filter.1 q).1)]
 ·obtain⟨h1,h2⟩:=List.mem_filter.1 hk
  obtain⟨p,hp,e⟩:=I.k k h1
  refine⟨p,List.mem_filter.2 ⟨hp,?_⟩,e⟩
  rw [hd,e];exact h2
theorem PanI.len (I:PanI A pn T):pn.length=(keysU A).length:=by
 have hn:(pn.map (·.k)).Nodup:=sorted_nodup (sortedP_keys.1 I.s)
 have hp:(pn.map (·.k)).Perm (keysU A):=(List.perm_ext_iff_of_nodup hn (keysU_nodup A)).2 fun k=>by
  rw [keysU_mem,List.mem_map]
  constructor
  ·rintro⟨p,hp,rfl⟩
   obtain⟨e1,e2⟩:=I.r p hp
   rw [e1] at e2
   unfold rowsOf at e2
   cases h:A.filter fun a=>decide (a.1=p.k) with
   | nil=>rw [h] at e2;exact absurd rfl e2
   | cons x l=>
    have:=List.mem_filter.1 (h▸List.mem_cons_self ..:x ∈ A.filter fun a=>decide (a.1=p.k))
    exact⟨x,this.1,by simpa using this.2⟩
  ·rintro⟨x,hx,rfl⟩
   exact I.a x hx
 have:=hp.length_eq
 rwa [List.length_map] at this
theorem PanI.has (I:PanI A pn T)(k:PK):rowsOf A k≠[]↔∃ p ∈ pn,p.k=k:=by
 constructor
 ·intro h
  refine Decidable.byContradiction fun hn=>h (rowsOf_new fun q=>hn ?_)
  obtain⟨x,hx,e⟩:=(keysU_mem A k).1 q
  obtain⟨p,hp,e2⟩:=I.a x hx
  exact⟨p,hp,e2.trans e⟩
 ·rintro⟨p,hp,rfl⟩
  obtain⟨e1,e2⟩:=I.r p hp
  rwa [e1] at e2
theorem drop_told {size upto d:Int}:∀ p ∈ dropP size d (tellP size upto pn),p.k.1+size≤upto→p.t=true:=by
 intro p hp h
 unfold dropP tellP at hp
 obtain⟨q,hq,rfl⟩:=List.mem_map.1 (List.mem_filter.1 hp).1
 show (q.t||dueP size upto q)=true
 rw [show dueP size upto q=true from decide_eq_true h,Bool.or_true]
end
def addRw (b:PK × Int × Int)(v:Value):List Value:=[vi b.1.1,vi b.1.2.1,vi b.1.2.2,v,vi b.2.1,vi b.2.2]
abbrev AR:=GRow Vl (PK × Int × Int)
def arV (r:AR):List Value:=growV addRw r
theorem arV_len (r:AR):(arV r).length=6:=rfl
theorem one_arV (r:AR):∀ u ∈ arV r,u.oneCell'=true:=by
 intro u hu
 simp only [arV,growV,addRw,List.mem_cons,List.not_mem_nil,or_false] at hu
 rcases hu with rfl|rfl|rfl|rfl|rfl|rfl<;>rfl
theorem elAdd:ElT Try.prog 23 33 6 64:=.of (by kernel_rfl) (by kernel_rfl) (by decide)
abbrev VecAR:=Vec arV 6 33
def ofK (L:List AR)(k:PK):List AR:=L.filter fun r=>decide (r.1.1=k)
def adsOf (L:List AR):List Ad:=L.map fun r=>(r.1.1,r.2.2)
theorem ofK_rows (L:List AR)(k:PK):(ofK L k).map (·.2.2)=rowsOf (adsOf L) k:=by
 unfold ofK rowsOf adsOf
 rw [List.filter_map,List.map_map]
 rfl
section
variable {h:Hp}{R:Value→Hp→Prop}{a:Option Addr}{c:Nat}{L:List AR}
theorem law_of_ok (S:SlP arV h a L.length L){k:PK}(hn:L.length≤1000)(hK:∀ a' c' h',VecAR h h' a' c' (ofK L k)→R (vsl a' (ofK L k).length c') h'):CallOK Try.prog 6 [vsl a L.length c,vi k.1,vag (encV k.2)] h R:=by
 refine ok_law_of ?_
 unfold VC_law_of
 refine⟨fun vs hh=>∃(i:Nat) (a6:Option Addr) (c6:Nat),vs=[vsl a6 (ofK (L.take i) k).length c6,vi i]∧i≤L.length∧VecAR h hh a6 c6 (ofK (L.take i) k),fun vs hh=>L.length - (vint vs 1).toNat,⟨0,none,0,rfl,Nat.zero_le _,OwnV.nil (Hp.le_refl h) _ _⟩,?_⟩
 rintro vs hh ⟨i,a6,c6,rfl,hi,V⟩
 refine⟨_,_,_,_,rfl,fun e=>?_,fun e=>?_⟩
 ·have hlt:i < L.length:=by have:=of_decide_eq_true e;omega
  have hx:L[i]?=some L[i]:=List.getElem?_eq_getElem hlt
  have tk:L.take (i+1)=L.take i++[L[i]]:=List.take_succ_eq_append_getElem hlt
  generalize L[i]=r at *
  have tk2:ofK (L.take (i+1)) k=ofK (L.take i) k++if r.1.1=k then [r] else []:=by
   unfold ofK
   rw [tk,List.filter_append,List.filter_cons,List.filter_nil]
   by_cases e:r.1.1=k<;>simp [e]
  have hl:(ofK (L.take i) k).length≤1000:=by
   unfold ofK
   have:=List.length_filter_le (fun r:AR=>decide (r.1.1=k)) (L.take i)
   rw [List.length_take] at this
   omega
  obtain⟨b,o,ea,hr⟩:=(S.le V.le0).get arV_len (by decide) hx
  intro J33
  have hJ:∀(a9:Option Addr) (c9:Nat) (h2:Hp),VecAR h h2 a9 c9 (ofK (L.take (i+1)) k)→J33 a9 (ofK (L.take (i+1)) k).length c9 h2:=fun a9 c9 h2 q=>⟨_,isW (by unfold InR;omega),⟨i+1,a9,c9,by simp,by omega,q⟩,by simp [vint];omega⟩
  clear_value J33
  have h0:=Hp.row_cell hr (i:=0) (x:=vi r.1.1.1) rfl
  have h1:=Hp.row_sub hr (i:=1) (k:=2) (by decide)
  refine⟨b,o,⟨ea,by omega,by omega⟩,_,by rw [Int.toNat_natCast];exact h0,b,o,fun _=>⟨ea,by omega,by omega⟩,r.1.1.2.1,r.1.1.2.2,fun _=>by rw [Int.toNat_natCast];exact h1,decide (r.1.1.2=k.2),fun _=>rd_eqV,?_⟩
  have hc:(bif (decide (r.1.1.1=k.1)) then decide (r.1.1.2=k.2) else false)=decide (r.1.1=k):=by
   rw [cand]
   exact decide_eq_decide.2 (Prod.ext_iff (x:=r.1.1) (y:=k)).symm
  rw [hc]
  refine⟨fun e2=>?_,fun e2=>?_⟩
  ·rw [if_pos (of_decide_eq_true e2)] at tk2
   refine⟨b,o,⟨ea,by omega,by omega⟩,_,_,_,_,_,_,_,_,by rw [Int.toNat_natCast];exact hr,?_⟩
   intro b26 hb26 h27
   refine Vec.app elAdd arV_len one_arV V (by omega) (by omega) (x:=r) hb26 fun a' c' h' V'=>⟨_,_,_,rfl,?_⟩
   rw [←tk2] at V' ⊢
   exact hJ a' c' h' V'
  ·rw [if_neg (of_decide_eq_false e2),List.append_nil] at tk2
   rw [←tk2] at V ⊢
   exact hJ a6 c6 hh V
 ·have hge:i=L.length:=by have:=of_decide_eq_false e;omega
  rw [hge,List.take_length] at V ⊢
  exact hK a6 c6 hh V
theorem law_ahead_ok {p q:PK}{t t':Bool}{x x':Option Addr}{n n' d d':Nat}(hK:∀ h',h.le h'→R (vb (decide (aheadK p q))) h'):CallOK Try.prog 12 [vag [vi p.1,vi p.2.1,vi p.2.2,vsl x n d,vb t],vag [vi q.1,vi q.2.1,vi q.2.2,vsl x' n' d',vb t']] h R:=by
 refine ok_law_ahead ?_
 unfold VC_law_ahead
 refine⟨fun e=>?_,fun e=>?_⟩
 ·have e:=of_decide_eq_true e
  have:=hK h (Hp.le_refl h)
  rw [show decide (aheadK p q)=decide (p.1 < q.1) from decide_eq_decide.2 (by unfold aheadK;omega)] at this
  exact this
 ·have e:p.1=q.1:=by simpa using e
  refine value_Compare_ok (a:=p.2) (b:=q.2) fun h3 l3=>⟨_,rfl,?_⟩
  have:=hK h3 l3
  rw [show decide (aheadK p q)=decide (cmpV p.2 q.2 < 0) from decide_eq_decide.2 (by rw [←cmpK_lt];unfold cmpK cmpI;rw [e];simp)] at this
  exact this
theorem colsOf_get {n m:Nat}{rs:List (List Vl)}(hr:∀ r ∈ rs,r.length=n)(hm:m < n):(colsOf n rs)[m]?=some (rs.map fun r=>r.getD m (0,0)):=by
 induction rs using snocInd with
 | h0=>simp [colsOf,hm]
 | h1 rs r ih=>
  have h2:=ih fun x hx=>hr x (List.mem_append_left _ hx)
  have h3:=hr r (by simp)
  rw [colsOf_snoc]
  unfold colP
  rw [List.getElem?_zipWith,h2,List.getElem?_eq_getElem (by omega)]
  simp only [List.map_append,List.map_cons,List.map_nil,List.getD_eq_getElem?_getD]
  rw [List.getElem?_eq_getElem (by omega)]
  rfl
theorem outV_get {ks:List Int}{rs:List (List Vl)}(hr:∀ r ∈ rs,r.length=ks.length){m:Nat}{k:Int}(hm:ks[m]?=some k):(outV ks rs)[m]?=some (gVal k ((rs.map fun r=>r.getD m (0,0)).foldl (gStep k) (0,0,0))):=by
 have hlt:=(List.getElem?_eq_some_iff.1 hm).1
 unfold outV
 rw [List.getElem?_map,acc_cols ks hr,List.getElem?_zipWith,hm,colsOf_get hr hlt]
 rfl
theorem outV_lenK {ks:List Int}{rs:List (List Vl)}(hr:∀ r ∈ rs,r.length=ks.length):(outV ks rs).length=ks.length:=by
 unfold outV
 rw [List.length_map,acc_cols ks hr,List.length_zipWith,colsOf_len hr,Nat.min_self]
theorem law_outOf_ok {ks:List Int}{k:PK}{ak:Option Addr}{ck:Nat}(S:SlP arV h a L.length L)(SK:SlI h ak ks.length ks)(hne:L≠[])(hL:∀ r ∈ L,r.1.1=k∧r.2.2.length=ks.length∧HasRow h r.2.1.1 (r.2.2.flatMap encV)∧∀ v ∈ r.2.2,smallV v)(hn:L.length≤1000)(hkn:ks.length≤1000)(hks:∀ x ∈ ks,1≤x)
  (hK:∀ a' c' h',VecV h h' a' c' (outV ks (L.map (·.2.2)))→R (vag (pkRw k (vsl a' (outV ks (L.map (·.2.2))).length c'))) h'):CallOK Try.prog 10 [vsl a L.length c,vsl ak ks.length ck] h R:=by
 refine ok_law_outOf ?_
 unfold VC_law_outOf
 have hpos:0 < L.length:=List.length_pos_iff.2 hne
 have hx0:L[0]?=some L[0]:=List.getElem?_eq_getElem hpos
 have hk0:=(hL _ (List.getElem_mem hpos)).1
 generalize L[0]=r0 at *
 obtain⟨b0,o0,ea0,hr0⟩:=S.get arV_len (by decide) hx0
 have c0:=Hp.row_cell hr0 (i:=0) (x:=vi r0.1.1.1) rfl
 have c1:=Hp.row_sub hr0 (i:=1) (k:=2) (by decide)
 have hrl:∀ r ∈ L.map (·.2.2),r.length=ks.length:=by
  intro r hr
  obtain⟨x,hx,rfl⟩:=List.mem_map.1 hr
  exact(hL x hx).2.1
 have hol:=outV_lenK hrl
 refine⟨b0,o0,⟨ea0,by omega,by omega⟩,r0.1.1.1,c0,b0,o0,⟨ea0,by omega,by omega⟩,r0.1.1.2.1,r0.1.1.2.2,c1,?_⟩
 rw [hk0]
 clear c0 c1 hr0
 intro J57
 have hJ:∀ a' c' h',VecV h h' a' c' (outV ks (L.map (·.2.2)))→J57 k.1 k.2.1 k.2.2 a' (outV ks (L.map (·.2.2))).length c' h':=hK
 clear_value J57
 refine⟨fun vs hh=>∃(m:Nat) (a':Option Addr) (c':Nat),vs=[vi m,vi k.1,vi k.2.1,vi k.2.2,vsl a' ((outV ks (L.map (·.2.2))).take m).length c']∧m≤ks.length∧VecV h hh a' c' ((outV ks (L.map (·.2.2))).take m),fun vs hh=>ks.length - (vint vs 0).toNat,⟨0,none,0,rfl,Nat.zero_le _,OwnV.nil (Hp.le_refl h) _ _⟩,?_⟩
 rintro vs hh ⟨m,a17,c17,rfl,hm,V⟩
 refine⟨_,_,_,_,_,_,_,rfl,fun e=>?_,fun e=>?_⟩
 ·have hlt:m < ks.length:=by have:=of_decide_eq_true e;omega
  have hml:((outV ks (L.map (·.2.2))).take m).length=m:=by rw [List.length_take];omega
  refine⟨fun vs2 h2=>∃(i:Nat) (a':Option Addr) (c':Nat),vs2=[vsl a' ((L.take i).map fun r=>r.2.2.getD m (0,0)).length c',vi i]∧i≤L.length∧VecV hh h2 a' c' ((L.take i).map fun r=>r.2.2.getD m (0,0)),fun vs2 h2=>L.length - (vint vs2 1).toNat,⟨0,none,0,rfl,Nat.zero_le _,OwnV.nil (Hp.le_refl hh) _ _⟩,?_⟩
  rintro vs2 h2 ⟨i,a25,c25,rfl,hi,V2⟩
  refine⟨_,_,_,_,rfl,fun e2=>?_,fun e2=>?_⟩
  ·have hlt2:i < L.length:=by have:=of_decide_eq_true e2;omega
   have hx:L[i]?=some L[i]:=List.getElem?_eq_getElem hlt2
   have tk:L.take (i+1)=L.take i++[L[i]]:=List.take_succ_eq_append_getElem hlt2
   obtain⟨q1,q2,q3,q4⟩:=hL _ (List.getElem_mem hlt2)
   generalize L[i]=r at *
   have l2:=Hp.le_trans V.le0 V2.le0
   obtain⟨b,o,ea,hr⟩:=(S.le l2).get arV_len (by decide) hx
   have hil:((L.take i).map fun r:AR=>r.2.2.getD m (0,0)).length=i:=by rw [List.length_map,List.length_take];omega
   have hv:r.2.2[m]?=some (r.2.2.getD m (0,0)):=by rw [List.getD_eq_getElem?_getD,List.getElem?_eq_getElem (by omega)];rfl
   obtain⟨b2,o2,ea2,hr2⟩:=SlP.get encV_len (by decide) (⟨rfl,q3.le l2⟩:SlP encV h2 r.2.1.1 r.2.2.length r.2.2) hv
   have c3:=Hp.row_cell hr (i:=3) (x:=vsl r.2.1.1 r.2.2.length r.2.1.2) rfl
   refine⟨b,o,⟨ea,by omega,by omega⟩,_,_,_,by rw [Int.toNat_natCast];exact c3,b2,o2,⟨ea2,by omega,by omega⟩,_,_,by rw [Int.toNat_natCast];exact hr2,?_⟩
   intro b36 hb36 h37
   refine Vec.app elValP (fun v=>rfl) one_v V2 (by rw [hil];omega) (by rw [hil];omega) (x:=r.2.2.getD m (0,0)) hb36 fun a' c' h' V'=>⟨_,_,_,rfl,_,isW (by unfold InR;omega),⟨i+1,a',c',?_,by omega,?_⟩,by simp [vint];omega⟩
   ·rw [tk,List.map_append];rfl
   ·rw [tk,List.map_append];exact V'
  ·have hge:i=L.length:=by have:=of_decide_eq_false e2;omega
   rw [hge,List.take_length] at V2 ⊢
   have l2:=Hp.le_trans V.le0 V2.le0
   obtain⟨bk,ok,eak,hck⟩:=(SK.le l2).get hlt
   have hkm:ks[m]?=some (ks.getD m 0):=by rw [List.getD_eq_getElem?_getD,List.getElem?_eq_getElem hlt];rfl
   have hkm1:=hks _ (List.mem_of_getElem? hkm)
   have hout:=outV_get hrl hkm
   rw [List.map_map] at hout
   refine⟨bk,ok,⟨eak,by omega,by omega⟩,_,by rw [Int.toNat_natCast];exact hck,?_⟩
   have hcl:(L.map fun r:AR=>r.2.2.getD m (0,0)).length=L.length:=List.length_map _
   refine R_Gathered_ok hkm1 (V2.slp encV_len (by decide)) (fun v hv=>?_) (by rw [hcl];omega) ⟨_,_,rfl,?_⟩
   ·obtain⟨r,hr,rfl⟩:=List.mem_map.1 hv
    obtain⟨q1,q2,q3,q4⟩:=hL r hr
    refine q4 _ ?_
    rw [List.getD_eq_getElem?_getD,List.getElem?_eq_getElem (by omega)]
    exact List.getElem_mem _
   ·intro b50 hb50 h51
    have tk:(outV ks (L.map (·.2.2))).take (m+1)=(outV ks (L.map (·.2.2))).take m++[gVal (ks.getD m 0) ((L.map fun r:AR=>r.2.2.getD m (0,0)).foldl (gStep (ks.getD m 0)) (0,0,0))]:=by
     rw [List.take_add_one,hout]
     rfl
    refine Vec.app elValP (fun v=>rfl) one_v (V.keep0 V2.le0) (by rw [hml];omega) (by rw [hml];omega) (x:=gVal (ks.getD m 0) ((L.map fun r:AR=>r.2.2.getD m (0,0)).foldl (gStep (ks.getD m 0)) (0,0,0))) hb50 fun a' c' h' V'=>⟨_,_,_,rfl,_,isW (by unfold InR;omega),⟨m+1,a',c',?_,by omega,?_⟩,by simp [vint];omega⟩
    ·rw [tk];rfl
    ·rw [tk];exact V'
 ·have hge:m=ks.length:=by have:=of_decide_eq_false e;omega
  have ht:(outV ks (L.map (·.2.2))).take m=outV ks (L.map (·.2.2)):=List.take_of_length_le (by omega)
  rw [ht] at V ⊢
  exact hJ a17 c17 hh V
end
end Go.Proofs.Ytedmojjfdppffaa
namespace Go.Vc
open Go
structure Ow where
 e:TypeId
 sz:Nat
 a:Option Addr
 n:Nat
 c:Nat
 xs:List Value
def Ow.own (s:Ow)(h:Hp):Prop:=OwnS h s.e s.sz s.a s.n s.c s.xs
def Ow.at (s:Ow)(b:Nat):Prop:=s.a=some ⟨b,0,none⟩
section
variable {hi h:Hp}{L:List Ow}
variable {P:Program}
theorem CallOK.frame {f:FuncId}{args:List Value}{hA h:Hp}{K:Value→Hp→Prop}(l:hA.le h)(H:CallOK P f args hA K):CallOK P f args h fun v h2=>∃ h1,h1.le h2∧(∀ b o,h b=some o→hA b=none→h2 b=some o∧h1 b=none)∧K v h1:=by
 intro w hs
 refine(H w fun b o ho=>hs b o (l b o ho)).mono ?_
 rintro e w' ⟨v,h1,rfl,s1,F,k⟩
 have out:∀ b o,h b=some o→hA b=none→w'.heap[b]?=some o∧h1 b=none:=by
  intro b o ho hn
  have hb:=(Array.getElem?_eq_some_iff.1 (hs b o ho)).1
  obtain⟨q1,q2⟩:=F.keep b hb hn
  exact⟨q1.trans (hs b o ho),q2⟩
 have e1:∀ b,(h b≠none∧hA b=none)→(fun b=>if h b≠none∧hA b=none then h b else h1 b:Hp) b=h b:=fun b hb=>if_pos hb
 have e2:∀ b,¬(h b≠none∧hA b=none)→(fun b=>if h b≠none∧hA b=none then h b else h1 b:Hp) b=h1 b:=fun b hb=>if_neg hb
 generalize (fun b=>if h b≠none∧hA b=none then h b else h1 b:Hp)=h2 at e1 e2
 refine⟨v,h2,rfl,fun b o ho=>?_,⟨F.os,F.tape,F.output,F.size,fun b hb hn=>?_⟩,h1,fun b o ho=>?_,fun b o ho hn=>?_,k⟩
 ·by_cases q:h b≠none∧hA b=none
  ·rw [e1 b q] at ho
   exact(out b o ho q.2).1
  ·rw [e2 b q] at ho
   exact s1 b o ho
 ·have hna:hA b=none:=Hp.none_of_le l hn
  obtain⟨q1,q2⟩:=F.keep b hb hna
  exact⟨q1,(e2 b (fun q=>q.1 hn)).trans q2⟩
 ·refine(e2 b fun q=>?_).trans ho
  cases hq:h b with
  | none=>exact q.1 hq
  | some o2=>
   have:=(out b o2 hq q.2).2
   rw [this] at ho;cases ho
 ·exact⟨(e1 b ⟨by rw [ho];simp,hn⟩).trans ho,(out b o ho hn).2⟩
end
structure Duo (h0 hA hM h:Hp):Prop where
 lA:hA.le h
 lM:hM.le h
 zA:h0.le hA
 zM:h0.le hM
 dj:∀ b,hA b≠none→hM b≠none→h0 b≠none
section
variable {P:Program}{h0 hA hM h:Hp}
theorem Duo.le0 (D:Duo h0 hA hM h):h0.le h:=Hp.le_trans D.zA D.lA
theorem Duo.swap (D:Duo h0 hA hM h):Duo h0 hM hA h:=⟨D.lM,D.lA,D.zM,D.zA,fun b x y=>D.dj b y x⟩
theorem Duo.grow (D:Duo h0 hA hM h){h':Hp}(l:h.le h'):Duo h0 hA hM h':=⟨Hp.le_trans D.lA l,Hp.le_trans D.lM l,D.zA,D.zM,D.dj⟩
theorem Duo.new (l:h0.le h):Duo h0 h h0 h:=⟨Hp.le_refl h,l,l,Hp.le_refl h0,fun _ _ y=>y⟩
theorem Duo.left (D:Duo h0 hA hM h){f:FuncId}{args:List Value}{R:Value→Hp→Prop}(H:CallOK P f args hA fun v h1=>h0.le h1∧∀ h2,Duo h0 h1 hM h2→R v h2):CallOK P f args h R:=by
 intro w hs
 refine(CallOK.frame D.lA H w hs).mono ?_
 rintro e w' ⟨v,h2,rfl,s2,F,h1,l1,kp,z1,k⟩
 refine⟨v,h2,rfl,s2,F,k h2 ⟨l1,fun b o ho=>?_,z1,D.zM,fun b x y=>?_⟩⟩
 ·cases hq:hA b with
  | none=>exact(kp b o (D.lM b o ho) hq).1
  | some o'=>
   cases hz:h0 b with
   | none=>exact absurd hz (D.dj b (by rw [hq];simp) (by rw [ho];simp))
   | some o2=>
    have e1:=D.zM b o2 hz
    rw [ho] at e1
    cases e1
    exact l1 b o (z1 b o hz)
 ·cases hz:h0 b with
  | some o2=>simp
  | none=>
   exfalso
   cases ho:hM b with
   | none=>exact y ho
   | some o=>
    cases hq:hA b with
    | none=>exact x (kp b o (D.lM b o ho) hq).2
    | some o'=>exact D.dj b (by rw [hq];simp) (by rw [ho];simp) hz
theorem Duo.right (D:Duo h0 hA hM h){f:FuncId}{args:List Value}{R:Value→Hp→Prop}(H:CallOK P f args hM fun v h1=>h0.le h1∧∀ h2,Duo h0 hA h1 h2→R v h2):CallOK P f args h R:=
 D.swap.left (CallOK.mono H fun v h1 k=>⟨k.1,fun h2 D2=>k.2 h2 D2.swap⟩)
end
open Go.ChangeMaps Go.MapKept
structure KeyT (P:Program)(M k e:TypeId){κ:Type}(enc:κ→Value)(ok:κ→Prop):Prop where
 u:P.underlying M=some (.map k e)
 K:Go.Maps.Keyed P k
 l:∀ x,ok x→∃ l,keyOf P k (enc x)=some l
 i:∀ x y,enc x=enc y→x=y
 z:∀ w,(zeroValue e).run P w=.ok (vb false) w
section
variable {P:Program}{h:Hp}{κ:Type}{enc:κ→Value}{ok:κ→Prop}{M k e:TypeId}{b clock:Nat}{L:List (κ × Nat)}
def ent (enc:κ→Value)(p:κ × Nat):MapEntry:=⟨enc p.1,vb true,p.2⟩
structure MapS (enc:κ→Value)(ok:κ→Prop)(h:Hp)(b:Nat)(L:List (κ × Nat))(clock:Nat):Prop where
 b:h b=some (.map (L.map (ent enc)).toArray clock)
 o:∀ p ∈ L,ok p.1
 c:∀ p ∈ L,p.2 < clock
 nb:(L.map (·.2)).Nodup
 nk:(L.map (·.1)).Nodup
theorem MapS.le {h':Hp}(S:MapS enc ok h b L clock)(l:h.le h'):MapS enc ok h' b L clock:=⟨l _ _ S.b,S.o,S.c,S.nb,S.nk⟩
theorem MapS.new (hb:h b=some (.map #[] 0)):MapS enc ok h b [] 0:=⟨hb,by simp,by simp,by simp,by simp⟩
theorem KeyT.find (T:KeyT P M k e enc ok)(hL:∀ p ∈ L,ok p.1)(w:World){x:κ}(hx:ok x) :
  ((Instr.findKey k (enc x) (L.map (ent enc))).run P w=.ok none w∧x ∉ L.map (·.1))∨∃ j p,(Instr.findKey k (enc x) (L.map (ent enc))).run P w=.ok (some (j,vb true)) w∧L[j]?=some p∧p.1=x:=by
 obtain⟨lx,hl⟩:=T.l x hx
 rcases T.K.find w hl (L.map (ent enc)) (fun e he=>by obtain⟨p,hp,rfl⟩:=List.mem_map.1 he;exact T.l _ (hL p hp)) with ⟨h1,h2⟩|⟨j,e0,h1,h2,h3⟩
 ·refine .inl ⟨h1,fun hm=>?_⟩
  obtain⟨p,hp,rfl⟩:=List.mem_map.1 hm
  exact h2 (ent enc p) (List.mem_map.2 ⟨p,hp,rfl⟩) rfl
 ·rw [List.getElem?_map] at h2
  cases hj:L[j]? with
  | none=>rw [hj] at h2;cases h2
  | some p=>
   rw [hj] at h2
   cases h2
   exact .inr ⟨j,p,h1,hj,T.i _ _ h3⟩
theorem rd_lookupB (T:KeyT P M k e enc ok)(S:MapS enc ok h b L clock){x:κ}(hx:ok x){v:Bool}(hv:v=true↔x ∈ L.map (·.1)):Rd P (Instr.lookup M (.map (some b)) (enc x) false) h (vb v):=by
 intro w hs
 have hw:=hs b _ S.b
 obtain⟨lx,hl⟩:=T.l x hx
 rcases T.find S.o w hx with ⟨h1,h2⟩|⟨j,p,h1,h2,h3⟩
 ·have:v=false:=by
   cases v with
   | false=>rfl
   | true=>exact absurd (hv.1 rfl) h2
  rw [this]
  simp [Instr.lookup,run_underlying T.u,MapKept.run_getObj_map hw,T.K.check w _ hl,h1,T.z,Result.andThen]
 ·have:v=true:=hv.2 (List.mem_map.2 ⟨p,List.mem_of_getElem? h2,h3⟩)
  rw [this]
  simp [Instr.lookup,run_underlying T.u,MapKept.run_getObj_map hw,T.K.check w _ hl,h1,Result.andThen]
theorem sem_putS (T:KeyT P M k e enc ok)(S:MapS enc ok h b L clock){x:κ}(hx:ok x)(hn:x ∉ L.map (·.1)){K:Hp→Prop}(hK:∀ h',MapS enc ok h' b (L++[(x,clock)]) (clock+1)→(∀ c o,c≠b→h c=some o→h' c=some o)→(∀ c,h c≠none→h' c≠none)→K h'):SemOKu P (Instr.mapUpdate M (.map (some b)) (enc x) (vb true)) h K:=by
 intro w hs
 have hw:=hs b _ S.b
 obtain⟨lx,hl⟩:=T.l x hx
 rcases T.find S.o w hx with ⟨h1,h2⟩|⟨j,p,h1,h2,h3⟩
 ·obtain⟨k1,k2⟩:=hs.mapSet (o':=.map ((L++[(x,clock)]).map (ent enc)).toArray (clock+1)) S.b
  refine⟨_,_,?_,k1,k2,hK _ ⟨Hp.set_same _ _ _,?_,?_,?_,?_⟩ (fun c o hc ho=>by rw [Hp.set_other _ _ hc];exact ho) fun c hc=>?_⟩
  ·simp [Instr.mapUpdate,run_underlying T.u,MapKept.run_getObj_map hw,T.K.check w _ hl,h1,MapKept.run_setObj_map _ hw,Result.andThen,ent]
  ·intro p hp
   rcases List.mem_append.1 hp with h|h
   ·exact S.o p h
   ·rw [List.mem_singleton.1 h];exact hx
  ·intro p hp
   rcases List.mem_append.1 hp with h|h
   ·exact Nat.lt_succ_of_lt (S.c p h)
   ·rw [List.mem_singleton.1 h];exact Nat.lt_succ_self _
  ·rw [List.map_append]
   refine List.nodup_append.2 ⟨S.nb,by simp,fun a ha c hc e=>?_⟩
   obtain⟨p,hp,rfl⟩:=List.mem_map.1 ha
   have:=S.c p hp
   simp at hc
   omega
  ·rw [List.map_append]
   refine List.nodup_append.2 ⟨S.nk,by simp,fun a ha c hc e=>?_⟩
   simp at hc
   subst hc
   subst e
   exact hn ha
  ·by_cases e:c=b
   ·subst e;rw [Hp.set_same];simp
   ·rw [Hp.set_other _ _ e];exact hc
 ·exact absurd (List.mem_map.2 ⟨p,List.mem_of_getElem? h2,h3⟩) hn
structure IterS (enc:κ→Value)(ok:κ→Prop)(h:Hp)(b r:Nat)(L:List (κ × Nat))(clock:Nat)(seen:Array Nat):Prop where
 s:MapS enc ok h b L clock
 r:h r=some (.mapIter (some b) clock seen clock)
theorem sem_rangeS (T:KeyT P M k e enc ok)(S:MapS enc ok h b L clock){K:Value→Hp→Prop}(hK:∀ r h',h r=none→h.le h'→h' r=some (.mapIter (some b) clock #[] clock)→(∀ c,c≠r→h' c=h c)→K (vhp r 0) h'):SemOK P (Instr.range M (.map (some b))) h K:=by
 intro w hs
 have hw:=hs b _ S.b
 have hn:=hs.none
 refine⟨_,_,_,run_range_map w M k e b _ clock T.u hw,Sub.pushSet hs _,Fr.pushSet h w _,hK _ _ hn (Hp.le_set (Hp.le_refl h) hn _) (Hp.set_same _ _ _) fun c hc=>Hp.set_other _ _ hc⟩
theorem sem_nextS {r:Nat}{seen:Array Nat}{ty:TypeId}(I:IterS enc ok h b r L clock seen){K:Value→Hp→Prop}(h0:(∀ p ∈ L,p.2 ∈ seen)→K (vtup [vb false]) h)
  (h1:∀ p ∈ L,p.2 ∉ seen→∀ h',IterS enc ok h' b r L clock (seen.push p.2)→(∀ c,c≠r→h' c=h c)→K (vtup [vb true,enc p.1,vb true]) h'):SemOK P (Instr.next (vhp r 0) false ty) h K:=by
 intro w hs
 have hw:=hs b _ I.s.b
 have hr:=hs r _ I.r
 have hbr:b≠r:=fun e=>by have h2:=I.r;rw [←e,I.s.b] at h2;cases h2
 rcases run_next_at (P:=P) w ty r b clock clock seen (L.map (ent enc)).toArray clock hr hw (fun x hx=>by
  simp only [List.mem_map] at hx
  obtain⟨p,hp,rfl⟩:=hx
  exact I.s.c p hp) (Nat.le_refl _) with ⟨q1,q2⟩|⟨x,q1,w1,q2,q3⟩
 ·refine⟨_,_,h,q2,hs,Fr.refl h w,h0 fun p hp=>?_⟩
  have q4:=Array.eq_empty_of_size_eq_zero q1
  unfold leftOf at q4
  rw [Array.filter_eq_empty_iff] at q4
  have:=q4 (ent enc p) (by simp;exact⟨_,_,hp,rfl⟩)
  simpa [ent] using this
 ·unfold leftOf at q1
  simp only [Array.toList_filter,List.mem_filter,List.mem_map] at q1
  obtain⟨⟨p,hp,rfl⟩,q5⟩:=q1
  have hs1:Sub h w1:=by rcases q2 with rfl|rfl<;>exact hs
  have hF1:Fr h h w w1:=by rcases q2 with rfl|rfl<;>exact⟨rfl,rfl,rfl,Nat.le_refl _,fun _ _ hn=>⟨rfl,hn⟩⟩
  obtain⟨k1,k2⟩:=hs1.mapSet (o':=.mapIter (some b) clock (seen.push p.2) clock) I.r
  refine⟨_,_,_,q3,k1,?_,h1 p hp (by simpa [ent] using q5) _ ⟨⟨by rw [Hp.set_other _ _ hbr];exact I.s.b,I.s.o,I.s.c,I.s.nb,I.s.nk⟩,Hp.set_same _ _ _⟩ fun c hc=>Hp.set_other _ _ hc⟩
  exact Fr.trans hF1 k2
theorem sem_delS {ty:TypeId}[DecidableEq κ](T:KeyT P M k e enc ok)(S:MapS enc ok h b L clock){x:κ}(hx:ok x)(hm:x ∈ L.map (·.1)){K:Value→Hp→Prop}(hK:∀ h',MapS enc ok h' b (L.filter fun p=>!decide (p.1=x)) clock→(∀ c,c≠b→h' c=h c)→K (vtup []) h'):SemOK P (Builtin.delete_ #[M,k] ty #[.map (some b),enc x]) h K:=by
 intro w hs
 have hw:=hs b _ S.b
 obtain⟨lx,hl⟩:=T.l x hx
 rcases T.find S.o w hx with ⟨h1,h2⟩|⟨j,p,h1,h2,h3⟩
 ·exact absurd hm h2
 ·obtain⟨k1,k2⟩:=hs.mapSet (o':=.map ((L.filter fun p=>!decide (p.1=x)).map (ent enc)).toArray clock) S.b
  have hjl:=(List.getElem?_eq_some_iff.1 h2).1
  have hf:(L.filter fun p=>!decide (p.1=x))=L.eraseIdx j:=by
   refine filter_eq_eraseIdx (fun p=>decide (p.1=x)) L j p h2 (decide_eq_true h3) ?_
   have:=List.pairwise_map.1 S.nk
   refine this.imp fun {a c} hne hh=>hne ?_
   rw [of_decide_eq_true hh.1,of_decide_eq_true hh.2]
  have he:(L.map (ent enc)).eraseIdx j=(L.filter fun p=>!decide (p.1=x)).map (ent enc):=by rw [hf,←map_eraseIdx]
  have sb:(L.filter fun p=>!decide (p.1=x)).Sublist L:=List.filter_sublist
  refine⟨_,_,_,?_,k1,k2,hK _ ⟨Hp.set_same _ _ _,fun p hp=>S.o p (sb.mem hp),fun p hp=>S.c p (sb.mem hp),S.nb.sublist (sb.map _),S.nk.sublist (sb.map _)⟩ fun c hc=>Hp.set_other _ _ hc⟩
  simp [Builtin.delete_,run_underlying T.u,MapKept.run_getObj_map hw,T.K.check w _ hl,h1,MapKept.run_setObj_map _ hw,Result.andThen,he]
end
theorem keyOf_three {P:Program}{k e:TypeId}(A:Go.WideMaps.ArrKey P k e 3)(he:P.underlying e=some (.int .i64))(hsz:∃ m,P.types.size=m+1){a b c:Int}(wa:(Lit.int .i64 a).wf=true)(wb:(Lit.int .i64 b).wf=true)(wc:(Lit.int .i64 c).wf=true) :
  keyOf P k (.agg #[vi a,vi b,vi c])=some (.string (keyBytes [.int .i64 a,.int .i64 b,.int .i64 c])):=by
 have hkt:=A.keyType hsz
 obtain⟨m,hm⟩:=hsz
 unfold keyOf
 simp only [A.hu]
 rw [if_pos (by simp [hkt,Value.formed,A.hu,A.size]),hm]
 unfold Program.keyLits
 simp only [A.hu,Value.cells]
 rw [if_pos (by rw [A.size];rfl),show List.range 3=[0,1,2] from rfl,List.mapM_cons,List.mapM_cons,List.mapM_cons,List.mapM_nil]
 simp [A.one,Program.keyLits,he,wa,wb,wc]
end Go.Vc
namespace Go.Vc
open Go
section
variable {P:Program}{h0 hA hM h:Hp}
theorem frame_fill {w w':World}{hA h h1:Hp}(l:hA.le h)(hs:Sub h w)(s1:Sub h1 w')(F:Fr hA h1 w w'):∃ h2,Sub h2 w'∧Fr h h2 w w'∧h1.le h2∧∀ b o,h b=some o→hA b=none→h2 b=some o∧h1 b=none:=by
 have out:∀ b o,h b=some o→hA b=none→w'.heap[b]?=some o∧h1 b=none:=by
  intro b o ho hn
  have hb:=(Array.getElem?_eq_some_iff.1 (hs b o ho)).1
  obtain⟨q1,q2⟩:=F.keep b hb hn
  exact⟨q1.trans (hs b o ho),q2⟩
 have e1:∀ b,(h b≠none∧hA b=none)→(fun b=>if h b≠none∧hA b=none then h b else h1 b:Hp) b=h b:=fun b hb=>if_pos hb
 have e2:∀ b,¬(h b≠none∧hA b=none)→(fun b=>if h b≠none∧hA b=none then h b else h1 b:Hp) b=h1 b:=fun b hb=>if_neg hb
 generalize (fun b=>if h b≠none∧hA b=none then h b else h1 b:Hp)=h2 at e1 e2
 refine⟨h2,fun b o ho=>?_,⟨F.os,F.tape,F.output,F.size,fun b hb hn=>?_⟩,fun b o ho=>?_,fun b o ho hn=>?_⟩
 ·by_cases q:h b≠none∧hA b=none
  ·rw [e1 b q] at ho
   exact(out b o ho q.2).1
  ·rw [e2 b q] at ho
   exact s1 b o ho
 ·have hna:hA b=none:=Hp.none_of_le l hn
  obtain⟨q1,q2⟩:=F.keep b hb hna
  exact⟨q1,(e2 b (fun q=>q.1 hn)).trans q2⟩
 ·refine(e2 b fun q=>?_).trans ho
  cases hq:h b with
  | none=>exact q.1 hq
  | some o2=>
   have:=(out b o2 hq q.2).2
   rw [this] at ho;cases ho
 ·exact⟨(e1 b ⟨by rw [ho];simp,hn⟩).trans ho,(out b o ho hn).2⟩
theorem Duo.fill (D:Duo h0 hA hM h){h1 h2:Hp}(l1:h1.le h2)(kp:∀ b o,h b=some o→hA b=none→h2 b=some o∧h1 b=none)(z1:h0.le h1):Duo h0 h1 hM h2:=by
 refine⟨l1,fun b o ho=>?_,z1,D.zM,fun b x y=>?_⟩
 ·cases hq:hA b with
  | none=>exact(kp b o (D.lM b o ho) hq).1
  | some o'=>
   cases hz:h0 b with
   | none=>exact absurd hz (D.dj b (by rw [hq];simp) (by rw [ho];simp))
   | some o2=>
    have e1:=D.zM b o2 hz
    rw [ho] at e1
    cases e1
    exact l1 b o (z1 b o hz)
 ·cases hz:h0 b with
  | some o2=>simp
  | none=>
   exfalso
   cases ho:hM b with
   | none=>exact y ho
   | some o=>
    cases hq:hA b with
    | none=>exact x (kp b o (D.lM b o ho) hq).2
    | some o'=>exact D.dj b (by rw [hq];simp) (by rw [ho];simp) hz
theorem Duo.sem (D:Duo h0 hA hM h){m:Sem Value}{R:Value→Hp→Prop}(H:SemOK P m hA fun v h1=>h0.le h1∧∀ h2,Duo h0 h1 hM h2→R v h2):SemOK P m h R:=by
 intro w hs
 obtain⟨v,w',h1,q1,q2,q3,z1,k⟩:=H w fun b o ho=>hs b o (D.lA b o ho)
 obtain⟨h2,s2,F2,l1,kp⟩:=frame_fill D.lA hs q2 q3
 exact⟨v,w',h2,q1,s2,F2,k h2 (D.fill l1 kp z1)⟩
theorem Duo.semu (D:Duo h0 hA hM h){m:Sem Unit}{R:Hp→Prop}(H:SemOKu P m hA fun h1=>h0.le h1∧∀ h2,Duo h0 h1 hM h2→R h2):SemOKu P m h R:=by
 intro w hs
 obtain⟨w',h1,q1,q2,q3,z1,k⟩:=H w fun b o ho=>hs b o (D.lA b o ho)
 obtain⟨h2,s2,F2,l1,kp⟩:=frame_fill D.lA hs q2 q3
 exact⟨w',h2,q1,s2,F2,k h2 (D.fill l1 kp z1)⟩
theorem Duo.put (D:Duo h0 hA hM h){b:Nat}(hb:h b=none)(o:Obj):Duo h0 (hA.set b o) hM (h.set b o):=by
 have hA0:=Hp.none_of_le D.lA hb
 have hM0:=Hp.none_of_le D.lM hb
 have h00:=Hp.none_of_le D.zA hA0
 refine⟨fun c p hc=>?_,fun c p hc=>?_,fun c p hc=>?_,D.zM,fun c x y=>?_⟩
 ·by_cases e:c=b
  ·subst e;rw [Hp.set_same] at hc ⊢;exact hc
  ·rw [Hp.set_other _ _ e] at hc ⊢;exact D.lA c p hc
 ·have e:c≠b:=fun e=>by rw [e,hM0] at hc;cases hc
  rw [Hp.set_other _ _ e];exact D.lM c p hc
 ·have e:c≠b:=fun e=>by rw [e,h00] at hc;cases hc
  rw [Hp.set_other _ _ e];exact D.zA c p hc
 ·have e:c≠b:=fun e=>by rw [e] at y;exact y hM0
  rw [Hp.set_other _ _ e] at x
  exact D.dj c x y
theorem own_no {h0 h:Hp}{e:TypeId}{sz n c:Nat}{a:Option Addr}{xs:List Value}(O:OwnV h0 h e sz a n c xs){b:Nat}{es:Array MapEntry}{k:Nat}(hb:h b=some (.map es k)):a≠some ⟨b,0,none⟩:=by
 intro q
 rcases O.own.2 with ⟨ha,_⟩|⟨g,cur,ha,hg,_⟩
 ·rw [ha] at q;cases q
 ·rw [ha] at q
  cases q
  rw [hb] at hg
  cases hg
theorem own_noI {h0 h:Hp}{e:TypeId}{sz n c:Nat}{a:Option Addr}{xs:List Value}(O:OwnV h0 h e sz a n c xs){b m s k:Nat}{se:Array Nat}(hb:h b=some (.mapIter (some m) s se k)):a≠some ⟨b,0,none⟩:=by
 intro q
 rcases O.own.2 with ⟨ha,_⟩|⟨g,cur,ha,hg,_⟩
 ·rw [ha] at q;cases q
 ·rw [ha] at q
  cases q
  rw [hb] at hg
  cases hg
theorem OwnV.off {h0 h h':Hp}{e:TypeId}{sz n c:Nat}{a:Option Addr}{xs:List Value}(O:OwnV h0 h e sz a n c xs){b:Nat}(hn:a≠some ⟨b,0,none⟩)(h0b:h0 b=none)(hk:∀ c,c≠b→h' c=h c):OwnV h0 h' e sz a n c xs:=by
 refine⟨fun g o ho=>?_,O.own.keep fun g o hg ho=>?_,O.new⟩
 ·rw [hk g (fun e=>by rw [e,h0b] at ho;cases ho)]
  exact O.le g o ho
 ·rw [hk g (fun e=>hn (by rw [hg,e]))]
  exact ho
theorem OwnV.base {h0 h1 h:Hp}{e:TypeId}{sz n c:Nat}{a:Option Addr}{xs:List Value}(O:OwnV h1 h e sz a n c xs)(l:h0.le h1):OwnV h0 h e sz a n c xs:=⟨Hp.le_trans l O.le,O.own,fun g hg=>Hp.none_of_le l (O.new g hg)⟩
end
section
variable {P:Program}{h:Hp}{κ:Type}{enc:κ→Value}{ok:κ→Prop}{M k e:TypeId}{b r clock:Nat}{L:List (κ × Nat)}
theorem IterS.le {κ:Type}{enc:κ→Value}{ok:κ→Prop}{h h':Hp}{b r clock:Nat}{L:List (κ × Nat)}{seen:Array Nat}(I:IterS enc ok h b r L clock seen)(l:h.le h'):IterS enc ok h' b r L clock seen:=⟨I.s.le l,l _ _ I.r⟩
def mLeft (b r:Nat)(h:Hp):Nat:=match h b,h r with
 | some (.map es _),some (.mapIter _ _ seen _)=>(es.toList.filter fun e=>!seen.contains e.born).length
 | _,_=>0
theorem mLeft_of {seen:Array Nat}(I:IterS enc ok h b r L clock seen):mLeft b r h=(L.filter fun p=>!seen.contains p.2).length:=by
 unfold mLeft
 rw [I.s.b,I.r]
 simp only [List.filter_map,List.length_map]
 rfl
end
theorem filter_len_lt {α:Type}{P Q:α→Bool}:∀{l:List α},(∀ x ∈ l,P x=true→Q x=true)→(∃ x ∈ l,Q x=true∧P x=false)→(l.filter P).length < (l.filter Q).length
 | [],_,h=>by obtain⟨x,hx,_⟩:=h;cases hx
 | a :: l,hi,h=>by
  have hle:(l.filter P).length≤(l.filter Q).length:=by
   have:∀{m:List α},(∀ x ∈ m,P x=true→Q x=true)→(m.filter P).length≤(m.filter Q).length:=by
    intro m
    induction m with
    | nil=>intro _;exact Nat.le_refl _
    | cons x m ih=>
     intro hm
     have:=ih fun y hy=>hm y (List.mem_cons_of_mem _ hy)
     rw [List.filter_cons,List.filter_cons]
     by_cases h1:P x=true
     ·rw [if_pos h1,if_pos (hm x (List.mem_cons_self ..) h1),List.length_cons,List.length_cons];omega
     ·rw [if_neg h1]
      split
      ·rw [List.length_cons];omega
      ·exact this
   exact this fun x hx=>hi x (List.mem_cons_of_mem _ hx)
  obtain⟨x,hx,h1,h2⟩:=h
  rw [List.filter_cons,List.filter_cons]
  rcases List.mem_cons.1 hx with rfl|hx
  ·rw [if_neg (by rw [h2];decide),if_pos h1,List.length_cons]
   omega
  ·have ih:=filter_len_lt (fun y hy=>hi y (List.mem_cons_of_mem _ hy)) ⟨x,hx,h1,h2⟩
   by_cases h3:P a=true
   ·rw [if_pos h3,if_pos (hi a (List.mem_cons_self ..) h3),List.length_cons,List.length_cons];omega
   ·rw [if_neg h3]
    split
    ·rw [List.length_cons];omega
    ·exact ih
end Go.Vc
namespace Go.Proofs.Ytedmojjfdppffaa
open Go Go.Vc
def encK3 (k:PK):Value:=vag [vi k.1,vi k.2.1,vi k.2.2]
def okK (k:PK):Prop:=InR k.1∧InR k.2.1∧InR k.2.2
theorem wf_i64 {x:Int}(h:InR x):(Lit.int .i64 x).wf=true:=by simpa [Lit.wf,IntKind.min,IntKind.max,IntKind.signed,IntKind.bits,InR] using h
theorem arrK:Go.WideMaps.ArrKey Try.prog 35 3 3:=⟨by kernel_rfl,by kernel_rfl,by kernel_rfl,by kernel_rfl⟩
theorem keyT:KeyT Try.prog 28 35 4 encK3 okK where
 u:=by kernel_rfl
 K:=Go.Maps.Keyed.of_law arrK.law
 l:=fun x hx=>⟨_,keyOf_three arrK (by kernel_rfl) ⟨_,(by kernel_rfl:Try.prog.types.size=(Try.prog.types.size - 1)+1)⟩ (wf_i64 hx.1) (wf_i64 hx.2.1) (wf_i64 hx.2.2)⟩
 i:=fun x y h=>by
  obtain⟨x1,x2,x3⟩:=x
  obtain⟨y1,y2,y3⟩:=y
  simp only [encK3,Value.agg.injEq,List.toArray_inj,List.cons.injEq,Value.int.injEq,true_and,and_true] at h
  obtain⟨rfl,rfl,rfl⟩:=h
  rfl
 z:=fun w=>by kernel_rfl
abbrev MapK:=MapS encK3 okK
abbrev IterK:=IterS encK3 okK
theorem pair_one {L:List (PK × Nat)}(nk:(L.map (·.1)).Nodup)(nb:(L.map (·.2)).Nodup){p q:PK × Nat}(hp:p ∈ L)(hq:q ∈ L):(p.1=q.1→p=q)∧(p.2=q.2→p=q):=by
 have inj:∀{β:Type} (f:PK × Nat→β),(L.map f).Nodup→f p=f q→p=q:=by
  intro β f hn e
  obtain⟨i,hi,rfl⟩:=List.mem_iff_getElem.1 hp
  obtain⟨j,hj,rfl⟩:=List.mem_iff_getElem.1 hq
  have h1:=List.pairwise_iff_getElem.1 hn
  have h3:i=j:=by
   rcases Nat.lt_trichotomy i j with h|h|h
   ·exact absurd (by rw [List.getElem_map,List.getElem_map];exact e) (h1 i j (by rw [List.length_map];exact hi) (by rw [List.length_map];exact hj) h)
   ·exact h
   ·exact absurd (by rw [List.getElem_map,List.getElem_map];exact e.symm) (h1 j i (by rw [List.length_map];exact hj) (by rw [List.length_map];exact hi) h)
  subst h3
  rfl
 exact⟨inj _ nk,inj _ nb⟩
set_option maxHeartbeats 400000 in
theorem del_loop {h9 hA hT hh:Hp}{b r clk:Nat}{M:List (PK × Nat)}{a:Option Addr}{c:Nat}{A:List AR}{size d:Int}{REST:Hp→Prop}(D:Duo h9 hA hT hh)(I:IterK hA b r M clk #[])(V:VecAR h9 hA a c A)(hb:h9 b=none)(hr:h9 r=none)(hs:∀ p ∈ M,InR (p.1.1+size))
  (hK:∀ hA' h',Duo h9 hA' hT h'→MapK hA' b (M.filter fun p=>!decide (p.1.1+size≤d)) clk→VecAR h9 hA' a c A→REST h') :
  (∃(I214:List Value→Hp→Prop) (m215:List Value→Hp→Nat),I214 [] hh∧∀(vs216:List Value) (h217:Hp),I214 vs216 h217→vs216=[]∧(SemOK Try.prog (Instr.next (vhp r 0) false 0) h217 fun v218 h219=>(∃(p220:Bool),(Rd Try.prog (Instr.extract v218 0) h219 (vb p220))∧((p220=true→(∃(y223:Value),(Rd Try.prog (Instr.entry (vhp r 0)) h219 y223)∧(∃(x224:Int) (x225:Int) (x226:Int),(Rd Try.prog (Instr.extract y223 0) h219 (vag [(vi x224),(vi x225),(vi x226)])) ∧
   (∀(b227:Nat),h219 b227=none→let h228:Hp:=Hp.set h219 b227 (cellsO [(vi 0),(vi 0),(vi 0)] 35);(Hp.store h228 b227 0 [(vi x224),(vi x225),(vi x226)] fun h229=>(((0:Int)≤0∧0 < ((3:Nat):Int))∧(∃(x230:Int),(Hp.cell h229 b227 (0+(0:Int).toNat*1)=some (vi x230))∧(∃(x231:Int),(IsW x231 (x230+size))∧(((decide ((x231:Int)≤d))=true→(∃(x232:Int) (x233:Int) (x234:Int),(Hp.row h229 b227 0 3=some [(vi x232),(vi x233),(vi x234)])∧(SemOK Try.prog (Builtin.delete_ #[28,35] 0 #[.map (some b),(vag [(vi x232),(vi x233),(vi x234)])]) h229 fun v235 h236=>v235=(vtup [])∧(I214 [] h236∧m215 [] h236 < m215 vs216 h217)))) ∧
   ((decide ((x231:Int)≤d))=false→(I214 [] h229∧m215 [] h229 < m215 vs216 h217)))))))))))∧(p220=false→REST h219))))):=by
 have nk:=I.s.nk
 have nb:=I.s.nb
 have hbr:b≠r:=fun e=>by have h2:=I.r;rw [←e,I.s.b] at h2;cases h2
 refine⟨fun vs hh=>vs=[]∧∃(hA:Hp) (L:List (PK × Nat)) (seen:Array Nat),Duo h9 hA hT hh∧IterK hA b r L clk seen∧VecAR h9 hA a c A∧L=M.filter (fun p=>!(decide (p.1.1+size≤d)&&seen.contains p.2)),fun _ hh=>mLeft b r hh,⟨rfl,hA,M,#[],D,I,V,(List.filter_eq_self.2 (by simp)).symm⟩,?_⟩
 clear D I V
 clear hA hh
 rintro vs hh ⟨rfl,hA,L,seen,D,I,V,eL⟩
 have sub:∀ p ∈ L,p ∈ M:=fun p hp=>by rw [eL] at hp;exact(List.mem_filter.1 hp).1
 refine⟨rfl,D.sem (sem_nextS I (fun hall=>⟨Hp.le_trans D.zA (Hp.le_refl _),fun h2 D2=>?_⟩) fun p hp hns h' I' off=>⟨fun c o ho=>?_,fun h2 D2=>?_⟩)⟩
 ·refine⟨false,fun w _=>by simp [Instr.extract],fun e=>(by cases e),fun _=>?_⟩
  have e2:L=M.filter fun p=>!decide (p.1.1+size≤d):=by
   rw [eL]
   refine List.filter_congr fun q hq=>?_
   by_cases hd:q.1.1+size≤d
   ·rw [decide_eq_true hd]
    cases hc:seen.contains q.2
    ·have:q ∈ L:=by rw [eL];exact List.mem_filter.2 ⟨hq,by rw [hc,Bool.and_false];rfl⟩
     have:=hall q this
     rw [←Array.contains_iff_mem,hc] at this
     cases this
    ·rfl
   ·rw [decide_eq_false hd];rfl
  have S:=I.s
  rw [e2] at S
  exact hK hA h2 D2 S V
 ·rw [off c (fun e=>by rw [e,hr] at ho;cases ho)]
  exact D.zA c o ho
 ·have hpM:=sub p hp
  have V':VecAR h9 h' a c A:=OwnV.off V (own_noI V I.r) hr off
  refine⟨true,fun w _=>by simp [Instr.extract],fun _=>?_,fun e=>(by cases e)⟩
  have I2:=I'.le D2.lA
  refine⟨vtup [encK3 p.1,vb true],fun w hs=>?_,p.1.1,p.1.2.1,p.1.2.2,fun w _=>by simp [Instr.extract,encK3],?_⟩
  ·refine run_entry_at w r b clk seen ((L.map (ent encK3)).toArray) clk (ent encK3 p) (hs r _ I2.r) (hs b _ I2.s.b) (by simp;exact⟨_,_,_,_,hp,rfl⟩) ?_
   have:((L.map (ent encK3)).toArray.toList.map (·.born))=L.map (·.2):=by simp [ent,Function.comp_def]
   rw [this]
   exact I'.s.nb
  ·intro b227 hb227 h228
   refine store_new (by rfl) ?_
   have D3:=D2.put hb227 (cellsO [vi p.1.1,vi p.1.2.1,vi p.1.2.2] 35)
   have lA3:=Hp.le_set (Hp.le_refl h') (Hp.none_of_le D2.lA hb227) (cellsO [vi p.1.1,vi p.1.2.1,vi p.1.2.2] 35)
   have I3:=I'.le lA3
   have V3:=V'.keep0 lA3
   have c227:(h2.set b227 (cellsO [vi p.1.1,vi p.1.2.1,vi p.1.2.2] 35)) b227=some (cellsO [vi p.1.1,vi p.1.2.1,vi p.1.2.2] 35):=Hp.set_same _ _ _
   generalize (h2.set b227 (cellsO [vi p.1.1,vi p.1.2.1,vi p.1.2.2] 35))=h229 at D3 c227 ⊢
   generalize (h'.set b227 (cellsO [vi p.1.1,vi p.1.2.1,vi p.1.2.2] 35))=hA3 at D3 I3 V3
   refine⟨⟨by decide,by decide⟩,_,cell_cells c227 rfl,_,isW (hs p hpM),fun e=>?_,fun e=>?_⟩
   ·have hd:p.1.1+size≤d:=of_decide_eq_true e
    refine⟨p.1.1,p.1.2.1,p.1.2.2,row_cells' c227 (Nat.le_refl _),D3.sem (sem_delS keyT I3.s (I'.s.o p hp) (List.mem_map.2 ⟨p,hp,rfl⟩) fun h4 S4 off4=>⟨fun c o ho=>?_,fun h5 D5=>⟨rfl,?_⟩⟩)⟩
    ·rw [off4 c (fun e=>by rw [e,hb] at ho;cases ho)]
     exact D3.zA c o ho
    ·have I4:IterK h4 b r (L.filter fun q=>!decide (q.1=p.1)) clk (seen.push p.2):=⟨S4,by rw [off4 r (fun e=>hbr e.symm)];exact I3.r⟩
     refine⟨⟨rfl,h4,_,_,D5,I4,OwnV.off V3 (own_no V3 I3.s.b) hb off4,?_⟩,?_⟩
     ·rw [eL,List.filter_filter]
      refine List.filter_congr fun q hq=>?_
      obtain⟨u1,u2⟩:=pair_one nk nb hq hpM
      rw [Array.contains_push]
      by_cases hqp:q=p
      ·rw [hqp,decide_eq_true rfl,decide_eq_true hd]
       simp
      ·rw [decide_eq_false (fun e=>hqp (u1 e))]
       have:(q.2 == p.2)=false:=by rw [beq_eq_false_iff_ne];exact fun e=>hqp (u2 e)
       rw [this]
       simp
     ·show mLeft b r h5 < mLeft b r hh
      rw [mLeft_of (I4.le D5.lA),mLeft_of (I.le D.lA),List.filter_filter]
      refine filter_len_lt (fun x hx h1=>?_) ⟨p,hp,?_,?_⟩
      ·rw [Array.contains_push] at h1
       revert h1
       cases seen.contains x.2<;>simp
      ·rw [Bool.not_eq_true',Bool.eq_false_iff]
       exact fun q=>hns (Array.contains_iff_mem.1 q)
      ·simp
   ·have hd:¬ p.1.1+size≤d:=of_decide_eq_false e
    refine⟨⟨rfl,hA3,_,_,D3,I3,V3,?_⟩,?_⟩
    ·rw [eL]
     refine List.filter_congr fun q hq=>?_
     obtain⟨u1,u2⟩:=pair_one nk nb hq hpM
     rw [Array.contains_push]
     by_cases hqp:q=p
     ·rw [hqp,decide_eq_false hd];rfl
     ·have:(q.2 == p.2)=false:=by rw [beq_eq_false_iff_ne];exact fun e=>hqp (u2 e)
      rw [this,Bool.or_false]
    ·show mLeft b r h229 < mLeft b r hh
     rw [mLeft_of (I3.le D3.lA),mLeft_of (I.le D.lA)]
     refine filter_len_lt (fun x hx h1=>?_) ⟨p,hp,?_,?_⟩
     ·rw [Array.contains_push] at h1
      revert h1
      cases seen.contains x.2<;>simp
     ·rw [Bool.not_eq_true',Bool.eq_false_iff]
      exact fun q=>hns (Array.contains_iff_mem.1 q)
     ·simp
section
variable {hi h:Hp}{g:Nat}{cs:List Value}{ar:Option Addr}{cr:Nat}{rd:List Nat}{aw:Option Addr}{wn cw:Nat}{ws:List Value}
end
def pnT (ks:List Int)(p:Pn):PK × List AcS × Bool:=(p.k,accsOf ks p.rs,p.t)
theorem prT_keys {ks:List Int}{R:List PR}{L:List Pn}(h:R.map prT=L.map (pnT ks)):R.map (·.k)=L.map (·.k):=by
 have:=congrArg (List.map Prod.fst) h
 rw [List.map_map,List.map_map] at this
 exact this
theorem prT_at {ks:List Int}{R:List PR}{L:List Pn}(h:R.map prT=L.map (pnT ks)){i:Nat}{r:PR}(hr:R[i]?=some r):∃ p,L[i]?=some p∧r.k=p.k∧r.acs=accsOf ks p.rs∧r.t=p.t:=by
 have h1:(R.map prT)[i]?=some (prT r):=by rw [List.getElem?_map,hr];rfl
 rw [h,List.getElem?_map,Option.map_eq_some_iff] at h1
 obtain⟨p,hp,e⟩:=h1
 simp only [pnT,prT,Prod.mk.injEq] at e
 exact⟨p,hp,e.1.symm,e.2.1.symm,e.2.2.symm⟩
theorem putP_in {k:PK}{v:List Vl}:∀{l:List Pn} {i:Nat} {p:Pn},l.Pairwise (fun a b=>aheadK a.k b.k)→l[i]?=some p→p.k=k→putP k v l=l.set i ⟨k,p.rs++[v],p.t⟩
 | [],i,p,_,h,_=>by simp at h
 | x :: l,0,p,hs,h,hk=>by
  simp only [List.getElem?_cons_zero,Option.some.injEq] at h
  subst h
  rw [putP,if_neg (by rw [hk];exact aheadK_irr k),if_pos hk,List.set_cons_zero]
 | x :: l,i+1,p,hs,h,hk=>by
  obtain⟨h1,h2⟩:=List.pairwise_cons.1 hs
  simp only [List.getElem?_cons_succ] at h
  have hx:=h1 p (List.mem_of_getElem? h)
  rw [hk] at hx
  rw [putP,if_pos hx,List.set_cons_succ,putP_in h2 h hk]
theorem putP_new {k:PK}{v:List Vl}:∀{l:List Pn} {i:Nat},i≤l.length→(∀ x ∈ l.take i,aheadK x.k k)→(∀ x,l[i]?=some x→¬ aheadK x.k k)→(∀ x ∈ l,x.k≠k)→putP k v l=l.take i++⟨k,[v],false⟩ :: l.drop i
 | [],0,_,_,_,_=>rfl
 | [],i+1,h,_,_,_=>by simp at h
 | x :: l,0,_,_,h,hn=>by
  rw [putP,if_neg (h x rfl),if_neg (hn x (List.mem_cons_self ..))]
  rfl
 | x :: l,i+1,hi,h1,h,hn=>by
  rw [putP,if_pos (h1 x (by simp)),putP_new (by simpa using hi) (fun y hy=>h1 y (by simp [hy])) (fun y hy=>h y (by simpa using hy)) (fun y hy=>hn y (List.mem_cons_of_mem _ hy))]
  rfl
theorem mapT_ind {ks:List Int}{C:List PR→List Pn→Prop}(h0:C [] [])(h1:∀ r R p L,prT r=pnT ks p→R.map prT=L.map (pnT ks)→C R L→C (r :: R) (p :: L)):∀{R:List PR} {L:List Pn},R.map prT=L.map (pnT ks)→C R L
 | [],[],_=>h0
 | [],_ :: _,h=>by simp at h
 | _ :: _,[],h=>by simp at h
 | r :: R,p :: L,h=>by
  simp only [List.map_cons,List.cons.injEq] at h
  exact h1 r R p L h.1 h.2 (mapT_ind h0 h1 h.2)
theorem prT_eq {ks:List Int}{r:PR}{p:Pn}(h:prT r=pnT ks p):r.k=p.k∧r.acs=accsOf ks p.rs∧r.t=p.t:=by
 simp only [prT,pnT,Prod.mk.injEq] at h
 exact h
theorem tell_map {ks:List Int}{size u:Int}{R:List PR}{L:List Pn}(h:R.map prT=L.map (pnT ks)):(R.map (tellPr size u)).map prT=(tellP size u L).map (pnT ks):=by
 refine mapT_ind (C:=fun R L=>(R.map (tellPr size u)).map prT=(tellP size u L).map (pnT ks)) rfl (fun r R p L h1 h2 ih=>?_) h
 obtain⟨e1,e2,e3⟩:=prT_eq h1
 unfold tellP at ih ⊢
 simp only [List.map_cons,ih]
 congr 1
 simp only [prT,pnT,tellPr,duePr,dueP,e1,e2,e3]
theorem drop_map {ks:List Int}{size u:Int}{R:List PR}{L:List Pn}(h:R.map prT=L.map (pnT ks)):(R.filter fun r=>!decide (r.k.1+size≤u)).map prT=(dropP size u L).map (pnT ks):=by
 refine mapT_ind (C:=fun R L=>(R.filter fun r=>!decide (r.k.1+size≤u)).map prT=(dropP size u L).map (pnT ks)) rfl (fun r R p L h1 h2 ih=>?_) h
 obtain⟨e1,e2,e3⟩:=prT_eq h1
 unfold dropP dueP at ih ⊢
 rw [List.filter_cons,List.filter_cons,e1]
 split
 ·rw [List.map_cons,List.map_cons,ih,h1]
 ·exact ih
theorem new_map {ks:List Int}{size u:Int}{R:List PR}{L:List Pn}(h:R.map prT=L.map (pnT ks)):((R.filter (newPr size u)).map toldPr).map (fun r=>(r.k,r.acs))=(newP size u L).map (fun p=>(p.k,accsOf ks p.rs)):=by
 refine mapT_ind (C:=fun R L=>((R.filter (newPr size u)).map toldPr).map (fun r=>(r.k,r.acs))=(newP size u L).map (fun p=>(p.k,accsOf ks p.rs))) rfl (fun r R p L h1 h2 ih=>?_) h
 obtain⟨e1,e2,e3⟩:=prT_eq h1
 unfold newP at ih ⊢
 have hc:newPr size u r=(!p.t&&dueP size u p):=by unfold newPr duePr dueP;rw [e1,e3]
 rw [List.filter_cons,List.filter_cons,hc]
 split
 ·rw [List.map_cons,List.map_cons,List.map_cons,ih]
  simp only [toldPr,e1,e2]
 ·exact ih
end Go.Proofs.Ytedmojjfdppffaa
