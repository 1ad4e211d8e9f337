/-
  Laws and contracts on which the statement's proof stands, part 2. Conditions: those stated at each.
-/
import Derived.OpenShut
import Derived.ChangeSame
import Derived.ProofKit
import Derived.JoinedCond
import Derived.Laws.StructEq
import Derived.Laws.Slices
import Derived.Laws.Externs
import Derived.Laws.Strings2
import Derived.Laws.CopyRow
import Derived.Laws.IdiomStrings
import Derived.Laws.Shifts
import Derived.Laws.MathBits
import Derived.Laws.Cover3
import Derived.WalkSmall
import Derived.LaidMore
import Derived.Stop.LaidErr
import Derived.ChangeArms
import Derived.ChangeBears2
import Derived.Test.YtiflgceoamkmnaaGreatDoorProg
import Derived.Lib.ItoaNum
import Derived.Lib.AtoiAll
import Derived.Shelf.SlSortCmp.NoneTotal
import Derived.Shelf.Small.Bits
import Derived.Shelf.Small.Strs
import Derived.Shelf.Small.Wraps
import Derived.Shelf.Strconv.Atoi
import Derived.Shelf.Strconv.Itoa0
import Derived.Shelf.Strconv.Itoa1
import Derived.Shelf.LaysM
import Derived.Shelf.Strconv.Itoa2
import Derived.Shelf.Strconv.Itoa3
import Derived.Shelf.Strconv.AtoiErrFast
import Derived.Shelf.Strconv.ParseIntEmpty
import Derived.Shelf.Strconv.AtoiFail
import Derived.Shelf.Strconv.Clone
import Derived.Shelf.Strconv.SyntaxError
import Derived.Shelf.LaysC
import Derived.Shelf.Strconv.ToError
import Derived.Shelf.Strconv.AtoiErr
import Derived.Shelf.Strconv.ErrVar
import Derived.Shelf.Strconv.Lower
import Derived.Shelf.Strconv.ParseUint10
import Derived.Shelf.Strconv.ParseUint10Empty
import Derived.Shelf.Strconv.ParseUint10Any
import Derived.Shelf.Strconv.ParseInt10
import Derived.Shelf.Strconv.AtoiLong
import Derived.Shelf.Strconv.AtoiInnerAll
import Derived.Shelf.Strconv.RangeError
import Derived.Shelf.Strconv.ToErrorRange
import Derived.Shelf.Strconv.AtoiAll
import Derived.Shelf.Strconv.ErrVarAll
import Derived.Shelf.Strings.Search1
import Derived.WalkKit
import Derived.Deep.RegionWith
import Derived.Below
import Derived.Lib.AtoiErrMem
import Derived.MapKept
import Derived.Test.YtiflgceoamkmnaaGreatDoorTs1
set_option linter.unusedVariables false
set_option maxRecDepth 100000
namespace Go.Vc
open Go Go.RowKit Go.ChangeShapes Go.WideShapes Go.ChangeAt
def hpOf (w:World):Hp:=fun b=>w.heap[b]?
structure Kept (w w':World):Prop where
 os:w'.os=w.os
 output:w'.output=w.output
 size:w.heap.size≤w'.heap.size
 heap:∀(b:Nat) (o:Obj),w.heap[b]?=some o→w'.heap[b]?=some o
section
variable {P:Program}
theorem calls_law {f:FuncId}{args:List Value}{W:World}(H:CallOK P f args (hpOf W) fun v h'=>v=vb true∧(hpOf W).le h') :
  Calls P f args.toArray W fun e W'=>e=.returned (.bool true)∧Kept W W':=by
 refine(H W fun b o hb=>hb).mono ?_
 rintro e W' ⟨v,h',rfl,hs,hF,rfl,hle⟩
 exact⟨rfl,hF.os,hF.output,hF.size,fun b o hb=>hs b o (hle b o hb)⟩
theorem mapM_kept {α β:Type}{f g:α→Option β}:∀{l:List α} {ys:List β},l.mapM f=some ys→(∀ x ∈ l,∀ y ∈ ys,f x=some y→g x=some y)→l.mapM g=some ys
 | [],ys,h,hg=>by simpa using h
 | x :: l,ys,h,hg=>by
  rw [List.mapM_cons] at h ⊢
  simp only [Option.bind_eq_bind,Option.bind_eq_some_iff,Option.pure_def,Option.some.injEq] at h ⊢
  obtain⟨y,hy,zs,hzs,rfl⟩:=h
  exact⟨y,hg x (by simp) y (by simp) hy,zs,mapM_kept hzs (fun x' hx y' hy'=>hg x' (by simp [hx]) y' (by simp [hy'])),rfl⟩
theorem length_mapM {α β:Type}{f:α→Option β}:∀{l:List α} {ys:List β},l.mapM f=some ys→ys.length=l.length
 | [],ys,h=>by simp at h;subst h;rfl
 | x :: l,ys,h=>by
  rw [List.mapM_cons] at h
  simp only [Option.bind_eq_bind,Option.bind_eq_some_iff,Option.pure_def,Option.some.injEq] at h
  obtain⟨y,hy,zs,hzs,rfl⟩:=h
  simp [length_mapM hzs]
theorem Kept.cell {w w':World}(K:Kept w w'){a:Addr}{v:Value}(h:w.cell? a=some v):w'.cell? a=some v:=by
 unfold World.cell? at h ⊢
 cases hb:w.heap[a.block]? with
 | none=>rw [hb] at h;cases h
 | some o=>rw [K.heap _ _ hb];rw [hb] at h;exact h
theorem Kept.cells {w w':World}(K:Kept w w'){base:Nat}{a:Addr}{n:Nat}{cs:List Value}(h:w.cells? base a n=some cs):w'.cells? base a n=some cs:=by
 unfold World.cells? at h ⊢
 split at h
 ·rename_i hb
  rw [if_pos hb]
  exact mapM_kept h fun _ _ _ _ e=>K.cell e
 ·cases h
def tyOK (P:Program)(N:Nat)(t:TypeId):Bool:=
 match P.underlying t with
 | some (.slice e)=>Nat.blt 0 (P.cellsOf e)&&Nat.blt e N
 | some (.pointer e)=>Nat.blt e N
 | some (.array _ e)=>Nat.blt e N
 | some (.map _ e)=>Nat.blt e N
 | some (.struct fs)=>fs.toList.all fun f=>Nat.blt f.type N
 | _=>true
structure slicesBig (P:Program):Prop where
 ty:∀ t,t < P.types.size→tyOK P P.types.size t=true
 gl:∀(g:Nat) (t:TypeId),(P.globals[g]?).map (·.type)=some t→t < P.types.size
theorem slicesBig_of {P:Program}(h1:((List.range P.types.size).all (tyOK P P.types.size))=true)(h2:(P.globals.toList.all fun g=>Nat.blt g.type P.types.size)=true):slicesBig P where
 ty t ht:=List.all_eq_true.1 h1 t (List.mem_range.2 ht)
 gl g t hg:=by
  cases hb:P.globals[g]? with
  | none=>rw [hb] at hg;cases hg
  | some x=>
   rw [hb] at hg
   simp only [Option.map_some,Option.some.injEq] at hg
   subst hg
   have:=List.all_eq_true.1 h2 x (by have:=Array.mem_of_getElem? hb;simpa using this)
   exact Nat.le_of_ble_eq_true this
theorem mem_row_mk {a:Addr}{n i:Nat}(hi:i < n):MemPlace.cell a.block (a.off+i) ∈ MemPlace.row a n:=by
 unfold MemPlace.row
 exact List.mem_map.2 ⟨i,List.mem_range.2 hi,rfl⟩
theorem trod_kept {H:Type}{enc:TypeId × Value→H}(hS:slicesBig P){w w':World}(K:Kept w w'){base:Nat}{sp:Nat→Bool} :
  ∀{fuel:Nat} {t:TypeId} {cs:List Value} {d:DataW H} {ps:List MemPlace},t < P.types.size→DataW.trod enc P w base (fun _=>true) true fuel t cs=some (d,ps) →
   (∀ p ∈ ps,sp p.block=true)→DataW.trod enc P w' base sp true fuel t cs=some (d,ps):=by
 intro fuel
 induction fuel with
 | zero=>intro t cs d ps ht h;simp [DataW.trod] at h
 | succ fuel ih=>
  intro t cs d ps ht h hp
  have htk:=hS.ty t ht
  unfold tyOK at htk
  unfold DataW.trod at h ⊢
  split at h
  case h_6=> -- pointer
   rename_i e a hu
   rw [hu] at htk
   dsimp only at htk
   simp only [Option.map_eq_some_iff,Option.bind_eq_some_iff] at h ⊢
   obtain⟨x,⟨cs',hc,hx⟩,he⟩:=h
   have he2:=he
   simp only [Prod.mk.injEq] at he2
   obtain⟨rfl,rfl⟩:=he2
   exact⟨x,⟨cs',K.cells hc,ih (Nat.le_of_ble_eq_true htk) hx fun p hpx=>hp p (List.mem_append_right _ hpx)⟩,rfl⟩
  case h_8=> -- slice
   rename_i e a len cap hu
   rw [hu] at htk
   simp only [Bool.and_eq_true] at htk
   split at h
   ·rename_i hc
    rw [if_pos hc]
    simp only [Option.bind_eq_some_iff,Option.map_eq_some_iff,if_true] at h
    obtain⟨elems,he,rest,hr,hx⟩:=h
    simp only [Prod.mk.injEq] at hx
    obtain⟨rfl,rfl⟩:=hx
    have hel:elems.length=len:=by have:=length_mapM he;simpa using this
    have hrl:rest.length=cap - len:=by have:=length_mapM hr;simpa using this
    have one:∀(i:Nat) (y:DataW H × List MemPlace),y ∈ elems++rest→((w.cells? base (a.add (i*P.cellsOf e)) (P.cellsOf e)).bind (DataW.trod enc P w base (fun _=>true) true fuel e))=some y →
      ((w'.cells? base (a.add (i*P.cellsOf e)) (P.cellsOf e)).bind (DataW.trod enc P w' base sp true fuel e))=some y:=by
     intro i y hy h1
     simp only [Option.bind_eq_some_iff] at h1 ⊢
     obtain⟨cs',h2,h3⟩:=h1
     exact⟨cs',K.cells h2,ih (Nat.le_of_ble_eq_true htk.2) h3 fun p hpy=>hp p (List.mem_append_right _ (List.mem_flatMap.2 ⟨y,hy,hpy⟩))⟩
    simp only [Option.bind_eq_some_iff,Option.map_eq_some_iff]
    refine⟨elems,mapM_kept he fun i _ y hy h1=>one i y (List.mem_append_left _ hy) h1,rest,?_,rfl⟩
    by_cases hz:cap=0
    ·have h0:rest=[]:=List.eq_nil_of_length_eq_zero (by omega)
     subst h0
     subst hz
     split<;>simp
    ·have hsp:sp a.block=true:=by
      have h0:0 < (elems.length+rest.length)*P.cellsOf e:=Nat.mul_pos (by omega) (Nat.le_of_ble_eq_true htk.1)
      exact hp _ (List.mem_append_left _ (mem_row_mk h0))
     rw [if_pos hsp]
     exact mapM_kept hr fun j _ y hy h1=>one (len+j) y (List.mem_append_right _ hy) h1
   ·cases h
  case h_9=> -- struct
   rename_i fs hu
   rw [hu] at htk
   dsimp only at htk
   split at h
   ·rename_i hc
    rw [if_pos hc]
    simp only [Option.map_eq_some_iff] at h ⊢
    obtain⟨xs,hx,he⟩:=h
    have he2:=he
    simp only [Prod.mk.injEq] at he2
    obtain⟨rfl,rfl⟩:=he2
    exact⟨xs,mapM_kept hx fun f hf y hy h1=>ih (Nat.le_of_ble_eq_true (List.all_eq_true.1 htk f hf)) h1 fun p hpy=>hp p (List.mem_flatMap.2 ⟨y,hy,hpy⟩),rfl⟩
   ·cases h
  case h_10=> -- array
   rename_i n e hu
   rw [hu] at htk
   dsimp only at htk
   split at h
   ·rename_i hc
    rw [if_pos hc]
    simp only [Option.map_eq_some_iff] at h ⊢
    obtain⟨xs,hx,he⟩:=h
    have he2:=he
    simp only [Prod.mk.injEq] at he2
    obtain⟨rfl,rfl⟩:=he2
    exact⟨xs,mapM_kept hx fun f _ y hy h1=>ih (Nat.le_of_ble_eq_true htk) h1 fun p hpy=>hp p (List.mem_flatMap.2 ⟨y,hy,hpy⟩),rfl⟩
   ·cases h
  case h_12=> -- interface
   simp only at h ⊢
   exact h
  case h_14=> -- map
   rename_i k e b hu
   rw [hu] at htk
   dsimp only at htk
   split at h
   ·rename_i es clock hb
    rw [K.heap _ _ hb]
    simp only
    split at h
    ·rename_i hc
     rw [if_pos hc]
     simp only [Option.bind_eq_some_iff] at h ⊢
     obtain⟨entries,hx,hrest⟩:=h
     refine⟨entries,?_,hrest⟩
     split at hrest
     ·simp only [Option.some.injEq,Prod.mk.injEq] at hrest
      obtain⟨rfl,rfl⟩:=hrest
      refine mapM_kept hx fun f _ y hy h1=>?_
      simp only [Option.bind_eq_some_iff] at h1 ⊢
      obtain⟨key,hk,h2⟩:=h1
      refine⟨key,hk,?_⟩
      split at h2
      ·rename_i hf
       rw [if_pos hf]
       simp only [Option.map_eq_some_iff] at h2 ⊢
       obtain⟨z,hz,rfl⟩:=h2
       exact⟨z,ih (Nat.le_of_ble_eq_true htk) hz fun p hpy=>hp p (List.mem_cons_of_mem _ (List.mem_flatMap.2 ⟨_,hy,hpy⟩)),rfl⟩
      ·cases h2
     ·cases hrest
    ·cases h
   ·cases h
  all_goals first|(cases h;done)|(simp_all;done)
theorem trodAll_kept {H:Type}{enc:TypeId × Value→H}(hS:slicesBig P){w w':World}(K:Kept w w'){base:Nat}{sp:Nat→Bool} :
  ∀{ts:List TypeId} {vs:List Value} {ds:List (DataW H)} {ps:List MemPlace},(∀ t ∈ ts,t < P.types.size)→DataW.TrodAll enc P w base (fun _=>true) true ts vs ds ps →
   (∀ p ∈ ps,sp p.block=true)→DataW.TrodAll enc P w' base sp true ts vs ds ps
 | [],[],[],ps,_,h,hp=>h
 | t :: ts,v :: vs,d :: ds,ps,ht,h,hp=>by
  obtain⟨p,q,⟨fuel,h1⟩,h2,rfl⟩:=h
  exact⟨p,q,⟨fuel,trod_kept hS K (ht t (by simp)) h1 fun x hx=>hp x (List.mem_append_left _ hx)⟩,trodAll_kept hS K (fun x hx=>ht x (by simp [hx])) h2 (fun x hx=>hp x (List.mem_append_right _ hx)),rfl⟩
 | [],_ :: _,_,_,_,h,_=>by simp [DataW.TrodAll] at h
 | [],[],_ :: _,_,_,h,_=>by simp [DataW.TrodAll] at h
 | _ :: _,[],_,_,_,h,_=>by simp [DataW.TrodAll] at h
 | _ :: _,_ :: _,[],_,_,h,_=>by simp [DataW.TrodAll] at h
theorem trodVars_kept {H:Type}{enc:TypeId × Value→H}(hS:slicesBig P){w w':World}(K:Kept w w'){sp:Nat→Bool} :
  ∀{ns:List String} {ds:List (DataW H)} {ps:List MemPlace},DataW.TrodVars enc P w (fun _=>true) ns ds ps →
   (∀ p ∈ ps,sp p.block=true)→DataW.TrodVars enc P w' sp ns ds ps
 | [],[],ps,h,hp=>h
 | n :: ns,d :: ds,ps,h,hp=>by
  obtain⟨g,t,cs,fuel,p,q,hn,ht,hv,h1,h2,rfl⟩:=h
  refine⟨g,t,cs,fuel,p,q,hn,ht,?_,trod_kept hS K (hS.gl g t ht) h1 fun x hx=>hp x (List.mem_append_left _ (List.mem_append_right _ hx)),trodVars_kept hS K h2 (fun x hx=>hp x (List.mem_append_right _ hx)),rfl⟩
  unfold World.var? at hv ⊢
  rw [hn] at hv ⊢
  simp only [Option.bind_some] at hv ⊢
  cases hb:w.heap[g]? with
  | none=>rw [hb] at hv;cases hv
  | some o=>rw [K.heap _ _ hb];rw [hb] at hv;exact hv
 | [],_ :: _,_,h,_=>by simp [DataW.TrodVars] at h
 | _ :: _,[],_,h,_=>by simp [DataW.TrodVars] at h
theorem law_post {H:Type}{enc:TypeId × Value→H}(hS:slicesBig P){f:Func}{s:ChangeSpec}{apart fresh handsOn again:Bool}{W W':World}{args:Array Value}{ds gs:List (DataW H)}{before:List MemPlace}
  (hW:DataW.Whole enc P f.params.toList s.vars apart W args.toList ds gs before) (K:Kept W W') (hts:(f.params.toList.all fun t=>Nat.blt t P.types.size)=true) {tb:TypeId} (hr:f.resultTypes=#[tb]) (hb:P.underlying tb=some .bool)
  (hs:s.fn H (ds++gs)={ results:=[.lit (.bool true)],args:=ds,vars:=gs }) :
  s.post enc P f apart fresh handsOn again W args (vb true) W':=by
 have hlt:∀ p ∈ before,p.block < W.heap.size:=fun p hp=>hW.lt p hp
 have hW0:=hW
 obtain⟨pa,pv,hA,hV,rfl,hz,hn⟩:=hW
 have hres:∀(b:Nat) (sp:Nat→Bool) (hd:Bool),DataW.TrodAll enc P W' b sp hd f.resultTypes.toList ((vb true).resultList f.resultTypes.size) [.lit (.bool true)] []:=by
  intro b sp hd
  rw [hr]
  exact trodAll_cons_mk (shut_bool hb _) trodAll_mk0
 have hargs:∀ sp:Nat→Bool,(∀ p ∈ pa++pv,sp p.block=true)→DataW.TrodAll enc P W' 0 sp true f.params.toList args.toList ds pa:=fun sp hp=>trodAll_kept hS K (fun t ht=>Nat.le_of_ble_eq_true (List.all_eq_true.1 hts t ht)) hA fun p h=>hp p (List.mem_append_left _ h)
 have hvars:∀ sp:Nat→Bool,(∀ p ∈ pa++pv,sp p.block=true)→DataW.TrodVars enc P W' sp s.vars gs pv:=fun sp hp=>trodVars_kept hS K hV fun p h=>hp p (List.mem_append_right _ h)
 have hold:∀ p ∈ pa++pv,(fun b=>decide (b < W.heap.size)) p.block=true:=fun p hp=>by simpa using hlt p hp
 have hall:∀ p ∈ pa++pv,(fun _:Nat=>true) p.block=true:=fun _ _=>rfl
 refine⟨ds,gs,pa++pv,[],pa,pv,hW0,?_,?_,?_,⟨K.os,K.output,fun i hi=>?_⟩,fun _=>⟨?_,_,gs,([]++pa)++pv,⟨[]++pa,pv,trodAll_append (hargs _ hall) (hres _ _ _),hvars _ hall,rfl,?_,?_⟩,?_⟩⟩
 ·rw [hs];exact hres _ _ _
 ·rw [hs];exact hargs _ hold
 ·rw [hs];exact hvars _ hold
 ·cases hb:W.heap[i]? with
  | none=>simp at hb;omega
  | some o=>rw [K.heap _ _ hb];cases o<;>simp
 ·intro j t r h1 h2
  exact ok_one hr rfl (okWide_bool_mk hb _) j t r h1 h2
 ·intro b off hp
  have h1:=hz b off (by simpa using hp)
  have h2:=hlt (.cell b off) (by simpa using hp)
  unfold World.frozen? at h1 ⊢
  cases hb:W.heap[b]? with
  | none=>simp [MemPlace.block] at hb h2;omega
  | some o=>rw [hb] at h1;rw [K.heap _ _ hb];exact h1
 ·intro ha
  simpa using hn ha
 ·intro p hp _
  simpa using hp
end
end Go.Vc
namespace Go.Vc
open Go
theorem isW {e:Int}(h:InR e):IsW e e:=(IntWalk.i64_in _ (by unfold InR at h;exact h)).symm
instance (z:Int):Decidable (InR z):=by unfold InR;infer_instance
structure OwnV (h0 h:Hp)(e:TypeId)(sz:Nat)(a:Option Addr)(n c:Nat)(xs:List Value):Prop where
 le:h0.le h
 own:OwnS h e sz a n c xs
 new:∀ g,a=some ⟨g,0,none⟩→h0 g=none
theorem OwnV.nil {h0 h:Hp}(hl:h0.le h)(e:TypeId)(sz:Nat):OwnV h0 h e sz none 0 0 []:=⟨hl,OwnS.nil h e sz,by simp⟩
theorem OwnV.mk_new {h0 h:Hp}(hl:h0.le h){b:Nat}(hb:h b=none)(e:TypeId){sz n:Nat}(xs:List Value)(hx:xs.length=n*sz)(hn:n≤maxLen) :
  OwnV h0 (h.set b (cellsO xs e)) e sz (some ⟨b,0,none⟩) n n xs:=
 ⟨Hp.le_set hl hb _,OwnS.new h b e xs hx hn,fun g hg=>by simp only [Option.some.injEq,Addr.mk.injEq,and_true] at hg;subst hg;exact Hp.none_of_le hl hb⟩
theorem OwnV.row {h0 h:Hp}{e:TypeId}{sz n c:Nat}{a:Option Addr}{xs:List Value}(O:OwnV h0 h e sz a n c xs):HasRow h a xs:=O.own.row
theorem OwnV.mono {h0 h h':Hp}(hl:h.le h'){e:TypeId}{sz n c:Nat}{a:Option Addr}{xs:List Value}(O:OwnV h0 h e sz a n c xs):OwnV h0 h' e sz a n c xs:=⟨Hp.le_trans O.le hl,O.own.le hl,O.new⟩
theorem OwnV.set {h0 h:Hp}{b:Nat}(hb:h b=none)(o:Obj){e:TypeId}{sz n c:Nat}{a:Option Addr}{xs:List Value}(O:OwnV h0 h e sz a n c xs):OwnV h0 (h.set b o) e sz a n c xs:=O.mono (Hp.le_set (Hp.le_refl h) hb o)
section
variable {P:Program}
theorem OwnV.append {h0 h:Hp}{t ty e:TypeId}{sz bytes:Nat}(T:ElT P t e sz bytes){a:Option Addr}{n c:Nat}{xs:List Value}(O:OwnV h0 h e sz a n c xs)
  {a2:Option Addr} {m c2:Nat} {news:List Value} (H2:HasRow h a2 news) (hl:news.length=m*sz) (h1:∀ u ∈ news,u.oneCell'=true)
  (hb:(n+m)*bytes≤140737488355328) (hm:n+m≤140737488355328) {K:Value→Hp→Prop}
  (hK:∀ a' c' h',OwnV h0 h' e sz a' (n+m) c' (xs++news)→(∀ b o,h b=some o→a≠some ⟨b,0,none⟩→h' b=some o)→(∀ g,a'=some ⟨g,0,none⟩→a=a'∨h g=none)→K (vsl a' (n+m) c') h') :
  SemOK P (Builtin.append_ #[t,t] ty #[vsl a n c,vsl a2 m c2]) h K:=by
 refine sem_append T O.own H2 hl h1 hb hm fun a' c' h' o1 o2 o3 _ _=>hK a' c' h' ⟨?_,o1,?_⟩ o2 o3
 ·intro b o hb
  refine o2 b o (O.le b o hb) fun e=>?_
  rw [O.new b e] at hb
  cases hb
 ·intro g hg
  rcases o3 g hg with e|e
  ·exact O.new g (e.trans hg)
  ·exact Hp.none_of_le O.le e
end
def SlI (h:Hp)(a:Option Addr)(n:Nat)(l:List Int):Prop:=n=l.length∧HasRow h a (l.map vi)
theorem SlI.le {h h':Hp}(hl:h.le h'){a:Option Addr}{n:Nat}{l:List Int}(H:SlI h a n l):SlI h' a n l:=⟨H.1,H.2.le hl⟩
theorem OwnV.sli {h0 h:Hp}{e:TypeId}{n c:Nat}{a:Option Addr}{l:List Int}(O:OwnV h0 h e 1 a n c (l.map vi)):SlI h a n l:=⟨by have:=O.own.1;simpa using this.symm,O.row⟩
theorem one_ints (l:List Int):∀ u ∈ l.map vi,u.oneCell'=true:=by
 intro u hu
 obtain⟨x,_,rfl⟩:=List.mem_map.1 hu
 rfl
theorem SlI.get {h:Hp}{a:Option Addr}{n:Nat}{l:List Int}(H:SlI h a n l){i:Nat}(hi:i < n):∃ b o,a=some ⟨b,o,none⟩∧h.cell b (o+i*1)=some (vi (l.getD i 0)):=by
 obtain⟨rfl,h1|⟨b,o,rfl,hr⟩⟩:=H
 ·have:l.length=0:=by simpa using congrArg List.length h1
  omega
 ·refine⟨b,o,rfl,?_⟩
  rw [Nat.mul_one]
  refine Hp.row_cell hr ?_
  rw [List.getElem?_map,List.getD_eq_getElem?_getD,List.getElem?_eq_getElem hi]
  rfl
def vint (l:List Value)(i:Nat):Int:=match l[i]? with|some (.int _ x)=>x|_=>0
def upto (p:Int→Bool)(lo:Int):Nat→List Int
 | 0=>[]
 | n+1=>upto p lo n++(if p (lo+(n+1:Nat)) then [lo+(n+1:Nat)] else [])
theorem upto_cons (p:Int→Bool)(lo:Int):∀ n,upto p lo (n+1)=(if p (lo+1) then [lo+1] else [])++upto p (lo+1) n
 | 0=>by simp [upto]
 | n+1=>by
  have e:lo+((n+1+1:Nat):Int)=lo+1+((n+1:Nat):Int):=by omega
  show upto p lo (n+1)++(if p (lo+((n+1+1:Nat):Int)) then [lo+((n+1+1:Nat):Int)] else [])=_++(upto p (lo+1) n++(if p (lo+1+((n+1:Nat):Int)) then [lo+1+((n+1:Nat):Int)] else []))
  rw [e,upto_cons p lo n,List.append_assoc]
theorem upto_skip (p:Int→Bool):∀(k:Nat) (lo:Int) (n:Nat),(∀ x,lo < x→x≤lo+k→p x=false)→upto p lo (k+n)=upto p (lo+k) n
 | 0,lo,n,h=>by simp
 | k+1,lo,n,h=>by
  rw [show k+1+n=(k+n)+1 by omega,upto_cons,h (lo+1) (by omega) (by omega),upto_skip p k (lo+1) n fun x h1 h2=>h x (by omega) (by omega)]
  simp only [Bool.false_eq_true,if_false,List.nil_append]
  congr 1
  omega
theorem upto_length (p:Int→Bool)(lo:Int):∀ n,(upto p lo n).length≤n
 | 0=>Nat.le_refl _
 | n+1=>by
  rw [upto,List.length_append]
  have:=upto_length p lo n
  split<;>simp<;>omega
def leafEq:TypeDesc→List Value→List Value→Option Bool
 | .int _,[.int k a],[.int k' b]=>bif k == k' then some (decide (a=b)) else none
 | .bool,[.bool a],[.bool b]=>some (a == b)
 | .string,[.string a],[.string b]=>some (a == b)
 | _,_,_=>none
def andO:Option Bool→Option Bool→Option Bool
 | some a,some b=>some (a&&b)
 | _,_=>none
section
variable (P:Program)
def cutF (f:Field)(xs:List Value):List Value:=(xs.drop f.offset).take (bif isAggT P f.type then szT P f.type else 1)
def eqFl:Nat→TypeId→List Value→List Value→Option Bool
 | 0,_,_,_=>none
 | d+1,t,xs,ys=>
  match P.underlying t with
  | some (.struct fs)=>bif P.stoodInHeld t then none else fs.toList.foldr (fun f acc=>bif f.name == "_" then none else andO (eqFl d f.type (cutF P f xs) (cutF P f ys)) acc) (some true)
  | some u=>leafEq u xs ys
  | none=>none
end
section
variable {P:Program}
def valT (P:Program)(t:TypeId)(xs:List Value):Value:=bif isAggT P t then .agg xs.toArray else xs.headD undef
theorem run_isAgg' {t:TypeId}{u:TypeDesc}(h:P.underlying t=some u)(w:World):(isAgg t).run P w=.ok (isAggT P t) w:=by
 simp only [isAgg,Sem.run_bind,run_underlying h,Result.andThen_ok,isAggT,h]
 cases u<;>simp
theorem run_part' {t:TypeId}{u:TypeDesc}(h:P.underlying t=some u){xs:List Value}{off:Nat}(hb:isAggT P t=false→off < xs.length)(w:World) :
  (part t xs.toArray off).run P w=.ok (valT P t ((xs.drop off).take (bif isAggT P t then szT P t else 1))) w:=by
 have hi:∃ i,P.info? t=some i:=by
  unfold Program.underlying at h
  split at h<;>first|(rename_i hi;exact⟨_,hi⟩)|cases h
 obtain⟨i,hi⟩:=hi
 unfold part
 simp only [Sem.run_bind,run_isAgg' h,Result.andThen_ok]
 cases hA:isAggT P t with
 | true=>
  simp [valT,hA,sizeOf,typeInfo,hi,szT,Program.cellsOf,List.extract_eq_take_drop]
 | false=>
  have:=hb hA
  simp only [Bool.false_eq_true,if_false]
  have e:xs.toArray[off]?=some xs[off]:=by simp [this]
  rw [e]
  simp [valT,hA,List.take_one,this]
theorem eqFl_ok:∀(d:Nat) {t:TypeId} {xs ys:List Value} {b:Bool},eqFl P d t xs ys=some b→∀(k:Nat) (w:World),(Op.equalIn (d+k) t (valT P t xs) (valT P t ys)).run P w=.ok b w
 | 0,t,xs,ys,b,h,k,w=>by simp [eqFl] at h
 | d+1,t,xs,ys,b,h,k,w=>by
  have IH:=fun {t:TypeId} {xs ys:List Value} {b:Bool} h=>@eqFl_ok d t xs ys b h
  unfold eqFl at h
  rw [show d+1+k=(d+k)+1 by omega]
  split at h
  ·rename_i fs hu
   cases hp:P.stoodInHeld t with
   | true=>rw [hp] at h;cases h
   | false=>
    rw [hp] at h
    simp only [cond_false] at h
    have hA:isAggT P t=true:=by simp [isAggT,hu]
    have hF:P.underlying t=some (.struct (P.fieldsOf t)):=by simp [Program.fieldsOf,hu]
    have hfs:P.fieldsOf t=fs:=by simp [Program.fieldsOf,hu]
    simp only [valT,hA,cond_true]
    rw [run_equalIn_struct w (d+k) t _ _ hF hp,hfs]
    generalize fs.toList=l at h
    clear hF hfs hu
    induction l generalizing b w with
    | nil=>simp only [List.foldr_nil,Option.some.injEq] at h;subst h;simp [Op.eqFields]
    | cons f l ih=>
     simp only [List.foldr_cons] at h
     cases hn:(f.name == "_") with
     | true=>rw [hn] at h;cases h
     | false=>
      rw [hn] at h
      simp only [cond_false] at h
      have hne:f.name≠ "_":=by simpa using hn
      cases h1:eqFl P d f.type (cutF P f xs) (cutF P f ys) with
      | none=>rw [h1] at h;simp [andO] at h
      | some b1=>
       cases h2:List.foldr (fun f acc=>bif f.name == "_" then none else andO (eqFl P d f.type (cutF P f xs) (cutF P f ys)) acc) (some true) l with
       | none=>rw [h1,h2] at h;simp [andO] at h
       | some b2=>
        rw [h1,h2] at h
        simp only [andO,Option.some.injEq] at h
        subst h
        have hu':∃ u,P.underlying f.type=some u:=by
         cases d with
         | zero=>simp [eqFl] at h1
         | succ d=>
          unfold eqFl at h1
          split at h1
          ·rename_i hu;exact⟨_,hu⟩
          ·rename_i hu;exact⟨_,hu⟩
          ·cases h1
        obtain⟨u,hu'⟩:=hu'
        have hlen:∀ zs:List Value,(∃ zs',eqFl P d f.type (cutF P f zs) zs'=some b1)∨(∃ zs',eqFl P d f.type zs' (cutF P f zs)=some b1)→isAggT P f.type=false→f.offset < zs.length:=by
         intro zs hz hA'
         rcases Nat.lt_or_ge f.offset zs.length with hh|hh
         ·exact hh
         ·have hnil:cutF P f zs=[]:=by simp [cutF,List.drop_eq_nil_of_le hh]
          exfalso
          have nl:∀ zs',eqFl P d f.type [] zs'≠some b1∧eqFl P d f.type zs' []≠some b1:=by
           intro zs'
           cases d with
           | zero=>simp [eqFl]
           | succ d=>
            unfold eqFl
            rw [hu']
            cases u with
            | struct fs=>simp [isAggT,hu'] at hA'
            | _=>constructor<;>(cases zs'<;>simp [leafEq])
          rw [hnil] at hz
          rcases hz with ⟨z,hz⟩|⟨z,hz⟩
          ·exact(nl z).1 hz
          ·exact(nl z).2 hz
        have p1:=run_part' hu' (xs:=xs) (off:=f.offset) (hlen xs (.inl ⟨_,h1⟩)) w
        have p2:=run_part' hu' (xs:=ys) (off:=f.offset) (hlen ys (.inr ⟨_,h1⟩)) w
        have e:=IH h1 k w
        simp only [cutF] at e
        simp only [Op.eqFields,hne,ne_eq,not_false_eq_true,if_true,Sem.run_bind,p1,p2,Result.andThen_ok,e]
        cases b1 with
        | false=>simp
        | true=>
         have:=@ih b2
         first|simpa using this w h2|simpa using this h2 w
  ·rename_i u hns hu
   unfold leafEq at h
   split at h
   ·rename_i kt k1 a k2 b'
    cases hk:(k1 == k2) with
    | false=>rw [hk] at h;cases h
    | true=>
     rw [hk] at h
     simp only [cond_true,Option.some.injEq] at h
     have:k1=k2:=eq_of_beq hk
     subst this
     subst h
     have hA:isAggT P t=false:=by simp [isAggT,hu]
     simp only [valT,hA,cond_false,List.headD_cons]
     rw [run_equalIn_int w (d+k) t _ _ _ _ hu]
     rfl
   ·simp only [Option.some.injEq] at h
    subst h
    have hA:isAggT P t=false:=by simp [isAggT,hu]
    simp only [valT,hA,cond_false,List.headD_cons]
    rw [run_equalIn_bool' w (d+k) t _ _ hu]
   ·simp only [Option.some.injEq] at h
    subst h
    have hA:isAggT P t=false:=by simp [isAggT,hu]
    simp only [valT,hA,cond_false,List.headD_cons]
    rw [run_equalIn_string w (d+k) t _ _ hu,beq_toListBytes]
   ·cases h
  ·cases h
theorem rd_eql {h:Hp}{t:TypeId}{x y:Operand}{xs ys:List Value}{b:Bool}(h1:eqFl P 8 t xs ys=some b)(hA:isAggT P t=true)(h2:P.eqGuardType P.depth t=false) :
  Rd P (eqGuard .eql t x y (vag xs) (vag ys) >>= fun _=>binOp .eql t (vag xs) (vag ys)) h (vb b):=by
 intro w _
 have e:=eqFl_ok 8 h1 9992 w
 simp only [valT,hA,cond_true] at e
 rw [Sem.run_bind,run_eqGuard_agg w .eql t x y _ _ h2,Result.andThen_ok,run_eql_struct,e]
 rfl
theorem rd_neq {h:Hp}{t:TypeId}{x y:Operand}{xs ys:List Value}{b:Bool}(h1:eqFl P 8 t xs ys=some b)(hA:isAggT P t=true)(h2:P.eqGuardType P.depth t=false) :
  Rd P (eqGuard .neq t x y (vag xs) (vag ys) >>= fun _=>binOp .neq t (vag xs) (vag ys)) h (vb (!b)):=by
 intro w _
 have e:=eqFl_ok 8 h1 9992 w
 simp only [valT,hA,cond_true] at e
 rw [Sem.run_bind,run_eqGuard_agg w .neq t x y _ _ h2,Result.andThen_ok,run_neq_struct,e]
 rfl
end
def SlP {α:Type}(enc:α→List Value)(h:Hp)(a:Option Addr)(n:Nat)(l:List α):Prop:=n=l.length∧HasRow h a (l.flatMap enc)
theorem flatMap_length {α:Type}{enc:α→List Value}{sz:Nat}(he:∀ x,(enc x).length=sz):∀ l:List α,(l.flatMap enc).length=l.length*sz
 | []=>by simp
 | x :: l=>by simp [flatMap_length he l,he x,Nat.add_mul,Nat.add_comm]
theorem flatMap_drop {α:Type}{enc:α→List Value}{sz:Nat}(he:∀ x,(enc x).length=sz):∀(i:Nat) (l:List α),(l.flatMap enc).drop (i*sz)=(l.drop i).flatMap enc
 | 0,l=>by simp
 | i+1,[]=>by simp
 | i+1,x :: l=>by
  have e:(enc x++l.flatMap enc).drop sz=l.flatMap enc:=by
   have:=List.drop_left (l₁:=enc x) (l₂:=l.flatMap enc)
   rw [he] at this
   exact this
  rw [List.flatMap_cons,Nat.add_mul,Nat.one_mul,Nat.add_comm,←List.drop_drop,e,flatMap_drop he i l]
  rfl
theorem flatMap_take {α:Type}{enc:α→List Value}{sz:Nat}(he:∀ x,(enc x).length=sz):∀(i:Nat) (l:List α),(l.flatMap enc).take (i*sz)=(l.take i).flatMap enc
 | 0,l=>by simp
 | i+1,[]=>by simp
 | i+1,x :: l=>by
  rw [List.flatMap_cons,List.take_append,List.take_of_length_le (by rw [he,Nat.add_mul];omega),he,List.take_succ_cons,List.flatMap_cons,show (i+1)*sz - sz=i*sz by rw [Nat.add_mul];omega,flatMap_take he i l]
theorem SlP.le {α:Type}{enc:α→List Value}{h h':Hp}(hl:h.le h'){a:Option Addr}{n:Nat}{l:List α}(H:SlP enc h a n l):SlP enc h' a n l:=⟨H.1,H.2.le hl⟩
section
variable {α:Type}{enc:α→List Value}{sz:Nat}{h:Hp}{a:Option Addr}{n:Nat}{l:List α}
theorem SlP.get (he:∀ x,(enc x).length=sz)(hz:0 < sz)(H:SlP enc h a n l){i:Nat}{x:α}(hx:l[i]?=some x):∃ b o,a=some ⟨b,o,none⟩∧h.row b (o+i*sz) sz=some (enc x):=by
 have hi:i < l.length:=(List.getElem?_eq_some_iff.1 hx).1
 have hlen:=flatMap_length he l
 rcases H.2 with h1|⟨b,o,rfl,hr⟩
 ·rw [h1] at hlen
  have h2:1*sz≤l.length*sz:=Nat.mul_le_mul_right _ (by omega)
  simp only [List.length_nil] at hlen
  omega
 ·refine⟨b,o,rfl,?_⟩
  have h3:i*sz+sz≤(l.flatMap enc).length:=by
   rw [hlen]
   have:(i+1)*sz≤l.length*sz:=Nat.mul_le_mul_right _ hi
   rw [Nat.add_mul] at this
   omega
  rw [Hp.row_sub hr h3,flatMap_drop he]
  have h4:=flatMap_take he 1 (l.drop i)
  rw [Nat.one_mul] at h4
  rw [h4,show (l.drop i).take 1=[x] by
   rw [List.drop_eq_getElem_cons hi]
   have:l[i]=x:=by rw [List.getElem?_eq_getElem hi] at hx;exact Option.some.inj hx
   simp [this]]
  simp
theorem SlP.cell (he:∀ x,(enc x).length=sz)(hz:0 < sz)(H:SlP enc h a n l){i j:Nat}{x:α}{v:Value}(hx:l[i]?=some x)(hv:(enc x)[j]?=some v):∃ b o,a=some ⟨b,o,none⟩∧h.cell b (o+i*sz+j)=some v:=by
 obtain⟨b,o,e,hr⟩:=H.get he hz hx
 exact⟨b,o,e,Hp.row_cell hr hv⟩
theorem SlP.take (he:∀ x,(enc x).length=sz)(H:SlP enc h a n l){i:Nat}(hi:i≤n):SlP enc h a i (l.take i):=by
 refine⟨by rw [List.length_take,←H.1];omega,?_⟩
 rw [←flatMap_take he]
 rcases H.2 with h1|⟨b,o,rfl,hr⟩
 ·rw [h1];exact .inl (by simp)
 ·refine .inr ⟨b,o,rfl,?_⟩
  have hlen:=flatMap_length he l
  have h3:i*sz≤(l.flatMap enc).length:=by rw [hlen];exact Nat.mul_le_mul_right _ (by rw [←H.1];exact hi)
  have:=Hp.row_sub hr (i:=0) (k:=i*sz) (by omega)
  rw [List.length_take,Nat.min_eq_left h3]
  simpa using this
def cutA (a:Option Addr)(i c sz:Nat):Option Addr:=if c=i then a else a.map (·.add (i*sz))
theorem SlP.drop (he:∀ x,(enc x).length=sz)(H:SlP enc h a n l){i c:Nat}(hi:i≤n)(hc:n≤c):SlP enc h (cutA a i c sz) (n - i) (l.drop i):=by
 refine⟨by rw [List.length_drop,←H.1],?_⟩
 rw [←flatMap_drop he]
 rcases H.2 with h1|⟨b,o,rfl,hr⟩
 ·rw [h1];exact .inl (by simp)
 ·have hlen:=flatMap_length he l
  rcases Nat.eq_or_lt_of_le hi with h2|h2
  ·refine .inl (List.drop_eq_nil_of_le ?_)
   rw [hlen,←H.1,h2]
   exact Nat.le_refl _
  ·refine .inr ⟨b,o+i*sz,?_,?_⟩
   ·have:c≠i:=by omega
    simp only [cutA,if_neg this,Option.map_some,Addr.add]
    split
    ·rename_i h0;rw [h0];rfl
    ·rfl
   ·have h3:i*sz≤(l.flatMap enc).length:=by rw [hlen];exact Nat.mul_le_mul_right _ (by rw [←H.1];exact hi)
    have:=Hp.row_sub hr (i:=i*sz) (k:=(l.flatMap enc).length - i*sz) (by omega)
    rw [List.length_drop]
    rw [this,List.take_of_length_le (by rw [List.length_drop];exact Nat.le_refl _)]
theorem OwnV.slp {h0:Hp}{e:TypeId}{c:Nat}(he:∀ x,(enc x).length=sz)(hz:0 < sz)(O:OwnV h0 h e sz a n c (l.flatMap enc)):SlP enc h a n l:=by
 refine⟨?_,O.row⟩
 have:=O.own.1
 rw [flatMap_length he] at this
 exact(Nat.eq_of_mul_eq_mul_right hz this).symm
end
section
variable {P:Program}
theorem rd_slice_h {h:Hp}{t e:TypeId}(ht:P.underlying t=some (.slice e))(hi:(P.info? e).isSome=true){a:Option Addr}{n c:Nat}{x:Int}(h0:0≤x)(h1:x≤c):Rd P (Instr.sliceAt t (vsl a n c) none (some (vi x)) none) h (vsl a x.toNat c):=by
 intro w _
 have he:P.elem t=e:=by simp [Program.elem,ht]
 obtain⟨i,hi⟩:=Option.isSome_iff_exists.1 hi
 rw [run_sliceAt_slice w t _ _ _ _ (by rw [he];exact ht),run_slice_h w t a n c (by rw [he];exact ht) _ x h0 h1,he]
 simp [sizeOf,typeInfo,hi,sliced]
 intro _
 cases a<;>simp [Addr.add]
theorem rd_slice_l {h:Hp}{t e:TypeId}(ht:P.underlying t=some (.slice e))(hi:(P.info? e).isSome=true){a:Option Addr}{n c:Nat}{x:Int}(h0:0≤x)(h1:x≤n) :
  Rd P (Instr.sliceAt t (vsl a n c) (some (vi x)) none none) h (vsl (cutA a x.toNat c (szT P e)) (n - x.toNat) (c - x.toNat)):=by
 intro w _
 have he:P.elem t=e:=by simp [Program.elem,ht]
 obtain⟨i,hi⟩:=Option.isSome_iff_exists.1 hi
 rw [run_sliceAt_slice w t _ _ _ _ (by rw [he];exact ht),run_slice_l w t a n c (by rw [he];exact ht) _ x h0 h1,he]
 simp [sizeOf,typeInfo,hi,sliced,cutA,szT,Program.cellsOf]
theorem rd_slice_lh {h:Hp}{t e:TypeId}(ht:P.underlying t=some (.slice e))(hi:(P.info? e).isSome=true){a:Option Addr}{n c:Nat}{x y:Int}(h0:0≤x)(h1:x≤y)(h2:y≤c) :
  Rd P (Instr.sliceAt t (vsl a n c) (some (vi x)) (some (vi y)) none) h (vsl (cutA a x.toNat c (szT P e)) (y.toNat - x.toNat) (c - x.toNat)):=by
 intro w _
 have he:P.elem t=e:=by simp [Program.elem,ht]
 obtain⟨i,hi⟩:=Option.isSome_iff_exists.1 hi
 rw [run_sliceAt_slice w t _ _ _ _ (by rw [he];exact ht),run_slice_lh w t a n c (by rw [he];exact ht) _ _ x y h0 h1 h2,he]
 simp [sizeOf,typeInfo,hi,sliced,cutA,szT,Program.cellsOf]
end
structure SmOK {H:Type}(Sm:DataW H→Prop)(N:Nat→Prop):Prop where
 zero:N 0
 slice:∀ es sp,Sm (.slice es sp)→N es.length∧∀ x ∈ es,Sm x
 agg:∀ xs,Sm (.agg xs)→∀ x ∈ xs,Sm x
 str:∀ l,Sm (.lit (.string l))→N l.length
 ptr:∀ x,Sm (.ptr x)→Sm x
theorem smTrue {H:Type}:SmOK (H:=H) (fun _=>True) (fun _=>True):=⟨trivial,fun _ _ _=>⟨trivial,fun _ _=>trivial⟩,fun _ _ _ _=>trivial,fun _ _=>trivial,fun _ _=>trivial⟩
section
variable {P:Program}{H:Type}{enc0:TypeId × Value→H}{w:World}{Sm:DataW H→Prop}{N:Nat→Prop}
def LeafC (P:Program)(enc0:TypeId × Value→H)(w:World)(Sm:DataW H→Prop)(t:TypeId)(cs:List Value):Prop:=
 ∃ fuel d ps,DataW.trod enc0 P w 0 (fun _=>true) true fuel t cs=some (d,ps)∧Sm d
theorem leaf_int {t:TypeId}{k:IntKind}(hu:P.underlying t=some (.int k)){cs:List Value}(L:LeafC P enc0 w Sm t cs):∃ n,cs=[.int k n]∧(Lit.int k n).wf=true:=by
 obtain⟨fuel,d,ps,h,_⟩:=L
 cases fuel with
 | zero=>simp [DataW.trod] at h
 | succ fuel=>
  unfold DataW.trod at h
  rw [hu] at h
  split at h<;>first|(cases h;done)|skip
  all_goals simp_all
theorem leaf_i64 {t:TypeId}(hu:P.underlying t=some (.int .i64)){cs:List Value}(L:LeafC P enc0 w Sm t cs):∃ n,cs=[vi n]∧InR n:=by
 obtain⟨n,rfl,h⟩:=leaf_int hu L
 exact⟨n,rfl,by simpa [Lit.wf,IntKind.min,IntKind.max,IntKind.signed,IntKind.bits,InR] using h⟩
theorem leaf_string (hS:SmOK Sm N){t:TypeId}(hu:P.underlying t=some .string){cs:List Value}(L:LeafC P enc0 w Sm t cs):∃ s,cs=[vs s]∧N s.size∧s.size≤maxLen:=by
 obtain⟨fuel,d,ps,h,hm⟩:=L
 cases fuel with
 | zero=>simp [DataW.trod] at h
 | succ fuel=>
  unfold DataW.trod at h
  rw [hu] at h
  split at h<;>first|(rename_i hx;cases hx;done)|(cases h;done)|skip
  split at h
  ·rename_i sz hsz
   simp only [Option.some.injEq,Prod.mk.injEq] at h
   obtain⟨rfl,rfl⟩:=h
   have:=hS.str _ hm
   exact⟨_,rfl,by simpa using this,hsz⟩
  ·cases h
theorem row_of_cells {b o:Nat}{xs:List Value}(hne:xs≠[])(h:∀ j x,xs[j]?=some x→w.cell? ⟨b,o+j,none⟩=some x):(hpOf w).row b o xs.length=some xs:=by
 obtain⟨x0,l0,rfl⟩:=List.exists_cons_of_ne_nil hne
 have h0:=h 0 x0 rfl
 unfold World.cell? at h0
 simp only at h0
 cases hb:w.heap[b]? with
 | none=>rw [hb] at h0;cases h0
 | some ob=>
  cases ob with
  | cells c t f=>
   have hc:∀ j x,(x0 :: l0)[j]?=some x→c[o+j]?=some x:=by
    intro j x hx
    have:=h j x hx
    unfold World.cell? at this
    simp only [hb] at this
    simpa using this
   refine Hp.row_spec.2 ⟨c,t,f,hb,?_,?_⟩
   ·have:=hc l0.length ((x0 :: l0)[l0.length]) (by rw [List.getElem?_eq_getElem (by simp)])
    have:=(Array.getElem?_eq_some_iff.1 this).1
    simp only [List.length_cons]
    omega
   ·apply List.ext_getElem?
    intro j
    rw [List.getElem?_take]
    split
    ·rename_i hj
     rw [List.getElem?_drop]
     have:=hc j ((x0 :: l0)[j]) (List.getElem?_eq_getElem hj)
     rw [List.getElem?_eq_getElem hj]
     simpa using this.symm
    ·rename_i hj
     exact List.getElem?_eq_none (by omega)
  | _=>rw [hb] at h0;simp at h0
theorem mapM_get {α β:Type}{f:α→Option β}:∀{l:List α} {ys:List β},l.mapM f=some ys→∀(i:Nat) (x:α),l[i]?=some x→∃ y,ys[i]?=some y∧f x=some y
 | [],ys,h,i,x,hx=>by simp at hx
 | a :: l,ys,h,i,x,hx=>by
  rw [List.mapM_cons] at h
  simp only [Option.bind_eq_bind,Option.bind_eq_some_iff,Option.pure_def,Option.some.injEq] at h
  obtain⟨y,hy,zs,hzs,rfl⟩:=h
  cases i with
  | zero=>simp at hx;subst hx;exact⟨y,rfl,hy⟩
  | succ i=>simpa using mapM_get hzs i x (by simpa using hx)
theorem cells_get {w:World}{base:Nat}{a:Addr}{n:Nat}{cs:List Value}(h:w.cells? base a n=some cs):cs.length=n∧∀ j x,cs[j]?=some x→w.cell? (a.add j)=some x:=by
 unfold World.cells? at h
 split at h
 ·have hl:=length_mapM h
  rw [List.length_range] at hl
  refine⟨hl,fun j x hx=>?_⟩
  have hj:j < n:=by rw [←hl];exact(List.getElem?_eq_some_iff.1 hx).1
  obtain⟨y,h1,h2⟩:=mapM_get h j j (by simp [hj])
  rw [hx] at h1
  cases h1
  exact h2
 ·cases h
theorem leaf_slice {α:Type}{enc:α→List Value}{sz:Nat}{good:α→Prop}(hS:SmOK Sm N){t e:TypeId}(hu:P.underlying t=some (.slice e))(hsz:P.cellsOf e=sz)(hz:0 < sz)(he:∀ x,(enc x).length=sz)
  (hel:∀ cs,LeafC P enc0 w Sm e cs→∃ y,cs=enc y∧good y) {cs:List Value} (L:LeafC P enc0 w Sm t cs) :
  ∃ a n c l,cs=[vsl a n c]∧SlP enc (hpOf w) a n l∧n≤c∧c≤maxLen∧N n∧∀ y ∈ l,good y:=by
 obtain⟨fuel,d,ps,h,hm⟩:=L
 cases fuel with
 | zero=>simp [DataW.trod] at h
 | succ fuel=>
  unfold DataW.trod at h
  rw [hu] at h
  split at h<;>first|(rename_i hx;cases hx;done)|(cases h;done)|skip
  ·exact⟨none,0,0,[],rfl,⟨rfl,.inl rfl⟩,Nat.le_refl _,Nat.zero_le _,hS.zero,by simp⟩
  ·rename_i e' a len cap hx
   cases hx
   split at h
   ·rename_i hc
    simp only [Option.bind_eq_some_iff,Option.map_eq_some_iff] at h
    obtain⟨elems,he1,rest,hr,hx⟩:=h
    simp only [Prod.mk.injEq] at hx
    obtain⟨rfl,rfl⟩:=hx
    have hel1:elems.length=len:=by have:=length_mapM he1;simpa using this
    have hm1:=hS.slice _ _ hm
    rw [List.length_map,hel1] at hm1
    have each:∀ i:Nat,i < len→∃ y,good y∧w.cells? 0 (a.add (i*sz)) sz=some (enc y):=by
     intro i hi
     obtain⟨x,h1,h2⟩:=mapM_get he1 i i (by simp [hi])
     simp only [Option.bind_eq_some_iff] at h2
     obtain⟨cs,h3,h4⟩:=h2
     rw [hsz] at h3
     obtain⟨y,rfl,hg⟩:=hel cs ⟨fuel,x.1,x.2,h4,hm1.2 x.1 (List.mem_map.2 ⟨x,List.mem_of_getElem? h1,rfl⟩)⟩
     exact⟨y,hg,h3⟩
    have all:∃ l:List α,l.length=len∧(∀ y ∈ l,good y)∧∀ i y,l[i]?=some y→w.cells? 0 (a.add (i*sz)) sz=some (enc y):=by
     clear hm hm1 he1 hr hel1 hc
     induction len with
     | zero=>exact⟨[],rfl,by simp,by simp⟩
     | succ n ih=>
      obtain⟨l,h1,h2,h3⟩:=ih (fun i hi=>each i (by omega))
      obtain⟨y,h4,h5⟩:=each n (by omega)
      refine⟨l++[y],by simp [h1],?_,?_⟩
      ·intro z hz'
       rcases List.mem_append.1 hz' with h6|h6
       ·exact h2 z h6
       ·simp at h6;subst h6;exact h4
      ·intro i z hz'
       rcases Nat.lt_or_ge i n with h6|h6
       ·rw [List.getElem?_append_left (by omega)] at hz'
        exact h3 i z hz'
       ·rw [List.getElem?_append_right (by omega)] at hz'
        have:i=n:=by
         have:=(List.getElem?_eq_some_iff.1 hz').1
         simp at this
         omega
        subst this
        rw [h1,Nat.sub_self] at hz'
        simp at hz'
        subst hz'
        exact h5
    obtain⟨l,hl,hg,hcs⟩:=all
    refine⟨some a,len,cap,l,rfl,⟨hl.symm,?_⟩,hc.2.1,hc.2.2,hm1.1,hg⟩
    cases l with
    | nil=>exact .inl rfl
    | cons y l=>
     refine .inr ?_
     have c0:=(cells_get (hcs 0 y rfl)).2
     have hx0:∃ x,(enc y)[0]?=some x:=⟨_,List.getElem?_eq_getElem (by rw [he];exact hz)⟩
     obtain⟨x0,hx0⟩:=hx0
     have a0:=c0 0 x0 hx0
     obtain⟨b,o,spot⟩:=a
     have hs:spot=none:=by
      cases spot with
      | none=>rfl
      | some s=>
       simp only [Nat.zero_mul,Addr.add] at a0
       unfold World.cell? at a0
       simp at a0
       split at a0<;>simp at a0
     subst hs
     refine⟨b,o,rfl,row_of_cells (by
      intro hn
      have:=congrArg List.length hn
      rw [List.flatMap_cons,List.length_append,he] at this
      simp at this
      omega) ?_⟩
     intro j x hx
     have ad:∀ o k,(⟨b,o,none⟩:Addr).add k=⟨b,o+k,none⟩:=by intro o k;unfold Addr.add;split<;>simp_all
     have hlen:=flatMap_length he (y :: l)
     have hj:j < (y :: l).length*sz:=by rw [←hlen];exact(List.getElem?_eq_some_iff.1 hx).1
     have hq:j / sz < (y :: l).length:=(Nat.div_lt_iff_lt_mul hz).2 hj
     have hd:sz*(j / sz)+j % sz=j:=Nat.div_add_mod j sz
     have hr':j % sz < sz:=Nat.mod_lt _ hz
     have key:((y :: l).flatMap enc)[j]?=(enc ((y :: l)[j / sz]))[j % sz]?:=by
      have h1:=flatMap_drop he (j / sz) (y :: l)
      have h2:((y :: l).flatMap enc)[j]?=(((y :: l).flatMap enc).drop ((j / sz)*sz))[j % sz]?:=by
       rw [List.getElem?_drop]
       congr 1
       rw [Nat.mul_comm]
       exact hd.symm
      rw [h2,h1,List.drop_eq_getElem_cons hq,List.flatMap_cons,List.getElem?_append_left (by rw [he];exact hr')]
     rw [key] at hx
     have:=(cells_get (hcs (j / sz) _ (List.getElem?_eq_getElem hq))).2 _ _ hx
     rw [ad,ad] at this
     have e3:o+j / sz*sz+j % sz=o+j:=by
      rw [Nat.mul_comm (j / sz) sz];omega
     rw [e3] at this
     exact this
   ·cases h
def flatIds (P:Program):Nat→TypeId→List TypeId
 | 0,t=>[t]
 | n+1,t=>match P.underlying t with
  | some (.struct fs)=>fs.toList.flatMap fun f=>flatIds P n f.type
  | _=>[t]
def contig (P:Program)(N:Nat):Nat→List Field→Bool
 | o,[]=>Nat.beq o N
 | o,f :: l=>Nat.beq f.offset o&&contig P N (o+P.cellsOf f.type) l
def flatOK (P:Program):Nat→TypeId→Bool
 | 0,_=>false
 | n+1,t=>match P.underlying t with
  | some (.struct fs)=>contig P (P.cellsOf t) 0 fs.toList&&fs.toList.all fun f=>flatOK P n f.type
  | some (.array _ _)=>false
  | some _=>Nat.beq (P.cellsOf t) 1
  | none=>false
def LeafL (P:Program)(enc0:TypeId × Value→H)(w:World)(Sm:DataW H→Prop):List TypeId→List Value→Prop
 | [],[]=>True
 | t :: ts,v :: vs=>LeafC P enc0 w Sm t [v]∧LeafL P enc0 w Sm ts vs
 | _,_=>False
theorem leafL_append:∀{ts ts':List TypeId} {vs vs':List Value},LeafL P enc0 w Sm ts vs→LeafL P enc0 w Sm ts' vs'→LeafL P enc0 w Sm (ts++ts') (vs++vs')
 | [],_,[],_,_,h=>h
 | _ :: _,_,_ :: _,_,h1,h2=>⟨h1.1,leafL_append h1.2 h2⟩
 | [],_,_ :: _,_,h,_=>h.elim
 | _ :: _,_,[],_,h,_=>h.elim
theorem trod_len {fuel:Nat}{t:TypeId}{cs:List Value}{x:DataW H × List MemPlace}(h:DataW.trod enc0 P w 0 (fun _=>true) true fuel t cs=some x):(∃ v,cs=[v])∨cs.length=P.cellsOf t:=by
 cases fuel with
 | zero=>simp [DataW.trod] at h
 | succ fuel=>
  unfold DataW.trod at h
  split at h<;>first|exact .inl ⟨_,rfl⟩|skip
  ·split at h
   ·exact .inr (by assumption)
   ·cases h
  ·split at h
   ·exact .inr (by assumption)
   ·cases h
  ·cases h
theorem leaf_flat (hS:SmOK Sm N):∀(n:Nat) {t:TypeId} {cs:List Value},flatOK P n t=true→LeafC P enc0 w Sm t cs→LeafL P enc0 w Sm (flatIds P n t) cs
 | 0,t,cs,h,_=>by simp [flatOK] at h
 | n+1,t,cs,h,L=>by
  unfold flatOK at h
  unfold flatIds
  split at h
  ·rename_i fs hu
   simp only [hu]
   obtain⟨fuel,d,ps,ht,hm⟩:=L
   cases fuel with
   | zero=>simp [DataW.trod] at ht
   | succ fuel=>
    unfold DataW.trod at ht
    rw [hu] at ht
    simp only at ht
    split at ht
    ·rename_i hlen
     simp only [Option.map_eq_some_iff] at ht
     obtain⟨xs,hx,he⟩:=ht
     simp only [Prod.mk.injEq] at he
     obtain⟨rfl,rfl⟩:=he
     have hm':=hS.agg _ hm
     simp only [Bool.and_eq_true] at h
     have go:∀(l:List Field) (o:Nat) (xs:List (DataW H × List MemPlace)),contig P (P.cellsOf t) o l=true→(∀ f ∈ l,flatOK P n f.type=true) →
       (l.mapM fun f=>DataW.trod enc0 P w 0 (fun _=>true) true fuel f.type ((cs.drop f.offset).take (P.cellsOf f.type)))=some xs→(∀ x ∈ xs,Sm x.1)→o≤cs.length→LeafL P enc0 w Sm (l.flatMap fun f=>flatIds P n f.type) (cs.drop o):=by
      intro l
      induction l with
      | nil=>
       intro o xs hc _ _ _ _
       simp only [contig,Nat.beq_eq] at hc
       rw [List.flatMap_nil,List.drop_of_length_le (by rw [hlen,hc];exact Nat.le_refl _)]
       trivial
      | cons f l ih=>
       intro o xs hc hk hmm hsm ho
       simp only [contig,Bool.and_eq_true,Nat.beq_eq] at hc
       rw [List.mapM_cons] at hmm
       simp only [Option.bind_eq_bind,Option.bind_eq_some_iff,Option.pure_def,Option.some.injEq] at hmm
       obtain⟨y,hy,zs,hzs,rfl⟩:=hmm
       rw [hc.1] at hy
       have h1:=leaf_flat hS n (hk f (by simp)) ⟨fuel,y.1,y.2,hy,hsm y (by simp)⟩
       have hle:o+P.cellsOf f.type≤cs.length:=by
        have:∀(l:List Field) (o:Nat),contig P (P.cellsOf t) o l=true→o≤P.cellsOf t:=by
         intro l
         induction l with
         | nil=>intro o hc;simp only [contig,Nat.beq_eq] at hc;omega
         | cons g l ih=>intro o hc;simp only [contig,Bool.and_eq_true] at hc;have:=ih _ hc.2;omega
        rw [hlen]
        exact this l _ hc.2
       have h2:=ih (o+P.cellsOf f.type) zs hc.2 (fun g hg=>hk g (by simp [hg])) hzs (fun x hx=>hsm x (by simp [hx])) hle
       have:=leafL_append h1 h2
       rw [List.flatMap_cons]
       rw [←List.drop_drop,List.take_append_drop] at this
       exact this
     have:=go fs.toList 0 xs h.1 (fun f hf=>List.all_eq_true.1 h.2 f hf) hx (fun x hx=>hm' x.1 (List.mem_map.2 ⟨x,hx,rfl⟩)) (Nat.zero_le _)
     simpa using this
    ·cases ht
  ·cases h
  ·rename_i u hu hns hna
   have hl:∃ v,cs=[v]:=by
    obtain⟨fuel,d,ps,ht,hm⟩:=L
    rcases trod_len ht with h1|h1
    ·exact h1
    ·rw [Nat.beq_eq] at h
     rw [h] at h1
     exact List.length_eq_one_iff.1 h1
   obtain⟨v,rfl⟩:=hl
   split
   ·rename_i fs' e9
    exfalso
    simp_all
    rename_i e10
    first|exact hu _ e10.symm|exact hu _ hna.symm|exact hu _ e9.symm
   ·exact⟨L,trivial⟩
  ·cases h
theorem leafC_of {t:TypeId}{v:Value}{d:DataW H}{ps:List MemPlace}(h:DataW.Trod enc0 P w 0 (fun _=>true) true t v d ps)(hm:Sm d):LeafC P enc0 w Sm t v.cells.toList:=by
 obtain⟨fuel,h⟩:=h
 exact⟨fuel,d,ps,h,hm⟩
end
section
variable {P:Program}{h:Hp}
theorem rd_max {ts:Array TypeId}{t:TypeId}{a b:Int}:Rd P (Builtin.max_ ts t #[vi a,vi b]) h (vi (max a b)):=by
 intro w _
 simp [Builtin.max_,Builtin.max2]
 by_cases h:a < b<;>simp [h]<;>omega
theorem bytes_ext {a b:ByteArray}(h:a.toList=b.toList):a=b:=by
 rw [ByteArray.toList_eq,ByteArray.toList_eq] at h
 exact ByteArray.ext (Array.ext' h)
theorem beq_bytes (a b:ByteArray):(a.toList == b.toList)=decide (a=b):=by
 by_cases h:a=b
 ·subst h;simp
 ·have:¬ a.toList=b.toList:=fun e=>h (bytes_ext e)
  simp [h,this]
theorem rd_eqS {t:TypeId}{x y:Operand}{a b:ByteArray} :Rd P (eqGuard .eql t x y (vs a) (vs b) >>= fun _=>binOp .eql t (vs a) (vs b)) h (vb (decide (a=b))):=by
 intro w _
 simp [binOp,eqGuard,Op.stringOp,beq_bytes]
theorem rd_neS {t:TypeId}{x y:Operand}{a b:ByteArray} :Rd P (eqGuard .neq t x y (vs a) (vs b) >>= fun _=>binOp .neq t (vs a) (vs b)) h (vb (!decide (a=b))):=by
 intro w _
 simp [binOp,eqGuard,Op.stringOp,beq_bytes]
theorem rd_and1023 {t:TypeId}{a:Int}:Rd P (binOp .and t (vi a) (vi 1023)) h (vi (a % 1024)):=by
 intro w _
 have h127:(BitVec.ofInt 64 1023).toNat=2 ^ 10 - 1:=by decide
 have key:(BitVec.ofInt 64 a &&& BitVec.ofInt 64 1023).toNat=(a % ((2 ^ 64:Nat):Int)).toNat % 2 ^ 10:=by
  rw [BitVec.toNat_and,BitVec.toNat_ofInt,h127,Nat.and_two_pow_sub_one_eq_mod]
 have e:bits .and .i64 a 1023=a % 1024:=by
  show IntKind.i64.wrap ((BitVec.ofInt 64 a &&& BitVec.ofInt 64 1023).toNat:Nat)=a % 1024
  rw [key,IntKind.wrap_i64]
  omega
 simp [binOp,intBits_and,e]
end
def Hp.del (h:Hp)(g:Nat):Hp:=fun i=>if i=g then none else h i
theorem HasRow.del {h:Hp}{a:Option Addr}{xs:List Value}(H:HasRow h a xs){g:Nat}(hg:∀ b o,a=some ⟨b,o,none⟩→b≠g):HasRow (h.del g) a xs:=by
 rcases H with rfl|⟨b,o,rfl,e⟩
 ·exact .inl rfl
 ·refine .inr ⟨b,o,rfl,?_⟩
  unfold Hp.row Hp.del at *
  rw [if_neg (hg b o rfl)]
  exact e
theorem OwnS.at0 {h:Hp}{e:TypeId}{sz n c:Nat}{a:Option Addr}{xs:List Value}(H:OwnS h e sz a n c xs):∀ b o,a=some ⟨b,o,none⟩→o=0:=by
 rintro b o rfl
 rcases H.2 with ⟨h1,_⟩|⟨g,cur,h1,_⟩
 ·cases h1
 ·cases h1;rfl
theorem OwnV.trans {h0 h1 h:Hp}(l:h0.le h1){e:TypeId}{sz n c:Nat}{a:Option Addr}{xs:List Value}(O:OwnV h1 h e sz a n c xs):OwnV h0 h e sz a n c xs:=
 ⟨Hp.le_trans l O.le,O.own,fun g hg=>Hp.none_of_le l (O.new g hg)⟩
theorem setL_length {α:Type}(l:List α)(o:Nat)(vs:List α)(h:o+vs.length≤l.length):(setL l o vs).length=l.length:=by
 unfold setL
 simp
 omega
theorem setL_take {α:Type}(l:List α)(o:Nat)(vs:List α)(m:Nat)(h:o+vs.length≤m)(hm:m≤l.length):(setL l o vs).take m=setL (l.take m) o vs:=by
 unfold setL
 have h1:(l.take m).take o=l.take o:=by rw [List.take_take];congr 1;omega
 have h2:(l.take m).drop (o+vs.length)=(l.drop (o+vs.length)).take (m - (o+vs.length)):=List.drop_take ..
 have h3:(l.take o++vs).length=o+vs.length:=by simp;omega
 rw [h1,h2,List.take_append,h3,List.take_of_length_le (by rw [h3];exact h)]
theorem setL_one {α:Type}(l:List α)(o:Nat)(v:α)(h:o < l.length):setL l o [v]=l.set o v:=by
 unfold setL
 rw [List.set_eq_take_append_cons_drop,if_pos h]
 simp
theorem OwnV.store {h0 h:Hp}{e:TypeId}{sz n c:Nat}{a:Option Addr}{xs:List Value}(O:OwnV h0 h e sz a n c xs){j:Nat}{vs:List Value}(hv:0 < vs.length)(hj:j+vs.length≤n*sz){K:Hp→Prop}{b o:Nat}(ha:a=some ⟨b,o,none⟩)
  (hK:∀ ob,OwnV h0 (h.set b ob) e sz a n c (setL xs j vs)→K (h.set b ob)):h.store b (o+j) vs K:=by
 obtain rfl:=O.own.at0 b o ha
 obtain⟨hl,h1⟩:=O.own
 rcases h1 with ⟨h1,h2,h3⟩|⟨g,cur,h1,hg,hn,hc,hs,ht⟩
 ·rw [h1] at ha;cases ha
 ·rw [h1] at ha
  cases ha
  have hcur:n*sz≤cur.size:=by rw [hs];exact Nat.mul_le_mul_right _ hn
  refine⟨cur,e,hg,by omega,?_⟩
  rw [Nat.zero_add]
  refine hK _ ⟨?_,⟨?_,.inr ⟨b,_,h1,by simp [Hp.set];rfl,hn,hc,?_,?_⟩⟩,O.new⟩
  ·intro i p hp
   have hne:i≠b:=fun hib=>by rw [hib,O.new b h1] at hp;cases hp
   simp [Hp.set,hne,O.le i p hp]
  ·rw [setL_length _ _ _ (by omega)];exact hl
  ·show (setL cur.toList j vs).length=_
   have h9:cur.toList.length=cur.size:=Array.length_toList
   rw [setL_length _ _ _ (by omega),h9];exact hs
  ·show (setL cur.toList j vs).take (n*sz)=_
   rw [setL_take _ _ _ _ hj (by rw [Array.length_toList];exact hcur),ht]
theorem OwnV.store_i {h0 h:Hp}{e:TypeId}{n c:Nat}{a:Option Addr}{l:List Int}(O:OwnV h0 h e 1 a n c (l.map vi)){i:Nat}{x:Int}(hi:i < n){K:Hp→Prop}{b o:Nat}(ha:a=some ⟨b,o,none⟩)
  (hK:∀ ob,OwnV h0 (h.set b ob) e 1 a n c ((l.set i x).map vi)→K (h.set b ob)):h.store b (o+i*1) [vi x] K:=by
 rw [Nat.mul_one]
 refine O.store (by simp) (by simp;omega) ha fun ob O'=>hK ob ?_
 have hl:i < l.length:=by have:=O.sli.1;omega
 rw [setL_one _ _ _ (by simpa using hl),←List.map_set] at O'
 exact O'
theorem cell_cells {h:Hp}{b:Nat}{l:List Value}{t:TypeId}(hb:h b=some (cellsO l t)){o:Nat}{v:Value}(hv:l[o]?=some v):h.cell b o=some v:=by
 unfold Hp.cell
 rw [hb]
 simpa using hv
theorem row_cells' {h:Hp}{b:Nat}{l:List Value}{t:TypeId}(hb:h b=some (cellsO l t)){o n:Nat}(hn:o+n≤l.length):h.row b o n=some ((l.drop o).take n):=by
 unfold Hp.row
 rw [hb]
 simp [hn]
theorem store_cells {h:Hp}{b:Nat}{l:List Value}{t:TypeId}(hb:h b=some (cellsO l t)){o:Nat}{vs:List Value}(ho:o+vs.length≤l.length){K:Hp→Prop}(hK:K (h.set b (cellsO (setL l o vs) t))):h.store b o vs K:=by
 refine⟨_,_,hb,by simpa using ho,?_⟩
 simpa using hK
section
variable {P:Program}
theorem sem_clone {h:Hp}{t ty e:TypeId}{sz bytes:Nat}(T:ElT P t e sz bytes){a2:Option Addr}{m c2:Nat}{news:List Value}(H:HasRow h a2 news)(hl:news.length=m*sz)(h1:∀ u ∈ news,u.oneCell'=true)
  (hb:m*bytes≤140737488355328) (hm:m≤140737488355328) {K:Value→Hp→Prop} (hK:∀ a' c' h',OwnV h h' e sz a' m c' news→K (vsl a' m c') h') :
  SemOK P (Builtin.append_ #[t,t] ty #[vsl none 0 0,vsl a2 m c2]) h K:=by
 refine OwnV.append T (OwnV.nil (Hp.le_refl h) e sz) H hl h1 (by simpa using hb) (by simpa using hm) fun a' c' h' O _ _=>?_
 rw [Nat.zero_add,List.nil_append] at *
 exact hK a' c' h' O
end
def bs (l:List UInt8):ByteArray:=⟨l.toArray⟩
theorem bs_size (l:List UInt8):(bs l).size=l.length:=by simp [bs,ByteArray.size]
theorem bs_inj {l m:List UInt8}:bs l=bs m↔l=m:=by
 constructor
 ·intro h
  have:=congrArg (fun b=>b.data.toList) h
  simpa [bs] using this
 ·rintro rfl;rfl
theorem bs_extract (l:List UInt8)(i j:Nat):(bs l).extract i j=bs ((l.drop i).take (j - i)):=by
 apply ByteArray.ext
 rw [ByteArray.data_extract]
 simp [bs,List.extract_eq_take_drop]
section
variable {P:Program}{h:Hp}
theorem rd_idx {t:TypeId}(ht:P.underlying t=some .string){l:List UInt8}{i:Int}(h0:0≤i)(h1:i < l.length):Rd P (Instr.index t (vs (bs l)) (vi i)) h (vk .u8 ((l.getD i.toNat 0).toNat:Nat)):=by
 intro w _
 have h2:i < (bs l).size:=by rw [bs_size];exact h1
 rw [run_index_string w t _ _ _ ht,dif_pos ⟨h0,h2⟩]
 have h3:i.toNat < l.length:=by omega
 have:(bs l)[i.toNat]'(by omega)=l.getD i.toNat 0:=by
  rw [List.getD_eq_getElem?_getD,List.getElem?_eq_getElem h3]
  simp [bs,ByteArray.getElem_eq_getElem_data]
 rw [this]
theorem rd_cut {t:TypeId}(ht:P.underlying t=some .string){l:List UInt8}{i j:Int}(h0:0≤i)(h1:i≤j)(h2:j≤l.length):Rd P (Instr.sliceAt t (vs (bs l)) (some (vi i)) (some (vi j)) none) h (vs (bs ((l.drop i.toNat).take (j.toNat - i.toNat)))):=by
 intro w _
 rw [run_sliceAt_string w t _ _ _ _ ht,run_slice_string w t _ _ _ i j ht h0 h1 (by rw [bs_size];exact h2),bs_extract]
theorem rd_eqBs {t:TypeId}{x y:Operand}{a b:List UInt8}:Rd P (eqGuard .eql t x y (vs (bs a)) (vs (bs b)) >>= fun _=>binOp .eql t (vs (bs a)) (vs (bs b))) h (vb (decide (a=b))):=by
 have:=rd_eqS (P:=P) (h:=h) (t:=t) (x:=x) (y:=y) (a:=bs a) (b:=bs b)
 rwa [show decide (bs a=bs b)=decide (a=b) from decide_eq_decide.2 bs_inj] at this
theorem rd_neBs {t:TypeId}{x y:Operand}{a b:List UInt8}:Rd P (eqGuard .neq t x y (vs (bs a)) (vs (bs b)) >>= fun _=>binOp .neq t (vs (bs a)) (vs (bs b))) h (vb (!decide (a=b))):=by
 have:=rd_neS (P:=P) (h:=h) (t:=t) (x:=x) (y:=y) (a:=bs a) (b:=bs b)
 rwa [show decide (bs a=bs b)=decide (a=b) from decide_eq_decide.2 bs_inj] at this
theorem ext_indexByte {f:FuncId}{fn:Func}(hf:P.funcs[f]?=some fn)(hname:(fn.name == "runtime.NumGoroutine")=false)(hb:fn.body.isNone=true)(hn:Extern.findNext fn=none)(he:Extern.find fn=some Extern.BytealgIndexByte.indexByte)
  {s:ByteArray} {c:Int} {K:Value→Hp→Prop} (hK:K (vi (firstIdx s c.toNat.toUInt8)) h):ExtOK P f [vs s,vk .u8 c] h K:=by
 intro w hs
 refine⟨_,w,h,?_,hs,Fr.refl h w,hK⟩
 rw [run_callFunc_extern hf hname hb hn he]
 show ((Extern.BytealgIndexByte.indexByte #[.string s,.int .u8 c]).run P w).andThen _=_
 rw [run_indexByte_string]
 rfl
end
def encB (l:List UInt8):List Value:=[vs (bs l)]
theorem encB_len (l:List UInt8):(encB l).length=1:=rfl
abbrev SlB:=@SlP (List UInt8) encB
theorem SlP.get1 {h:Hp}{a:Option Addr}{n:Nat}{l:List (List UInt8)}(H:SlB h a n l){i:Nat}(hi:i < n):∃ b o,a=some ⟨b,o,none⟩∧h.cell b (o+i*1)=some (vs (bs (l.getD i []))):=by
 have hl:=H.1
 have hx:l[i]?=some (l.getD i []):=by rw [List.getD_eq_getElem?_getD,List.getElem?_eq_getElem (by omega)];rfl
 obtain⟨b,o,e,hr⟩:=H.get encB_len (by decide) hx
 exact⟨b,o,e,Hp.row_cell hr (i:=0) rfl⟩
variable {P:Program}{h:Hp}
theorem OwnS.cut {e:TypeId}{sz n c m:Nat}{a:Option Addr}{xs:List Value}(O:OwnS h e sz a n c xs)(hm:m≤n):OwnS h e sz a m c (xs.take (m*sz)):=by
 obtain⟨hl,O⟩:=O
 have h1:m*sz≤n*sz:=Nat.mul_le_mul_right _ hm
 refine⟨by rw [List.length_take];omega,?_⟩
 rcases O with ⟨ha,hn,hc⟩|⟨g,cur,ha,hg,h2,h3,h4,h5⟩
 ·exact .inl ⟨ha,by omega,hc⟩
 ·refine .inr ⟨g,cur,ha,hg,by omega,h3,h4,?_⟩
  rw [←h5,List.take_take,Nat.min_eq_left h1]
theorem OwnV.cut {h0:Hp}{e:TypeId}{sz n c m:Nat}{a:Option Addr}{xs:List Value}(O:OwnV h0 h e sz a n c xs)(hm:m≤n):OwnV h0 h e sz a m c (xs.take (m*sz)):=⟨O.le,O.own.cut hm,O.new⟩
theorem OwnS.cap {e:TypeId}{sz n c:Nat}{a:Option Addr}{xs:List Value}(O:OwnS h e sz a n c xs):n≤c:=by
 rcases O.2 with ⟨ha,hn,hc⟩|⟨g,cur,ha,hg,h2,h3,h4,h5⟩<;>omega
theorem flatMap_vi (l:List Int):l.flatMap (fun x=>[vi x])=l.map vi:=by
 induction l with
 | nil=>rfl
 | cons x l ih=>rw [List.flatMap_cons,ih];rfl
theorem SlI.slp {a:Option Addr}{n:Nat}{l:List Int}(S:SlI h a n l):SlP (fun x=>[vi x]) h a n l:=⟨S.1,by rw [flatMap_vi];exact S.2⟩
theorem SlI.of_slp {a:Option Addr}{n:Nat}{l:List Int}(S:SlP (fun x=>[vi x]) h a n l):SlI h a n l:=⟨S.1,by rw [←flatMap_vi];exact S.2⟩
theorem SlI.drop {a:Option Addr}{n i c:Nat}{l:List Int}(S:SlI h a n l)(hi:i≤n)(hc:n≤c):SlI h (cutA a i c 1) (n - i) (l.drop i):=.of_slp (S.slp.drop (sz:=1) (fun _=>rfl) hi hc)
theorem cand (p q:Prop)[Decidable p][Decidable q]:(bif decide p then decide q else false)=decide (p∧q):=by
 by_cases h:p<;>simp [h]
theorem cor (p q:Prop)[Decidable p][Decidable q]:(bif decide p then true else decide q)=decide (p∨q):=by
 by_cases h:p<;>simp [h]
theorem cnot (p:Prop)[Decidable p]:(!decide p)=decide (¬ p):=by
 by_cases h:p<;>simp [h]
theorem bor_false {a b:Bool}(h:(bif a then true else b)=false):a=false∧b=false:=by
 cases a
 ·exact⟨rfl,h⟩
 ·cases h
end Go.Vc
namespace Go.Vc
open Go
inductive Fld where
 | v (x:Value)|s (e:TypeId) (sz:Nat) (a:Option Addr) (n c:Nat) (xs:List Value)
def Fld.val:Fld→Value
 | .v x=>x
 | .s _ _ a n c _=>vsl a n c
def Fld.at (f:Fld)(b:Nat):Prop:=match f with
 | .v _=>False
 | .s _ _ a _ _ _=>a=some ⟨b,0,none⟩
def Fld.own (h:Hp):Fld→Prop
 | .v _=>True
 | .s e sz a n c xs=>OwnS h e sz a n c xs
structure Mut (F:Nat→Prop)(h:Hp)(F':Nat→Prop)(h':Hp):Prop where
 keep:∀ b o,¬ F b→h b=some o→h' b=some o
 new:∀ b,F' b→F b∨h b=none
theorem Mut.trans {F G F':Nat→Prop}{h k h':Hp}(x:Mut F h G k)(y:Mut G k F' h'):Mut F h F' h' where
 keep:=fun b o hb ho=>y.keep b o (fun hg=>by
  rcases x.new b hg with h1|h1
  ·exact hb h1
  ·rw [ho] at h1;cases h1) (x.keep b o hb ho)
 new:=fun b hb=>by
  rcases y.new b hb with h1|h1
  ·exact x.new b h1
  ·by_cases hF:F b
   ·exact .inl hF
   ·right
    cases ho:h b with
    | none=>rfl
    | some o=>rw [x.keep b o hF ho] at h1;cases h1
theorem Mut.of_le {F:Nat→Prop}{h h':Hp}(hl:h.le h'):Mut F h F h':=⟨fun b o _ ho=>hl b o ho,fun b hb=>.inl hb⟩
theorem Mut.old {F F':Nat→Prop}{h0 h h':Hp}(M:Mut F h F' h')(hl:h0.le h)(hd:∀ b,F b→h0 b=none):h0.le h'∧∀ b,F' b→h0 b=none:=
 ⟨fun b o ho=>M.keep b o (fun hF=>by rw [hd b hF] at ho;cases ho) (hl b o ho),fun b hb=>by
  rcases M.new b hb with h1|h1
  ·exact hd b h1
  ·exact Hp.none_of_le hl h1⟩
theorem Mut.apart {F F' G:Nat→Prop}{h h':Hp}(M:Mut F h F' h')(hG:∀ b,G b→h b≠none)(hd:∀ b,F b→¬ G b):(∀ b,G b→∀ o,h b=some o→h' b=some o)∧∀ b,F' b→¬ G b:=
 ⟨fun b hb o ho=>M.keep b o (fun hF=>hd b hF hb) ho,fun b hb hg=>by
  rcases M.new b hb with h1|h1
  ·exact hd b h1 hg
  ·exact hG b hg h1⟩
section
variable {P:Program}
theorem sem_make {h:Hp}{t e:TypeId}{sz bytes:Nat}(T:ElT P t e sz bytes){z:List Value}(hz:(zeroL P e).map tvals=some z){n:Nat}(hn:n≤1000000)(hb:n*bytes≤140737488355328){K:Value→Hp→Prop}
  (hK:∀ b,h b=none→K (vsl (some ⟨b,0,none⟩) n n) (h.set b (cellsO ((List.replicate n z).flatten) e))):SemOK P (Instr.makeSlice t (vi n) (vi n)) h K:=by
 intro w hs
 obtain⟨i,zv,hi,hiz,hsz,hby,hzs⟩:=T.el
 have hzl:z=zv.cells.toList:=by
  unfold zeroL at hz
  rw [hi] at hz
  simp only [Option.bind_some,hiz,Option.map_some,Option.some.injEq] at hz
  rw [←hz,tvals_tvsOf]
 have hr:=run_make (P:=P) w t e i zv T.sl hi hiz .i64 .i64 n n (by omega) (by omega) (by
  rw [hby]
  have:((bytes:Int)*(n:Int))=((n*bytes:Nat):Int):=by rw [Nat.mul_comm];exact(Int.natCast_mul _ _).symm
  omega) (by omega)
 have hm:madeCells zv.cells (n*i.size)=((List.replicate n z).flatten).toArray:=by
  rw [hzl]
  unfold madeCells
  rw [hsz,←hzs]
  exact flat_zero zv.cells n (by rw [hzs];exact T.pos)
 rw [Int.toNat_natCast,hm] at hr
 exact⟨_,_,_,hr,Sub.pushSet hs _,Fr.pushSet h w _,hK _ hs.none⟩
end
section
variable {P:Program}{h:Hp}
theorem rd_shrU {t:TypeId}{k:Int}{j:Nat}(hj:j < 64)(hk:0≤k):Rd P (binOp .shr t (vk .u64 k) (vk .u64 j)) h (vk .u64 (k / 2 ^ j)):=by
 intro w _
 have e:min ((j:Nat):Int).toNat IntKind.u64.bits=j:=by simp only [IntKind.bits,Int.toNat_natCast];omega
 simp only [binOp,shift_shr_any _ _ _ _ (show (0:Int)≤(j:Nat) by omega),Sem.run_pure,e]
theorem rd_eqNilS {t e:TypeId}(ht:P.underlying t=some (.slice e)){x y:Operand}{a:Option Addr}{n c:Nat}:Rd P (eqGuard .eql t x y (vsl a n c) (vsl none 0 0) >>= fun _=>binOp .eql t (vsl a n c) (vsl none 0 0)) h (vb a.isNone):=by
 intro w _
 simp [eqGuard,binOp,run_equal_slice_nil w t e a n c ht]
theorem rd_eqNilP {t e:TypeId}(ht:P.underlying t=some (.pointer e)){x y:Operand}{p:Option Addr}:Rd P (eqGuard .eql t x y (vp p) (vp none) >>= fun _=>binOp .eql t (vp p) (vp none)) h (vb p.isNone):=by
 intro w _
 have:=run_eql_pointer_nil (P:=P) w t p (by simp [Program.pointee,ht])
 simp [eqGuard,this]
end
theorem Hp.set_set (h:Hp)(b:Nat)(o o':Obj):(h.set b o).set b o'=h.set b o':=by
 funext i
 unfold Hp.set
 split<;>simp_all
abbrev TRow (α:Type):=(Option Addr × Nat) × List α
section
variable {α:Type}(enc:α→List Value)(sz:Nat)(e T:TypeId)
def rowV (r:TRow α):Value:=vsl r.1.1 r.2.length r.1.2
def TabR (h:Hp)(a:Option Addr)(n:Nat)(L:List (List α)):Prop:=∃ R:List (TRow α),R.map Prod.snd=L∧n=L.length∧HasRow h a (R.map rowV)∧∀(j:Nat) (r:TRow α),R[j]?=some r→HasRow h r.1.1 (r.2.flatMap enc)
end
section
variable {α:Type}{enc:α→List Value}{sz:Nat}{e T:TypeId}{h:Hp}{F:Nat→Prop}{t:Nat}{L:List (List α)}
theorem HasRow.get1 {h:Hp}{a:Option Addr}{xs:List Value}(H:HasRow h a xs){j:Nat}{v:Value}(hv:xs[j]?=some v):∃ b o,a=some ⟨b,o,none⟩∧h.cell b (o+j*1)=some v:=by
 rcases H with rfl|⟨b,o,ha,hr⟩
 ·cases hv
 ·refine⟨b,o,ha,?_⟩
  rw [Nat.mul_one]
  exact Hp.row_cell hr hv
variable {P:Program}
end
section
variable {α:Type}(enc:α→List Value)(T:TypeId)
end
section
variable {α:Type}{enc:α→List Value}{T:TypeId}{h0 h:Hp}{a:Option Addr}{c:Nat}{L:List (List α)}
variable {P:Program}
end
theorem setL_app_l {β:Type}(a b:List β)(k:Nat)(vs:List β)(h:k+vs.length≤a.length):setL (a++b) k vs=setL a k vs++b:=by
 unfold setL
 rw [List.take_append_of_le_length (by omega),List.drop_append_of_le_length (by omega)]
 simp
theorem setL_app_r {β:Type}(a b:List β)(k:Nat)(vs:List β):setL (a++b) (a.length+k) vs=a++setL b k vs:=by
 unfold setL
 rw [show a.length+k+vs.length=a.length+(k+vs.length) by omega,List.take_length_add_append,List.drop_length_add_append]
 simp
theorem setL_flat {α:Type}{enc:α→List Value}{sz:Nat}(he:∀ x,(enc x).length=sz){k:Nat}{vs:List Value}(hk:k+vs.length≤sz):∀(l:List α) (i:Nat) (x x':α),l[i]?=some x→enc x'=setL (enc x) k vs→setL (l.flatMap enc) (i*sz+k) vs=(l.set i x').flatMap enc
 | [],i,x,x',h,_=>by cases h
 | y :: l,0,x,x',h,hx=>by
  cases h
  rw [List.flatMap_cons,List.set_cons_zero,List.flatMap_cons,Nat.zero_mul,Nat.zero_add,setL_app_l _ _ _ _ (by rw [he];exact hk),hx]
 | y :: l,i+1,x,x',h,hx=>by
  rw [List.flatMap_cons,List.set_cons_succ,List.flatMap_cons,show (i+1)*sz+k=(enc y).length+(i*sz+k) by rw [he,Nat.succ_mul];omega,setL_app_r,setL_flat he hk l i x x' h hx]
def Vec {α:Type}(enc:α→List Value)(sz:Nat)(T:TypeId)(h0 h:Hp)(a:Option Addr)(c:Nat)(l:List α):Prop:=OwnV h0 h T sz a l.length c (l.flatMap enc)
section
variable {α:Type}{enc:α→List Value}{sz:Nat}{T:TypeId}{h0 h:Hp}{a:Option Addr}{c:Nat}{l:List α}
theorem Vec.le0 (V:Vec enc sz T h0 h a c l):h0.le h:=OwnV.le V
theorem Vec.slp (he:∀ x,(enc x).length=sz)(hz:0 < sz)(V:Vec enc sz T h0 h a c l):SlP enc h a l.length l:=OwnV.slp he hz V
theorem Vec.put (he:∀ x,(enc x).length=sz)(V:Vec enc sz T h0 h a c l){i:Nat}{x x':α}(hx:l[i]?=some x){k:Nat}{vs:List Value}(hv:0 < vs.length)(hk:k+vs.length≤sz)(hx':enc x'=setL (enc x) k vs) :
  ∃ b o,a=some ⟨b,o,none⟩∧∀ K:Hp→Prop,(∀ h',Vec enc sz T h0 h' a c (l.set i x')→K h')→h.store b (o+i*sz+k) vs K:=by
 have hi:i < l.length:=(List.getElem?_eq_some_iff.1 hx).1
 have hb:(i+1)*sz≤l.length*sz:=Nat.mul_le_mul_right _ hi
 rw [Nat.succ_mul] at hb
 rcases V.own.2 with ⟨ha,hn,_⟩|⟨g,cur,ha,_⟩
 ·omega
 ·refine⟨g,0,ha,fun K hK=>?_⟩
  rw [Nat.add_assoc]
  refine OwnV.store V (j:=i*sz+k) hv (by omega) ha fun ob V'=>hK _ ?_
  unfold Vec
  rw [←setL_flat he hk l i x x' hx hx',List.length_set]
  exact V'
theorem Vec.keep0 {h1:Hp}(V:Vec enc sz T h0 h a c l)(hl:h.le h1):Vec enc sz T h0 h1 a c l:=⟨Hp.le_trans V.le0 hl,(OwnV.own V).le hl,OwnV.new V⟩
variable {P:Program}
theorem Vec.app {t ty:TypeId}{bytes:Nat}(E:ElT P t T sz bytes)(he:∀ x,(enc x).length=sz)(h1:∀ x,∀ u ∈ enc x,u.oneCell'=true)(V:Vec enc sz T h0 h a c l)(hb:(l.length+1)*bytes≤140737488355328)(hb2:l.length+1≤140737488355328){x:α}{b:Nat}(hbn:h b=none){K:Value→Hp→Prop}
  (hK:∀ a' c' h',Vec enc sz T h0 h' a' c' (l++[x])→K (vsl a' (l++[x]).length c') h'):SemOK P (Builtin.append_ #[t,t] ty #[vsl a l.length c,vsl (some ⟨b,0,none⟩) 1 1]) (h.set b (cellsO (enc x) T)) K:=by
 refine OwnV.append E (OwnV.set hbn _ V) (HasRow.new _ _ (enc x) _) (m:=1) (by rw [he,Nat.one_mul]) (h1 x) hb hb2 fun a' c' h' O' _ _=>?_
 have:=hK a' c' h' (by
  unfold Vec
  rw [List.length_append,List.flatMap_append,List.flatMap_singleton]
  exact O')
 rw [List.length_append] at this
 exact this
theorem Vec.make {t:TypeId}{bytes:Nat}(E:ElT P t T sz bytes){z:List Value}(hz:(zeroL P T).map tvals=some z){x:α}(hx:enc x=z)(hzl:z.length=sz){n:Nat}(hn:n≤1000000)(hb:n*bytes≤140737488355328){K:Value→Hp→Prop}
  (hK:∀ a h',Vec enc sz T h h' a n (List.replicate n x)→K (vsl a n n) h'):SemOK P (Instr.makeSlice t (vi n) (vi n)) h K:=by
 refine sem_make E hz hn hb fun b hb=>hK _ _ ?_
 unfold Vec
 have e:(List.replicate n x).flatMap enc=(List.replicate n z).flatten:=by rw [List.flatMap_replicate,hx]
 rw [e,List.length_replicate]
 exact OwnV.mk_new (Hp.le_refl h) hb _ _ (by rw [List.length_flatten];simp [hzl]) (by simp only [maxLen];omega)
end
structure Fp (P:Hp→(Nat→Prop)→Prop):Prop where
 al:∀{h F},P h F→∀ b,F b→h b≠none
 keep:∀{h h' F},P h F→(∀ b,F b→∀ o,h b=some o→h' b=some o)→P h' F
structure Both (h0 h:Hp)(F1 F2:Nat→Prop)(P Q:Hp→(Nat→Prop)→Prop):Prop where
 le:h0.le h
 n1:∀ b,F1 b→h0 b=none
 n2:∀ b,F2 b→h0 b=none
 d:∀ b,F1 b→¬ F2 b
 p:P h F1
 q:Q h F2
abbrev GRow (α β:Type):=β × (Option Addr × Nat) × List α
section
variable {α β:Type}(enc:α→List Value)(rw_:β→Value→List Value)(sz:Nat)(T:TypeId)
def growV (r:GRow α β):List Value:=rw_ r.1 (vsl r.2.1.1 r.2.2.length r.2.1.2)
def growL (R:List (GRow α β)):List (β × List α):=R.map fun r=>(r.1,r.2.2)
def GTab (h:Hp)(a:Option Addr)(n:Nat)(L:List (β × List α)):Prop:=∃ R:List (GRow α β),growL R=L∧n=L.length∧HasRow h a (R.flatMap (growV rw_))∧∀ r ∈ R,HasRow h r.2.1.1 (r.2.2.flatMap enc)
def GTabB (G:Nat→Prop)(h0 h:Hp)(a:Option Addr)(c:Nat)(L:List (β × List α)):Prop:=
 ∃(R:List (GRow α β)) (hd:Hp),growL R=L∧OwnV h0 h T sz a L.length c (R.flatMap (growV rw_))∧hd.le h∧(∀ g,a=some ⟨g,0,none⟩→hd g=none∧¬ G g)∧(∀ b,G b→hd b=none)∧∀ r ∈ R,HasRow hd r.2.1.1 (r.2.2.flatMap enc)
end
section
variable {α β:Type}{enc:α→List Value}{rw_:β→Value→List Value}{sz:Nat}{T:TypeId}{G:Nat→Prop}{h0 h:Hp}{a:Option Addr}{c:Nat}{L:List (β × List α)}
theorem GTab.le {h':Hp}{n:Nat}(D:GTab enc rw_ h a n L)(hl:h.le h'):GTab enc rw_ h' a n L:=by
 obtain⟨R,e,hn,D,D2⟩:=D
 exact⟨R,e,hn,D.le hl,fun r hr=>(D2 r hr).le hl⟩
theorem GTabB.nil (hl:h0.le h):GTabB enc rw_ sz T G h0 h none 0 []:=
 ⟨[],fun _=>none,rfl,OwnV.nil hl _ _,(fun b o hb=>by cases hb),(fun g hg=>by cases hg),(fun b _=>rfl),(fun r hr=>by cases hr)⟩
theorem GTabB.le0 (B:GTabB enc rw_ sz T G h0 h a c L):h0.le h:=by
 obtain⟨R,hd,_,O,_⟩:=B
 exact O.le
theorem GTabB.ne (B:GTabB enc rw_ sz T G h0 h a c L){g:Nat}(hg:G g):a≠some ⟨g,0,none⟩:=by
 obtain⟨R,hd,_,_,_,hn,_⟩:=B
 exact fun e=>(hn g e).2 hg
theorem GTabB.tab (B:GTabB enc rw_ sz T G h0 h a c L):GTab enc rw_ h a L.length L:=by
 obtain⟨R,hd,e,O,hl,_,_,hr⟩:=B
 exact⟨R,e,rfl,O.own.row,fun r h1=>(hr r h1).le hl⟩
theorem GTabB.keep {h':Hp}(B:GTabB enc rw_ sz T G h0 h a c L)(hG:∀ b,G b→h0 b=none)(hk:∀ b o,¬ G b→h b=some o→h' b=some o):GTabB enc rw_ sz T G h0 h' a c L:=by
 obtain⟨R,hd,e,O,hl,hn,hg,hr⟩:=B
 refine⟨R,hd,e,⟨fun b o hb=>hk b o (fun q=>by rw [hG b q] at hb;cases hb) (O.le b o hb),O.own.keep fun g o ha hb=>hk g o (hn g ha).2 hb,O.new⟩,fun b o hb=>hk b o (fun q=>by rw [hg b q] at hb;cases hb) (hl b o hb),hn,hg,hr⟩
theorem GTabB.grow {h':Hp}(B:GTabB enc rw_ sz T G h0 h a c L)(hl:h.le h'):GTabB enc rw_ sz T G h0 h' a c L:=by
 obtain⟨R,hd,e,O,hl2,hn,hg,hr⟩:=B
 exact⟨R,hd,e,O.mono hl,Hp.le_trans hl2 hl,hn,hg,hr⟩
theorem GTabB.al (B:GTabB enc rw_ sz T G h0 h a c L){g:Nat}(ha:a=some ⟨g,0,none⟩):h g≠none:=by
 obtain⟨R,hd,e,O,_⟩:=B
 rcases O.own.2 with ⟨q1,_⟩|⟨g',cur,q1,q2,_⟩
 ·rw [q1] at ha;cases ha
 ·rw [q1] at ha;cases ha;rw [q2];simp
theorem GTab.row {n:Nat}(he:∀ x v,(rw_ x v).length=sz)(hz:0 < sz)(D:GTab enc rw_ h a n L){j:Nat}{x:β}{l:List α}(hl:L[j]?=some (x,l)):∃ b o a' c',a=some ⟨b,o,none⟩∧h.row b (o+j*sz) sz=some (rw_ x (vsl a' l.length c'))∧SlP enc h a' l.length l:=by
 obtain⟨R,rfl,hn,D,D2⟩:=D
 unfold growL at hl
 rw [List.getElem?_map,Option.map_eq_some_iff] at hl
 obtain⟨r,hr,e⟩:=hl
 have S:SlP (growV rw_) h a R.length R:=⟨rfl,D⟩
 obtain⟨b,o,ha,hrow⟩:=S.get (fun r=>he _ _) hz hr
 cases e
 exact⟨b,o,r.2.1.1,r.2.1.2,ha,hrow,rfl,D2 r (List.mem_of_getElem? hr)⟩
theorem GTab.len {n:Nat}(D:GTab enc rw_ h a n L):n=L.length:=by
 obtain⟨R,_,hn,_⟩:=D
 exact hn
variable {P:Program}
theorem GTabB.app {tS:TypeId}{bytes:Nat}(E:ElT P tS T sz bytes)(B:GTabB enc rw_ sz T G h0 h a c L){hB h1:Hp}(hl1:h.le h1)(hBG:∀ b,G b→hB b≠none)(hBa:∀ g,a=some ⟨g,0,none⟩→hB g≠none)
  {x:β} {a2:Option Addr} {c2:Nat} {l:List α} (H:HasRow h1 a2 (l.flatMap enc)) (nw:∀ b o,a2=some ⟨b,o,none⟩→hB b=none) (h1c:∀ u ∈ rw_ x (vsl a2 l.length c2),u.oneCell'=true) (hsz:(rw_ x (vsl a2 l.length c2)).length=sz)
  (hG1:∀ b,G b→h1 b≠none) (hb:(L.length+1)*bytes≤140737488355328) (hb2:L.length+1≤140737488355328) {b:Nat} (hbn:h1 b=none) {ty:TypeId} {K:Value→Hp→Prop}
  (hK:∀ a' c' h',GTabB enc rw_ sz T G h0 h' a' c' (L++[(x,l)])→(∀ b o,h1 b=some o→a≠some ⟨b,0,none⟩→h' b=some o)→K (vsl a' (L.length+1) c') h') :
  SemOK P (Builtin.append_ #[tS,tS] ty #[vsl a L.length c,vsl (some ⟨b,0,none⟩) 1 1]) (h1.set b (cellsO (rw_ x (vsl a2 l.length c2)) T)) K:=by
 obtain⟨R,hd,eR,OT,hl,hn,hg,hr⟩:=B
 have l2:h1.le (h1.set b (cellsO (rw_ x (vsl a2 l.length c2)) T)):=Hp.le_set (Hp.le_refl h1) hbn _
 have OT2:OwnV h0 (h1.set b (cellsO (rw_ x (vsl a2 l.length c2)) T)) T sz a L.length c (R.flatMap (growV rw_)):=⟨Hp.le_trans (Hp.le_trans OT.le hl1) l2,(OT.own.le hl1).le l2,OT.new⟩
 refine OwnV.append E OT2 (HasRow.new _ _ (rw_ x (vsl a2 l.length c2)) _) (m:=1) (by rw [hsz,Nat.one_mul]) h1c hb hb2 fun a' c' h' O' k1 k2=>hK a' c' h' ?_ fun b' o hb' hne=>k1 b' o (l2 b' o hb') hne
 refine⟨R++[(x,(a2,c2),l)],fun y=>if hd y≠none then hd y else if hB y=none then(if a=some ⟨y,0,none⟩ then none else h1 y) else none,by unfold growL at eR ⊢;rw [List.map_append,eR];rfl,?_,?_,?_,?_,?_⟩
 ·rw [List.flatMap_append,List.length_append]
  simp only [List.flatMap_cons,List.flatMap_nil,List.append_nil]
  exact O'
 ·intro y o ho
  simp only at ho
  split at ho
  ·rename_i hne
   refine k1 y o (l2 y o (hl1 y o (hl y o ho))) fun e=>?_
   exact hne (hn y e).1
  ·split at ho
   ·split at ho
    ·cases ho
    ·rename_i hne
     exact k1 y o (l2 y o ho) hne
   ·cases ho
 ·intro g hga
  simp only
  rcases k2 g hga with e1|e1
  ·have ha:a=some ⟨g,0,none⟩:=e1.trans hga
   obtain⟨q1,q2⟩:=hn g ha
   rw [q1]
   refine⟨?_,q2⟩
   rw [if_neg (fun q=>q rfl),if_neg (hBa g ha)]
  ·have e2:h1 g=none:=Hp.none_of_le l2 e1
   have e3:hd g=none:=by
    cases q:hd g with
    | none=>rfl
    | some o=>rw [hl1 g o (hl g o q)] at e2;cases e2
   rw [e3]
   refine⟨?_,fun q=>hG1 g q e2⟩
   rw [if_neg (fun q=>q rfl),e2]
   split
   ·split<;>rfl
   ·rfl
 ·intro y hy
  simp only
  rw [hg y hy,if_neg (fun q=>q rfl),if_neg (hBG y hy)]
 ·intro r hr2
  rcases List.mem_append.1 hr2 with h3|h3
  ·refine(hr r h3).le fun y o ho=>?_
   rw [ho,if_pos (by simp)]
  ·rw [List.mem_singleton.1 h3]
   rcases H with q|⟨b',o',ha2,hrow⟩
   ·exact .inl q
   ·refine .inr ⟨b',o',ha2,?_⟩
    have q1:=nw b' o' ha2
    have q2:¬ a=some ⟨b',0,none⟩:=fun e=>hBa b' e q1
    unfold Hp.row at hrow ⊢
    simp only
    by_cases q3:hd b'≠none
    ·rw [if_pos q3]
     cases q4:hd b' with
     | none=>exact absurd q4 q3
     | some o=>
      rw [hl1 b' o (hl b' o q4)] at hrow
      exact hrow
    ·rw [if_neg q3,if_pos q1,if_neg q2]
     exact hrow
end
theorem laid_texts {P:Program}{n:String}{texts:List (List UInt8)}{r:List (String × DataW Unit)}{W:World}{g:Nat}{t e:TypeId}(h:laidMet P ((n,.slice (texts.map fun l=>.lit (.string l)) []) :: r) W)
  (hg:P.globalNamed n=some g) (ht:(P.globals[g]?).map (·.type)=some t) (hu:P.underlying t=some (.slice e)) (he:P.underlying e=some .string) (hc:P.cellsOf e=1) (hne:0 < texts.length) :
  ∃ a c,(hpOf W).cell g 0=some (vsl a texts.length c)∧SlB (hpOf W) a texts.length texts:=by
 obtain⟨ps,⟨g0,t0,cs0,f0,p0,q0,hg0,ht0,hv0,hd0,_,e0⟩,_,_⟩:=h
 obtain rfl:=Option.some.inj (hg.symm.trans hg0)
 obtain rfl:=Option.some.inj (ht.symm.trans ht0)
 obtain⟨a,cap,hcs,hcap,hel⟩:=open_row hu hc hd0
 rw [List.length_map] at hcs hcap
 have hcell:(hpOf W).cell g 0=some (vsl (some a) texts.length cap):=by
  unfold World.var? at hv0
  rw [hg] at hv0
  simp only [Option.bind_some] at hv0
  unfold Hp.cell hpOf
  cases hb:W.heap[g]? with
  | none=>rw [hb] at hv0;cases hv0
  | some ob=>
   cases ob with
   | cells c tt f=>
    rw [hb] at hv0
    simp only [Option.some.injEq] at hv0
    subst hv0
    simp only
    rw [←Array.getElem?_toList,hcs]
    rfl
   | _=>rw [hb] at hv0;cases hv0
 have cells:∀ i l,texts[i]?=some l→W.cell? (a.add i)=some (vs (bs l)):=by
  intro i l hl
  obtain⟨v,m,q,h1,h2⟩:=hel i (.lit (.string l)) (by rw [List.getElem?_map,hl];rfl)
  obtain⟨s,hs,hx,_⟩:=DataW.trod_string he h2
  cases hs
  have:s.data.toList=l:=by
   have:=congrArg Prod.fst hx
   simp at this
   exact this.symm
  rw [h1,←this]
  simp [bs]
 obtain⟨l0,hl0⟩:∃ l0,texts[0]?=some l0:=⟨_,List.getElem?_eq_getElem hne⟩
 have c0:=cells 0 l0 hl0
 obtain⟨b,o,spot⟩:=a
 have hs:spot=none:=by
  cases spot with
  | none=>rfl
  | some s=>
   simp only [Addr.add] at c0
   unfold World.cell? at c0
   simp at c0
   split at c0<;>simp at c0
 subst hs
 refine⟨_,_,hcell,rfl,.inr ⟨b,o,rfl,?_⟩⟩
 refine row_of_cells (by
  intro hn
  have:=congrArg List.length hn
  rw [flatMap_length encB_len,List.length_nil,Nat.mul_one] at this
  omega) ?_
 intro j x hx
 have ad:∀ o k,(⟨b,o,none⟩:Addr).add k=⟨b,o+k,none⟩:=by intro o k;unfold Addr.add;split<;>simp_all
 have key:(texts.map fun l=>vs (bs l))[j]?=some x:=by
  have:(texts.flatMap encB)=texts.map fun l=>vs (bs l):=by
   clear hx cells hel hcell hcs hcap hd0 hne hl0
   induction texts with
   | nil=>rfl
   | cons t l ih=>rw [List.flatMap_cons,ih];rfl
  rw [←this];exact hx
 rw [List.getElem?_map,Option.map_eq_some_iff] at key
 obtain⟨l,hl,rfl⟩:=key
 have:=cells j l hl
 rw [ad] at this
 exact this
end Go.Vc
namespace Go.Proofs.YtiflgceoamkmnaaGreatDoor
open Go Go.Vc
theorem noNG:NoNG Tryz.prog:=by
 have h:(Tryz.prog.funcs.all fun fn=>!(fn.name == "runtime.NumGoroutine"))=true:=by kernel_rfl
 intro f fn hf
 rw [Array.all_eq_true] at h
 obtain⟨hlt,he⟩:=Array.getElem?_eq_some_iff.mp hf
 have:=h f hlt
 rw [he] at this
 simpa using this
theorem mixed:Tryz.prog.follows .mixedOrders=true:=by kernel_rfl
theorem big:slicesBig Tryz.prog:=slicesBig_of (by kernel_rfl) (by kernel_rfl)
theorem elInt:ElT Tryz.prog 50 3 1 8:=.of (by kernel_rfl) (by kernel_rfl) (by decide)
def VC_value_Truth (u0:Bool)(h:Hp)(R:Value→Hp→Prop):Prop:=
 ((u0=true→R (vag [vi 2,vi 1]) h)∧(u0=false→R (vag [vi 2,vi 0]) h))
theorem ok_value_Truth {u0 h R}(H:VC_value_Truth u0 h R):CallOK Tryz.prog 32 [vb u0] h R:=
 call_of (cfg:=⟨[],[],[]⟩) noNG mixed Tryz.func32 [.one (.v (vb u0))] (by kernel_rfl) rfl (by kernel_rfl) H
def VC_value_numbers (u0:Int)(u1:Int)(u2:Int)(u3:Int)(h:Hp)(R:Value→Hp→Prop):Prop:=
 R (vb (bif (decide (u0=1)) then(decide (u2=1)) else false)) h
theorem ok_value_numbers {u0 u1 u2 u3 h R}(H:VC_value_numbers u0 u1 u2 u3 h R):CallOK Tryz.prog 144 [vag [vi u0,vi u1],vag [vi u2,vi u3]] h R:=
 call_of (cfg:=⟨[],[],[]⟩) noNG mixed Tryz.func144 [.ag [.v (vi u0),.v (vi u1)],.ag [.v (vi u2),.v (vi u3)]] (by kernel_rfl) rfl (by kernel_rfl) H
def VC_value_Do (u0:Int)(u1:Int)(u2:Int)(u3:Int)(u4:Int)(h:Hp)(R:Value→Hp→Prop):Prop:=
 (((decide (u0=9))=true→(CallOK Tryz.prog 143 [vag [vi u1,vi u2],vag [vi u3,vi u4]] h fun v1 h2=>∃ x3 x4,v1=(vag [vi x3,vi x4])∧R (vag [vi x3,vi x4]) h2))∧((decide (u0=9))=false→(((decide (u0=10))=true→(CallOK Tryz.prog 96 [vag [vi u1,vi u2]] h fun v5 h6=>∃ x7 x8,v5=(vag [vi x7,vi x8])∧(CallOK Tryz.prog 96 [vag [vi u3,vi u4]] h6 fun v9 h10=>∃ x11 x12,v9=(vag [vi x11,vi x12])∧(CallOK Tryz.prog 143 [vag [vi x7,vi x8],vag [vi x11,vi x12]] h10 fun v13 h14=>∃ x15 x16,v13=(vag [vi x15,vi x16])∧(CallOK Tryz.prog 96 [vag [vi x15,vi x16]] h14 fun v17 h18=>∃ x19 x20,v17=(vag [vi x19,vi x20])∧R (vag [vi x19,vi x20]) h18)))))∧((decide (u0=10))=false→(CallOK Tryz.prog 144 [vag [vi u1,vi u2],vag [vi u3,vi u4]] h fun v22 h23=>∃ p24,v22=(vb p24)∧(((!p24)=true→(CallOK Tryz.prog 120 [] h23 fun v25 h26=>∃ x27 x28,v25=(vag [vi x27,vi x28])∧R (vag [vi x27,vi x28]) h26))∧((!p24)=false→(((decide (u0=6))=true→(∃ x30,(IsW x30 (u2+u4))∧(CallOK Tryz.prog 142 [vi x30] h23 fun v31 h32=>∃ x33 x34,v31=(vag [vi x33,vi x34])∧R (vag [vi x33,vi x34]) h32)))∧((decide (u0=6))=false→(((decide (u0=7))=true→(∃ x35,(IsW x35 (u2 - u4))∧(CallOK Tryz.prog 142 [vi x35] h23 fun v36 h37=>∃ x38 x39,v36=(vag [vi x38,vi x39])∧R (vag [vi x38,vi x39]) h37)))∧((decide (u0=7))=false→(((decide (u0=8))=true→(∃ x40,(IsW x40 (u2*u4))∧(CallOK Tryz.prog 142 [vi x40] h23 fun v41 h42=>∃ x43 x44,v41=(vag [vi x43,vi x44])∧R (vag [vi x43,vi x44]) h42)))∧((decide (u0=8))=false→(((decide (u0=11))=true→(CallOK Tryz.prog 32 [(vb (decide (u2 < u4)))] h23 fun v45 h46=>∃ x47 x48,v45=(vag [vi x47,vi x48])∧R (vag [vi x47,vi x48]) h46))∧((decide (u0=11))=false→(((decide (u0=12))=true→(CallOK Tryz.prog 32 [(vb (decide (u2=u4)))] h23 fun v49 h50=>∃ x51 x52,v49=(vag [vi x51,vi x52])∧R (vag [vi x51,vi x52]) h50))∧((decide (u0=12))=false→(CallOK Tryz.prog 120 [] h23 fun v54 h55=>∃ x56 x57,v54=(vag [vi x56,vi x57])∧R (vag [vi x56,vi x57]) h55))))))))))))))))))
theorem ok_value_Do {u0 u1 u2 u3 u4 h R}(H:VC_value_Do u0 u1 u2 u3 u4 h R):CallOK Tryz.prog 97 [vi u0,vag [vi u1,vi u2],vag [vi u3,vi u4]] h R:=
 call_of (cfg:=⟨[],[],[(5,[0,2,1,3,4,5,6])]⟩) noNG mixed Tryz.func97 [.one (.v (vi u0)),.ag [.v (vi u1),.v (vi u2)],.ag [.v (vi u3),.v (vi u4)]] (by kernel_rfl) rfl (by kernel_rfl) H
def VC_value_And (u0:Int)(u1:Int)(u2:Int)(u3:Int)(h:Hp)(R:Value→Hp→Prop):Prop:=
 (CallOK Tryz.prog 32 [vb false] h fun v1 h2=>∃ x3 x4,v1=(vag [vi x3,vi x4])∧(∃ p5,(Rd Tryz.prog ((eqGuard .eql 41 (.tmp 8) (.tmp 9) (vag [vi u0,vi u1]) (vag [vi x3,vi x4]) >>= fun _=>binOp .eql 41 (vag [vi u0,vi u1]) (vag [vi x3,vi x4]))) h2 (vb p5))∧(∃ p6,(p5=false→Rd Tryz.prog ((eqGuard .eql 41 (.tmp 12) (.tmp 13) (vag [vi u2,vi u3]) (vag [vi x3,vi x4]) >>= fun _=>binOp .eql 41 (vag [vi u2,vi u3]) (vag [vi x3,vi x4]))) h2 (vb p6))∧(((bif p5 then true else p6)=true→R (vag [vi x3,vi x4]) h2)∧((bif p5 then true else p6)=false→(((bif (decide (u0=2)) then(decide (u2=2)) else false)=true→(CallOK Tryz.prog 32 [vb true] h2 fun v7 h8=>∃ x9 x10,v7=(vag [vi x9,vi x10])∧R (vag [vi x9,vi x10]) h8))∧((bif (decide (u0=2)) then(decide (u2=2)) else false)=false→(CallOK Tryz.prog 120 [] h2 fun v12 h13=>∃ x14 x15,v12=(vag [vi x14,vi x15])∧R (vag [vi x14,vi x15]) h13))))))))
theorem ok_value_And {u0 u1 u2 u3 h R}(H:VC_value_And u0 u1 u2 u3 h R):CallOK Tryz.prog 143 [vag [vi u0,vi u1],vag [vi u2,vi u3]] h R:=
 call_of (cfg:=⟨[],[],[]⟩) noNG mixed Tryz.func143 [.ag [.v (vi u0),.v (vi u1)],.ag [.v (vi u2),.v (vi u3)]] (by kernel_rfl) rfl (by kernel_rfl) H
def VC_value_Not (u0:Int)(u1:Int)(h:Hp)(R:Value→Hp→Prop):Prop:=
 (((decide (u0≠2))=true→(CallOK Tryz.prog 120 [] h fun v1 h2=>∃ x3 x4,v1=(vag [vi x3,vi x4])∧R (vag [vi x3,vi x4]) h2))∧((decide (u0≠2))=false→(CallOK Tryz.prog 32 [(vb (decide (u1=0)))] h fun v6 h7=>∃ x8 x9,v6=(vag [vi x8,vi x9])∧R (vag [vi x8,vi x9]) h7)))
theorem ok_value_Not {u0 u1 h R}(H:VC_value_Not u0 u1 h R):CallOK Tryz.prog 96 [vag [vi u0,vi u1]] h R:=
 call_of (cfg:=⟨[],[],[]⟩) noNG mixed Tryz.func96 [.ag [.v (vi u0),.v (vi u1)]] (by kernel_rfl) rfl (by kernel_rfl) H
def VC_value_Neg (u0:Int)(u1:Int)(h:Hp)(R:Value→Hp→Prop):Prop:=
 (((decide (u0≠1))=true→(CallOK Tryz.prog 120 [] h fun v1 h2=>∃ x3 x4,v1=(vag [vi x3,vi x4])∧R (vag [vi x3,vi x4]) h2))∧((decide (u0≠1))=false→(∃ x6,(IsW x6 (-u1))∧(CallOK Tryz.prog 142 [vi x6] h fun v7 h8=>∃ x9 x10,v7=(vag [vi x9,vi x10])∧R (vag [vi x9,vi x10]) h8))))
theorem ok_value_Neg {u0 u1 h R}(H:VC_value_Neg u0 u1 h R):CallOK Tryz.prog 95 [vag [vi u0,vi u1]] h R:=
 call_of (cfg:=⟨[],[],[]⟩) noNG mixed Tryz.func95 [.ag [.v (vi u0),.v (vi u1)]] (by kernel_rfl) rfl (by kernel_rfl) H
def VC_value_Null  (h:Hp)(R:Value→Hp→Prop):Prop:=
 R (vag [vi 0,vi 0]) h
theorem ok_value_Null {h R}(H:VC_value_Null  h R):CallOK Tryz.prog 120 [] h R:=
 call_of (cfg:=⟨[],[],[]⟩) noNG mixed Tryz.func120 [] (by kernel_rfl) rfl (by kernel_rfl) H
def VC_value_Number (u0:Int)(h:Hp)(R:Value→Hp→Prop):Prop:=
 (((bif (decide (u0 < (-1000000000))) then true else(decide (u0 > 1000000000)))=true→R (vag [vi 0,vi 0]) h)∧((bif (decide (u0 < (-1000000000))) then true else(decide (u0 > 1000000000)))=false→R (vag [vi 1,vi u0]) h))
theorem ok_value_Number {u0 h R}(H:VC_value_Number u0 h R):CallOK Tryz.prog 142 [vi u0] h R:=
 call_of (cfg:=⟨[],[],[]⟩) noNG mixed Tryz.func142 [.one (.v (vi u0))] (by kernel_rfl) rfl (by kernel_rfl) H
def encV (v:Int × Int):List Value:=[vi v.1,vi v.2]
theorem encV_len (v:Int × Int):(encV v).length=2:=rfl
def numV (n:Int):Int × Int:=if n < -1000000000∨n > 1000000000 then(0,0) else(1,n)
theorem value_Number_ok {n:Int}{h:Hp}{R:Value→Hp→Prop}(hK:R (vag (encV (numV n))) h):CallOK Tryz.prog 142 [vi n] h R:=by
 refine ok_value_Number ?_
 unfold VC_value_Number
 refine⟨fun e=>?_,fun e=>?_⟩
 ·simp [Bool.cond_eq_ite] at e
  have:numV n=(0,0):=by unfold numV;rw [if_pos (by omega)]
  rw [this] at hK
  exact hK
 ·simp [Bool.cond_eq_ite] at e
  have:numV n=(1,n):=by unfold numV;rw [if_neg (by omega)]
  rw [this] at hK
  exact hK
theorem value_Null_ok {h:Hp}{R:Value→Hp→Prop}(hK:R (vag (encV (0,0))) h):CallOK Tryz.prog 120 [] h R:=ok_value_Null hK
theorem eqFl_V (a b c d:Int):eqFl Tryz.prog 8 41 [vi a,vi b] [vi c,vi d]=some (decide (a=c)&&(decide (b=d)&&true)):=by kernel_rfl
theorem dec_V (a b:Int × Int):(decide (a.1=b.1)&&(decide (a.2=b.2)&&true))=decide (a=b):=by
 obtain⟨a1,a2⟩:=a
 obtain⟨b1,b2⟩:=b
 rw [Bool.eq_iff_iff]
 simp [Prod.ext_iff]
theorem rd_eqV {h:Hp}{x y:Operand}{a b:Int × Int}:Rd Tryz.prog (eqGuard .eql 41 x y (vag (encV a)) (vag (encV b)) >>= fun _=>binOp .eql 41 (vag (encV a)) (vag (encV b))) h (vb (decide (a=b))):=by
 rw [←dec_V]
 exact rd_eql (eqFl_V _ _ _ _) (by kernel_rfl) (by kernel_rfl)
theorem rd_neqV {h:Hp}{x y:Operand}{a b:Int × Int}:Rd Tryz.prog (eqGuard .neq 41 x y (vag (encV a)) (vag (encV b)) >>= fun _=>binOp .neq 41 (vag (encV a)) (vag (encV b))) h (vb (!decide (a=b))):=by
 rw [←dec_V]
 exact rd_neq (eqFl_V _ _ _ _) (by kernel_rfl) (by kernel_rfl)
def smallV (v:Int × Int):Prop:=-1000000000≤v.2∧v.2≤1000000000
def goodV (v:Int × Int):Prop:=(v.1=0∧v.2=0)∨(v.1=1∧-1000000000≤v.2∧v.2≤1000000000)∨(v.1=2∧(v.2=0∨v.2=1))
instance (v:Int × Int):Decidable (goodV v):=by unfold goodV;infer_instance
theorem goodV.small {v:Int × Int}(h:goodV v):smallV v:=by
 unfold goodV at h
 unfold smallV
 omega
def errV (f:Int):Option (TypeId × Value):=if f=0 then none else some (99,vi f)
theorem errV_none {f:Int}:(errV f).isNone=decide (f=0):=by
 unfold errV
 by_cases h:f=0<;>simp [h]
theorem errV_some {f:Int}:(errV f).isSome=!decide (f=0):=by
 unfold errV
 by_cases h:f=0<;>simp [h]
def w64 (x:Int):Int:=IntKind.i64.wrap x
theorem w64_isW (x:Int):IsW (w64 x) x:=rfl
theorem w64_in {x:Int}(h:InR x):w64 x=x:=(isW h).symm
def truthV (b:Bool):Int × Int:=(2,if b then 1 else 0)
def andV (a b:Int × Int):Int × Int:=if a=(2,0)∨b=(2,0) then(2,0) else if a.1=2∧b.1=2 then(2,1) else(0,0)
def notV (a:Int × Int):Int × Int:=if a.1=2 then truthV (decide (a.2=0)) else(0,0)
def negV (a:Int × Int):Int × Int:=if a.1=1 then numV (w64 (-a.2)) else(0,0)
def doV (op:Int)(a b:Int × Int):Int × Int:=
 if op=9 then andV a b else if op=10 then notV (andV (notV a) (notV b)) else if a.1=1∧b.1=1 then
  (if op=6 then numV (w64 (a.2+b.2)) else if op=7 then numV (w64 (a.2 - b.2)) else if op=8 then numV (w64 (a.2*b.2)) else if op=11 then truthV (decide (a.2 < b.2)) else if op=12 then truthV (decide (a.2=b.2)) else(0,0))
 else(0,0)
def cmpI (x y:Int):Int:=if x < y then -1 else if x > y then 1 else 0
def cmpV (a b:Int × Int):Int:=if cmpI a.1 b.1≠0 then cmpI a.1 b.1 else cmpI a.2 b.2
theorem value_Truth_ok {b:Bool}{h:Hp}{R:Value→Hp→Prop}(hK:R (vag (encV (truthV b))) h):CallOK Tryz.prog 32 [vb b] h R:=by
 refine ok_value_Truth ?_
 unfold VC_value_Truth
 cases b with
 | true=>exact⟨fun _=>hK,fun e=>by cases e⟩
 | false=>exact⟨fun e=>by (cases e),fun _=>hK⟩
theorem value_numbers_ok {a b:Int × Int}{h:Hp}{R:Value→Hp→Prop}(hK:R (vb (decide (a.1=1∧b.1=1))) h):CallOK Tryz.prog 144 [vag (encV a),vag (encV b)] h R:=by
 refine ok_value_numbers ?_
 unfold VC_value_numbers
 have:(bif (decide (a.1=1)) then(decide (b.1=1)) else false)=decide (a.1=1∧b.1=1):=by
  by_cases h1:a.1=1<;>by_cases h2:b.1=1<;>simp [h1,h2]
 rw [this]
 exact hK
theorem value_And_ok {a b:Int × Int}{h:Hp}{R:Value→Hp→Prop}(hK:R (vag (encV (andV a b))) h):CallOK Tryz.prog 143 [vag (encV a),vag (encV b)] h R:=by
 refine ok_value_And ?_
 unfold VC_value_And
 refine value_Truth_ok ⟨_,_,rfl,_,rd_eqV (a:=a) (b:=(2,0)),_,fun _=>rd_eqV (a:=b) (b:=(2,0)),fun e=>?_,fun e=>⟨fun e2=>?_,fun e2=>?_⟩⟩
 ·have:a=(2,0)∨b=(2,0):=by simpa [Bool.cond_eq_ite] using e
  unfold andV at hK
  rw [if_pos this] at hK
  exact hK
 all_goals have h1:¬(a=(2,0)∨b=(2,0)):=by simpa [Bool.cond_eq_ite] using e
 all_goals unfold andV at hK
 all_goals rw [if_neg h1] at hK
 ·rw [if_pos (by simpa [Bool.cond_eq_ite] using e2)] at hK
  exact value_Truth_ok ⟨_,_,rfl,hK⟩
 ·rw [if_neg (by simpa [Bool.cond_eq_ite] using e2)] at hK
  exact value_Null_ok ⟨_,_,rfl,hK⟩
theorem value_Not_ok {a:Int × Int}{h:Hp}{R:Value→Hp→Prop}(hK:R (vag (encV (notV a))) h):CallOK Tryz.prog 96 [vag (encV a)] h R:=by
 refine ok_value_Not ?_
 unfold VC_value_Not
 unfold notV at hK
 refine⟨fun e=>?_,fun e=>?_⟩
 ·rw [if_neg (by simpa using e)] at hK
  exact value_Null_ok ⟨_,_,rfl,hK⟩
 ·rw [if_pos (by simpa using e)] at hK
  exact value_Truth_ok ⟨_,_,rfl,hK⟩
theorem value_Neg_ok {a:Int × Int}{h:Hp}{R:Value→Hp→Prop}(hK:R (vag (encV (negV a))) h):CallOK Tryz.prog 95 [vag (encV a)] h R:=by
 refine ok_value_Neg ?_
 unfold VC_value_Neg
 unfold negV at hK
 refine⟨fun e=>?_,fun e=>?_⟩
 ·rw [if_neg (by simpa using e)] at hK
  exact value_Null_ok ⟨_,_,rfl,hK⟩
 ·rw [if_pos (by simpa using e)] at hK
  exact⟨_,w64_isW _,value_Number_ok ⟨_,_,rfl,hK⟩⟩
theorem value_Do_ok {op:Int}{a b:Int × Int}{h:Hp}{R:Value→Hp→Prop}(hK:R (vag (encV (doV op a b))) h):CallOK Tryz.prog 97 [vi op,vag (encV a),vag (encV b)] h R:=by
 refine ok_value_Do ?_
 unfold VC_value_Do
 unfold doV at hK
 refine⟨fun e=>?_,fun e=>?_⟩
 ·rw [if_pos (of_decide_eq_true e)] at hK
  exact value_And_ok ⟨_,_,rfl,hK⟩
 rw [if_neg (of_decide_eq_false e)] at hK
 refine⟨fun e=>?_,fun e=>?_⟩
 ·rw [if_pos (of_decide_eq_true e)] at hK
  exact value_Not_ok ⟨_,_,rfl,value_Not_ok ⟨_,_,rfl,value_And_ok ⟨_,_,rfl,value_Not_ok ⟨_,_,rfl,hK⟩⟩⟩⟩
 rw [if_neg (of_decide_eq_false e)] at hK
 refine value_numbers_ok ⟨_,rfl,fun e=>?_,fun e=>?_⟩
 ·rw [if_neg (by simp at e;omega)] at hK
  exact value_Null_ok ⟨_,_,rfl,hK⟩
 rw [if_pos (by simpa using e)] at hK
 refine⟨fun e=>?_,fun e=>?_⟩
 ·rw [if_pos (of_decide_eq_true e)] at hK
  exact⟨_,w64_isW _,value_Number_ok ⟨_,_,rfl,hK⟩⟩
 rw [if_neg (of_decide_eq_false e)] at hK
 refine⟨fun e=>?_,fun e=>?_⟩
 ·rw [if_pos (of_decide_eq_true e)] at hK
  exact⟨_,w64_isW _,value_Number_ok ⟨_,_,rfl,hK⟩⟩
 rw [if_neg (of_decide_eq_false e)] at hK
 refine⟨fun e=>?_,fun e=>?_⟩
 ·rw [if_pos (of_decide_eq_true e)] at hK
  exact⟨_,w64_isW _,value_Number_ok ⟨_,_,rfl,hK⟩⟩
 rw [if_neg (of_decide_eq_false e)] at hK
 refine⟨fun e=>?_,fun e=>?_⟩
 ·rw [if_pos (of_decide_eq_true e)] at hK
  exact value_Truth_ok ⟨_,_,rfl,hK⟩
 rw [if_neg (of_decide_eq_false e)] at hK
 refine⟨fun e=>?_,fun e=>?_⟩
 ·rw [if_pos (of_decide_eq_true e)] at hK
  exact value_Truth_ok ⟨_,_,rfl,hK⟩
 rw [if_neg (of_decide_eq_false e)] at hK
 exact value_Null_ok ⟨_,_,rfl,hK⟩
abbrev EvL:=Int × (Int × Int) × (Int × Int) × (Int × Int)
def encE (e:EvL):List Value:=[vi e.1,vi e.2.1.1,vi e.2.1.2,vi e.2.2.1.1,vi e.2.2.1.2,vi e.2.2.2.1,vi e.2.2.2.2]
def chkV (v:Int × Int):Int:=if ¬ goodV v∨v.1=2 then 3 else if v.2 < -1000∨v.2 > 1000 then 1 else 0
def chkL:List (Int × Int)→Int
 | []=>0
 | v :: l=>if chkV v=0 then chkL l else chkV v
def chkE (e:EvL):Int:=if e.1 < 0∨e.1 > 9999 then 1 else chkL [e.2.1,e.2.2.1,e.2.2.2]
theorem drop_get {α:Type}{l:List α}{i:Nat}(h:i < l.length):l.drop i=l[i] :: l.drop (i+1):=List.drop_eq_getElem_cons h
structure Nd where
 op:Int
 x:Int
 y:Int
 n:Int
 v:Int × Int
deriving DecidableEq
def arI (op:Int):Int:=if op=1∨op=2 then 0 else if 3≤op∧op≤5 then 1 else if 6≤op∧op≤12 then 2 else -1
def nodeF (n:Nd):Int:=
 if arI n.op < 0 then 3 else if (n.op≠1∧n.v≠(0,0))∨(n.op≠2∧n.n≠0)∨(arI n.op < 2∧n.y≠0)∨(arI n.op < 1∧n.x≠0) then 3 else if n.op=2∧(n.n < 0∨n.n > 3) then 1 else if ¬ goodV n.v then 3 else 0
def popN (n:Nd)(st:List Int):Option (List Int):=
 if arI n.op=0 then some st else if arI n.op=1 then
  match st with
  | a :: s=>if a=n.x then some s else none
  | []=>none
 else
  match st with
  | b :: a :: s=>if a=n.x∧b=n.y then some s else none
  | _=>none
def chkGo (st:List Int)(i:Nat):List Nd→Int
 | []=>if st.length=1 then 0 else 3
 | n :: l=>if nodeF n≠0 then nodeF n else match popN n st with
  | none=>3
  | some s=>chkGo (i :: s) (i+1) l
def exprF (l:List Nd):Int:=if l.length > 40 then 2 else chkGo [] 0 l
inductive Blk (l:List Nd):Nat→Nat→Prop where
 | leaf {i:Nat} {n:Nd}:l[i]?=some n→arI n.op=0→Blk l i (i+1)
 | one {f i:Nat} {n:Nd}:Blk l f i→l[i]?=some n→arI n.op=1→n.x=(i:Int) - 1→Blk l f (i+1)
 | two {f g i:Nat} {n:Nd}:Blk l f g→Blk l g i→l[i]?=some n→arI n.op=2→n.x=(g:Int) - 1→n.y=(i:Int) - 1→Blk l f (i+1)
theorem Blk.lt {l:List Nd}{f e:Nat}(B:Blk l f e):f < e∧e≤l.length:=by
 induction B with
 | leaf h _=>exact⟨Nat.lt_succ_self _,(List.getElem?_eq_some_iff.1 h).1⟩
 | one _ h _ _ ih=>exact⟨by omega,(List.getElem?_eq_some_iff.1 h).1⟩
 | two _ _ h _ _ _ ih1 ih2=>exact⟨by omega,(List.getElem?_eq_some_iff.1 h).1⟩
inductive Stk (l:List Nd):List Int→Nat→Prop where
 | nil:Stk l [] 0
 | push {s:List Int} {f e:Nat}:Stk l s f→Blk l f e→Stk l (((e:Int) - 1) :: s) e
theorem arI_range {op:Int}(h:0≤arI op):arI op=0∨arI op=1∨arI op=2:=by
 unfold arI at *
 split<;>(try split)<;>(try split)<;>simp_all
theorem nodeF_ar {n:Nd}(h:nodeF n=0):0≤arI n.op:=by
 unfold nodeF at h
 split at h
 ·cases h
 ·omega
theorem popN_stk {l:List Nd}{st s:List Int}{i:Nat}{n:Nd}(hn:l[i]?=some n)(h0:nodeF n=0)(S:Stk l st i)(h:popN n st=some s):Stk l ((i:Int) :: s) (i+1):=by
 have key:∀{f:Nat} {s:List Int},Stk l s f→Blk l f (i+1)→Stk l ((i:Int) :: s) (i+1):=by
  intro f s S B
  have:=Stk.push S B
  rw [show ((i+1:Nat):Int) - 1=i by omega] at this
  exact this
 unfold popN at h
 rcases arI_range (nodeF_ar h0) with h1|h1|h1
 ·rw [if_pos h1] at h
  cases h
  exact key S (.leaf hn h1)
 ·rw [if_neg (by omega),if_pos h1] at h
  cases S with
  | nil=>cases h
  | push S B=>
   simp only at h
   split at h
   ·rename_i hx
    cases h
    exact key S (.one B hn h1 hx.symm)
   ·cases h
 ·rw [if_neg (by omega),if_neg (by omega)] at h
  cases S with
  | nil=>cases h
  | push S B=>
   cases S with
   | nil=>cases h
   | push S B'=>
    simp only at h
    split at h
    ·rename_i hx
     cases h
     exact key S (.two B' B hn h1 hx.1.symm hx.2.symm)
    ·cases h
theorem chkGo_ok (l:List Nd):∀(r:List Nd) (st:List Int) (i:Nat),l.drop i=r→i≤l.length→Stk l st i→chkGo st i r=0→(∀ n ∈ r,nodeF n=0)∧∃ z,Stk l [z] l.length
 | [],st,i,hr,hi,S,h=>by
  have:i=l.length:=by
   have:=congrArg List.length hr
   simp at this
   omega
  subst this
  rw [chkGo] at h
  split at h
  ·rename_i h1
   match st,h1 with
   | [z],_=>exact⟨by simp,z,S⟩
  ·cases h
 | n :: r,st,i,hr,hi,S,h=>by
  have hlt:i < l.length:=by
   have:=congrArg List.length hr
   simp at this
   omega
  have hn:l[i]?=some n:=by
   have:=congrArg List.head? hr
   rw [List.head?_drop] at this
   exact this
  have hr':l.drop (i+1)=r:=by
   rw [←List.drop_drop,hr];rfl
  rw [chkGo] at h
  split at h
  ·rename_i h1;exact absurd h h1
  ·rename_i h1
   have h0:nodeF n=0:=by simpa using h1
   split at h
   ·cases h
   ·rename_i s hs
    obtain⟨q1,q2⟩:=chkGo_ok l r _ (i+1) hr' hlt (popN_stk hn h0 S hs) h
    refine⟨fun m hm=>?_,q2⟩
    rcases List.mem_cons.1 hm with rfl|hm
    ·exact h0
    ·exact q1 m hm
theorem stk_one {l:List Nd}{z:Int}{e:Nat}(S:Stk l [z] e):Blk l 0 e:=by
 cases S with
 | push S B=>
  cases S with
  | nil=>exact B
structure OkE (l:List Nd):Prop where
 n:∀ n ∈ l,nodeF n=0
 b:Blk l 0 l.length
theorem chkGo_okE {l:List Nd}(h:chkGo [] 0 l=0):OkE l:=by
 obtain⟨h1,z,h2⟩:=chkGo_ok l l [] 0 rfl (Nat.zero_le _) .nil h
 exact⟨h1,stk_one h2⟩
theorem exprF_ok {l:List Nd}(h:exprF l=0):OkE l∧l.length≤40:=by
 unfold exprF at h
 split at h
 ·cases h
 ·exact⟨chkGo_okE h,by omega⟩
theorem OkE.pos {l:List Nd}(O:OkE l):0 < l.length:=O.b.lt.1
theorem Blk.sub {l:List Nd}{f e:Nat}(B:Blk l f e):∀ i,f≤i→i < e→∃ g,f≤g∧Blk l g (i+1):=by
 induction B with
 | @leaf j n h h0=>
   intro i h1 h2;obtain rfl:i=j:=by omega
   exact⟨i,Nat.le_refl _,.leaf h h0⟩
 | @one f j n B h h0 hx ih=>
  intro i h1 h2
  by_cases hij:i=j
  ·subst hij;exact⟨f,Nat.le_refl _,.one B h h0 hx⟩
  ·exact ih i h1 (by omega)
 | @two f g j n B B' h h0 hx hy ih1 ih2=>
  intro i h1 h2
  have:=B.lt
  by_cases hij:i=j
  ·subst hij;exact⟨f,Nat.le_refl _,.two B B' h h0 hx hy⟩
  ·by_cases hg:i < g
   ·exact ih1 i h1 hg
   ·obtain⟨k,hk,hb⟩:=ih2 i (by omega) (by omega)
    exact⟨k,by omega,hb⟩
structure WfN (i:Nat)(n:Nd):Prop where
 a:0≤arI n.op
 f:n.op=2→0≤n.n∧n.n≤3
 x:1≤arI n.op→0≤n.x∧n.x < i
 y:2≤arI n.op→0≤n.y∧n.y < i
def WfL (l:List Nd):Prop:=∀(i:Nat) (n:Nd),l[i]?=some n→WfN i n
theorem nodeF_f {n:Nd}(h:nodeF n=0)(h2:n.op=2):0≤n.n∧n.n≤3:=by
 unfold nodeF at h
 split at h
 ·cases h
 ·split at h
  ·cases h
  ·split at h
   ·cases h
   ·omega
theorem OkE.wf {l:List Nd}(O:OkE l):WfL l:=by
 intro i n hn
 have hlt:=(List.getElem?_eq_some_iff.1 hn).1
 have h0:=O.n n (List.mem_of_getElem? hn)
 obtain⟨g,_,B⟩:=O.b.sub i (Nat.zero_le _) hlt
 refine⟨nodeF_ar h0,nodeF_f h0,fun h1=>?_,fun h1=>?_⟩
 ·cases B with
  | leaf h ha=>rw [hn] at h;cases h;omega
  | one B h ha hx=>rw [hn] at h;cases h;have:=B.lt;omega
  | two B B' h ha hx hy=>rw [hn] at h;cases h;have:=B.lt;have:=B'.lt;omega
 ·cases B with
  | leaf h ha=>rw [hn] at h;cases h;omega
  | one B h ha hx=>rw [hn] at h;cases h;omega
  | two B B' h ha hx hy=>rw [hn] at h;cases h;have:=B.lt;have:=B'.lt;omega
def shN (d:Int)(n:Nd):Nd:={ n with x:=if 0 < arI n.op then n.x+d else n.x,y:=if 1 < arI n.op then n.y+d else n.y }
theorem shN_op (d:Int)(n:Nd):(shN d n).op=n.op:=rfl
theorem shN_0 (n:Nd):shN 0 n=n:=by
 unfold shN
 simp
theorem shN_F {d:Int}{n:Nd}(h:nodeF n=0):nodeF (shN d n)=0:=by
 have ha:=nodeF_ar h
 have hy:(arI n.op < 2∧(shN d n).y≠0)↔(arI n.op < 2∧n.y≠0):=by
  unfold shN
  simp only
  constructor<;>(rintro⟨h1,h2⟩;rw [if_neg (by omega)] at *;exact⟨h1,h2⟩)
 have hx:(arI n.op < 1∧(shN d n).x≠0)↔(arI n.op < 1∧n.x≠0):=by
  unfold shN
  simp only
  constructor<;>(rintro⟨h1,h2⟩;rw [if_neg (by omega)] at *;exact⟨h1,h2⟩)
 have e:nodeF (shN d n)=nodeF n:=by
  unfold nodeF
  rw [shN_op]
  simp only [hx,hy]
  rfl
 rw [e];exact h
def seg (l:List Nd)(f e:Nat):List Nd:=(l.drop f).take (e - f)
theorem seg_snoc {l:List Nd}{f i:Nat}{n:Nd}(hf:f≤i)(h:l[i]?=some n):seg l f (i+1)=seg l f i++[n]:=by
 unfold seg
 rw [show i+1 - f=(i - f)+1 by omega,List.take_add_one,List.getElem?_drop,show f+(i - f)=i by omega,h]
 rfl
theorem seg_nil {l:List Nd}{f:Nat}:seg l f f=[]:=by unfold seg;simp
theorem seg_app {l:List Nd}{f g e:Nat}(h1:f≤g)(h2:g≤e):seg l f e=seg l f g++seg l g e:=by
 unfold seg
 rw [show e - f=(g - f)+(e - g) by omega,List.take_add,List.drop_drop,show f+(g - f)=g by omega]
theorem seg_all (l:List Nd):seg l 0 l.length=l:=by unfold seg;simp
theorem Blk.chk {l:List Nd}(hN:∀ n ∈ l,nodeF n=0){f e:Nat}(B:Blk l f e):∀(st:List Int) (i:Nat) (r:List Nd),
  chkGo st i ((seg l f e).map (shN ((i:Int) - f))++r)=chkGo ((((i+(e - f):Nat):Int) - 1) :: st) (i+(e - f)) r:=by
 induction B with
 | @leaf j n h h0=>
  intro st i r
  rw [seg_snoc (Nat.le_refl _) h,seg_nil]
  simp only [List.nil_append,List.map_cons,List.map_nil,List.cons_append]
  rw [chkGo,if_neg (by simp [shN_F (hN n (List.mem_of_getElem? h))])]
  unfold popN
  rw [shN_op,if_pos h0]
  simp only
  rw [show j+1 - j=1 by omega,show ((i+1:Nat):Int) - 1=i by omega]
 | @one f j n B h h0 hx ih=>
  intro st i r
  have hlt:=B.lt
  rw [seg_snoc (by omega) h,List.map_append,List.append_assoc,ih]
  simp only [List.map_cons,List.map_nil,List.cons_append,List.nil_append]
  rw [chkGo,if_neg (by simp [shN_F (hN n (List.mem_of_getElem? h))])]
  unfold popN
  rw [shN_op,if_neg (by omega),if_pos h0]
  have e1:(((i+(j - f):Nat):Int) - 1)=(shN ((i:Int) - f) n).x:=by
   unfold shN
   simp only
   rw [if_pos (by omega),hx]
   omega
  simp only
  rw [if_pos e1,show j+1 - f=(j - f)+1 by omega]
  simp only
  rw [show ((i+(j - f+1):Nat):Int) - 1=((i+(j - f):Nat):Int) by omega,←Nat.add_assoc]
 | @two f g j n B B' h h0 hx hy ih1 ih2=>
  intro st i r
  have hlt:=B.lt
  have hlt':=B'.lt
  rw [seg_snoc (by omega) h,seg_app (g:=g) (by omega) (by omega),List.map_append,List.map_append,List.append_assoc,List.append_assoc,ih1]
  have e0:((i:Int) - f)=(((i+(g - f):Nat):Int) - g):=by omega
  have e00:(seg l g j).map (shN ((i:Int) - f))=(seg l g j).map (shN (((i+(g - f):Nat):Int) - g)):=by rw [e0]
  rw [e00,ih2]
  simp only [List.map_cons,List.map_nil,List.cons_append,List.nil_append]
  rw [chkGo,if_neg (by simp [shN_F (hN n (List.mem_of_getElem? h))])]
  unfold popN
  rw [shN_op,if_neg (by omega),if_neg (by omega)]
  have e1:(((i+(g - f):Nat):Int) - 1)=(shN ((i:Int) - f) n).x:=by
   unfold shN
   simp only
   rw [if_pos (by omega),hx]
   omega
  have e2:(((i+(g - f)+(j - g):Nat):Int) - 1)=(shN ((i:Int) - f) n).y:=by
   unfold shN
   simp only
   rw [if_pos (by omega),hy]
   omega
  simp only
  rw [if_pos ⟨e1,e2⟩]
  simp only
  rw [show i+(g - f)+(j - g)+1=i+(j+1 - f) by omega,show ((i+(g - f)+(j - g):Nat):Int)=((i+(j+1 - f):Nat):Int) - 1 by omega]
def cutL (l:List Nd)(f e:Nat):List Nd:=(seg l f e).map (shN (-(f:Int)))
theorem cutL_chk {l:List Nd}(hN:∀ n ∈ l,nodeF n=0){f e:Nat}(B:Blk l f e):chkGo [] 0 (cutL l f e)=0:=by
 have:=B.chk hN [] 0 []
 rw [List.append_nil,show ((0:Nat):Int) - f=-(f:Int) by omega] at this
 unfold cutL
 rw [this]
 rfl
theorem cutL_length {l:List Nd}{f e:Nat}(B:Blk l f e):(cutL l f e).length=e - f:=by
 have:=B.lt
 unfold cutL seg
 rw [List.length_map,List.length_take,List.length_drop]
 omega
def joinL (op:Int)(l m:List Nd):List Nd:=l++m.map (shN l.length)++[⟨op,(l.length:Int) - 1,if 1 < arI op then((l.length+m.length:Nat):Int) - 1 else 0,0,(0,0)⟩]
theorem joinL_length (op:Int)(l m:List Nd):(joinL op l m).length=l.length+m.length+1:=by simp [joinL];omega
theorem OkE.chk {l:List Nd}(O:OkE l)(st:List Int)(i:Nat)(r:List Nd):chkGo st i (l.map (shN (i:Int))++r)=chkGo ((((i+l.length:Nat):Int) - 1) :: st) (i+l.length) r:=by
 have:=O.b.chk O.n st i r
 rw [seg_all,Nat.sub_zero,show ((i:Int) - (0:Nat))=i by omega] at this
 exact this
theorem map_sh0 (l:List Nd):l.map (shN ((0:Nat):Int))=l:=by
 have:shN ((0:Nat):Int)=id:=by funext n;exact shN_0 n
 rw [this,List.map_id]
theorem goodV0:goodV (0,0):=by unfold goodV;simp
theorem joinL_chk2 {op:Int}(ho:arI op=2){l m:List Nd}(O:OkE l)(O':OkE m):chkGo [] 0 (joinL op l m)=0:=by
 have h1:=O.chk [] 0 (m.map (shN (l.length:Int))++[⟨op,(l.length:Int) - 1,if 1 < arI op then((l.length+m.length:Nat):Int) - 1 else 0,0,(0,0)⟩])
 rw [map_sh0,Nat.zero_add] at h1
 unfold joinL
 rw [List.append_assoc,h1,O'.chk]
 have hF:nodeF ⟨op,(l.length:Int) - 1,if 1 < arI op then((l.length+m.length:Nat):Int) - 1 else 0,0,(0,0)⟩=0:=by
  unfold nodeF
  simp only
  rw [if_neg (by omega),if_neg (by rintro(⟨_,h⟩|⟨_,h⟩|⟨h,_⟩|⟨h,_⟩)<;>first|exact h rfl|omega),if_neg (by omega),if_neg (by simp [goodV0])]
 have hp:popN ⟨op,(l.length:Int) - 1,if 1 < arI op then((l.length+m.length:Nat):Int) - 1 else 0,0,(0,0)⟩ [((l.length+m.length:Nat):Int) - 1,(l.length:Int) - 1]=some []:=by
  unfold popN
  rw [if_neg (by omega:¬ arI op=0),if_neg (by omega:¬ arI op=1)]
  exact if_pos ⟨rfl,by simp only;rw [if_pos (by omega)]⟩
 rw [chkGo,if_neg (fun h=>h hF),hp]
 rfl
theorem joinL_chk1 {op:Int}(ho:arI op=1){l:List Nd}(O:OkE l):chkGo [] 0 (joinL op l [])=0:=by
 have h1:=O.chk [] 0 ([⟨op,(l.length:Int) - 1,if 1 < arI op then((l.length+([]:List Nd).length:Nat):Int) - 1 else 0,0,(0,0)⟩])
 rw [map_sh0,Nat.zero_add] at h1
 unfold joinL
 rw [List.map_nil,List.append_nil,h1]
 have hF:nodeF ⟨op,(l.length:Int) - 1,if 1 < arI op then((l.length+([]:List Nd).length:Nat):Int) - 1 else 0,0,(0,0)⟩=0:=by
  unfold nodeF
  simp only
  rw [if_neg (by omega),if_neg (by rw [if_neg (by omega)];rintro(⟨_,h⟩|⟨_,h⟩|⟨_,h⟩|⟨h,_⟩)<;>first|exact h rfl|omega),if_neg (by omega),if_neg (by simp [goodV0])]
 have hp:popN ⟨op,(l.length:Int) - 1,if 1 < arI op then((l.length+([]:List Nd).length:Nat):Int) - 1 else 0,0,(0,0)⟩ [(l.length:Int) - 1]=some []:=by
  unfold popN
  rw [if_neg (by omega:¬ arI op=0),if_pos ho]
  exact if_pos rfl
 rw [chkGo,if_neg (fun h=>h hF),hp]
 rfl
section
variable {β:Type}(d:β)(F:Nd→β→β→β)
def fwd (l:List Nd):List β:=l.foldl (fun outs n=>outs++[F n (outs.getD n.x.toNat d) (outs.getD n.y.toNat d)]) []
def fAt (l:List Nd)(i:Nat):β:=(fwd d F l).getD i d
def Own2:Prop:=∀(n:Nd) (a b a' b':β),0≤arI n.op→(1≤arI n.op→a=a')→(2≤arI n.op→b=b')→F n a b=F n a' b'
end
section
variable {β:Type}{d:β}{F:Nd→β→β→β}
theorem fwd_snoc (l:List Nd)(n:Nd):fwd d F (l++[n])=fwd d F l++[F n ((fwd d F l).getD n.x.toNat d) ((fwd d F l).getD n.y.toNat d)]:=by
 unfold fwd
 rw [List.foldl_append]
 rfl
theorem fwd_length (l:List Nd):(fwd d F l).length=l.length:=by
 have key:∀(l:List Nd) (o:List β),(l.foldl (fun outs n=>outs++[F n (outs.getD n.x.toNat d) (outs.getD n.y.toNat d)]) o).length=o.length+l.length:=by
  intro l
  induction l with
  | nil=>intro o;rfl
  | cons n l ih=>intro o;rw [List.foldl_cons,ih];simp;omega
 have:=key l []
 simpa [fwd] using this
theorem fwd_pre (l r:List Nd):∃ t,fwd d F (l++r)=fwd d F l++t:=by
 have key:∀(l:List Nd) (o:List β),∃ t,l.foldl (fun outs n=>outs++[F n (outs.getD n.x.toNat d) (outs.getD n.y.toNat d)]) o=o++t:=by
  intro l
  induction l with
  | nil=>intro o;exact⟨[],by simp⟩
  | cons n l ih=>
   intro o
   rw [List.foldl_cons]
   obtain⟨t,ht⟩:=ih (o++[F n (o.getD n.x.toNat d) (o.getD n.y.toNat d)])
   exact⟨_,by rw [ht,List.append_assoc]⟩
 unfold fwd
 rw [List.foldl_append]
 exact key r _
theorem fAt_pre (l r:List Nd){i:Nat}(h:i < l.length):fAt d F (l++r) i=fAt d F l i:=by
 obtain⟨t,ht⟩:=fwd_pre (d:=d) (F:=F) l r
 unfold fAt
 rw [ht,List.getD_eq_getElem?_getD,List.getElem?_append_left (by rw [fwd_length];exact h),←List.getD_eq_getElem?_getD]
theorem fAt_take (l:List Nd){i k:Nat}(h:i < k)(hk:k≤l.length):(fwd d F (l.take k)).getD i d=fAt d F l i:=by
 have:=fAt_pre (d:=d) (F:=F) (l.take k) (l.drop k) (i:=i) (by rw [List.length_take];omega)
 rw [List.take_append_drop] at this
 rw [this]
 rfl
theorem fwd_take (l:List Nd){i:Nat}{n:Nd}(hn:l[i]?=some n):fwd d F (l.take (i+1))=fwd d F (l.take i)++[fAt d F l i]:=by
 have hlt:=(List.getElem?_eq_some_iff.1 hn).1
 have e:l.take (i+1)=l.take i++[n]:=by rw [List.take_add_one,hn];rfl
 have e2:fAt d F l i=F n ((fwd d F (l.take i)).getD n.x.toNat d) ((fwd d F (l.take i)).getD n.y.toNat d):=by
  rw [←fAt_take l (Nat.lt_succ_self i) hlt,e,fwd_snoc,List.getD_eq_getElem?_getD,List.getElem?_append_right (by rw [fwd_length,List.length_take];omega)]
  rw [fwd_length,List.length_take,Nat.min_eq_left (by omega),Nat.sub_self]
  rfl
 rw [e,fwd_snoc,←e2]
theorem fAt_wf (hF:Own2 F){l:List Nd}{i:Nat}{n:Nd}(hn:l[i]?=some n)(W:WfN i n):fAt d F l i=F n (fAt d F l n.x.toNat) (fAt d F l n.y.toNat):=by
 have hlt:=(List.getElem?_eq_some_iff.1 hn).1
 have e:l.take (i+1)=l.take i++[n]:=by rw [List.take_add_one,hn];rfl
 rw [←fAt_take l (Nat.lt_succ_self i) hlt,e,fwd_snoc,List.getD_eq_getElem?_getD,List.getElem?_append_right (by rw [fwd_length,List.length_take];omega)]
 rw [fwd_length,List.length_take,Nat.min_eq_left (by omega),Nat.sub_self]
 refine hF n _ _ _ _ W.a (fun h=>?_) fun h=>?_
 ·have:=W.x h;exact fAt_take l (by omega) (by omega)
 ·have:=W.y h;exact fAt_take l (by omega) (by omega)
theorem WfN.sh {i d:Nat}{n:Nd}(W:WfN i n):WfN (d+i) (shN d n) where
 a:=W.a
 f:=W.f
 x:=fun h=>by
  have h:1≤arI n.op:=h
  have:=W.x h
  unfold shN
  simp only
  rw [if_pos (by omega)]
  omega
 y:=fun h=>by
  have h:2≤arI n.op:=h
  have:=W.y h
  unfold shN
  simp only
  rw [if_pos (by omega)]
  omega
theorem fAt_sh (hF:Own2 F)(hS:∀(k:Int) n a b,F (shN k n) a b=F n a b){m:List Nd}(W:WfL m)(l r:List Nd):∀ k,k < m.length→fAt d F (l++m.map (shN l.length)++r) (l.length+k)=fAt d F m k:=by
 intro k
 induction k using Nat.strongRecOn with
 | _ k ih=>
  intro hk
  have hm:m[k]?=some m[k]:=List.getElem?_eq_getElem hk
  have hj:(l++m.map (shN l.length)++r)[l.length+k]?=some (shN l.length m[k]):=by
   rw [List.append_assoc,List.getElem?_append_right (by omega),show l.length+k - l.length=k by omega,List.getElem?_append_left (by simpa using hk),List.getElem?_map,hm]
   rfl
  have Wk:=W k _ hm
  rw [fAt_wf hF hj Wk.sh,fAt_wf hF hm Wk,hS]
  refine hF _ _ _ _ _ Wk.a (fun h=>?_) fun h=>?_
  ·have hx:=Wk.x h
   have:(shN (l.length:Int) m[k]).x.toNat=l.length+m[k].x.toNat:=by
    unfold shN
    simp only
    rw [if_pos (by omega)]
    omega
   rw [this]
   exact ih _ (by omega) (by omega)
  ·have hy:=Wk.y h
   have:(shN (l.length:Int) m[k]).y.toNat=l.length+m[k].y.toNat:=by
    unfold shN
    simp only
    rw [if_pos (by omega)]
    omega
   rw [this]
   exact ih _ (by omega) (by omega)
end
def fieldV (e:EvL)(n:Int):Int × Int:=if n=0 then numV e.1 else if n=1 then e.2.1 else if n=2 then e.2.2.1 else e.2.2.2
def stepF (e:EvL)(n:Nd)(a b:Int × Int):Int × Int:=
 if n.op=1 then n.v else if n.op=2 then fieldV e n.n else if n.op=3 then negV a else if n.op=4 then notV a else if n.op=5 then truthV (decide (a.1=0)) else doV n.op a b
abbrev vAt (e:EvL)(l:List Nd)(i:Nat):Int × Int:=fAt (0,0) (stepF e) l i
def wantT (op:Int):Int:=if op=4∨op=9∨op=10 then 2 else 1
def tyG (op:Int):Option Int→Option Int→Option Int
 | some a,some b=>if op=5 then some 2 else if (a≠0∧a≠wantT op)∨(b≠0∧b≠wantT op) then none else if op=11∨op=12 then some 2 else some (wantT op)
 | _,_=>none
def tyF (n:Nd)(a b:Option Int):Option Int:=if n.op=1 then some n.v.1 else if n.op=2 then some 1 else tyG n.op a (if arI n.op=2 then b else a)
abbrev tAt (l:List Nd)(i:Nat):Option Int:=fAt none tyF l i
theorem ar0 {op:Int}(h:0≤arI op):(arI op=0↔op=1∨op=2)∧(arI op=1↔op=3∨op=4∨op=5)∧(arI op=2↔6≤op∧op≤12):=by
 unfold arI at *
 split
 ·omega
 ·split
  ·omega
  ·split
   ·omega
   ·rename_i h1 h2 h3;rw [if_neg h1,if_neg h2,if_neg h3] at h;cases h
theorem own_stepF (e:EvL):Own2 (stepF e):=by
 intro n a b a' b' h ha hb
 have:=ar0 h
 unfold stepF
 split
 ·rfl
 ·split
  ·rfl
  ·have h1:1≤arI n.op:=by rcases arI_range h with q|q|q<;>omega
   rw [ha h1]
   split
   ·rfl
   ·split
    ·rfl
    ·split
     ·rfl
     ·rw [hb (by rcases arI_range h with q|q|q<;>omega)]
theorem own_tyF:Own2 tyF:=by
 intro n a b a' b' h ha hb
 have:=ar0 h
 unfold tyF
 split
 ·rfl
 ·split
  ·rfl
  ·have h1:1≤arI n.op:=by rcases arI_range h with q|q|q<;>omega
   rw [ha h1]
   split
   ·rename_i h2;rw [hb (by omega)]
   ·rfl
theorem stepF_sh (e:EvL)(k:Int)(n:Nd)(a b:Int × Int):stepF e (shN k n) a b=stepF e n a b:=rfl
theorem tyF_op {n:Nd}(h1:¬ n.op=1)(h2:¬ n.op=2)(a b:Option Int):tyF n a b=tyG n.op a (if arI n.op=2 then b else a):=by
 unfold tyF
 rw [if_neg h1,if_neg h2]
theorem stepF_do (e:EvL){n:Nd}(h:6≤n.op)(a b:Int × Int):stepF e n a b=doV n.op a b:=by
 unfold stepF
 rw [if_neg (by omega),if_neg (by omega),if_neg (by omega),if_neg (by omega),if_neg (by omega)]
theorem tyG_none (op:Int)(b:Option Int):tyG op none b=none∧tyG op b none=none:=by
 cases b<;>exact⟨rfl,rfl⟩
theorem Blk.ty {l:List Nd}(W:WfL l){f e:Nat}(B:Blk l f e):tAt l (e - 1)≠none→∀ i,f≤i→i < e→tAt l i≠none:=by
 induction B with
 | @leaf j n h h0=>
   intro ht i h1 h2;obtain rfl:i=j:=by omega
   exact ht
 | @one f j n B h h0 hx ih=>
  intro ht i h1 h2
  by_cases hij:i=j
  ·subst hij;exact ht
  ·have hw:=W j n h
   have:=ar0 hw.a
   have hlt:=B.lt
   refine ih (fun hn=>ht ?_) i h1 (by omega)
   rw [Nat.add_sub_cancel,tAt,fAt_wf own_tyF h hw]
   rw [tyF_op (by omega) (by omega),show n.x.toNat=j - 1 by omega,(show fAt none tyF l _=none from hn)]
   exact(tyG_none _ _).1
 | @two f g j n B B' h h0 hx hy ih1 ih2=>
  intro ht i h1 h2
  have hlt:=B.lt
  have hlt':=B'.lt
  have hw:=W j n h
  have:=ar0 hw.a
  by_cases hij:i=j
  ·subst hij;exact ht
  ·by_cases hg:i < g
   ·refine ih1 (fun hn=>ht ?_) i h1 hg
    rw [Nat.add_sub_cancel,tAt,fAt_wf own_tyF h hw]
    rw [tyF_op (by omega) (by omega),show n.x.toNat=g - 1 by omega,(show fAt none tyF l _=none from hn)]
    exact(tyG_none _ _).1
   ·refine ih2 (fun hn=>ht ?_) i (by omega) (by omega)
    rw [Nat.add_sub_cancel,tAt,fAt_wf own_tyF h hw]
    rw [tyF_op (by omega) (by omega),if_pos h0,show n.y.toNat=j - 1 by omega,(show fAt none tyF l _=none from hn)]
    exact(tyG_none _ _).2
def valE (e:EvL)(l:List Nd):Int × Int:=vAt e l (l.length - 1)
def typE (l:List Nd):Int × Int:=match tAt l (l.length - 1) with
 | some t=>(t,0)
 | none=>(0,3)
theorem WfL.join {op:Int}(ho:0≤arI op){l m:List Nd}(W:WfL l)(W':WfL m)(hl:0 < l.length)(hm:2≤arI op→0 < m.length)(h2:op≠2):WfL (joinL op l m):=by
 intro i n hn
 unfold joinL at hn
 by_cases h1:i < l.length
 ·rw [List.append_assoc,List.getElem?_append_left h1] at hn
  exact W i n hn
 ·rw [List.append_assoc,List.getElem?_append_right (by omega)] at hn
  by_cases h3:i - l.length < m.length
  ·rw [List.getElem?_append_left (by simpa using h3),List.getElem?_map,Option.map_eq_some_iff] at hn
   obtain⟨n',hn',rfl⟩:=hn
   have:=(W' _ _ hn').sh (d:=l.length)
   rw [show l.length+(i - l.length)=i by omega] at this
   exact this
  ·rw [List.getElem?_append_right (by simp;omega),List.getElem?_singleton] at hn
   split at hn
   ·rename_i h4
    cases hn
    rw [List.length_map] at h4
    refine⟨ho,fun h=>absurd h h2,fun h=>?_,fun h=>?_⟩
    ·simp only;omega
    ·simp only at h ⊢
     have:=hm h
     rw [if_pos (by omega)]
     omega
   ·cases hn
theorem valE_join2 (e:EvL){op:Int}(ho:arI op=2){l m:List Nd}(W:WfL l)(W':WfL m)(hl:0 < l.length)(hm:0 < m.length):valE e (joinL op l m)=doV op (valE e l) (valE e m):=by
 have ha:=ar0 (op:=op) (by omega)
 have WJ:=WfL.join (op:=op) (by omega) W W' hl (fun _=>hm) (by omega)
 unfold valE
 rw [joinL_length,show l.length+m.length+1 - 1=l.length+m.length by omega]
 have hj:(joinL op l m)[l.length+m.length]?=some ⟨op,(l.length:Int) - 1,if 1 < arI op then((l.length+m.length:Nat):Int) - 1 else 0,0,(0,0)⟩:=by
  unfold joinL
  rw [List.getElem?_append_right (by simp)]
  simp
 rw [vAt,fAt_wf (own_stepF e) hj (WJ _ _ hj)]
 rw [stepF_do e (by simp only;omega)]
 simp only
 rw [if_pos (by omega:1 < arI op)]
 have e1:((l.length:Int) - 1).toNat=l.length - 1:=by omega
 have e2:(((l.length+m.length:Nat):Int) - 1).toNat=l.length+(m.length - 1):=by omega
 rw [e1,e2]
 have q1:fAt (0,0) (stepF e) (joinL op l m) (l.length - 1)=fAt (0,0) (stepF e) l (l.length - 1):=by
  unfold joinL
  rw [List.append_assoc]
  exact fAt_pre _ _ (by omega)
 have q2:fAt (0,0) (stepF e) (joinL op l m) (l.length+(m.length - 1))=fAt (0,0) (stepF e) m (m.length - 1):=
  fAt_sh (own_stepF e) (stepF_sh e) W' l _ _ (by omega)
 rw [q1,q2]
end Go.Proofs.YtiflgceoamkmnaaGreatDoor
namespace Go.Txt
open Go.Lib
def isD (c:UInt8):Prop:=48≤c.toNat∧c.toNat≤57
instance (c:UInt8):Decidable (isD c):=by unfold isD;infer_instance
def dv (c:UInt8):Nat:=c.toNat - 48
def valF:Nat→List UInt8→Nat
 | a,[]=>a
 | a,c :: l=>valF (10*a+dv c) l
theorem valF_ge:∀(l:List UInt8) (a:Nat),a≤valF a l
 | [],a=>Nat.le_refl _
 | c :: l,a=>by
  have:=valF_ge l (10*a+dv c)
  have e:valF a (c :: l)=valF (10*a+dv c) l:=rfl
  omega
def natGo (most:Int):Int→List UInt8→Int
 | a,[]=>a
 | a,c :: l=>if c.toNat < 48∨c.toNat > 57 then -1 else if 10*a+((c.toNat:Int) - 48) > most then -1 else natGo most (10*a+((c.toNat:Int) - 48)) l
def natF (l:List UInt8)(most:Int)(plain:Bool):Int:=if l=[]∨(plain=true∧l.head?=some 48∧1 < l.length) then -1 else natGo most 0 l
theorem natGo_spec (most:Int):∀(l:List UInt8) (a:Nat),(a:Int)≤most→natGo most a l=if (∀ c ∈ l,isD c)∧(valF a l:Int)≤most then(valF a l:Int) else -1
 | [],a,ha=>by
  have hv0:valF a []=a:=rfl
  rw [natGo,hv0,if_pos ⟨by simp,ha⟩]
 | c :: l,a,ha=>by
  have hv0:valF a (c :: l)=valF (10*a+dv c) l:=rfl
  rw [natGo,hv0]
  by_cases hc:isD c
  ·have hc':=hc
   unfold isD at hc'
   have e:(10*(a:Int)+((c.toNat:Int) - 48))=((10*a+dv c:Nat):Int):=by unfold dv;omega
   rw [if_neg (by omega),e]
   by_cases hm:((10*a+dv c:Nat):Int) > most
   ·rw [if_pos hm,if_neg]
    rintro⟨_,h⟩
    have:=valF_ge l (10*a+dv c)
    omega
   ·rw [if_neg hm,natGo_spec most l _ (by omega)]
    have:(∀ x ∈ c :: l,isD x)↔∀ x ∈ l,isD x:=⟨fun h x hx=>h x (List.mem_cons_of_mem _ hx),fun h x hx=>by
     rcases List.mem_cons.1 hx with rfl|hx
     ·exact hc
     ·exact h x hx⟩
    simp only [this]
  ·have hc':=hc
   unfold isD at hc'
   rw [if_pos (by omega),if_neg]
   rintro⟨h,_⟩
   exact hc (h c (List.mem_cons_self ..))
theorem parse_spec:∀(l:List UInt8) (a:Nat),(∀ c ∈ l,isD c)→valF a l < 1844674407370955162→parseUint10 a l=.ok (valF a l)
 | [],a,_,_=>rfl
 | c :: l,a,hd,hv=>by
  have hc:=hd c (List.mem_cons_self ..)
  have hc':=hc
  unfold isD at hc'
  have hv0:valF a (c :: l)=valF (10*a+dv c) l:=rfl
  rw [hv0] at hv ⊢
  have hg:=valF_ge l (10*a+dv c)
  have ed:dv c=c.toNat - 48:=rfl
  rw [parseUint10,if_pos hc',if_neg (by omega),if_neg (by omega)]
  have:=parse_spec l (10*a+dv c) (fun x hx=>hd x (List.mem_cons_of_mem _ hx)) hv
  rw [ed,Nat.mul_comm] at this
  rw [this,ed,Nat.mul_comm]
end Go.Txt
namespace Go.Proofs.YtiflgceoamkmnaaGreatDoor
def wNull:List UInt8:=[110,117,108,108]
def wTrue:List UInt8:=[116,114,117,101]
def wFalse:List UInt8:=[102,97,108,115,101]
open Go Go.Txt Go.Vc
abbrev Wd:=List UInt8
structure RS where
 ws:List Wd
 deep:Int
 f:Int
def RS.fail (s:RS)(f:Int):RS:=⟨[],s.deep,if s.f=0 then f else s.f⟩
def RS.is (s:RS)(l:List Wd):Wd × RS:=
 match s.ws with
 | []=>([],s)
 | w :: r=>if w ∈ l then(w,⟨r,s.deep,s.f⟩) else([],s)
def RS.must (s:RS)(w:Wd):RS:=if (s.is [w]).1=[] then(s.is [w]).2.fail 4 else(s.is [w]).2
def RS.number (s:RS)(most:Int):Int × RS:=
 match s.ws with
 | []=>(0,s.fail 4)
 | w :: r=>if natF w most false < 0 then(0,s.fail 4) else(natF w most false,⟨r,s.deep,s.f⟩)
def leafN:Nd:=⟨1,0,0,0,(0,0)⟩
def joinP (op:Int)(x y:List Nd)(s:RS):List Nd × RS:=if x.length+y.length≥40 then([leafN],s.fail 2) else(joinL op x y,s)
abbrev Ps:=RS→List Nd × RS
def downP (p:Ps):Ps:=fun s=>
 let s1:RS:=⟨s.ws,s.deep+1,s.f⟩
 let s2:RS:=if s.deep+1 > 12 then s1.fail 2 else s1
 let r:=p s2
 (r.1,⟨r.2.ws,r.2.deep - 1,r.2.f⟩)
def wOpen:Wd:=[40]
def wClose:Wd:=[41]
def wNot:Wd:=[110,111,116]
def wIs:Wd:=[105,115]
def wAnd:Wd:=[97,110,100]
def wOr:Wd:=[111,114]
def wStar:Wd:=[42]
def wPlus:Wd:=[43]
def wMinus:Wd:=[45]
def wLt:Wd:=[60]
def wGt:Wd:=[62]
def wLe:Wd:=[60,61]
def wGe:Wd:=[62,61]
def wEq:Wd:=[61]
def wNe:Wd:=[60,62]
def fieldW:List Wd:=[[116],[107],[97],[98]]
def constV (w:Wd):Int × Int:=if w=wNull then(0,0) else(2,if w=wTrue then 1 else 0)
def constW:List Wd:=[wNull,wTrue,wFalse]
def atomP (orP:Ps):Ps:=fun s=>
 let w:=(s.is ([wOpen]++constW++fieldW)).1
 let s1:=(s.is ([wOpen]++constW++fieldW)).2
 if w=wOpen then((downP orP s1).1,(downP orP s1).2.must wClose)
 else if w ∈ constW then([⟨1,0,0,0,constV w⟩],s1)
 else if w=[] then([⟨1,0,0,0,(1,(s1.number 1000000000).1)⟩],(s1.number 1000000000).2)
 else([⟨2,0,0,fieldW.idxOf w,(0,0)⟩],s1)
def unaryP (un atom:Ps):Ps:=fun s=>
 if (s.is [wMinus]).1=[] then atom s else
  joinP 3 (downP un (s.is [wMinus]).2).1 [] (downP un (s.is [wMinus]).2).2
def opOf (ops:List (Wd × Int))(w:Wd):Int:=((ops.find? fun p=>p.1=w).map (·.2)).getD 0
def rowL (next:Ps)(ops:List (Wd × Int)):Nat→List Nd→Ps
 | 0,x,s=>(x,s)
 | k+1,x,s=>if s.f≠0 then(x,s) else
  let w:=(s.is (ops.map (·.1))).1
  let s1:=(s.is (ops.map (·.1))).2
  if w=[] then(x,s1) else
   let j:=joinP (opOf ops w) x (next s1).1 (next s1).2
   rowL next ops k j.1 j.2
def rowP (next:Ps)(ops:List (Wd × Int)):Ps:=fun s=>rowL next ops ((next s).2.ws.length+1) (next s).1 (next s).2
def cmpP (sum:Ps):Ps:=fun s=>
 let x:=(sum s).1
 let s0:=(sum s).2
 let w:=(s0.is [wLt,wGt,wLe,wGe,wEq,wNe,wIs]).1
 let s1:=(s0.is [wLt,wGt,wLe,wGe,wEq,wNe,wIs]).2
 let y:=(sum s1).1
 let s2:=(sum s1).2
 if w=wLt then joinP 11 x y s2
 else if w=wGt then joinP 11 y x s2
 else if w=wLe then joinP 4 (joinP 11 y x s2).1 [] (joinP 11 y x s2).2
 else if w=wGe then joinP 4 (joinP 11 x y s2).1 [] (joinP 11 x y s2).2
 else if w=wEq then joinP 12 x y s2
 else if w=wNe then joinP 4 (joinP 12 x y s2).1 [] (joinP 12 x y s2).2
 else if w=wIs then
  let n:=(s1.is [wNot]).1
  let s3:=(s1.is [wNot]).2.must wNull
  let j:=joinP 5 x [] s3
  if n≠[] then joinP 4 j.1 [] j.2 else j
 else(x,s1)
def notP (no cmp:Ps):Ps:=fun s=>
 if (s.is [wNot]).1=[] then cmp s else
  joinP 4 (downP no (s.is [wNot]).2).1 [] (downP no (s.is [wNot]).2).2
structure Three where
 o:Ps
 n:Ps
 u:Ps
def unS (t:Three):Ps:=unaryP t.u (atomP t.o)
def prodS (t:Three):Ps:=rowP (unS t) [(wStar,8)]
def sumS (t:Three):Ps:=rowP (prodS t) [(wPlus,6),(wMinus,7)]
def cmpS (t:Three):Ps:=cmpP (sumS t)
def notS (t:Three):Ps:=notP t.n (cmpS t)
def andS (t:Three):Ps:=rowP (notS t) [(wAnd,9)]
def orS (t:Three):Ps:=rowP (andS t) [(wOr,10)]
def noP:Ps:=fun s=>([leafN],s)
def allP:Nat→Three
 | 0=>⟨noP,noP,noP⟩
 | n+1=>⟨orS (allP n),notS (allP n),unS (allP n)⟩
theorem joinL_pos (op:Int)(x y:List Nd):1≤(joinL op x y).length:=by rw [joinL_length];omega
def RS.good (s:RS):Prop:=s.f≠0→s.ws=[]
structure Keeps (r:List Nd × RS)(s:RS):Prop where
 len:r.2.ws.length≤s.ws.length
 ok:r.2.good
 deep:r.2.deep=s.deep
 pos:1≤r.1.length
 le:r.1.length≤40
 wf:WfL r.1
 fst:s.f≠0→r.2.f=s.f
def KP (p:Ps)(n:Nat):Prop:=∀ s:RS,s.good→s.ws.length≤n→Keeps (p s) s
theorem RS.fail_good (s:RS)(f:Int):(s.fail f).good:=fun _=>rfl
theorem RS.fail_f (s:RS)(f:Int)(h:s.f≠0):(s.fail f).f=s.f:=if_neg h
theorem RS.is_spec (s:RS)(l:List Wd):((s.is l).1=[]∧(s.is l).2=s)∨(∃ w r,s.ws=w :: r∧w ∈ l∧(s.is l).1=w∧(s.is l).2=⟨r,s.deep,s.f⟩):=by
 unfold RS.is
 split
 ·exact .inl ⟨rfl,rfl⟩
 ·rename_i w r h
  split
  ·rename_i hm;exact .inr ⟨w,r,h,hm,rfl,rfl⟩
  ·exact .inl ⟨rfl,rfl⟩
structure Goes (t s:RS):Prop where
 len:t.ws.length≤s.ws.length
 ok:t.good
 deep:t.deep=s.deep
 fst:s.f≠0→t.f=s.f
theorem Goes.refl {s:RS}(h:s.good):Goes s s:=⟨Nat.le_refl _,h,rfl,fun _=>rfl⟩
theorem Goes.trans {t s u:RS}(a:Goes t s)(b:Goes u t):Goes u s:=⟨Nat.le_trans b.len a.len,b.ok,b.deep.trans a.deep,fun h=>(b.fst (by rw [a.fst h];exact h)).trans (a.fst h)⟩
theorem goes_fail (s:RS)(f:Int):Goes (s.fail f) s:=⟨Nat.zero_le _,fun _=>rfl,rfl,fun h=>s.fail_f f h⟩
theorem goes_is {s:RS}(h:s.good)(l:List Wd):Goes (s.is l).2 s:=by
 rcases s.is_spec l with ⟨_,e⟩|⟨w,r,h1,_,_,e⟩
 ·rw [e];exact Goes.refl h
 ·rw [e]
  refine⟨by rw [h1];simp,fun hf=>?_,rfl,fun _=>rfl⟩
  have:=h hf
  rw [h1] at this;cases this
theorem goes_must {s:RS}(h:s.good)(w:Wd):Goes (s.must w) s:=by
 unfold RS.must
 split
 ·exact(goes_is h _).trans (goes_fail _ _)
 ·exact goes_is h _
theorem goes_number {s:RS}(h:s.good)(m:Int):Goes (s.number m).2 s:=by
 unfold RS.number
 split
 ·exact goes_fail _ _
 ·rename_i w r e
  split
  ·exact goes_fail _ _
  ·refine⟨by rw [e];simp,fun hf=>?_,rfl,fun _=>rfl⟩
   have:=h hf
   rw [e] at this;cases this
theorem taken {s:RS}{l:List Wd}(h:(s.is l).1≠[]):(s.is l).2.ws.length+1=s.ws.length:=by
 rcases s.is_spec l with ⟨e,_⟩|⟨w,r,h1,_,_,e⟩
 ·exact absurd e h
 ·rw [e,h1];rfl
theorem Keeps.goes {r:List Nd × RS}{s:RS}(k:Keeps r s):Goes r.2 s:=⟨k.len,k.ok,k.deep,k.fst⟩
theorem Keeps.mk2 {l:List Nd}{t s:RS}(g:Goes t s)(h1:1≤l.length)(h2:l.length≤40)(h3:WfL l):Keeps (l,t) s:=⟨g.len,g.ok,g.deep,h1,h2,h3,g.fst⟩
theorem wf_one (n:Nd)(h:arI n.op=0)(h2:n.op=2→0≤n.n∧n.n≤3):WfL [n]:=by
 intro i m hm
 match i,hm with
 | 0,hm=>
  cases hm
  exact⟨by omega,h2,fun h3=>by omega,fun h3=>by omega⟩
theorem keeps_leaf {t s:RS}(g:Goes t s)(n:Nd)(h:arI n.op=0)(h2:n.op=2→0≤n.n∧n.n≤3):Keeps ([n],t) s:=Keeps.mk2 g (by simp) (by simp) (wf_one n h h2)
def Opr (op:Int):Prop:=0≤arI op∧op≠2
instance (op:Int):Decidable (Opr op):=by unfold Opr;infer_instance
theorem wf_join {op:Int}(ho:Opr op){x y:List Nd}(hx:WfL x)(hy:WfL y)(h1:1≤x.length)(h2:1 < arI op→1≤y.length):WfL (joinL op x y):=
 WfL.join ho.1 hx hy h1 (fun h=>h2 (by omega)) ho.2
theorem keeps_join {op:Int}(ho:Opr op){x y:List Nd}{t s:RS}(g:Goes t s)(hx:WfL x)(hy:WfL y)(h1:1≤x.length)(h2:1 < arI op→1≤y.length):Keeps (joinP op x y t) s:=by
 unfold joinP
 split
 ·exact keeps_leaf (g.trans (goes_fail _ _)) leafN (by decide) (by decide)
 ·exact Keeps.mk2 g (joinL_pos _ _ _) (by rw [joinL_length];omega) (wf_join ho hx hy h1 h2)
theorem wf_nil:WfL []:=fun i n h=>by simp at h
theorem keeps_down {p:Ps}{n:Nat}(hp:KP p n){t s:RS}(g:Goes t s)(hl:t.ws.length≤n):Keeps (downP p t) s:=by
 unfold downP
 have key:∀ u:RS,u.good→u.ws.length≤n→Goes u ⟨t.ws,t.deep+1,t.f⟩→Keeps ((p u).1,⟨(p u).2.ws,(p u).2.deep - 1,(p u).2.f⟩) s:=by
  intro u hu hul gu
  have k:=hp u hu hul
  refine⟨Nat.le_trans k.len (Nat.le_trans gu.len g.len),k.ok,?_,k.pos,k.le,k.wf,fun h=>?_⟩
  ·have e1:=k.deep
   have e2:=gu.deep
   have e3:=g.deep
   simp only at e2 ⊢
   omega
  ·have e1:=g.fst h
   have e2:=gu.fst (by show t.f≠0;rw [e1];exact h)
   have e3:=k.fst (by rw [e2];show t.f≠0;rw [e1];exact h)
   exact e3.trans (e2.trans e1)
 by_cases hd:t.deep+1 > 12
 ·simp only [if_pos hd]
  exact key _ (RS.fail_good _ _) (Nat.zero_le _) (goes_fail _ _)
 ·simp only [if_neg hd]
  exact key _ g.ok hl (Goes.refl g.ok)
theorem keeps_atom {o:Ps}{n:Nat}(ho:KP o n):KP (atomP o) (n+1):=by
 intro s hs hl
 have g:=goes_is hs ([wOpen]++constW++fieldW)
 have tk:=@taken s ([wOpen]++constW++fieldW)
 unfold atomP
 simp only
 split
 ·rename_i hw
  have k:=keeps_down ho g (by have:=tk (by rw [hw];decide);omega)
  have gm:=goes_must k.ok wClose
  exact Keeps.mk2 (k.goes.trans gm) k.pos k.le k.wf
 ·split
  ·exact keeps_leaf g _ (by simp [arI]) (by simp)
  ·split
   ·exact keeps_leaf (g.trans (goes_number g.ok _)) _ (by simp [arI]) (by simp)
   ·rename_i h1 h2 h3
    refine keeps_leaf g _ (by simp [arI]) (fun _=>?_)
    have hw:(s.is ([wOpen]++constW++fieldW)).1 ∈ fieldW:=by
     rcases s.is_spec ([wOpen]++constW++fieldW) with ⟨e,_⟩|⟨w,r,_,hm,e,_⟩
     ·exact absurd e h3
     ·rw [e] at h1 h2 ⊢
      rcases List.mem_append.1 hm with h4|h4
      ·rcases List.mem_append.1 h4 with h5|h5
       ·exact absurd (by simpa using h5) h1
       ·exact absurd h5 h2
      ·exact h4
    have:=List.idxOf_lt_length_of_mem hw
    have e4:fieldW.length=4:=rfl
    constructor<;>simp only<;>omega
theorem keeps_unary {u a:Ps}{n:Nat}(hu:KP u n)(ha:KP a (n+1)):KP (unaryP u a) (n+1):=by
 intro s hs hl
 have g:=goes_is hs [wMinus]
 have tk:=@taken s [wMinus]
 unfold unaryP
 split
 ·exact ha s hs hl
 ·rename_i hw
  have k:=keeps_down hu g (by have:=tk hw;omega)
  exact keeps_join (by decide) k.goes k.wf wf_nil k.pos (by decide)
theorem keeps_not {u a:Ps}{n:Nat}(hu:KP u n)(ha:KP a (n+1)):KP (notP u a) (n+1):=by
 intro s hs hl
 have g:=goes_is hs [wNot]
 have tk:=@taken s [wNot]
 unfold notP
 split
 ·exact ha s hs hl
 ·rename_i hw
  have k:=keeps_down hu g (by have:=tk hw;omega)
  exact keeps_join (by decide) k.goes k.wf wf_nil k.pos (by decide)
theorem opOf_opr {ops:List (Wd × Int)}(ho:∀ q ∈ ops,Opr q.2){w:Wd}(hw:w ∈ ops.map (·.1)):Opr (opOf ops w):=by
 unfold opOf
 cases h:ops.find? (fun p=>p.1=w) with
 | none=>
  obtain⟨q,hq,rfl⟩:=List.mem_map.1 hw
  have:=List.find?_eq_none.1 h q hq
  simp at this
 | some q=>exact ho q (List.mem_of_find?_eq_some h)
theorem is_mem {s:RS}{l:List Wd}(h:(s.is l).1≠[]):(s.is l).1 ∈ l:=by
 rcases s.is_spec l with ⟨e,_⟩|⟨w,r,_,hm,e,_⟩
 ·exact absurd e h
 ·rw [e];exact hm
theorem keeps_rowL {p:Ps}{n:Nat}(hp:KP p n){ops:List (Wd × Int)}(ho:∀ q ∈ ops,Opr q.2):∀(k:Nat) (x:List Nd) (t s:RS),Goes t s→t.ws.length≤n→1≤x.length→x.length≤40→WfL x→Keeps (rowL p ops k x t) s
 | 0,x,t,s,g,_,h1,h2,h3=>Keeps.mk2 g h1 h2 h3
 | k+1,x,t,s,g,hl,h1,h2,h3=>by
  have gi:=goes_is g.ok (ops.map (·.1))
  have gm:=@is_mem t (ops.map (·.1))
  rw [rowL]
  by_cases hf:t.f≠0
  ·rw [if_pos hf];exact Keeps.mk2 g h1 h2 h3
  ·rw [if_neg hf]
   simp only
   generalize t.is (ops.map (·.1))=A at gi gm ⊢
   obtain⟨w,s1⟩:=A
   simp only at gi gm ⊢
   by_cases hw:w=[]
   ·rw [if_pos hw];exact Keeps.mk2 (g.trans gi) h1 h2 h3
   ·rw [if_neg hw]
    have hop:=opOf_opr ho (gm hw)
    have kn:=hp s1 gi.ok (Nat.le_trans gi.len hl)
    generalize opOf ops w=op at hop ⊢
    generalize p s1=r at kn ⊢
    have kj:Keeps (joinP op x r.1 r.2) s:=keeps_join hop ((g.trans gi).trans kn.goes) h3 kn.wf h1 (fun _=>kn.pos)
    have ka:Keeps (joinP op x r.1 r.2) t:=keeps_join hop (gi.trans kn.goes) h3 kn.wf h1 (fun _=>kn.pos)
    generalize joinP op x r.1 r.2=j at kj ka ⊢
    exact keeps_rowL hp ho k j.1 j.2 s kj.goes (Nat.le_trans ka.len hl) kj.pos kj.le kj.wf
theorem keeps_row {p:Ps}{n:Nat}(hp:KP p n){ops:List (Wd × Int)}(ho:∀ q ∈ ops,Opr q.2):KP (rowP p ops) n:=by
 intro s hs hl
 have k:=hp s hs hl
 exact keeps_rowL hp ho _ _ _ _ k.goes (Nat.le_trans k.len hl) k.pos k.le k.wf
theorem keeps_cmp {p:Ps}{n:Nat}(hp:KP p n):KP (cmpP p) n:=by
 intro s hs hl
 have k:=hp s hs hl
 have g:=goes_is k.ok [wLt,wGt,wLe,wGe,wEq,wNe,wIs]
 have k2:=hp _ g.ok (Nat.le_trans g.len (Nat.le_trans k.len hl))
 have gg:=(k.goes.trans g).trans k2.goes
 unfold cmpP
 simp only
 split
 ·exact keeps_join (by decide) gg k.wf k2.wf k.pos (fun _=>k2.pos)
 ·split
  ·exact keeps_join (by decide) gg k2.wf k.wf k2.pos (fun _=>k.pos)
  ·split
   ·have j:=keeps_join (op:=11) (by decide) gg k2.wf k.wf k2.pos (fun _=>k.pos)
    exact keeps_join (by decide) j.goes j.wf wf_nil j.pos (by decide)
   ·split
    ·have j:=keeps_join (op:=11) (by decide) gg k.wf k2.wf k.pos (fun _=>k2.pos)
     exact keeps_join (by decide) j.goes j.wf wf_nil j.pos (by decide)
    ·split
     ·exact keeps_join (by decide) gg k.wf k2.wf k.pos (fun _=>k2.pos)
     ·split
      ·have j:=keeps_join (op:=12) (by decide) gg k.wf k2.wf k.pos (fun _=>k2.pos)
       exact keeps_join (by decide) j.goes j.wf wf_nil j.pos (by decide)
      ·split
       ·have g3:=goes_is g.ok [wNot]
        have g4:=goes_must g3.ok wNull
        have j:=keeps_join (op:=5) (by decide) (((k.goes.trans g).trans g3).trans g4) k.wf wf_nil k.pos (by decide)
        split
        ·exact keeps_join (by decide) j.goes j.wf wf_nil j.pos (by decide)
        ·exact j
       ·exact Keeps.mk2 (k.goes.trans g) k.pos k.le k.wf
theorem keeps_S {t:Three}{n:Nat}(h:KP t.o n∧KP t.n n∧KP t.u n):KP (orS t) (n+1)∧KP (notS t) (n+1)∧KP (unS t) (n+1)∧KP (prodS t) (n+1)∧KP (sumS t) (n+1)∧KP (cmpS t) (n+1)∧KP (andS t) (n+1):=by
 have h1:KP (unS t) (n+1):=keeps_unary h.2.2 (keeps_atom h.1)
 have h2:KP (prodS t) (n+1):=keeps_row h1 (by decide)
 have h3:KP (sumS t) (n+1):=keeps_row h2 (by decide)
 have h4:KP (cmpS t) (n+1):=keeps_cmp h3
 have h5:KP (notS t) (n+1):=keeps_not h.2.1 h4
 have h6:KP (andS t) (n+1):=keeps_row h5 (by decide)
 exact⟨keeps_row h6 (by decide),h5,h1,h2,h3,h4,h6⟩
theorem keeps_noP (n:Nat):KP noP n:=fun s hs _=>keeps_leaf (Goes.refl hs) leafN (by decide) (by decide)
theorem allP_succ (n:Nat):allP (n+1)=⟨orS (allP n),notS (allP n),unS (allP n)⟩:=rfl
theorem keeps_all (n:Nat):KP (allP n).o n∧KP (allP n).n n∧KP (allP n).u n:=by
 induction n with
 | zero=>exact⟨keeps_noP 0,keeps_noP 0,keeps_noP 0⟩
 | succ n ih=>
  have h:=keeps_S ih
  rw [allP_succ]
  exact⟨h.1,h.2.1,h.2.2.1⟩
def wCount:Wd:=[99,111,117,110,116]
def wSum:Wd:=[115,117,109]
def wMin:Wd:=[109,105,110]
def wMax:Wd:=[109,97,120]
def wComma:Wd:=[44]
def wSelect:Wd:=[115,101,108,101,99,116]
def wFrom:Wd:=[102,114,111,109]
def wEvents:Wd:=[101,118,101,110,116,115]
def wWhere:Wd:=[119,104,101,114,101]
def wGroup:Wd:=[103,114,111,117,112]
def wBy:Wd:=[98,121]
def wWindow:Wd:=[119,105,110,100,111,119]
def wSlide:Wd:=[115,108,105,100,101]
def wDelay:Wd:=[100,101,108,97,121]
def wLate:Wd:=[108,97,116,101]
abbrev Ag:=Int × List Nd
structure Qy where
 aggs:List Ag
 wh:List Nd
 by_:List Nd
 size:Int
 slide:Int
 delay:Int
 late:Int
def noQ:Qy:=⟨[],[],[],0,0,0,0⟩
def aggKind (w:Wd):Int:=if w=wCount then 1 else if w=wSum then 3 else if w=wMin then 4 else if w=wMax then 5 else 0
def aggP (o:Ps)(s:RS):Ag × RS:=
 let w:=(s.is [wCount,wSum,wMin,wMax]).1
 let s1:=(s.is [wCount,wSum,wMin,wMax]).2
 let s2:=(if w=[] then s1.fail 4 else s1).must wOpen
 if w=wCount∧(s2.is [wStar]).1≠[] then((1,[]),(s2.is [wStar]).2.must wClose)
 else((if w=wCount then 2 else aggKind w,(o s2).1),(o s2).2.must wClose)
def aggsP (o:Ps):Nat→List Ag→RS→List Ag × RS
 | 0,l,s=>(l,s)
 | k+1,l,s=>if (s.is [wComma]).1=[] then(l,s) else aggsP o k (l++[(aggP o (s.is [wComma]).2).1]) (aggP o (s.is [wComma]).2).2
def optP (w:Wd)(p:RS→List Nd × RS)(s:RS):List Nd × RS:=if (s.is [w]).1=[] then([],s) else p (s.is [w]).2
def optN (w:Wd)(d:Int)(s:RS):Int × RS:=if (s.is [w]).1=[] then(d,s) else(s.is [w]).2.number 1000
def readQ (ws:List Wd):Qy × RS:=
 let o:=(allP (ws.length+1)).o
 let a:=aggP o ((⟨ws,0,0⟩:RS).must wSelect)
 let l:=aggsP o (a.2.ws.length+1) [a.1] a.2
 let e:=(l.2.must wFrom).must wEvents
 let w:=optP wWhere o e
 let g:=optP wGroup (fun s=>o (s.must wBy)) w.2
 let z:=(g.2.must wWindow).number 1000
 let sl:=optN wSlide z.1 z.2
 let d:=optN wDelay 0 sl.2
 let t:=optN wLate 0 d.2
 (⟨l.1,w.1,g.1,z.1,sl.1,d.1,t.1⟩,if t.2.f=0∧t.2.ws≠[] then t.2.fail 4 else t.2)
def NdsOK (l:List Nd):Prop:=l.length≤40∧WfL l
theorem Keeps.nds {r:List Nd × RS}{s:RS}(k:Keeps r s):NdsOK r.1:=⟨k.le,k.wf⟩
theorem nds_nil:NdsOK []:=⟨by simp,wf_nil⟩
theorem goes_agg {o:Ps}{n:Nat}(ho:KP o n){s:RS}(hs:s.good)(hl:s.ws.length≤n):Goes (aggP o s).2 s∧NdsOK (aggP o s).1.2:=by
 have g1:=goes_is hs [wCount,wSum,wMin,wMax]
 have g2:Goes ((if (s.is [wCount,wSum,wMin,wMax]).1=[] then(s.is [wCount,wSum,wMin,wMax]).2.fail 4 else(s.is [wCount,wSum,wMin,wMax]).2).must wOpen) s:=by
  split
  ·exact(g1.trans (goes_fail _ _)).trans (goes_must (RS.fail_good _ _) _)
  ·exact g1.trans (goes_must g1.ok _)
 unfold aggP
 simp only
 generalize (if (s.is [wCount,wSum,wMin,wMax]).1=[] then(s.is [wCount,wSum,wMin,wMax]).2.fail 4 else(s.is [wCount,wSum,wMin,wMax]).2).must wOpen=s2 at g2 ⊢
 have g3:=goes_is g2.ok [wStar]
 have k:=ho s2 g2.ok (Nat.le_trans g2.len hl)
 split
 ·exact⟨(g2.trans g3).trans (goes_must g3.ok _),nds_nil⟩
 ·exact⟨(g2.trans k.goes).trans (goes_must k.ok _),k.nds⟩
theorem goes_aggs {o:Ps}{n:Nat}(ho:KP o n):∀(k:Nat) (l:List Ag) {s:RS},s.good→s.ws.length≤n→(∀ a ∈ l,NdsOK a.2)→Goes (aggsP o k l s).2 s∧∀ a ∈ (aggsP o k l s).1,NdsOK a.2
 | 0,l,s,hs,_,hL=>⟨Goes.refl hs,hL⟩
 | k+1,l,s,hs,hl,hL=>by
  rw [aggsP]
  split
  ·exact⟨Goes.refl hs,hL⟩
  ·have g1:=goes_is hs [wComma]
   have g2:=goes_agg ho g1.ok (Nat.le_trans g1.len hl)
   have g3:=goes_aggs ho k (l++[(aggP o (s.is [wComma]).2).1]) g2.1.ok (Nat.le_trans (Nat.le_trans g2.1.len g1.len) hl) (by
    intro a ha
    rcases List.mem_append.1 ha with h1|h1
    ·exact hL a h1
    ·rw [List.mem_singleton.1 h1];exact g2.2)
   exact⟨(g1.trans g2.1).trans g3.1,g3.2⟩
end Go.Proofs.YtiflgceoamkmnaaGreatDoor
namespace Go.Proofs.YtiflgceoamkmnaaGreatDoor
open Go Go.Vc
def VC_lexer_kind (u0:Int)(h:Hp)(R:Value→Hp→Prop):Prop:=
 (((bif (decide (u0≥97)) then(decide (u0≤122)) else false)=true→R (vk .u8 97) h)∧((bif (decide (u0≥97)) then(decide (u0≤122)) else false)=false→(((bif (decide (u0≥48)) then(decide (u0≤57)) else false)=true→R (vk .u8 48) h)∧((bif (decide (u0≥48)) then(decide (u0≤57)) else false)=false→(CallOK Tryz.prog 164 [(vs ⟨#[40,41,44,42,43,45,60,62,61]⟩),(vk .u8 u0)] h fun v1 h2=>∃ x3,v1=(vi x3)∧(((decide (x3≥0))=true→R (vk .u8 40) h2)∧((decide (x3≥0))=false→R (vk .u8 32) h2)))))))
theorem ok_lexer_kind {u0 h R}(H:VC_lexer_kind u0 h R):CallOK Tryz.prog 126 [(vk .u8 u0)] h R:=
 call_of (cfg:=⟨[],[],[]⟩) noNG mixed Tryz.func126 [.one (.v (vk .u8 u0))] (by kernel_rfl) rfl (by kernel_rfl) H
def VC_lexer_end (u0:ByteArray)(u1:Int)(h:Hp)(R:Value→Hp→Prop):Prop:=
 (∃ x1,(Rd Tryz.prog (Instr.index 9 (vs u0) (vi u1)) h (vk .u8 x1))∧(CallOK Tryz.prog 126 [(vk .u8 x1)] h fun v2 h3=>∃ x4,v2=(vk .u8 x4)∧(∃ x5,(IsW x5 (u1+1))∧(((decide (x4=40))=true→(∃ x6,((decide (x5 < ((ByteArray.size u0:Nat):Int)))=true→Rd Tryz.prog (Instr.index 9 (vs u0) (vi u1)) h3 (vk .u8 x6))∧(∃ x7,(((decide (x5 < ((ByteArray.size u0:Nat):Int)))=true∧(decide (x6=60))=true)→Rd Tryz.prog (Instr.index 9 (vs u0) (vi x5)) h3 (vk .u8 x7))∧(∃ x8,((((decide (x5 < ((ByteArray.size u0:Nat):Int)))=true∧(decide (x6=60))=true)∧(decide (x7=61))=false)→Rd Tryz.prog (Instr.index 9 (vs u0) (vi x5)) h3 (vk .u8 x8))∧(∃ x9,(((decide (x5 < ((ByteArray.size u0:Nat):Int)))=true∧(bif (decide (x6=60)) then(bif (decide (x7=61)) then true else(decide (x8=62))) else false)=false)→Rd Tryz.prog (Instr.index 9 (vs u0) (vi u1)) h3 (vk .u8 x9))∧(∃ x10,((((decide (x5 < ((ByteArray.size u0:Nat):Int)))=true∧(bif (decide (x6=60)) then(bif (decide (x7=61)) then true else(decide (x8=62))) else false)=false)∧(decide (x9=62))=true)→Rd Tryz.prog (Instr.index 9 (vs u0) (vi x5)) h3 (vk .u8 x10))∧(let J14:Int→Prop:=fun x15=>R (vi x15) h3;(((bif (decide (x5 < ((ByteArray.size u0:Nat):Int))) then(bif (bif (decide (x6=60)) then(bif (decide (x7=61)) then true else(decide (x8=62))) else false) then true else(bif (decide (x9=62)) then(decide (x10=61)) else false)) else false)=true→(∃ x11,(IsW x11 (x5+1))∧(J14 x11)))∧((bif (decide (x5 < ((ByteArray.size u0:Nat):Int))) then(bif (bif (decide (x6=60)) then(bif (decide (x7=61)) then true else(decide (x8=62))) else false) then true else(bif (decide (x9=62)) then(decide (x10=61)) else false)) else false)=false→(J14 x5))))))))))∧((decide (x4=40))=false→(∃(I18:List Value→Hp→Prop) (m19:List Value→Hp→Nat),I18 [vi x5] h3∧∀ vs20 h21,I18 vs20 h21→∃ x22,vs20=[vi x22]∧(∃ x23,((decide (x22 < ((ByteArray.size u0:Nat):Int)))=true→Rd Tryz.prog (Instr.index 9 (vs u0) (vi x22)) h21 (vk .u8 x23))∧(∃(J24:SV→Hp→Prop),((decide (x22 < ((ByteArray.size u0:Nat):Int)))=true→(CallOK Tryz.prog 126 [(vk .u8 x23)] h21 fun v25 h26=>∃ x27,v25=(vk .u8 x27)∧J24 (.t (.one (.v (vk .u8 x27)))) h26))∧(¬((decide (x22 < ((ByteArray.size u0:Nat):Int)))=true)→J24 (.t (.one (.v (vk .u8 0)))) h21)∧∀ h28 x29,J24 (.t (.one (.v (vk .u8 x29)))) h28→(((bif (decide (x22 < ((ByteArray.size u0:Nat):Int))) then(decide (x29=x4)) else false)=true→(∃ x32,(IsW x32 (x22+1))∧(I18 [vi x32] h28∧m19 [vi x32] h28 < m19 vs20 h21)))∧((bif (decide (x22 < ((ByteArray.size u0:Nat):Int))) then(decide (x29=x4)) else false)=false→R (vi x22) h28))))))))))
theorem ok_lexer_end {u0 u1 h R}(H:VC_lexer_end u0 u1 h R):CallOK Tryz.prog 127 [vs u0,vi u1] h R:=
 call_of (cfg:=⟨[],[(7,([6],[.one (.int .i64)],[]))],[]⟩) noNG mixed Tryz.func127 [.one (.v (vs u0)),.one (.v (vi u1))] (by kernel_rfl) rfl (by kernel_rfl) H
def VC_lexer_Words (u0:ByteArray)(h:Hp)(R:Value→Hp→Prop):Prop:=
 (((decide ((((ByteArray.size u0:Nat):Int):Int) > 240))=true→R (vtup [vsl none 0 0,(ifv (some (99,(vi 2))))]) h)∧((decide ((((ByteArray.size u0:Nat):Int):Int) > 240))=false→(∃(I3:List Value→Hp→Prop) (m4:List Value→Hp→Nat),I3 [vsl none 0 0,vi 0] h∧∀ vs5 h6,I3 vs5 h6→∃ a7 n7 c7 x8,vs5=[vsl a7 n7 c7,vi x8]∧(((decide (x8 < ((ByteArray.size u0:Nat):Int)))=true→(∃ x11,(Rd Tryz.prog (Instr.index 9 (vs u0) (vi x8)) h6 (vk .u8 x11))∧(((decide (x11=32))=true→(∃ x12,(IsW x12 (x8+1))∧(I3 [vsl a7 n7 c7,vi x12] h6∧m4 [vsl a7 n7 c7,vi x12] h6 < m4 vs5 h6)))∧((decide (x11=32))=false→(∃ x14,(Rd Tryz.prog (Instr.index 9 (vs u0) (vi x8)) h6 (vk .u8 x14))∧(CallOK Tryz.prog 126 [(vk .u8 x14)] h6 fun v15 h16=>∃ x17,v15=(vk .u8 x17)∧(((decide (x17=32))=true→R (vtup [vsl none 0 0,(ifv (some (99,(vi 4))))]) h16)∧((decide (x17=32))=false→(CallOK Tryz.prog 127 [vs u0,vi x8] h16 fun v19 h20=>∃ x21,v19=(vi x21)∧(∃ s22,(Rd Tryz.prog (Instr.sliceAt 9 (vs u0) (some (vi x8)) (some (vi x21)) none) h20 (vs s22))∧(∀ b23,h20 b23=none→let h24:= Hp.set h20 b23 (cellsO [vs s22] 9);(SemOK Tryz.prog (Builtin.append_ #[145,145] 145 #[vsl a7 n7 c7,(vsl (some (⟨b23,0,none⟩:Addr)) 1 1)]) h24 fun v25 h26=>∃ a27 n27 c27,v25=(vsl a27 n27 c27)∧(((decide ((n27:Int) > 80))=true→R (vtup [vsl none 0 0,(ifv (some (99,(vi 2))))]) h26)∧((decide ((n27:Int) > 80))=false→(I3 [vsl a27 n27 c27,vi x21] h26∧m4 [vsl a27 n27 c27,vi x21] h26 < m4 vs5 h6)))))))))))))))∧((decide (x8 < ((ByteArray.size u0:Nat):Int)))=false→R (vtup [vsl a7 n7 c7,ifv none]) h6)))))
theorem ok_lexer_Words {u0 h R}(H:VC_lexer_Words u0 h R):CallOK Tryz.prog 80 [vs u0] h R:=
 call_of (cfg:=⟨[],[(5,([4,5],[.one (.slice),.one (.int .i64)],[]))],[]⟩) noNG mixed Tryz.func80 [.one (.v (vs u0))] (by kernel_rfl) rfl (by kernel_rfl) H
def VC_strings_IndexByte (u0:ByteArray)(u1:Int)(h:Hp)(R:Value→Hp→Prop):Prop:=
 (CallOK Tryz.prog 184 [vs u0,(vk .u8 u1)] h fun v1 h2=>∃ x3,v1=(vi x3)∧R (vi x3) h2)
theorem ok_strings_IndexByte {u0 u1 h R}(H:VC_strings_IndexByte u0 u1 h R):CallOK Tryz.prog 164 [vs u0,(vk .u8 u1)] h R:=
 call_of (cfg:=⟨[],[],[]⟩) noNG mixed Tryz.func164 [.one (.v (vs u0)),.one (.v (vk .u8 u1))] (by kernel_rfl) rfl (by kernel_rfl) H
def VC_internal_stringslite_IndexByte (u0:ByteArray)(u1:Int)(h:Hp)(R:Value→Hp→Prop):Prop:=
 (ExtOK Tryz.prog 196 [vs u0,(vk .u8 u1)] h fun v1 h2=>∃ x3,v1=(vi x3)∧R (vi x3) h2)
theorem ok_internal_stringslite_IndexByte {u0 u1 h R}(H:VC_internal_stringslite_IndexByte u0 u1 h R):CallOK Tryz.prog 184 [vs u0,(vk .u8 u1)] h R:=
 call_of (cfg:=⟨[],[],[]⟩) noNG mixed Tryz.func184 [.one (.v (vs u0)),.one (.v (vk .u8 u1))] (by kernel_rfl) rfl (by kernel_rfl) H
theorem elStr:ElT Tryz.prog 145 9 1 16:=.of (by kernel_rfl) (by kernel_rfl) (by decide)
def isL (c:UInt8):Bool:=decide (97≤c.toNat)&&decide (c.toNat≤122)
def isDg (c:UInt8):Bool:=decide (48≤c.toNat)&&decide (c.toNat≤57)
def isS (c:UInt8):Bool:=c == 40||c == 41||c == 44||c == 42||c == 43||c == 45||c == 60||c == 62||c == 61
def kindB (c:UInt8):Nat:=if isL c then 97 else if isDg c then 48 else if isS c then 40 else 32
def runP (p:UInt8→Bool)(l:List UInt8):Nat:=(l.takeWhile p).length
def endW (l:List UInt8)(i:Nat):Nat:=
 if kindB (l.getD i 0)=40 then(if i+1 < l.length∧(l.getD i 0=60∧(l.getD (i+1) 0=61∨l.getD (i+1) 0=62)∨l.getD i 0=62∧l.getD (i+1) 0=61) then i+2 else i+1)
 else i+1+runP (fun c=>kindB c == kindB (l.getD i 0)) (l.drop (i+1))
def lexF (l:List UInt8):Nat→Nat→List (List UInt8)→List (List UInt8) × Int
 | 0,_,acc=>(acc,0)
 | k+1,i,acc=>if l.length≤i then(acc,0) else if l.getD i 0=32 then lexF l k (i+1) acc else if kindB (l.getD i 0)=32 then([],4) else
   if acc.length+1 > 80 then([],2) else lexF l k (endW l i) (acc++[(l.drop i).take (endW l i - i)])
def wordsL (l:List UInt8):List (List UInt8) × Int:=if l.length > 240 then([],2) else lexF l (l.length+1) 0 []
theorem drop_getB {l:List UInt8}{n:Nat}(h:n < l.length):l.drop n=l.getD n 0 :: l.drop (n+1):=by
 rw [List.drop_eq_getElem_cons h,List.getD_eq_getElem?_getD,List.getElem?_eq_getElem h]
 rfl
theorem runP_yes {p:UInt8→Bool}{l:List UInt8}{n:Nat}(h:n < l.length)(hp:p (l.getD n 0)=true):runP p (l.drop n)=1+runP p (l.drop (n+1)):=by
 unfold runP
 rw [drop_getB h,List.takeWhile_cons,if_pos hp,List.length_cons,Nat.add_comm]
theorem runP_no {p:UInt8→Bool}{l:List UInt8}{n:Nat}(hp:n < l.length→p (l.getD n 0)=false):runP p (l.drop n)=0:=by
 unfold runP
 by_cases h:n < l.length
 ·rw [drop_getB h,List.takeWhile_cons,if_neg (by rw [hp h];simp)]
  rfl
 ·rw [List.drop_eq_nil_of_le (by omega)]
  rfl
theorem runP_le (p:UInt8→Bool)(l:List UInt8):runP p l≤l.length:=(List.takeWhile_sublist _).length_le
theorem endW_gt (l:List UInt8)(i:Nat):i < endW l i:=by
 unfold endW
 split
 ·split<;>omega
 ·omega
theorem endW_le {l:List UInt8}{i:Nat}(h:i < l.length):endW l i≤l.length:=by
 unfold endW
 have:=runP_le (fun c=>kindB c == kindB (l.getD i 0)) (l.drop (i+1))
 rw [List.length_drop] at this
 split
 ·split<;>omega
 ·omega
theorem u8_eq {c d:UInt8}:((c.toNat:Nat):Int)=(d.toNat:Nat)↔c=d:=by
 constructor
 ·intro h;exact UInt8.toNat_inj.1 (by omega)
 ·rintro rfl;rfl
theorem sign_of:∀ n:Fin 256,(decide (firstIdx (bs [40,41,44,42,43,45,60,62,61]) (UInt8.ofNat n.val)≥0))=isS (UInt8.ofNat n.val):=by decide +kernel
theorem lexer_kind_ok {c:UInt8}{h:Hp}{R:Value→Hp→Prop}(hK:R (vk .u8 ((kindB c:Nat):Int)) h):CallOK Tryz.prog 126 [vk .u8 ((c.toNat:Nat):Int)] h R:=by
 refine ok_lexer_kind ?_
 unfold VC_lexer_kind
 unfold kindB at hK
 refine⟨fun e=>?_,fun e=>⟨fun e2=>?_,fun e2=>?_⟩⟩
 ·have:isL c=true:=by unfold isL;simp [Bool.cond_eq_ite] at e ⊢;omega
  rw [if_pos this] at hK
  exact hK
 ·have h1:¬ isL c=true:=by unfold isL;simp [Bool.cond_eq_ite] at e ⊢;omega
  have h2:isDg c=true:=by unfold isDg;simp [Bool.cond_eq_ite] at e2 ⊢;omega
  rw [if_neg h1,if_pos h2] at hK
  exact hK
 ·have h1:¬ isL c=true:=by unfold isL;simp [Bool.cond_eq_ite] at e ⊢;omega
  have h2:¬ isDg c=true:=by unfold isDg;simp [Bool.cond_eq_ite] at e2 ⊢;omega
  rw [if_neg h1,if_neg h2] at hK
  refine ok_strings_IndexByte (ok_internal_stringslite_IndexByte (ext_indexByte Tryz.func196 (by kernel_rfl) (by kernel_rfl) (by kernel_rfl) (by kernel_rfl) ⟨_,rfl,_,rfl,_,rfl,?_⟩))
  have key:decide (firstIdx ⟨#[40,41,44,42,43,45,60,62,61]⟩ ((c.toNat:Nat):Int).toNat.toUInt8≥0)=isS c:=by
   have:=sign_of ⟨c.toNat,c.toNat_lt⟩
   simp only [UInt8.ofNat_toNat] at this
   rw [←this]
   congr 2
   simp
   rfl
  refine⟨fun e3=>?_,fun e3=>?_⟩
  ·rw [key] at e3
   rw [if_pos e3] at hK
   exact hK
  ·rw [key] at e3
   rw [if_neg (by rw [e3];simp)] at hK
   exact hK
theorem lexer_end_ok {l:List UInt8}{i:Nat}{h:Hp}{R:Value→Hp→Prop}(hi:i < l.length)(hl:l.length≤1000000)(hK:R (vi (endW l i:Nat)) h):CallOK Tryz.prog 127 [vs (bs l),vi i] h R:=by
 refine ok_lexer_end ?_
 unfold VC_lexer_end
 rw [bs_size]
 refine⟨_,rd_idx (by kernel_rfl) (by omega) (by omega),lexer_kind_ok ⟨_,rfl,_,isW (by unfold InR;omega),?_⟩⟩
 rw [Int.toNat_natCast]
 have e1:((i:Nat):Int)+1=((i+1:Nat):Int):=by omega
 rw [e1]
 refine⟨fun e=>?_,fun e=>?_⟩
 ·have hk:kindB (l.getD i 0)=40:=by have:=of_decide_eq_true e;omega
  unfold endW at hK
  rw [if_pos hk] at hK
  have r0:Rd Tryz.prog (Instr.index 9 (vs (bs l)) (vi i)) h (vk .u8 ((l.getD i 0).toNat:Nat)):=by
   have:=rd_idx (P:=Tryz.prog) (h:=h) (t:=9) (by kernel_rfl) (l:=l) (i:=i) (by omega) (by omega)
   rwa [Int.toNat_natCast] at this
  have r1:∀{b:Prop},(b→i+1 < l.length)→b→Rd Tryz.prog (Instr.index 9 (vs (bs l)) (vi ((i+1:Nat):Int))) h (vk .u8 ((l.getD (i+1) 0).toNat:Nat)):=by
   intro b hb hb'
   have:=hb hb'
   have:=rd_idx (P:=Tryz.prog) (h:=h) (t:=9) (by kernel_rfl) (l:=l) (i:=((i+1:Nat):Int)) (by omega) (by omega)
   rwa [Int.toNat_natCast] at this
  refine⟨_,fun _=>r0,_,r1 (fun e=>by have:=of_decide_eq_true e.1;omega),_,r1 (fun e=>by have:=of_decide_eq_true e.1.1;omega),_,fun _=>r0,_,r1 (fun e=>by have:=of_decide_eq_true e.1.1;omega),?_⟩
  have h60:decide ((((l.getD i 0).toNat:Nat):Int)=60)=decide (l.getD i 0=60):=decide_eq_decide.2 (u8_eq (d:=60))
  have h62:decide ((((l.getD i 0).toNat:Nat):Int)=62)=decide (l.getD i 0=62):=decide_eq_decide.2 (u8_eq (d:=62))
  have g61:decide ((((l.getD (i+1) 0).toNat:Nat):Int)=61)=decide (l.getD (i+1) 0=61):=decide_eq_decide.2 (u8_eq (d:=61))
  have g62:decide ((((l.getD (i+1) 0).toNat:Nat):Int)=62)=decide (l.getD (i+1) 0=62):=decide_eq_decide.2 (u8_eq (d:=62))
  rw [h60,h62,g61,g62]
  intro J14
  refine⟨fun e=>?_,fun e=>?_⟩
  ·rw [if_pos (by
    simp only [Bool.cond_eq_ite] at e
    generalize l.getD i 0=c0 at e ⊢
    generalize l.getD (i+1) 0=c1 at e ⊢
    by_cases q1:c0=60<;>by_cases q2:c1=61<;>by_cases q3:c1=62<;>by_cases q4:c0=62<;>simp [q1,q2,q3,q4] at e ⊢<;>omega)] at hK
   exact⟨_,isW (by unfold InR;omega),hK⟩
  ·rw [if_neg (by
    simp only [Bool.cond_eq_ite] at e
    generalize l.getD i 0=c0 at e ⊢
    generalize l.getD (i+1) 0=c1 at e ⊢
    by_cases q1:c0=60<;>by_cases q2:c1=61<;>by_cases q3:c1=62<;>by_cases q4:c0=62<;>simp [q1,q2,q3,q4] at e ⊢<;>omega)] at hK
   exact hK
 ·have hk:¬ kindB (l.getD i 0)=40:=by have:=of_decide_eq_false e;omega
  unfold endW at hK
  rw [if_neg hk] at hK
  generalize kindB (l.getD i 0)=k at *
  refine⟨fun vs hh=>hh=h∧∃ n:Nat,vs=[vi n]∧n≤l.length∧n+runP (fun c=>kindB c == k) (l.drop n)=i+1+runP (fun c=>kindB c == k) (l.drop (i+1)),fun vs hh=>l.length - (vint vs 0).toNat,⟨rfl,i+1,rfl,hi,rfl⟩,?_⟩
  rintro vs hh ⟨rfl,n,rfl,hn,hr⟩
  refine⟨n,rfl,?_⟩
  by_cases hlt:n < l.length
  ·refine⟨_,fun _=>rd_idx (by kernel_rfl) (by omega) (by omega),fun x h'=>h'=hh∧x=.t (.one (.v (vk .u8 ((kindB (l.getD n 0):Nat):Int)))),fun _=>by rw [Int.toNat_natCast];exact lexer_kind_ok ⟨_,rfl,rfl,rfl⟩,fun e=>absurd (by simp;exact hlt) e,?_⟩
   rintro h28 x29 ⟨rfl,e29⟩
   cases e29
   refine⟨fun e=>?_,fun e=>?_⟩
   ·have hkk:kindB (l.getD n 0)=k:=by rw [decide_eq_true (show ((n:Nat):Int) < (l.length:Nat) by omega),cond_true] at e;have:=of_decide_eq_true e;omega
    refine⟨_,isW (by unfold InR;omega),⟨rfl,n+1,rfl,hlt,?_⟩,by simp [vint];omega⟩
    rw [runP_yes hlt (by simp only [beq_iff_eq];exact hkk)] at hr
    omega
   ·have hkk:¬ kindB (l.getD n 0)=k:=by rw [decide_eq_true (show ((n:Nat):Int) < (l.length:Nat) by omega),cond_true] at e;have:=of_decide_eq_false e;omega
    rw [runP_no (fun _=>by simp only [beq_eq_false_iff_ne,ne_eq];exact hkk)] at hr
    rw [←hr] at hK
    exact hK
  ·refine⟨0,fun e=>absurd hlt (by simpa using e),fun x h'=>h'=hh,fun e=>absurd hlt (by simpa using e),fun _=>rfl,?_⟩
   rintro h28 x29 rfl
   refine⟨fun e=>?_,fun e=>?_⟩
   ·simp [Bool.cond_eq_ite,hlt] at e
   ·rw [runP_no (fun h=>absurd h hlt)] at hr
    rw [←hr] at hK
    exact hK
theorem lexer_Words_ok {l:List UInt8}{h:Hp}{R:Value→Hp→Prop}(hK:∀ a n c h',OwnV h h' 9 1 a n c ((wordsL l).1.flatMap encB)→R (vtup [vsl a n c,ifv (if (wordsL l).2=0 then none else some (99,vi (wordsL l).2))]) h') :
  CallOK Tryz.prog 80 [vs (bs l)] h R:=by
 refine ok_lexer_Words ?_
 unfold VC_lexer_Words
 rw [bs_size]
 refine⟨fun e=>?_,fun e=>?_⟩
 ·have:wordsL l=([],2):=by unfold wordsL;rw [if_pos (by simp at e;omega)]
  rw [this] at hK
  exact hK none 0 0 h (OwnV.nil (Hp.le_refl h) _ _)
 have hl:l.length≤240:=by simp at e;omega
 have hw:wordsL l=lexF l (l.length+1) 0 []:=by unfold wordsL;rw [if_neg (by omega)]
 refine⟨fun vs hh=>∃(k i:Nat) (acc:List (List UInt8)) (a:Option Addr) (n c:Nat),vs=[vsl a n c,vi i]∧l.length < i+k∧i≤l.length∧lexF l k i acc=wordsL l∧OwnV h hh 9 1 a n c (acc.flatMap encB)∧acc.length≤80,
  fun vs hh=>l.length - (vint vs 1).toNat,⟨l.length+1,0,[],none,0,0,rfl,by omega,by omega,hw.symm,OwnV.nil (Hp.le_refl h) _ _,by simp⟩,?_⟩
 rintro vs hh ⟨k,i,acc,a,n,c,rfl,hk,hi,hf,O,hacc⟩
 have hn:n=acc.length:=(O.slp encB_len (by decide)).1
 refine⟨a,n,c,i,rfl,fun e=>?_,fun e=>?_⟩
 ·have hlt:i < l.length:=by simpa using e
  obtain⟨k,rfl⟩:∃ k',k=k'+1:=⟨k - 1,by omega⟩
  rw [lexF,if_neg (by omega)] at hf
  refine⟨_,rd_idx (by kernel_rfl) (by omega) (by omega),?_⟩
  rw [Int.toNat_natCast]
  have h32:decide ((((l.getD i 0).toNat:Nat):Int)=32)=decide (l.getD i 0=32):=decide_eq_decide.2 (u8_eq (d:=32))
  rw [h32]
  refine⟨fun e=>?_,fun e=>?_⟩
  ·rw [if_pos (by simpa using e)] at hf
   exact⟨_,isW (by unfold InR;omega),⟨k,i+1,acc,a,n,c,rfl,by omega,by omega,hf,O,hacc⟩,by simp [vint];omega⟩
  rw [if_neg (by simpa using e)] at hf
  refine⟨_,rd_idx (by kernel_rfl) (by omega) (by omega),?_⟩
  rw [Int.toNat_natCast]
  refine lexer_kind_ok ⟨_,rfl,fun e=>?_,fun e=>?_⟩
  ·rw [if_pos (by have:=of_decide_eq_true e;omega)] at hf
   rw [←hf] at hK
   exact hK none 0 0 hh (OwnV.nil O.le _ _)
  rw [if_neg (by have:=of_decide_eq_false e;omega)] at hf
  have g1:=endW_gt l i
  have g2:=endW_le hlt
  refine lexer_end_ok hlt (by omega) ⟨_,rfl,_,rd_cut (by kernel_rfl) (by omega) (by omega) (by omega),?_⟩
  rw [Int.toNat_natCast,Int.toNat_natCast]
  intro b hb h24
  refine OwnV.append elStr (OwnV.set hb _ O) (HasRow.new _ _ [vs (bs ((l.drop i).take (endW l i - i)))] _) (m:=1) rfl (by simp [Value.oneCell']) (by omega) (by omega) fun a' c' h' O' _ _=>⟨_,_,_,rfl,fun e=>?_,fun e=>?_⟩
  ·rw [if_pos (by simp at e;omega)] at hf
   rw [←hf] at hK
   exact hK none 0 0 h' (OwnV.nil O'.le _ _)
  ·have h80:¬ acc.length+1 > 80:=by simp at e;omega
   rw [if_neg h80] at hf
   refine⟨⟨k,endW l i,acc++[(l.drop i).take (endW l i - i)],a',_,c',rfl,by omega,g2,hf,?_,by simp;omega⟩,by simp [vint];omega⟩
   rw [List.flatMap_append]
   exact O'
 ·have hge:i=l.length:=by simp at e;omega
  have:lexF l k i acc=(acc,0):=by
   cases k with
   | zero=>rfl
   | succ k=>rw [lexF,if_pos (by omega)]
  rw [this] at hf
  rw [←hf] at hK
  exact hK a n c hh O
open Go.Txt
def typedF (l:List Nd)(kind:Int):Int:=if exprF l≠0 then exprF l else if (typE l).2≠0 then(typE l).2 else if kind≠0∧(typE l).1≠kind∧(typE l).1≠0 then 3 else 0
def numsF (q:Qy):Int:=
 if q.size < 1∨q.size > 1000∨q.slide < 1∨q.slide > 1000∨q.delay < 0∨q.delay > 1000∨q.late < 0∨q.late > 1000 then 1
 else if q.slide > q.size∨q.size > 4*q.slide then 3 else 0
def aggF (a:Ag):Int:=if a.1 < 1∨a.1 > 5∨(a.1=1∧a.2≠[]) then 3 else if a.1=1 then 0 else typedF a.2 (if a.1=2 then 0 else 1)
def firstF:List Int→Int
 | []=>0
 | f :: l=>if f≠0 then f else firstF l
def tailF (q:Qy):Int:=firstF [if q.wh=[] then 0 else typedF q.wh 2,if q.by_=[] then 0 else typedF q.by_ 0,numsF q]
def qryF (q:Qy):Int:=if q.aggs.length < 1∨q.aggs.length > 4 then 2 else if firstF (q.aggs.map aggF)≠0 then firstF (q.aggs.map aggF) else tailF q
def parseW (ws:List Wd):Qy × Int:=if (readQ ws).2.f≠0 then(noQ,(readQ ws).2.f) else if qryF (readQ ws).1≠0 then(noQ,qryF (readQ ws).1) else((readQ ws).1,0)
def parseQ (s:List UInt8):Qy × Int:=if (wordsL s).2≠0 then(noQ,(wordsL s).2) else parseW (wordsL s).1
theorem firstF_skip {l:List Int}{f:Int}{r:List Int}(h:∀ x ∈ l,x=0)(hf:f≠0):firstF (l++f :: r)=f:=by
 induction l with
 | nil=>rw [List.nil_append,firstF,if_pos hf]
 | cons x l ih=>
  have hx:=h x (List.mem_cons_self ..)
  rw [List.cons_append,firstF,if_neg (by rw [hx];decide)]
  exact ih fun y hy=>h y (List.mem_cons_of_mem _ hy)
theorem firstF_zero {l:List Int}(h:∀ x ∈ l,x=0):firstF l=0:=by
 induction l with
 | nil=>rfl
 | cons x l ih=>
  rw [firstF,if_neg (by rw [h x (List.mem_cons_self ..)];decide)]
  exact ih fun y hy=>h y (List.mem_cons_of_mem _ hy)
theorem firstF_all {l:List Int}(h:firstF l=0):∀ x ∈ l,x=0:=by
 induction l with
 | nil=>intro x hx;cases hx
 | cons y l ih=>
  rw [firstF] at h
  intro x hx
  split at h
  ·rename_i q;exact absurd h q
  ·rename_i q
   rcases List.mem_cons.1 hx with rfl|hx
   ·omega
   ·exact ih h x hx
theorem firstF_at {α:Type}{g:α→Int}{l:List α}{i:Nat}{x:α}(h:∀ y ∈ l.take i,g y=0)(hx:l[i]?=some x)(hf:g x≠0):firstF (l.map g)=g x:=by
 obtain⟨hi,rfl⟩:=List.getElem?_eq_some_iff.1 hx
 have e:l=l.take i++l[i] :: l.drop (i+1):=by rw [←List.drop_eq_getElem_cons,List.take_append_drop]
 have e2:=congrArg (List.map g) e
 rw [List.map_append,List.map_cons] at e2
 rw [e2]
 have h2:=firstF_skip (l:=(l.take i).map g) (f:=g l[i]) (r:=(l.drop (i+1)).map g) (fun y hy=>by
  obtain⟨z,hz,rfl⟩:=List.mem_map.1 hy
  exact h z hz) hf
 exact h2
def endQ (L:List Ag)(wh by_:List Nd)(s:RS):Qy × RS:=
 let z:=(s.must wWindow).number 1000
 let sl:=optN wSlide z.1 z.2
 let d:=optN wDelay 0 sl.2
 let t:=optN wLate 0 d.2
 (⟨L,wh,by_,z.1,sl.1,d.1,t.1⟩,if t.2.f=0∧t.2.ws≠[] then t.2.fail 4 else t.2)
def byQ (o:Ps)(L:List Ag)(wh:List Nd)(s:RS):Qy × RS:=
 let g:=optP wGroup (fun s=>o (s.must wBy)) s
 endQ L wh g.1 g.2
def restQ (o:Ps)(L:List Ag)(s:RS):Qy × RS:=
 let w:=optP wWhere o ((s.must wFrom).must wEvents)
 byQ o L w.1 w.2
def firstA (o:Ps)(ws:List Wd):Ag × RS:=aggP o ((⟨ws,0,0⟩:RS).must wSelect)
def allA (o:Ps)(ws:List Wd):List Ag × RS:=aggsP o ((firstA o ws).2.ws.length+1) [(firstA o ws).1] (firstA o ws).2
theorem readQ_eq (ws:List Wd):readQ ws=restQ (allP (ws.length+1)).o (allA (allP (ws.length+1)).o ws).1 (allA (allP (ws.length+1)).o ws).2:=by
 unfold readQ
 generalize (allP (ws.length+1)).o=o
 rfl
theorem lexF_words (l:List UInt8):∀(k i:Nat) (acc:List (List UInt8)),acc.length≤80→(∀ w ∈ acc,w.length≤l.length)→(lexF l k i acc).1.length≤80∧∀ w ∈ (lexF l k i acc).1,w.length≤l.length
 | 0,i,acc,h1,h2=>⟨h1,h2⟩
 | k+1,i,acc,h1,h2=>by
  rw [lexF]
  split
  ·exact⟨h1,h2⟩
  ·split
   ·exact lexF_words l k _ acc h1 h2
   ·split
    ·exact⟨by simp,by simp⟩
    ·split
     ·exact⟨by simp,by simp⟩
     ·refine lexF_words l k _ _ (by rw [List.length_append];simp;omega) fun w hw=>?_
      rcases List.mem_append.1 hw with h3|h3
      ·exact h2 w h3
      ·rw [List.mem_singleton.1 h3,List.length_take,List.length_drop]
       omega
theorem wordsL_words (l:List UInt8):(wordsL l).1.length≤80∧∀ w ∈ (wordsL l).1,w.length≤240:=by
 unfold wordsL
 split
 ·exact⟨by simp,by simp⟩
 ·have:=lexF_words l (l.length+1) 0 [] (by simp) (by simp)
  exact⟨this.1,fun w hw=>Nat.le_trans (this.2 w hw) (by omega)⟩
theorem goes_optN {s:RS}(h:s.good)(w:Wd)(d:Int):Goes (optN w d s).2 s:=by
 unfold optN
 split
 ·exact Goes.refl h
 ·exact(goes_is h _).trans (goes_number (goes_is h _).ok _)
theorem allA_ok (ws:List Wd):(∀ a ∈ (allA (allP (ws.length+1)).o ws).1,NdsOK a.2):=by
 have ho:=(keeps_all (ws.length+1)).1
 have g0:(⟨ws,0,0⟩:RS).good:=fun h=>absurd rfl h
 have g1:=goes_must g0 wSelect
 have l1:((⟨ws,0,0⟩:RS).must wSelect).ws.length≤ws.length+1:=Nat.le_trans g1.len (Nat.le_succ _)
 have g2:=goes_agg ho g1.ok l1
 have g3:=goes_aggs ho ((firstA (allP (ws.length+1)).o ws).2.ws.length+1) [(firstA (allP (ws.length+1)).o ws).1] g2.1.ok (Nat.le_trans g2.1.len l1) (by
  intro a ha
  rw [List.mem_singleton.1 ha]
  exact g2.2)
 exact g3.2
end Go.Proofs.YtiflgceoamkmnaaGreatDoor
namespace Go.Proofs.YtiflgceoamkmnaaGreatDoor
open Go Go.Vc
def VC_window_Starts (u0:Int)(u1:Int)(u2:Int)(h:Hp)(R:Value→Hp→Prop):Prop:=
 ((u2≠0∧InR (Int.tdiv u0 u2))∧(∃ x1,(IsW x1 ((Int.tdiv u0 u2)*u2))∧(let J5:Int→Prop:=fun x7=>(∃(I9:List Value→Hp→Prop) (m10:List Value→Hp→Nat),I9 [vsl none 0 0,vi x7] h∧∀ vs11 h12,I9 vs11 h12→∃ a13 n13 c13 x14,vs11=[vsl a13 n13 c13,vi x14]∧(∃ x15,(IsW x15 (u0 - u1))∧(((decide (x14 > x15))=true→(∀ b18,h12 b18=none→let h19:= Hp.set h12 b18 (cellsO [vi x14] 3);(SemOK Tryz.prog (Builtin.append_ #[50,50] 50 #[(vsl (some ⟨b18,0,none⟩) 1 1),vsl a13 n13 c13]) h19 fun v20 h21=>∃ a22 n22 c22,v20=(vsl a22 n22 c22)∧(∃ x24,(IsW x24 (x14 - u2))∧(I9 [vsl a22 n22 c22,vi x24] h21∧m10 [vsl a22 n22 c22,vi x24] h21 < m10 vs11 h12)))))∧((decide (x14 > x15))=false→R (vsl a13 n13 c13) h12))));(((decide (u0 < x1))=true→(∃ x2,(IsW x2 (x1 - u2))∧(J5 x2)))∧((decide (u0 < x1))=false→(J5 x1))))))
theorem ok_window_Starts {u0 u1 u2 h R}(H:VC_window_Starts u0 u1 u2 h R):CallOK Tryz.prog 46 [vi u0,vi u1,vi u2] h R:=
 call_of (cfg:=⟨[],[(6,([7,9],[.one (.slice),.one (.int .i64)],[]))],[]⟩) noNG mixed Tryz.func46 [.one (.v (vi u0)),.one (.v (vi u1)),.one (.v (vi u2))] (by kernel_rfl) rfl (by kernel_rfl) H
def mulOf (slide x:Int):Bool:=decide (x.tmod slide=0)
def startsOf (at_ size slide:Int):List Int:=upto (mulOf slide) (at_ - size) size.toNat
theorem mulOf_dvd {slide x:Int}:mulOf slide x=true↔slide ∣ x:=by
 unfold mulOf
 rw [decide_eq_true_iff]
 exact(Int.dvd_iff_tmod_eq_zero).symm
theorem mulOf_between {slide x y:Int}(hs:1≤slide)(hx:mulOf slide x=true)(h1:x < y)(h2:y < x+slide):mulOf slide y=false:=by
 rw [←Bool.not_eq_true]
 intro hy
 rw [mulOf_dvd] at hx hy
 obtain⟨u,rfl⟩:=hx
 obtain⟨v,rfl⟩:=hy
 have h3:u < v:=by
  rcases Int.lt_or_le u v with h|h
  ·exact h
  ·have:=Int.mul_le_mul_of_nonneg_left h (show (0:Int)≤slide by omega);omega
 have h4:slide*(u+1)≤slide*v:=Int.mul_le_mul_of_nonneg_left h3 (by omega)
 rw [Int.mul_add] at h4
 omega
def VC_gather_New (u0:Int)(h:Hp)(R:Value→Hp→Prop):Prop:=
 R (vag [vi u0,vi 0,vi 0,vi 0]) h
theorem ok_gather_New {u0 h R}(H:VC_gather_New u0 h R):CallOK Tryz.prog 75 [vi u0] h R:=
 call_of (cfg:=⟨[],[],[]⟩) noNG mixed Tryz.func75 [.one (.v (vi u0))] (by kernel_rfl) rfl (by kernel_rfl) H
def VC_gather_Acc_Add (u0:Int)(u1:Int)(u2:Int)(u3:Int)(u4:Int)(u5:Int)(h:Hp)(R:Value→Hp→Prop):Prop:=
 (((bif (decide (u0≠1)) then(decide (u4=0)) else false)=true→R (vag [vi u0,vi u1,vi u2,vi u3]) h)∧((bif (decide (u0≠1)) then(decide (u4=0)) else false)=false→(let J4:Int→Prop:=fun x7=>(∃ x8,(IsW x8 (u1+1))∧(∃ x9,(IsW x9 (u2+u5))∧R (vag [vi u0,vi x8,vi x9,vi x7]) h));(((bif (bif (decide (u1=0)) then true else(bif (decide (u0=4)) then(decide (u5 < u3)) else false)) then true else(bif (decide (u0=5)) then(decide (u5 > u3)) else false))=true→(J4 u5))∧((bif (bif (decide (u1=0)) then true else(bif (decide (u0=4)) then(decide (u5 < u3)) else false)) then true else(bif (decide (u0=5)) then(decide (u5 > u3)) else false))=false→(J4 u3))))))
theorem ok_gather_Acc_Add {u0 u1 u2 u3 u4 u5 h R}(H:VC_gather_Acc_Add u0 u1 u2 u3 u4 u5 h R):CallOK Tryz.prog 121 [vag [vi u0,vi u1,vi u2,vi u3],vag [vi u4,vi u5]] h R:=
 call_of (cfg:=⟨[],[],[]⟩) noNG mixed Tryz.func121 [.ag [.v (vi u0),.v (vi u1),.v (vi u2),.v (vi u3)],.ag [.v (vi u4),.v (vi u5)]] (by kernel_rfl) rfl (by kernel_rfl) H
def VC_gather_Acc_Value (u0:Int)(u1:Int)(u2:Int)(u3:Int)(h:Hp)(R:Value→Hp→Prop):Prop:=
 (((bif (decide (u0=1)) then true else(decide (u0=2)))=true→(CallOK Tryz.prog 142 [vi u1] h fun v1 h2=>∃ x3 x4,v1=(vag [vi x3,vi x4])∧R (vag [vi x3,vi x4]) h2))∧((bif (decide (u0=1)) then true else(decide (u0=2)))=false→(((decide (u1=0))=true→(CallOK Tryz.prog 120 [] h fun v5 h6=>∃ x7 x8,v5=(vag [vi x7,vi x8])∧R (vag [vi x7,vi x8]) h6))∧((decide (u1=0))=false→(((decide (u0=3))=true→(CallOK Tryz.prog 142 [vi u2] h fun v9 h10=>∃ x11 x12,v9=(vag [vi x11,vi x12])∧R (vag [vi x11,vi x12]) h10))∧((decide (u0=3))=false→(CallOK Tryz.prog 142 [vi u3] h fun v14 h15=>∃ x16 x17,v14=(vag [vi x16,vi x17])∧R (vag [vi x16,vi x17]) h15)))))))
theorem ok_gather_Acc_Value {u0 u1 u2 u3 h R}(H:VC_gather_Acc_Value u0 u1 u2 u3 h R):CallOK Tryz.prog 104 [vag [vi u0,vi u1,vi u2,vi u3]] h R:=
 call_of (cfg:=⟨[],[],[]⟩) noNG mixed Tryz.func104 [.ag [.v (vi u0),.v (vi u1),.v (vi u2),.v (vi u3)]] (by kernel_rfl) rfl (by kernel_rfl) H
def gStep (k:Int)(s:Int × Int × Int)(v:Int × Int):Int × Int × Int:=
 if k≠1∧v.1=0 then s else(s.1+1,s.2.1+v.2,if s.1=0∨(k=4∧v.2 < s.2.2)∨(k=5∧v.2 > s.2.2) then v.2 else s.2.2)
def gVal (k:Int)(s:Int × Int × Int):Int × Int:=
 if k=1∨k=2 then numV s.1 else if s.1=0 then(0,0) else if k=3 then numV s.2.1 else numV s.2.2
def encA (k:Int)(s:Int × Int × Int):List Value:=[vi k,vi s.1,vi s.2.1,vi s.2.2]
theorem gather_New_ok {k:Int}{h:Hp}{R:Value→Hp→Prop}(hK:R (vag (encA k (0,0,0))) h):CallOK Tryz.prog 75 [vi k] h R:=ok_gather_New hK
def gStepW (k:Int)(s:Int × Int × Int)(v:Int × Int):Int × Int × Int:=
 if k≠1∧v.1=0 then s else(IntKind.i64.wrap (s.1+1),IntKind.i64.wrap (s.2.1+v.2),if s.1=0∨(k=4∧v.2 < s.2.2)∨(k=5∧v.2 > s.2.2) then v.2 else s.2.2)
theorem gStepW_eq {k:Int}{s:Int × Int × Int}{v:Int × Int}(h1:InR (s.1+1))(h2:InR (s.2.1+v.2)):gStepW k s v=gStep k s v:=by
 unfold gStepW gStep
 rw [←(isW h1:_=_),←(isW h2:_=_)]
theorem gather_AddW_ok {k:Int}{s:Int × Int × Int}{v:Int × Int}{h:Hp}{R:Value→Hp→Prop}(hK:R (vag (encA k (gStepW k s v))) h) :
  CallOK Tryz.prog 121 [vag (encA k s),vag (encV v)] h R:=by
 obtain⟨n,sum,best⟩:=s
 obtain⟨vk,vn⟩:=v
 refine ok_gather_Acc_Add ?_
 unfold VC_gather_Acc_Add
 simp only [gStepW] at hK
 refine⟨fun e=>?_,fun e=>?_⟩
 ·simp [Bool.cond_eq_ite] at e
  rw [if_pos e] at hK
  exact hK
 ·have e':¬(k≠1∧vk=0):=by simpa [Bool.cond_eq_ite] using e
  rw [if_neg e'] at hK
  refine⟨fun e=>?_,fun e=>?_⟩
  ·have e2:n=0∨(k=4∧vn < best)∨(k=5∧vn > best):=by simp [Bool.cond_eq_ite] at e;omega
   rw [if_pos e2] at hK
   exact⟨_,rfl,_,rfl,hK⟩
  ·have e2:¬(n=0∨(k=4∧vn < best)∨(k=5∧vn > best)):=by simp [Bool.cond_eq_ite] at e;omega
   rw [if_neg e2] at hK
   exact⟨_,rfl,_,rfl,hK⟩
theorem gather_Add_ok {k:Int}{s:Int × Int × Int}{v:Int × Int}{h:Hp}{R:Value→Hp→Prop}(h1:InR (s.1+1))(h2:InR (s.2.1+v.2))(hK:R (vag (encA k (gStep k s v))) h) :
  CallOK Tryz.prog 121 [vag (encA k s),vag (encV v)] h R:=gather_AddW_ok (by rw [gStepW_eq h1 h2];exact hK)
theorem gather_Value_ok {k:Int}{s:Int × Int × Int}{h:Hp}{R:Value→Hp→Prop}(hK:R (vag (encV (gVal k s))) h):CallOK Tryz.prog 104 [vag (encA k s)] h R:=by
 obtain⟨n,sum,best⟩:=s
 refine ok_gather_Acc_Value ?_
 unfold VC_gather_Acc_Value
 simp only [gVal] at hK
 refine⟨fun e=>?_,fun e=>⟨fun e2=>?_,fun e2=>⟨fun e3=>?_,fun e3=>?_⟩⟩⟩
 ·have e:k=1∨k=2:=by simp [Bool.cond_eq_ite] at e;omega
  rw [if_pos e] at hK
  exact value_Number_ok ⟨_,_,rfl,hK⟩
 all_goals have e:¬(k=1∨k=2):=by simp [Bool.cond_eq_ite] at e;omega
 all_goals rw [if_neg e] at hK
 ·have e2:n=0:=by simpa using e2
  rw [if_pos e2] at hK
  exact value_Null_ok ⟨_,_,rfl,hK⟩
 all_goals have e2:¬ n=0:=by simpa using e2
 all_goals rw [if_neg e2] at hK
 ·have e3:k=3:=by simpa using e3
  rw [if_pos e3] at hK
  exact value_Number_ok ⟨_,_,rfl,hK⟩
 ·have e3:¬ k=3:=by simpa using e3
  rw [if_neg e3] at hK
  exact value_Number_ok ⟨_,_,rfl,hK⟩
theorem gfold_bound {k:Int}:∀(l:List (Int × Int)) (s:Int × Int × Int),(∀ v ∈ l,smallV v)→0≤s.1 →
  s.1≤(l.foldl (gStep k) s).1∧(l.foldl (gStep k) s).1≤s.1+l.length∧s.2.1 - l.length*1000000000≤(l.foldl (gStep k) s).2.1∧(l.foldl (gStep k) s).2.1≤s.2.1+l.length*1000000000
 | [],s,_,h0=>by simp
 | v :: l,s,hv,h0=>by
  have h1:=hv v (by simp)
  unfold smallV at h1
  have h2:s.1≤(gStep k s v).1∧(gStep k s v).1≤s.1+1∧s.2.1 - 1000000000≤(gStep k s v).2.1∧(gStep k s v).2.1≤s.2.1+1000000000:=by
   unfold gStep
   split<;>simp<;>omega
  have h3:=gfold_bound (k:=k) l (gStep k s v) (fun u hu=>hv u (by simp [hu])) (by omega)
  rw [List.foldl_cons,List.length_cons]
  push_cast
  omega
abbrev Vl:=Int × Int
abbrev PK:=Int × Vl
abbrev Ad:=PK × List Vl
def asksQ (q:Qy)(e:EvL):Bool:=decide (q.wh=[])||decide (valE e q.wh=truthV true)
def keyQ (q:Qy)(e:EvL):Vl:=if q.by_=[] then(0,0) else valE e q.by_
def valsQ (q:Qy)(e:EvL):List Vl:=q.aggs.map fun a=>if a.1=1 then(0,0) else valE e a.2
def lateQ (q:Qy)(far s:Int):Bool:=decide (0≤far)&&decide (s+q.size+q.late≤far - q.delay)
def farL (l:List EvL):Int:=l.foldl (fun m e=>max m e.1) (-1)
def addS (q:Qy)(far:Int)(e:EvL)(ss:List Int):List Ad:=(ss.filter fun s=>!lateQ q far s).map fun s=>((s,keyQ q e),valsQ q e)
def lateS (q:Qy)(far:Int)(ss:List Int):Nat:=(ss.filter (lateQ q far)).length
def addE (q:Qy)(far:Int)(e:EvL):List Ad:=if asksQ q e then addS q far e (startsOf e.1 q.size q.slide) else []
def lateE (q:Qy)(far:Int)(e:EvL):Nat:=if asksQ q e then lateS q far (startsOf e.1 q.size q.slide) else 0
def addP (q:Qy):Int→List EvL→List Ad
 | _,[]=>[]
 | far,e :: l=>addE q far e++addP q (max far e.1) l
def lateP (q:Qy):Int→List EvL→Nat
 | _,[]=>0
 | far,e :: l=>lateE q far e+lateP q (max far e.1) l
def addA (q:Qy)(ps:List (List EvL)):List Ad:=ps.flatMap (addP q (-1))
def lateA (q:Qy)(ps:List (List EvL)):Nat:=(ps.map (lateP q (-1))).sum
theorem addP_snoc (q:Qy):∀(l:List EvL) (far:Int) (e:EvL),addP q far (l++[e])=addP q far l++addE q (l.foldl (fun m e=>max m e.1) far) e
 | [],far,e=>by simp [addP]
 | x :: l,far,e=>by rw [List.cons_append,addP,addP_snoc q l,addP,List.append_assoc];rfl
theorem lateP_snoc (q:Qy):∀(l:List EvL) (far:Int) (e:EvL),lateP q far (l++[e])=lateP q far l+lateE q (l.foldl (fun m e=>max m e.1) far) e
 | [],far,e=>by simp [lateP]
 | x :: l,far,e=>by rw [List.cons_append,lateP,lateP_snoc q l,lateP,Nat.add_assoc];rfl
theorem addA_snoc (q:Qy)(ps:List (List EvL))(p:List EvL):addA q (ps++[p])=addA q ps++addP q (-1) p:=by simp [addA]
theorem lateA_snoc (q:Qy)(ps:List (List EvL))(p:List EvL):lateA q (ps++[p])=lateA q ps+lateP q (-1) p:=by simp [lateA]
theorem addS_snoc (q:Qy)(far:Int)(e:EvL)(ss:List Int)(s:Int):addS q far e (ss++[s])=addS q far e ss++if lateQ q far s then [] else [((s,keyQ q e),valsQ q e)]:=by
 unfold addS
 rw [List.filter_append,List.map_append]
 cases h:lateQ q far s<;>simp [h]
theorem lateS_snoc (q:Qy)(far:Int)(ss:List Int)(s:Int):lateS q far (ss++[s])=lateS q far ss+if lateQ q far s then 1 else 0:=by
 unfold lateS
 rw [List.filter_append,List.length_append]
 cases h:lateQ q far s<;>simp [h]
def keysU (A:List Ad):List PK:=A.foldl (fun ks a=>if a.1 ∈ ks then ks else ks++[a.1]) []
theorem keysU_snoc (A:List Ad)(a:Ad):keysU (A++[a])=if a.1 ∈ keysU A then keysU A else keysU A++[a.1]:=by
 unfold keysU
 rw [List.foldl_append]
 rfl
def rowsOf (A:List Ad)(k:PK):List (List Vl):=(A.filter fun a=>a.1=k).map (·.2)
theorem rowsOf_snoc (A:List Ad)(a:Ad)(k:PK):rowsOf (A++[a]) k=rowsOf A k++if a.1=k then [a.2] else []:=by
 unfold rowsOf
 rw [List.filter_append,List.map_append]
 by_cases h:a.1=k<;>simp [h]
theorem snocInd {α:Type}{P:List α→Prop}(h0:P [])(h1:∀ l x,P l→P (l++[x]))(l:List α):P l:=by
 have key:∀ l:List α,P l.reverse:=by
  intro l
  induction l with
  | nil=>exact h0
  | cons x l ih=>rw [List.reverse_cons];exact h1 _ _ ih
 have:=key l.reverse
 rwa [List.reverse_reverse] at this
theorem keysU_nodup (A:List Ad):(keysU A).Nodup:=by
 induction A using snocInd with
 | h0=>exact List.nodup_nil
 | h1 A a ih=>
  rw [keysU_snoc]
  split
  ·exact ih
  ·rename_i h
   refine List.nodup_append.2 ⟨ih,by simp,?_⟩
   intro x hx y hy
   rw [List.mem_singleton.1 hy]
   intro e
   exact h (e▸hx)
theorem keysU_mem (A:List Ad)(k:PK):k ∈ keysU A↔∃ a ∈ A,a.1=k:=by
 induction A using snocInd with
 | h0=>simp [keysU]
 | h1 A a ih=>
  rw [keysU_snoc]
  by_cases h:a.1 ∈ keysU A
  ·rw [if_pos h,ih]
   constructor
   ·rintro⟨x,hx,e⟩;exact⟨x,List.mem_append_left _ hx,e⟩
   ·rintro⟨x,hx,e⟩
    rcases List.mem_append.1 hx with h2|h2
    ·exact⟨x,h2,e⟩
    ·rw [List.mem_singleton.1 h2] at e
     rw [e] at h
     exact ih.1 h
  ·rw [if_neg h,List.mem_append,ih]
   constructor
   ·rintro(⟨x,hx,e⟩|h2)
    ·exact⟨x,List.mem_append_left _ hx,e⟩
    ·exact⟨a,by simp,(List.mem_singleton.1 h2).symm⟩
   ·rintro⟨x,hx,e⟩
    rcases List.mem_append.1 hx with h2|h2
    ·exact .inl ⟨x,h2,e⟩
    ·rw [List.mem_singleton.1 h2] at e;exact .inr (by rw [e];simp)
theorem rowsOf_new {A:List Ad}{k:PK}(h:k ∉ keysU A):rowsOf A k=[]:=by
 unfold rowsOf
 rw [List.map_eq_nil_iff,List.filter_eq_nil_iff]
 intro a ha e
 exact h ((keysU_mem A k).2 ⟨a,ha,by simpa using e⟩)
def aheadK (a b:PK):Prop:=a.1 < b.1∨(a.1=b.1∧(a.2.1 < b.2.1∨(a.2.1=b.2.1∧a.2.2 < b.2.2)))
instance (a b:PK):Decidable (aheadK a b):=by unfold aheadK;infer_instance
theorem aheadK_irr (a:PK):¬ aheadK a a:=by unfold aheadK;omega
theorem aheadK_trans {a b c:PK}(h:aheadK a b)(h2:aheadK b c):aheadK a c:=by unfold aheadK at *;omega
theorem aheadK_tri {a b:PK}(h:¬ aheadK a b)(h2:¬ aheadK b a):a=b:=by
 obtain⟨a1,a2,a3⟩:=a
 obtain⟨b1,b2,b3⟩:=b
 unfold aheadK at h h2
 simp only at h h2
 have e1:a1=b1:=by omega
 have e2:a2=b2:=by omega
 have e3:a3=b3:=by omega
 rw [e1,e2,e3]
def insK (k:PK):List PK→List PK
 | []=>[k]
 | x :: l=>if aheadK x k then x :: insK k l else if x=k then x :: l else k :: x :: l
def keysS (A:List Ad):List PK:=A.foldl (fun ks a=>insK a.1 ks) []
theorem keysS_snoc (A:List Ad)(a:Ad):keysS (A++[a])=insK a.1 (keysS A):=by
 unfold keysS
 rw [List.foldl_append]
 rfl
theorem insK_mem (k x:PK):∀ l,x ∈ insK k l↔x=k∨x ∈ l
 | []=>by simp [insK]
 | y :: l=>by
  rw [insK]
  split
  ·rw [List.mem_cons,insK_mem k x l,List.mem_cons]
   constructor
   ·rintro(h|h|h)
    ·exact .inr (.inl h)
    ·exact .inl h
    ·exact .inr (.inr h)
   ·rintro(h|h|h)
    ·exact .inr (.inl h)
    ·exact .inl h
    ·exact .inr (.inr h)
  ·split
   ·rename_i h1 h2
    subst h2
    simp
   ·rw [List.mem_cons]
theorem insK_sorted (k:PK):∀{l:List PK},l.Pairwise aheadK→(insK k l).Pairwise aheadK
 | [],_=>by simp [insK]
 | y :: l,h=>by
  obtain⟨h1,h2⟩:=List.pairwise_cons.1 h
  rw [insK]
  split
  ·rename_i hy
   refine List.pairwise_cons.2 ⟨fun x hx=>?_,insK_sorted k h2⟩
   rcases (insK_mem k x l).1 hx with e|hx
   ·rw [e];exact hy
   ·exact h1 x hx
  ·split
   ·exact h
   ·rename_i h3 h4
    have hk:aheadK k y:=Decidable.byContradiction fun q=>h4 (aheadK_tri h3 q)
    refine List.pairwise_cons.2 ⟨fun x hx=>?_,h⟩
    rcases List.mem_cons.1 hx with rfl|hx
    ·exact hk
    ·exact aheadK_trans hk (h1 x hx)
theorem keysS_sorted (A:List Ad):(keysS A).Pairwise aheadK:=by
 induction A using snocInd with
 | h0=>exact List.Pairwise.nil
 | h1 A a ih=>rw [keysS_snoc];exact insK_sorted _ ih
theorem keysS_mem (A:List Ad)(k:PK):k ∈ keysS A↔∃ a ∈ A,a.1=k:=by
 induction A using snocInd with
 | h0=>simp [keysS]
 | h1 A a ih=>
  rw [keysS_snoc,insK_mem,ih]
  constructor
  ·rintro(e|⟨x,hx,e⟩)
   ·exact⟨a,by simp,e.symm⟩
   ·exact⟨x,List.mem_append_left _ hx,e⟩
  ·rintro⟨x,hx,e⟩
   rcases List.mem_append.1 hx with h2|h2
   ·exact .inr ⟨x,h2,e⟩
   ·rw [List.mem_singleton.1 h2] at e;exact .inl e.symm
theorem sorted_nodup {l:List PK}(h:l.Pairwise aheadK):l.Nodup:=by
 unfold List.Nodup
 refine List.Pairwise.imp (fun {a b} (hab:aheadK a b)=>?_) h
 intro e
 rw [e] at hab
 exact aheadK_irr b hab
theorem keys_perm (A:List Ad):(keysS A).Perm (keysU A):=(List.perm_ext_iff_of_nodup (sorted_nodup (keysS_sorted A)) (keysU_nodup A)).2 fun k=>by rw [keysS_mem,keysU_mem]
theorem sorted_eq {A:List Ad}{l:List PK}(p:l.Perm (keysU A))(h:l.Pairwise fun x y=>¬ aheadK y x):l=keysS A:=by
 have p2:=p.trans (keys_perm A).symm
 have h2:(keysS A).Pairwise fun x y=>¬ aheadK y x:=(keysS_sorted A).imp fun {a b} hab q=>aheadK_irr a (aheadK_trans hab q)
 exact p2.eq_of_pairwise (fun a b _ _ h1 h2=>aheadK_tri h2 h1) h h2
abbrev AcS:=Int × (Int × Int × Int)
def accP (acs:List AcS)(r:List Vl):List AcS:=List.zipWith (fun a v=>(a.1,gStep a.1 a.2 v)) acs r
def acc0 (ks:List Int):List AcS:=ks.map fun k=>(k,(0,0,0))
def accsOf (ks:List Int)(rs:List (List Vl)):List AcS:=rs.foldl accP (acc0 ks)
def outV (ks:List Int)(rs:List (List Vl)):List Vl:=(accsOf ks rs).map fun a=>gVal a.1 a.2
def colP (cs:List (List Vl))(r:List Vl):List (List Vl):=List.zipWith (fun c v=>c++[v]) cs r
def colsOf (n:Nat)(rs:List (List Vl)):List (List Vl):=rs.foldl colP (List.replicate n [])
def accF (k:Int)(c:List Vl):AcS:=(k,c.foldl (gStep k) (0,0,0))
theorem accsOf_snoc (ks:List Int)(rs:List (List Vl))(r:List Vl):accsOf ks (rs++[r])=accP (accsOf ks rs) r:=by unfold accsOf;rw [List.foldl_append];rfl
theorem colsOf_snoc (n:Nat)(rs:List (List Vl))(r:List Vl):colsOf n (rs++[r])=colP (colsOf n rs) r:=by unfold colsOf;rw [List.foldl_append];rfl
theorem colP_len {cs:List (List Vl)}{r:List Vl}(h:r.length=cs.length):(colP cs r).length=cs.length:=by unfold colP;rw [List.length_zipWith];omega
theorem colsOf_len {n:Nat}{rs:List (List Vl)}(h:∀ r ∈ rs,r.length=n):(colsOf n rs).length=n:=by
 induction rs using snocInd with
 | h0=>simp [colsOf]
 | h1 rs r ih=>
  have h2:=ih fun x hx=>h x (List.mem_append_left _ hx)
  rw [colsOf_snoc,colP_len (by rw [h2];exact h r (by simp)),h2]
theorem acc_cols (ks:List Int){rs:List (List Vl)}(h:∀ r ∈ rs,r.length=ks.length):accsOf ks rs=List.zipWith accF ks (colsOf ks.length rs):=by
 induction rs using snocInd with
 | h0=>
  show acc0 ks=List.zipWith accF ks (List.replicate ks.length [])
  induction ks with
  | nil=>rfl
  | cons k ks ih=>
   simp only [acc0,List.map_cons,List.length_cons,List.replicate_succ,List.zipWith_cons_cons]
   rw [show List.map (fun k=>((k,(0,0,0)):AcS)) ks=acc0 ks from rfl,ih (fun r hr=>by cases hr)]
   rfl
 | h1 rs r ih=>
  have h2:=ih fun x hx=>h x (List.mem_append_left _ hx)
  have hl:=colsOf_len (n:=ks.length) (rs:=rs) fun x hx=>h x (List.mem_append_left _ hx)
  have hr:=h r (by simp)
  rw [accsOf_snoc,colsOf_snoc,h2]
  generalize colsOf ks.length rs=cs at hl
  clear ih h2 h
  unfold accP colP
  induction ks generalizing cs r with
  | nil=>rfl
  | cons k ks ih=>
   match cs,r,hl,hr with
   | c :: cs,v :: r,hl,hr=>
    simp only [List.zipWith_cons_cons,List.length_cons,Nat.add_right_cancel_iff] at hl hr ⊢
    rw [ih r (by omega) cs (by omega)]
    congr 1
    unfold accF
    rw [List.foldl_append]
    rfl
def kindsQ (q:Qy):List Int:=q.aggs.map (·.1)
def ansA (q:Qy)(A:List Ad):List (PK × List Vl):=(keysS A).map fun k=>(k,outV (kindsQ q) (rowsOf A k))
def ansQ (q:Qy)(ps:List (List EvL)):List (PK × List Vl):=ansA q (addA q ps)
theorem addS_len {q:Qy}{far:Int}{e:EvL}{ss:List Int}:∀ a ∈ addS q far e ss,a.2.length=q.aggs.length:=by
 intro a ha
 unfold addS at ha
 obtain⟨s,_,rfl⟩:=List.mem_map.1 ha
 simp [valsQ]
end Go.Proofs.YtiflgceoamkmnaaGreatDoor
namespace Go.Proofs
open Go.Shelf
def Tryz.lays172_ren:Go.Shelf.Ren:=⟨fun|172=>133|244=>167|245=>168|247=>188|279=>189|280=>190|281=>191|282=>192|287=>198|316=>199|171=>201|205=>200|321=>204|322=>205|243=>206|246=>208|283=>210|284=>211|285=>212|286=>213|129=>162|317=>215|318=>216|319=>217|320=>218|337=>219|338=>220|n=>n,fun|9=>9|3=>3|75=>33|76=>186|4=>4|5=>5|167=>244|37=>245|0=>0|85=>246|2=>2|168=>248|53=>223|175=>254|46=>191|210=>258|127=>262|145=>265|143=>263|21=>21|171=>267|173=>269|212=>274|51=>221|20=>20|213=>275|232=>276|233=>277|80=>201|n=>n,fun|15=>1|16=>2|17=>5|18=>6|19=>7|n=>n⟩
def Tryz.laysM246_ren:Go.Shelf.Ren:=⟨fun|246=>208|283=>210|284=>211|285=>212|286=>213|129=>162|317=>215|318=>216|319=>217|320=>218|337=>219|338=>220|n=>n,fun|2=>2|3=>3|9=>9|4=>4|171=>267|0=>0|53=>223|37=>245|5=>5|173=>269|212=>274|51=>221|20=>20|213=>275|46=>191|232=>276|233=>277|n=>n,fun|17=>5|18=>6|19=>7|n=>n⟩
def Tryz.laysM243_ren:Go.Shelf.Ren:=⟨fun|243=>206|246=>208|283=>210|284=>211|285=>212|286=>213|129=>162|317=>215|318=>216|319=>217|320=>218|337=>219|338=>220|n=>n,fun|3=>3|9=>9|2=>2|4=>4|171=>267|0=>0|53=>223|37=>245|5=>5|173=>269|212=>274|51=>221|20=>20|213=>275|46=>191|232=>276|233=>277|n=>n,fun|17=>5|18=>6|19=>7|n=>n⟩
def Tryz.laysM171_ren:Go.Shelf.Ren:=⟨fun|171=>201|243=>206|246=>208|283=>210|284=>211|285=>212|286=>213|129=>162|317=>215|318=>216|319=>217|320=>218|337=>219|338=>220|n=>n,fun|3=>3|9=>9|2=>2|4=>4|171=>267|0=>0|53=>223|37=>245|5=>5|173=>269|212=>274|51=>221|20=>20|213=>275|46=>191|232=>276|233=>277|n=>n,fun|17=>5|18=>6|19=>7|n=>n⟩
theorem Tryz.laysM171:Go.Proofs.LaysM.n171 Tryz.prog Tryz.laysM171_ren:={
 mixed:=by kernel_rfl
 f129:=Tryz.func162.trans (congrArg some (by kernel_rfl))
 f171:=Tryz.func201.trans (congrArg some (by kernel_rfl))
 f243:=Tryz.func206.trans (congrArg some (by kernel_rfl))
 f246:=Tryz.func208.trans (congrArg some (by kernel_rfl))
 f283:=Tryz.func210.trans (congrArg some (by kernel_rfl))
 f284:=Tryz.func211.trans (congrArg some (by kernel_rfl))
 f285:=Tryz.func212.trans (congrArg some (by kernel_rfl))
 f286:=Tryz.func213.trans (congrArg some (by kernel_rfl))
 f317:=Tryz.func215.trans (congrArg some (by kernel_rfl))
 f318:=Tryz.func216.trans (congrArg some (by kernel_rfl))
 f319:=Tryz.func217.trans (congrArg some (by kernel_rfl))
 f320:=Tryz.func218.trans (congrArg some (by kernel_rfl))
 f337:=Tryz.func219.trans (congrArg some (by kernel_rfl))
 f338:=Tryz.func220.trans (congrArg some (by kernel_rfl))
 t0:=Tryz.underlying0
 a0:=Tryz.isAgg0
 z0:=Tryz.sizeOf0
 v0:=Tryz.zeroValue0
 t2:=Tryz.underlying2
 a2:=Tryz.isAgg2
 z2:=Tryz.sizeOf2
 v2:=Tryz.zeroValue2
 t3:=Tryz.underlying3
 a3:=Tryz.isAgg3
 z3:=Tryz.sizeOf3
 v3:=Tryz.zeroValue3
 t4:=Tryz.underlying4
 a4:=Tryz.isAgg4
 z4:=Tryz.sizeOf4
 v4:=Tryz.zeroValue4
 t5:=Tryz.underlying5
 a5:=Tryz.isAgg5
 z5:=Tryz.sizeOf5
 v5:=Tryz.zeroValue5
 t9:=Tryz.underlying9
 a9:=Tryz.isAgg9
 z9:=Tryz.sizeOf9
 v9:=Tryz.zeroValue9
 t20:=Tryz.underlying20
 a20:=Tryz.isAgg20
 z20:=Tryz.sizeOf20
 v20:=Tryz.zeroValue20
 t37:=Tryz.underlying245
 a37:=Tryz.isAgg245
 z37:=Tryz.sizeOf245
 v37:=Tryz.zeroValue245
 t46:=Tryz.underlying191
 a46:=Tryz.isAgg191
 z46:=Tryz.sizeOf191
 v46:=Tryz.zeroValue191
 t51:=Tryz.underlying221
 a51:=Tryz.isAgg221
 z51:=Tryz.sizeOf221
 v51:=Tryz.zeroValue221
 t53:=Tryz.underlying223
 a53:=Tryz.isAgg223
 z53:=Tryz.sizeOf223
 v53:=Tryz.zeroValue223
 t171:=Tryz.underlying267
 a171:=Tryz.isAgg267
 z171:=Tryz.sizeOf267
 v171:=Tryz.zeroValue267
 t173:=Tryz.underlying269
 a173:=Tryz.isAgg269
 z173:=Tryz.sizeOf269
 v173:=Tryz.zeroValue269
 t212:=Tryz.underlying274
 a212:=Tryz.isAgg274
 z212:=Tryz.sizeOf274
 v212:=Tryz.zeroValue274
 t213:=Tryz.underlying275
 a213:=Tryz.isAgg275
 z213:=Tryz.sizeOf275
 t232:=Tryz.underlying276
 a232:=Tryz.isAgg276
 z232:=Tryz.sizeOf276
 v232:=Tryz.zeroValue276
 t233:=Tryz.underlying277
 a233:=Tryz.isAgg277
 z233:=Tryz.sizeOf277
 v233:=Tryz.zeroValue277
 g17:=by kernel_rfl
 g18:=by kernel_rfl
 g19:=by kernel_rfl
 i0:=by kernel_rfl
 i2:=by kernel_rfl
 i3:=by kernel_rfl
 i4:=by kernel_rfl
 i5:=by kernel_rfl
 i9:=by kernel_rfl
 i20:=by kernel_rfl
 i37:=by kernel_rfl
 i46:=by kernel_rfl
 i51:=by kernel_rfl
 i53:=by kernel_rfl
 i171:=by kernel_rfl
 i173:=by kernel_rfl
 i212:=by kernel_rfl
 i232:=by kernel_rfl
 i233:=by kernel_rfl
 m17:=by kernel_rfl
 m18:=by kernel_rfl
 m19:=by kernel_rfl }
open Go.RowKit Go.Sort Go.Lib in
theorem Tryz.strconv_Itoa (n:Int)(h0:-9223372036854775808≤n)(h1:n≤9223372036854775807)(w:World)(htab:Lib.TabIs Tryz.prog w "internal/strconv.uint64pow10" .u64 Lib.pow10Tab) :
  Calls Tryz.prog 201 #[.int .i64 n] w fun e w'=>e=.returned (.string ⟨(Lib.itoa n).toArray⟩)∧∃ k os,w'=grow (w.drewN k) os:=Any.strconv_Itoa Tryz.laysM171 n h0 h1 w htab
def Tryz.laysC172_ren:Go.Shelf.Ren:=⟨fun|172=>133|244=>167|245=>168|247=>188|279=>189|280=>190|281=>191|282=>192|287=>198|316=>199|171=>201|205=>200|321=>204|322=>205|243=>206|246=>208|283=>210|284=>211|285=>212|286=>213|129=>162|317=>215|318=>216|319=>217|320=>218|337=>219|338=>220|n=>n,fun|9=>9|3=>3|75=>33|76=>186|4=>4|5=>5|167=>244|37=>245|0=>0|85=>246|2=>2|168=>248|53=>223|175=>254|46=>191|210=>258|127=>262|145=>265|143=>263|21=>21|171=>267|173=>269|212=>274|51=>221|20=>20|213=>275|232=>276|233=>277|80=>201|n=>n,fun|15=>1|16=>2|17=>5|18=>6|19=>7|n=>n⟩
theorem Tryz.laysC172:Go.Proofs.LaysC.n172 Tryz.prog Tryz.laysC172_ren:={
 mixed:=by kernel_rfl
 f129:=Tryz.func162.trans (congrArg some (by kernel_rfl))
 f171:=Tryz.func201.trans (congrArg some (by kernel_rfl))
 f172:=Tryz.func133.trans (congrArg some (by kernel_rfl))
 f205:=Tryz.func200.trans (congrArg some (by kernel_rfl))
 f243:=Tryz.func206.trans (congrArg some (by kernel_rfl))
 f244:=Tryz.func167.trans (congrArg some (by kernel_rfl))
 f245:=Tryz.func168.trans (congrArg some (by kernel_rfl))
 f246:=Tryz.func208.trans (congrArg some (by kernel_rfl))
 f247:=Tryz.func188.trans (congrArg some (by kernel_rfl))
 f279:=Tryz.func189.trans (congrArg some (by kernel_rfl))
 f280:=Tryz.func190.trans (congrArg some (by kernel_rfl))
 f281:=Tryz.func191.trans (congrArg some (by kernel_rfl))
 f282:=Tryz.func192.trans (congrArg some (by kernel_rfl))
 f283:=Tryz.func210.trans (congrArg some (by kernel_rfl))
 f284:=Tryz.func211.trans (congrArg some (by kernel_rfl))
 f285:=Tryz.func212.trans (congrArg some (by kernel_rfl))
 f286:=Tryz.func213.trans (congrArg some (by kernel_rfl))
 f287:=Tryz.func198.trans (congrArg some (by kernel_rfl))
 f316:=Tryz.func199.trans (congrArg some (by kernel_rfl))
 f317:=Tryz.func215.trans (congrArg some (by kernel_rfl))
 f318:=Tryz.func216.trans (congrArg some (by kernel_rfl))
 f319:=Tryz.func217.trans (congrArg some (by kernel_rfl))
 f320:=Tryz.func218.trans (congrArg some (by kernel_rfl))
 f321:=Tryz.func204.trans (congrArg some (by kernel_rfl))
 f322:=Tryz.func205.trans (congrArg some (by kernel_rfl))
 f337:=Tryz.func219.trans (congrArg some (by kernel_rfl))
 f338:=Tryz.func220.trans (congrArg some (by kernel_rfl))
 t0:=Tryz.underlying0
 a0:=Tryz.isAgg0
 z0:=Tryz.sizeOf0
 v0:=Tryz.zeroValue0
 t2:=Tryz.underlying2
 a2:=Tryz.isAgg2
 z2:=Tryz.sizeOf2
 v2:=Tryz.zeroValue2
 t3:=Tryz.underlying3
 a3:=Tryz.isAgg3
 z3:=Tryz.sizeOf3
 v3:=Tryz.zeroValue3
 t4:=Tryz.underlying4
 a4:=Tryz.isAgg4
 z4:=Tryz.sizeOf4
 v4:=Tryz.zeroValue4
 t5:=Tryz.underlying5
 a5:=Tryz.isAgg5
 z5:=Tryz.sizeOf5
 v5:=Tryz.zeroValue5
 t9:=Tryz.underlying9
 a9:=Tryz.isAgg9
 z9:=Tryz.sizeOf9
 v9:=Tryz.zeroValue9
 t20:=Tryz.underlying20
 a20:=Tryz.isAgg20
 z20:=Tryz.sizeOf20
 v20:=Tryz.zeroValue20
 t21:=Tryz.underlying21
 a21:=Tryz.isAgg21
 z21:=Tryz.sizeOf21
 v21:=Tryz.zeroValue21
 t37:=Tryz.underlying245
 a37:=Tryz.isAgg245
 z37:=Tryz.sizeOf245
 v37:=Tryz.zeroValue245
 t46:=Tryz.underlying191
 a46:=Tryz.isAgg191
 z46:=Tryz.sizeOf191
 v46:=Tryz.zeroValue191
 t51:=Tryz.underlying221
 a51:=Tryz.isAgg221
 z51:=Tryz.sizeOf221
 v51:=Tryz.zeroValue221
 t53:=Tryz.underlying223
 a53:=Tryz.isAgg223
 z53:=Tryz.sizeOf223
 v53:=Tryz.zeroValue223
 t75:=Tryz.underlying33
 a75:=Tryz.isAgg33
 z75:=Tryz.sizeOf33
 v75:=Tryz.zeroValue33
 t76:=Tryz.underlying186
 a76:=Tryz.isAgg186
 z76:=Tryz.sizeOf186
 v76:=Tryz.zeroValue186
 t85:=Tryz.underlying246
 a85:=Tryz.isAgg246
 z85:=Tryz.sizeOf246
 v85:=Tryz.zeroValue246
 t127:=Tryz.underlying262
 a127:=Tryz.isAgg262
 z127:=Tryz.sizeOf262
 v127:=Tryz.zeroValue262
 t143:=Tryz.underlying263
 a143:=Tryz.isAgg263
 z143:=Tryz.sizeOf263
 v143:=Tryz.zeroValue263
 t145:=Tryz.underlying265
 a145:=Tryz.isAgg265
 z145:=Tryz.sizeOf265
 v145:=Tryz.zeroValue265
 t167:=Tryz.underlying244
 a167:=Tryz.isAgg244
 z167:=Tryz.sizeOf244
 v167:=Tryz.zeroValue244
 t168:=Tryz.underlying248
 a168:=Tryz.isAgg248
 z168:=Tryz.sizeOf248
 v168:=Tryz.zeroValue248
 t171:=Tryz.underlying267
 a171:=Tryz.isAgg267
 z171:=Tryz.sizeOf267
 v171:=Tryz.zeroValue267
 t173:=Tryz.underlying269
 a173:=Tryz.isAgg269
 z173:=Tryz.sizeOf269
 v173:=Tryz.zeroValue269
 t175:=Tryz.underlying254
 a175:=Tryz.isAgg254
 z175:=Tryz.sizeOf254
 v175:=Tryz.zeroValue254
 t210:=Tryz.underlying258
 a210:=Tryz.isAgg258
 z210:=Tryz.sizeOf258
 v210:=Tryz.zeroValue258
 t212:=Tryz.underlying274
 a212:=Tryz.isAgg274
 z212:=Tryz.sizeOf274
 v212:=Tryz.zeroValue274
 t213:=Tryz.underlying275
 a213:=Tryz.isAgg275
 z213:=Tryz.sizeOf275
 t232:=Tryz.underlying276
 a232:=Tryz.isAgg276
 z232:=Tryz.sizeOf276
 v232:=Tryz.zeroValue276
 t233:=Tryz.underlying277
 a233:=Tryz.isAgg277
 z233:=Tryz.sizeOf277
 v233:=Tryz.zeroValue277
 g15:=by kernel_rfl
 g16:=by kernel_rfl
 g17:=by kernel_rfl
 g18:=by kernel_rfl
 g19:=by kernel_rfl
 t80:=Tryz.underlying201
 a80:=Tryz.isAgg201
 z80:=Tryz.sizeOf201
 v80:=Tryz.zeroValue201
 i0:=by kernel_rfl
 i2:=by kernel_rfl
 i3:=by kernel_rfl
 i4:=by kernel_rfl
 i5:=by kernel_rfl
 i9:=by kernel_rfl
 i20:=by kernel_rfl
 i21:=by kernel_rfl
 i37:=by kernel_rfl
 i46:=by kernel_rfl
 i51:=by kernel_rfl
 i53:=by kernel_rfl
 i75:=by kernel_rfl
 i76:=by kernel_rfl
 i80:=by kernel_rfl
 i85:=by kernel_rfl
 i127:=by kernel_rfl
 i143:=by kernel_rfl
 i145:=by kernel_rfl
 i167:=by kernel_rfl
 i168:=by kernel_rfl
 i171:=by kernel_rfl
 i173:=by kernel_rfl
 i175:=by kernel_rfl
 i210:=by kernel_rfl
 i212:=by kernel_rfl
 i232:=by kernel_rfl
 i233:=by kernel_rfl
 m15:=by kernel_rfl
 m16:=by kernel_rfl
 m17:=by kernel_rfl
 m18:=by kernel_rfl
 m19:=by kernel_rfl
 c0:=by kernel_rfl
 c2:=by kernel_rfl
 c3:=by kernel_rfl
 c4:=by kernel_rfl
 c5:=by kernel_rfl
 c9:=by kernel_rfl
 c20:=by kernel_rfl
 c21:=by kernel_rfl
 c37:=by kernel_rfl
 c46:=by kernel_rfl
 c51:=by kernel_rfl
 c53:=by kernel_rfl
 c75:=by kernel_rfl
 c76:=by kernel_rfl
 c80:=by kernel_rfl
 c85:=by kernel_rfl
 c127:=by kernel_rfl
 c143:=by kernel_rfl
 c145:=by kernel_rfl
 c167:=by kernel_rfl
 c168:=by kernel_rfl
 c171:=by kernel_rfl
 c173:=by kernel_rfl
 c175:=by kernel_rfl
 c210:=by kernel_rfl
 c212:=by kernel_rfl
 c213:=by kernel_rfl
 c232:=by kernel_rfl
 c233:=by kernel_rfl }
open Go.RowKit in
theorem Tryz.strconv_Atoi_ok (s:ByteArray)(hmax:s.size≤9223372036854775806)(v:Int)(h:Lib.atoiAll s.data.toList=.ok v)(w:World) :
  Calls Tryz.prog 133 #[.string s] w fun e w'=>e=.returned (.tuple #[.int .i64 v,.nilIface])∧(w'=w∨∃ t,w'=Lib.bytesWorld w 5 t):=Any.strconv_Atoi_ok Tryz.laysC172 s hmax v h w
def Tryz.sortPanes_ren:Go.Shelf.Ren:=⟨fun|6=>77|15=>123|14=>122|28=>161|29=>162|20=>153|21=>154|22=>155|23=>156|24=>157|25=>158|26=>159|27=>160|46=>179|47=>180|48=>181|49=>182|50=>183|57=>195|n=>n,fun|22=>59|24=>79|25=>144|3=>3|39=>191|0=>0|53=>221|55=>223|4=>4|46=>215|45=>214|50=>67|5=>5|9=>9|66=>236|70=>240|76=>252|77=>230|n=>n,fun|n=>n⟩
theorem Tryz.sortPanes:Go.Proofs.SlLaysF0.n6 Tryz.prog Tryz.sortPanes_ren:={
 mixed:=by kernel_rfl
 f6:=⟨Tryz.f77.name,by decide,Tryz.func77.trans (congrArg some (by kernel_rfl))⟩
 f14:=⟨Tryz.f122.name,by decide,Tryz.func122.trans (congrArg some (by kernel_rfl))⟩
 f15:=Tryz.func123.trans (congrArg some (by kernel_rfl))
 f20:=⟨Tryz.f153.name,by decide,Tryz.func153.trans (congrArg some (by kernel_rfl))⟩
 f21:=⟨Tryz.f154.name,by decide,Tryz.func154.trans (congrArg some (by kernel_rfl))⟩
 f22:=⟨Tryz.f155.name,by decide,Tryz.func155.trans (congrArg some (by kernel_rfl))⟩
 f23:=⟨Tryz.f156.name,by decide,Tryz.func156.trans (congrArg some (by kernel_rfl))⟩
 f24:=⟨Tryz.f157.name,by decide,Tryz.func157.trans (congrArg some (by kernel_rfl))⟩
 f25:=⟨Tryz.f158.name,by decide,Tryz.func158.trans (congrArg some (by kernel_rfl))⟩
 f26:=⟨Tryz.f159.name,by decide,Tryz.func159.trans (congrArg some (by kernel_rfl))⟩
 f27:=⟨Tryz.f160.name,by decide,Tryz.func160.trans (congrArg some (by kernel_rfl))⟩
 f28:=Tryz.func161.trans (congrArg some (by kernel_rfl))
 f29:=Tryz.func162.trans (congrArg some (by kernel_rfl))
 f46:=⟨Tryz.f179.name,by decide,Tryz.func179.trans (congrArg some (by kernel_rfl))⟩
 f47:=Tryz.func180.trans (congrArg some (by kernel_rfl))
 f48:=Tryz.func181.trans (congrArg some (by kernel_rfl))
 f49:=⟨Tryz.f182.name,by decide,Tryz.func182.trans (congrArg some (by kernel_rfl))⟩
 f50:=⟨Tryz.f183.name,by decide,Tryz.func183.trans (congrArg some (by kernel_rfl))⟩
 f57:=⟨Tryz.f195.name,by decide,Tryz.func195.trans (congrArg some (by kernel_rfl))⟩
 t0:=Tryz.underlying0
 a0:=Tryz.isAgg0
 z0:=Tryz.sizeOf0
 v0:=Tryz.zeroValue0
 t3:=Tryz.underlying3
 a3:=Tryz.isAgg3
 z3:=Tryz.sizeOf3
 v3:=Tryz.zeroValue3
 t4:=Tryz.underlying4
 a4:=Tryz.isAgg4
 z4:=Tryz.sizeOf4
 v4:=Tryz.zeroValue4
 t5:=Tryz.underlying5
 a5:=Tryz.isAgg5
 z5:=Tryz.sizeOf5
 v5:=Tryz.zeroValue5
 t9:=Tryz.underlying9
 a9:=Tryz.isAgg9
 z9:=Tryz.sizeOf9
 v9:=Tryz.zeroValue9
 t22:=Tryz.underlying59
 a22:=Tryz.isAgg59
 z22:=Tryz.sizeOf59
 v22:=Tryz.zeroValue59
 t25:=Tryz.underlying144
 a25:=Tryz.isAgg144
 z25:=Tryz.sizeOf144
 v25:=Tryz.zeroValue144
 t39:=Tryz.underlying191
 a39:=Tryz.isAgg191
 z39:=Tryz.sizeOf191
 v39:=Tryz.zeroValue191
 t45:=Tryz.underlying214
 a45:=Tryz.isAgg214
 z45:=Tryz.sizeOf214
 v45:=Tryz.zeroValue214
 t46:=Tryz.underlying215
 a46:=Tryz.isAgg215
 z46:=Tryz.sizeOf215
 v46:=Tryz.zeroValue215
 t50:=Tryz.underlying67
 a50:=Tryz.isAgg67
 z50:=Tryz.sizeOf67
 v50:=Tryz.zeroValue67
 t53:=Tryz.underlying221
 a53:=Tryz.isAgg221
 z53:=Tryz.sizeOf221
 v53:=Tryz.zeroValue221
 t55:=Tryz.underlying223
 a55:=Tryz.isAgg223
 z55:=Tryz.sizeOf223
 v55:=Tryz.zeroValue223
 t66:=Tryz.underlying236
 a66:=Tryz.isAgg236
 z66:=Tryz.sizeOf236
 v66:=Tryz.zeroValue236
 t70:=Tryz.underlying240
 a70:=Tryz.isAgg240
 z70:=Tryz.sizeOf240
 v70:=Tryz.zeroValue240
 t76:=Tryz.underlying252
 a76:=Tryz.isAgg252
 z76:=Tryz.sizeOf252
 v76:=Tryz.zeroValue252
 t77:=Tryz.underlying230
 a77:=Tryz.isAgg230
 z77:=Tryz.sizeOf230
 v77:=Tryz.zeroValue230 }
end Go.Proofs
namespace Go.Vc
open Go
section
variable {P:Program}
theorem rd_slice_hm {h:Hp}{t e:TypeId}(ht:P.underlying t=some (.slice e))(hi:(P.info? e).isSome=true){a:Option Addr}{n c:Nat}{x y:Int}(h0:0≤x)(h1:x≤y)(h2:y≤c):Rd P (Instr.sliceAt t (vsl a n c) none (some (vi x)) (some (vi y))) h (vsl a x.toNat y.toNat):=by
 intro w _
 have he:P.elem t=e:=by simp [Program.elem,ht]
 obtain⟨i,hi⟩:=Option.isSome_iff_exists.1 hi
 rw [run_sliceAt_slice w t _ _ _ _ (by rw [he];exact ht),run_slice_hm w t a n c (by rw [he];exact ht) _ _ x y h0 h1 h2,he]
 simp [sizeOf,typeInfo,hi,sliced]
 intro _
 cases a<;>simp [Addr.add]
theorem sem_append_full {h:Hp}{t ty e:TypeId}{sz bytes:Nat}(T:ElT P t e sz bytes){a:Option Addr}{n:Nat}{xs:List Value}(H:HasRow h a xs)(hxs:xs.length=n*sz)(ha:a=none→n=0)
  {a2:Option Addr} {m c2:Nat} {news:List Value} (H2:HasRow h a2 news) (hl:news.length=m*sz) (hm0:0 < m)
  (hb:(n+m)*bytes≤140737488355328) (hm:n+m≤140737488355328) {K:Value→Hp→Prop}
  (hK:∀ a' c' h',OwnV h h' e sz a' (n+m) c' (xs++news)→K (vsl a' (n+m) c') h') :
  SemOK P (Builtin.append_ #[t,t] ty #[vsl a n n,vsl a2 m c2]) h K:=by
 intro w hs
 obtain⟨i,z,hi,hz,rfl,rfl,hzs⟩:=T.el
 have hlen:(xs++news).length=(n+m)*i.size:=by rw [List.length_append,hxs,hl,Nat.add_mul]
 have h63:n+m≤maxLen:=by simp only [maxLen];omega
 have hnn:news≠[]:=fun e=>by
  subst e
  have h0:m*i.size=0:=by simpa using hl.symm
  rcases Nat.mul_eq_zero.1 h0 with h2|h2
  ·omega
  ·have:=T.pos;omega
 obtain⟨b2,o2,rfl,hr2⟩:=(show ∃ b o,a2=some ⟨b,o,none⟩∧h.row b o news.length=some news from H2.resolve_left hnn)
 have hnews:=HasRow.cells hs (a:=⟨b2,o2,none⟩) H2
 have hno:h w.heap.size=none:=Sub.none hs
 have grown:∀ old,old < n+m→OwnV h (h.set w.heap.size (.cells (xs.toArray++news.toArray++Builtin.zeroCells z.cells (grownCap w (n+m) old e - (n+m))) e (0,0))) e i.size (some ⟨w.heap.size,0,none⟩) (n+m) (grownCap w (n+m) old e) (xs++news):=by
  intro old ho
  have hge:=grownCap_ge w (n+m) old e
  have hcm:grownCap w (n+m) old e≤maxLen:=grownCap_le_maxLen w (n+m) old e h63
  refine⟨Hp.le_set (Hp.le_refl h) hno _,⟨hlen,.inr ⟨w.heap.size,_,rfl,Hp.set_same _ _ _,hge,hcm,?_,?_⟩⟩,fun g hg=>?_⟩
  ·simp only [Array.size_append,List.size_toArray,size_zeroCells,hzs,hxs,hl,←Nat.add_mul]
   congr 1
   omega
  ·simp only [Array.toList_append,List.append_assoc]
   rw [←List.append_assoc,←hlen]
   exact List.take_left
  ·cases hg;exact hno
 cases a with
 | none=>
  obtain rfl:=ha rfl
  have hx:xs=[]:=List.eq_nil_of_length_eq_zero (by simpa using hxs)
  subst hx
  have hr:=run_append_nil (P:=P) w t ty e i z T.sl hi hz ⟨b2,o2,none⟩ m c2 news hl hnews (by omega) (by omega) (by simp only [Nat.zero_add] at hb;omega)
  have hgr:=grown 0 (by omega)
  simp only [Nat.zero_add,List.nil_append,Array.empty_append] at hgr hK ⊢
  exact⟨_,_,_,hr,drew_alloc_Sub hs _,drew_alloc_Fr h w _,hK _ _ _ hgr⟩
 | some g=>
  have holds:∀ j u,xs[j]?=some u→w.cell? (g.add j)=some u:=HasRow.cells hs H
  have hr:=run_append_grow (P:=P) w t ty e i z T.sl hi hz g n n xs hxs holds ⟨b2,o2,none⟩ m c2 news hl hnews (by omega) (by omega) (growslice_fits (by omega) hb)
  exact⟨_,_,_,hr,drew_alloc_Sub hs _,drew_alloc_Fr h w _,hK _ _ _ (grown n (by omega))⟩
end
end Go.Vc
namespace Go.Proofs.YtiflgceoamkmnaaGreatDoor
open Go Go.Vc Go.RowKit
theorem callOK_below {f:FuncId}{args:List Value}{h:Hp}{K:Value→Hp→Prop}(H:∀ w,Sub h w→Calls Tryz.prog f args.toArray w fun e w'=>∃ v,e=.returned v∧Below w.heap.size w w'∧K v h):CallOK Tryz.prog f args h K:=by
 intro w hs
 refine(H w hs).mono ?_
 rintro e w' ⟨v,he,hB,hK⟩
 refine⟨v,h,he,fun b o hb=>?_,⟨hB.os,hB.tape,hB.output,hB.size,fun b hb hn=>⟨hB.block b hb,hn⟩⟩,hK⟩
 have:=hs b o hb
 have hlt:=(Array.getElem?_eq_some_iff.1 this).1
 rw [hB.block b hlt]
 exact this
def TabP (h:Hp):Prop:=∀ w,Sub h w→Lib.TabIs Tryz.prog w "internal/strconv.uint64pow10" .u64 Lib.pow10Tab
theorem sub_le {h h':Hp}{w:World}(hl:h.le h')(hs:Sub h' w):Sub h w:=fun b o ho=>hs b o (hl b o ho)
theorem TabP.le {h h':Hp}(T:TabP h)(hl:h.le h'):TabP h':=fun w hs=>T w (sub_le hl hs)
theorem vars_sub {W w:World}{name:String}{cs:Array Value}(hT:W.var? Tryz.prog name=some cs)(hs:Sub (hpOf W) w):w.var? Tryz.prog name=some cs:=by
 unfold World.var? at *
 cases hg:Tryz.prog.globalNamed name with
 | none=>rw [hg] at hT;cases hT
 | some g=>
  rw [hg] at hT
  simp only [Option.bind_some] at hT ⊢
  cases hb:W.heap[g]? with
  | none=>rw [hb] at hT;cases hT
  | some o=>
   rw [hs g o hb]
   rw [hb] at hT
   exact hT
theorem var_sub {W w:World}{name:String}{k:IntKind}{zs:List Int}(hT:Lib.TabIs Tryz.prog W name k zs)(hs:Sub (hpOf W) w):Lib.TabIs Tryz.prog w name k zs:=vars_sub hT hs
theorem below_grow (w:World)(k:Nat)(os:Array Obj):Below w.heap.size w (Go.Sort.grow (w.drewN k) os):=by
 refine⟨rfl,rfl,rfl,?_,fun i hi=>?_⟩
 ·show w.heap.size≤(w.heap++os).size
  rw [Array.size_append]
  omega
 ·show (w.heap++os)[i]?=w.heap[i]?
  rw [Array.getElem?_append_left hi]
theorem strconv_Itoa_ok {n:Int}(hn:InR n){h:Hp}(T:TabP h){R:Value→Hp→Prop}(hK:R (vs (bs (Lib.itoa n))) h):CallOK Tryz.prog 201 [vi n] h R:=
 callOK_below fun w hs=>(Tryz.strconv_Itoa n hn.1 hn.2 w (T w hs)).mono fun e w' ⟨he,k,os,hw⟩=>⟨_,he,by rw [hw];exact below_grow w k os,hK⟩
end Go.Proofs.YtiflgceoamkmnaaGreatDoor
namespace Go.Proofs.YtiflgceoamkmnaaGreatDoor
open Go Go.Vc
def VC_value_Parse (u0:ByteArray)(h:Hp)(R:Value→Hp→Prop):Prop:=
 (∃ p1,(Rd Tryz.prog ((eqGuard .eql 9 (.tmp 6) (.const (vs ⟨#[110,117,108,108]⟩)) (vs u0) (vs ⟨#[110,117,108,108]⟩) >>= fun _=>binOp .eql 9 (vs u0) (vs ⟨#[110,117,108,108]⟩))) h (vb p1))∧((p1=true→(CallOK Tryz.prog 120 [] h fun v2 h3=>∃ x4 x5,v2=(vag [vi x4,vi x5])∧R (vtup [vag [vi x4,vi x5],ifv none]) h3))∧(p1=false→(∃ p6,(Rd Tryz.prog ((eqGuard .eql 9 (.tmp 6) (.const (vs ⟨#[116,114,117,101]⟩)) (vs u0) (vs ⟨#[116,114,117,101]⟩) >>= fun _=>binOp .eql 9 (vs u0) (vs ⟨#[116,114,117,101]⟩))) h (vb p6))∧(let J10:Bool→Prop:=fun p11=>((p11=true→(∃ p12,(Rd Tryz.prog ((eqGuard .eql 9 (.tmp 13) (.const (vs ⟨#[116,114,117,101]⟩)) (vs u0) (vs ⟨#[116,114,117,101]⟩) >>= fun _=>binOp .eql 9 (vs u0) (vs ⟨#[116,114,117,101]⟩))) h (vb p12))∧(CallOK Tryz.prog 32 [vb p12] h fun v13 h14=>∃ x15 x16,v13=(vag [vi x15,vi x16])∧R (vtup [vag [vi x15,vi x16],ifv none]) h14)))∧(p11=false→(CallOK Tryz.prog 133 [vs u0] h fun v18 h19=>∃ x20 e21,v18=(vtup [vi x20,ifv e21])∧(∃(J22:SV→Hp→Prop),((Option.isSome e21)=false→(CallOK Tryz.prog 201 [vi x20] h19 fun v23 h24=>∃ s25,v23=(vs s25)∧J22 (.t (.one (.v (vs s25)))) h24))∧(¬((Option.isSome e21)=false)→J22 (.t (.one (.v (vs ⟨#[]⟩)))) h19)∧∀ h26 s27,J22 (.t (.one (.v (vs s27)))) h26→(∃ p28,((Option.isSome e21)=false→Rd Tryz.prog ((eqGuard .neq 9 (.tmp 25) (.tmp 26) (vs s27) (vs u0) >>= fun _=>binOp .neq 9 (vs s27) (vs u0))) h26 (vb p28))∧(((bif (bif (bif (Option.isSome e21) then true else p28) then true else(decide (x20 < (-1000000000)))) then true else(decide (x20 > 1000000000)))=true→R (vtup [vag [vi 0,vi 0],(ifv (some (99,(vi 4))))]) h26)∧((bif (bif (bif (Option.isSome e21) then true else p28) then true else(decide (x20 < (-1000000000)))) then true else(decide (x20 > 1000000000)))=false→(CallOK Tryz.prog 142 [vi x20] h26 fun v30 h31=>∃ x32 x33,v30=(vag [vi x32,vi x33])∧R (vtup [vag [vi x32,vi x33],ifv none]) h31))))))));((p6=true→(J10 p6))∧(p6=false→(∃ p8,(Rd Tryz.prog ((eqGuard .eql 9 (.tmp 6) (.const (vs ⟨#[102,97,108,115,101]⟩)) (vs u0) (vs ⟨#[102,97,108,115,101]⟩) >>= fun _=>binOp .eql 9 (vs u0) (vs ⟨#[102,97,108,115,101]⟩))) h (vb p8))∧(J10 p8)))))))))
theorem ok_value_Parse {u0 h R}(H:VC_value_Parse u0 h R):CallOK Tryz.prog 214 [vs u0] h R:=
 call_of (cfg:=⟨[],[],[]⟩) noNG mixed Tryz.func214 [.one (.v (vs u0))] (by kernel_rfl) rfl (by kernel_rfl) H
open Go.Txt
structure TabE (h:Hp):Prop where
 a:∃ tp p,∀ w,Sub h w→w.var? Tryz.prog "strconv.ErrSyntax"=some #[.iface tp p]
 b:∃ tp p,∀ w,Sub h w→w.var? Tryz.prog "strconv.ErrRange"=some #[.iface tp p]
theorem TabE.le {h h':Hp}(T:TabE h)(hl:h.le h'):TabE h':=by
 obtain⟨⟨t,p,a⟩,⟨u,q,b⟩⟩:=T
 exact⟨⟨t,p,fun w hs=>a w (sub_le hl hs)⟩,⟨u,q,fun w hs=>b w (sub_le hl hs)⟩⟩
theorem strconv_Atoi_ok {l:List UInt8}(hl:l.length≤1000000){h:Hp}(E:TabE h){R:Value→Hp→Prop}(hY:∀ v,Lib.atoiAll l=.ok v→R (vtup [vi v,ifv none]) h)(hN:(∀ v,Lib.atoiAll l≠.ok v)→∀ x e,R (vtup [vi x,ifv (some e)]) h) :
  CallOK Tryz.prog 133 [vs (bs l)] h R:=by
 have hsz:(bs l).size=l.length:=bs_size l
 have hdl:(bs l).data.toList=l:=by simp [bs]
 obtain⟨⟨t,p,ha⟩,⟨u,q,hb⟩⟩:=E
 refine callOK_below fun w hs=>?_
 cases hA:Lib.atoiAll l
 ·rename_i v
  refine(Tryz.strconv_Atoi_ok (bs l) (by omega) v (by rw [hdl];exact hA) w).mono ?_
  rintro e w' ⟨he,hw⟩
  refine⟨_,he,?_,hY v hA⟩
  rcases hw with rfl|⟨t,rfl⟩
  ·exact RowKit.Below.refl _ _
  ·exact Lib.bytesWorld_below _ _ _
 ·refine(Any.strconv_Atoi_syntax_var Tryz.laysC172 (bs l) (by omega) (by rw [hdl];exact hA) t p w (ha w hs)).mono ?_
  rintro e w' ⟨N,he,_,_,hB⟩
  exact⟨_,he,hB,hN (fun v e=>by rw [hA] at e;cases e) _ (_,_)⟩
 ·refine(Any.strconv_Atoi_range_var Tryz.laysC172 (bs l) (by omega) (by rw [hdl];exact hA) u q w (hb w hs)).mono ?_
  rintro e w' ⟨N,he,_,_,hB⟩
  exact⟨_,he,hB,hN (fun v e=>by rw [hA] at e;cases e) _ (_,_)⟩
def readV (l:List UInt8):(Int × Int) × Int:=
 if l=wNull then((0,0),0) else if l=wTrue∨l=wFalse then(truthV (decide (l=wTrue)),0) else
  match Lib.atoiAll l with
  | .ok v=>if Lib.itoa v=l∧-1000000000≤v∧v≤1000000000 then(numV v,0) else((0,0),4)
  | _=>((0,0),4)
theorem value_Parse_ok {l:List UInt8}(hl:l.length≤1000000){h:Hp}(T:TabP h)(E:TabE h){R:Value→Hp→Prop}(hK:R (vtup [vag (encV (readV l).1),ifv (errV (readV l).2)]) h):CallOK Tryz.prog 214 [vs (bs l)] h R:=by
 refine ok_value_Parse ?_
 unfold VC_value_Parse
 refine⟨_,rd_eqBs (b:=wNull),fun g=>?_,fun g1=>?_⟩
 ·have g:=of_decide_eq_true g
  have:readV l=((0,0),0):=by unfold readV;rw [if_pos g]
  rw [this] at hK
  exact value_Null_ok ⟨_,_,rfl,hK⟩
 have g1:=of_decide_eq_false g1
 refine⟨_,rd_eqBs (b:=wTrue),?_⟩
 intro J10
 have yes:l=wTrue∨l=wFalse→J10 true:=by
  intro hw
  refine⟨fun _=>⟨_,rd_eqBs (b:=wTrue),?_⟩,fun g=>by cases g⟩
  have:readV l=(truthV (decide (l=wTrue)),0):=by unfold readV;rw [if_neg g1,if_pos hw]
  rw [this] at hK
  exact value_Truth_ok ⟨_,_,rfl,hK⟩
 have no:¬(l=wTrue∨l=wFalse)→J10 false:=by
  intro hw
  refine⟨fun g=>by (cases g),fun _=>?_⟩
  have hr:readV l=match Lib.atoiAll l with
   | .ok v=>if Lib.itoa v=l∧-1000000000≤v∧v≤1000000000 then(numV v,0) else((0,0),4)
   | _=>((0,0),4):=by unfold readV;rw [if_neg g1,if_neg hw]
  refine strconv_Atoi_ok hl E (fun v hv=>⟨_,_,rfl,?_⟩) fun hn x e=>⟨_,_,rfl,?_⟩
  ·rw [hv] at hr
   simp only at hr
   have hb:=Lib.atoiAll_bounds hv
   refine⟨fun x h'=>h'=h∧x=.t (.one (.v (vs (bs (Lib.itoa v))))),fun _=>strconv_Itoa_ok (by unfold InR;omega) T ⟨_,rfl,rfl,rfl⟩,fun g=>absurd rfl g,?_⟩
   rintro h26 s27 ⟨rfl,e⟩
   cases e
   refine⟨_,fun _=>rd_neBs (a:=Lib.itoa v) (b:=l),fun g=>?_,fun g=>?_⟩
   ·have:¬(Lib.itoa v=l∧-1000000000≤v∧v≤1000000000):=by
     rintro⟨h1,h2,h3⟩
     rw [decide_eq_true h1,decide_eq_false (show ¬ v < -1000000000 by omega),decide_eq_false (show ¬ v > 1000000000 by omega)] at g
     cases g
    rw [hr,if_neg this] at hK
    exact hK
   ·have:Lib.itoa v=l∧-1000000000≤v∧v≤1000000000:=by
     obtain⟨g,g3⟩:=bor_false g
     obtain⟨g,g2⟩:=bor_false g
     obtain⟨_,g⟩:=bor_false g
     have g3:=of_decide_eq_false g3
     have g2:=of_decide_eq_false g2
     exact⟨by simpa using g,by omega,by omega⟩
    rw [hr,if_pos this] at hK
    exact value_Number_ok ⟨_,_,rfl,hK⟩
  ·have hr2:readV l=((0,0),4):=by
    rw [hr]
    cases hA:Lib.atoiAll l
    ·exact absurd hA (hn _)
    ·rfl
    ·rfl
   rw [hr2] at hK
   refine⟨fun x h'=>h'=h∧∃ s,x=.t (.one (.v (vs s))),fun g=>by (cases g),fun _=>⟨rfl,_,rfl⟩,?_⟩
   rintro h26 s27 ⟨rfl,s,e⟩
   cases e
   exact⟨false,fun g=>by (cases g),fun _=>hK,fun g=>by cases g⟩
 clear_value J10
 refine⟨fun g=>?_,fun g2=>⟨_,rd_eqBs (b:=wFalse),?_⟩⟩
 ·rw [g];exact yes (.inl (of_decide_eq_true g))
 ·have g2:=of_decide_eq_false g2
  by_cases hf:l=wFalse
  ·rw [decide_eq_true hf];exact yes (.inr hf)
  ·rw [decide_eq_false hf];exact no (by rintro(h|h);exact g2 h;exact hf h)
end Go.Proofs.YtiflgceoamkmnaaGreatDoor
namespace Go.Proofs.YtiflgceoamkmnaaGreatDoor
open Go Go.Vc
def VC_query_reader_fail (u0 u1:Nat)(u2:Option (TypeId × Value))(h:Hp)(R:Value→Hp→Prop):Prop:=
 (∃ e1,(Hp.cell h u0 (u1+2)=some (ifv e1))∧(let J5:Hp→Prop:=fun h6=>(Hp.store h6 u0 u1 [vsl none 0 0] fun h7=>R (vtup []) h7);(((Option.isNone e1)=true→(Hp.store h u0 (u1+2) [ifv u2] fun h2=>(J5 h2)))∧((Option.isNone e1)=false→(J5 h)))))
theorem ok_query_reader_fail {u0 u1 u2 h R}(H:VC_query_reader_fail u0 u1 u2 h R):CallOK Tryz.prog 128 [vhp u0 u1,ifv u2] h R:=
 call_of (cfg:=⟨[],[],[]⟩) noNG mixed Tryz.func128 [.one (.hp u0 u1),.one (.ifc u2)] (by kernel_rfl) rfl (by kernel_rfl) H
def VC_query_reader_is (u0 u1:Nat)(u2:Option Addr)(u3 u4:Nat)(h:Hp)(R:Value→Hp→Prop):Prop:=
 (∃ a1 n1 c1,(Hp.cell h u0 u1=some (vsl a1 n1 c1))∧(∃ a2 n2 c2,((decide ((n1:Int)=0))=false→Hp.cell h u0 u1=some (vsl a2 n2 c2))∧(∃ b3 o4,((decide ((n1:Int)=0))=false→(a2=some ⟨b3,o4,none⟩∧(0:Int)≤0∧0 < (n2:Int)))∧(∃ s5,((decide ((n1:Int)=0))=false→Hp.cell h b3 (o4+(0:Int).toNat*1)=some (vs s5))∧(∃(J6:SV→Hp→Prop),((decide ((n1:Int)=0))=false→(CallOK Tryz.prog 130 [vsl u2 u3 u4,vs s5] h fun v7 h8=>∃ p9,v7=(vb p9)∧J6 (.t (.one (.v (vb p9)))) h8))∧(¬((decide ((n1:Int)=0))=false)→J6 (.t (.one (.v (vb false)))) h)∧∀ h10 p11,J6 (.t (.one (.v (vb p11)))) h10→(((bif (decide ((n1:Int)=0)) then true else(!p11))=true→R (vs ⟨#[]⟩) h10)∧((bif (decide ((n1:Int)=0)) then true else(!p11))=false→(∃ a13 n13 c13,(Hp.cell h10 u0 u1=some (vsl a13 n13 c13))∧(∃ b14 o15,(a13=some ⟨b14,o15,none⟩∧(0:Int)≤0∧0 < (n13:Int))∧(∃ s16,(Hp.cell h10 b14 (o15+(0:Int).toNat*1)=some (vs s16))∧(∃ a17 n17 c17,(Hp.cell h10 u0 u1=some (vsl a17 n17 c17))∧(∃ a18 n18 c18,(Rd Tryz.prog (Instr.sliceAt 145 (vsl a17 n17 c17) (some (vi 1)) none none) h10 (vsl a18 n18 c18))∧(Hp.store h10 u0 u1 [vsl a18 n18 c18] fun h19=>R (vs s16) h19)))))))))))))
theorem ok_query_reader_is {u0 u1 u2 u3 u4 h R}(H:VC_query_reader_is u0 u1 u2 u3 u4 h R):CallOK Tryz.prog 83 [vhp u0 u1,vsl u2 u3 u4] h R:=
 call_of (cfg:=⟨[],[],[]⟩) noNG mixed Tryz.func83 [.one (.hp u0 u1),.one (.v (vsl u2 u3 u4))] (by kernel_rfl) rfl (by kernel_rfl) H
def VC_query_reader_must (u0 u1:Nat)(u2:ByteArray)(h:Hp)(R:Value→Hp→Prop):Prop:=
 (∀ b1,h b1=none→let h2:= Hp.set h b1 (cellsO [vs u2] 9);(CallOK Tryz.prog 83 [vhp u0 u1,(vsl (some (⟨b1,0,none⟩:Addr)) 1 1)] h2 fun v3 h4=>∃ s5,v3=(vs s5)∧(∃ p6,(Rd Tryz.prog ((eqGuard .eql 9 (.tmp 7) (.const (vs ⟨#[]⟩)) (vs s5) (vs ⟨#[]⟩) >>= fun _=>binOp .eql 9 (vs s5) (vs ⟨#[]⟩))) h4 (vb p6))∧((p6=true→(CallOK Tryz.prog 128 [vhp u0 u1,(ifv (some (99,(vi 4))))] h4 fun v7 h8=>v7=(vtup [])∧R (vtup []) h8))∧(p6=false→R (vtup []) h4)))))
theorem ok_query_reader_must {u0 u1 u2 h R}(H:VC_query_reader_must u0 u1 u2 h R):CallOK Tryz.prog 81 [vhp u0 u1,vs u2] h R:=
 call_of (cfg:=⟨[],[],[]⟩) noNG mixed Tryz.func81 [.one (.hp u0 u1),.one (.v (vs u2))] (by kernel_rfl) rfl (by kernel_rfl) H
def VC_query_reader_number (u0 u1:Nat)(u2:Int)(h:Hp)(R:Value→Hp→Prop):Prop:=
 (∃ a1 n1 c1,(Hp.cell h u0 u1=some (vsl a1 n1 c1))∧(((decide ((n1:Int)=0))=true→(CallOK Tryz.prog 128 [vhp u0 u1,(ifv (some (99,(vi 4))))] h fun v2 h3=>v2=(vtup [])∧R (vi 0) h3))∧((decide ((n1:Int)=0))=false→(∃ a5 n5 c5,(Hp.cell h u0 u1=some (vsl a5 n5 c5))∧(∃ b6 o7,(a5=some ⟨b6,o7,none⟩∧(0:Int)≤0∧0 < (n5:Int))∧(∃ s8,(Hp.cell h b6 (o7+(0:Int).toNat*1)=some (vs s8))∧(CallOK Tryz.prog 133 [vs s8] h fun v9 h10=>∃ x11 e12,v9=(vtup [vi x11,ifv e12])∧(∃ a13 n13 c13,((Option.isSome e12)=false→Hp.cell h10 u0 u1=some (vsl a13 n13 c13))∧(∃ b14 o15,((Option.isSome e12)=false→(a13=some ⟨b14,o15,none⟩∧(0:Int)≤0∧0 < (n13:Int)))∧(∃ s16,((Option.isSome e12)=false→Hp.cell h10 b14 (o15+(0:Int).toNat*1)=some (vs s16))∧(∃ x17,((Option.isSome e12)=false→Rd Tryz.prog (Instr.index 9 (vs s16) (vi 0)) h10 (vk .u8 x17))∧(∃ a18 n18 c18,((bif (Option.isSome e12) then true else(decide (x17 < 48)))=false→Hp.cell h10 u0 u1=some (vsl a18 n18 c18))∧(∃ b19 o20,((bif (Option.isSome e12) then true else(decide (x17 < 48)))=false→(a18=some ⟨b19,o20,none⟩∧(0:Int)≤0∧0 < (n18:Int)))∧(∃ s21,((bif (Option.isSome e12) then true else(decide (x17 < 48)))=false→Hp.cell h10 b19 (o20+(0:Int).toNat*1)=some (vs s21))∧(∃ x22,((bif (Option.isSome e12) then true else(decide (x17 < 48)))=false→Rd Tryz.prog (Instr.index 9 (vs s21) (vi 0)) h10 (vk .u8 x22))∧(((bif (bif (bif (Option.isSome e12) then true else(decide (x17 < 48))) then true else(decide (x22 > 57))) then true else(decide (x11 > u2)))=true→(CallOK Tryz.prog 128 [vhp u0 u1,(ifv (some (99,(vi 4))))] h10 fun v23 h24=>v23=(vtup [])∧R (vi 0) h24))∧((bif (bif (bif (Option.isSome e12) then true else(decide (x17 < 48))) then true else(decide (x22 > 57))) then true else(decide (x11 > u2)))=false→(∃ a26 n26 c26,(Hp.cell h10 u0 u1=some (vsl a26 n26 c26))∧(∃ a27 n27 c27,(Rd Tryz.prog (Instr.sliceAt 145 (vsl a26 n26 c26) (some (vi 1)) none none) h10 (vsl a27 n27 c27))∧(Hp.store h10 u0 u1 [vsl a27 n27 c27] fun h28=>R (vi x11) h28))))))))))))))))))))
theorem ok_query_reader_number {u0 u1 u2 h R}(H:VC_query_reader_number u0 u1 u2 h R):CallOK Tryz.prog 85 [vhp u0 u1,vi u2] h R:=
 call_of (cfg:=⟨[],[],[]⟩) noNG mixed Tryz.func85 [.one (.hp u0 u1),.one (.v (vi u2))] (by kernel_rfl) rfl (by kernel_rfl) H
def VC_query_leaf (u0:Int)(u1:Int)(u2:Int)(u3:Int)(u4:Int)(u5:Int)(h:Hp)(R:Value→Hp→Prop):Prop:=
 (∀ b1,h b1=none→let h2:= Hp.set h b1 (cellsO [vi u0,vi u1,vi u2,vi u3,vi u4,vi u5] 83);R (vsl (some (⟨b1,0,none⟩:Addr)) 1 1) h2)
theorem ok_query_leaf {u0 u1 u2 u3 u4 u5 h R}(H:VC_query_leaf u0 u1 u2 u3 u4 u5 h R):CallOK Tryz.prog 185 [vag [vi u0,vi u1,vi u2,vi u3,vi u4,vi u5]] h R:=
 call_of (cfg:=⟨[],[],[]⟩) noNG mixed Tryz.func185 [.ag [.v (vi u0),.v (vi u1),.v (vi u2),.v (vi u3),.v (vi u4),.v (vi u5)]] (by kernel_rfl) rfl (by kernel_rfl) H
def VC_query_reader_join (u0 u1:Nat)(u2:Int)(u3:Option Addr)(u4 u5:Nat)(u6:Option Addr)(u7 u8:Nat)(h:Hp)(R:Value→Hp→Prop):Prop:=
 (∃ x1,(IsW x1 ((u4:Int)+(u7:Int)))∧(((decide (x1≥40))=true→(CallOK Tryz.prog 128 [vhp u0 u1,(ifv (some (99,(vi 2))))] h fun v2 h3=>v2=(vtup [])∧(CallOK Tryz.prog 185 [vag [vi 1,vi 0,vi 0,vi 0,vi 0,vi 0]] h3 fun v4 h5=>∃ a6 n6 c6,v4=(vsl a6 n6 c6)∧R (vsl a6 n6 c6) h5)))∧((decide (x1≥40))=false→(CallOK Tryz.prog 112 [vi u2,vsl u3 u4 u5,vsl u6 u7 u8] h fun v8 h9=>∃ a10 n10 c10,v8=(vsl a10 n10 c10)∧R (vsl a10 n10 c10) h9))))
theorem ok_query_reader_join {u0 u1 u2 u3 u4 u5 u6 u7 u8 h R}(H:VC_query_reader_join u0 u1 u2 u3 u4 u5 u6 u7 u8 h R):CallOK Tryz.prog 165 [vhp u0 u1,vi u2,vsl u3 u4 u5,vsl u6 u7 u8] h R:=
 call_of (cfg:=⟨[],[],[]⟩) noNG mixed Tryz.func165 [.one (.hp u0 u1),.one (.v (vi u2)),.one (.v (vsl u3 u4 u5)),.one (.v (vsl u6 u7 u8))] (by kernel_rfl) rfl (by kernel_rfl) H
def VC_query_reader_down (u0 u1:Nat)(u2:Value)(h:Hp)(R:Value→Hp→Prop):Prop:=
 (∃ x1,(Hp.cell h u0 (u1+1)=some (vi x1))∧(∃ x2,(IsW x2 (x1+1))∧(Hp.store h u0 (u1+1) [vi x2] fun h3=>(∃ x4,(Hp.cell h3 u0 (u1+1)=some (vi x4))∧(let J9:Hp→Prop:=fun h10=>(InvOK Tryz.prog u2 [] h10 fun v11 h12=>∃ a13 n13 c13,v11=(vsl a13 n13 c13)∧(∃ x14,(Hp.cell h12 u0 (u1+1)=some (vi x14))∧(∃ x15,(IsW x15 (x14 - 1))∧(Hp.store h12 u0 (u1+1) [vi x15] fun h16=>R (vsl a13 n13 c13) h16))));(((decide (x4 > 12))=true→(CallOK Tryz.prog 128 [vhp u0 u1,(ifv (some (99,(vi 2))))] h3 fun v5 h6=>v5=(vtup [])∧(J9 h6)))∧((decide (x4 > 12))=false→(J9 h3))))))))
theorem ok_query_reader_down {u0 u1 u2 h R}(H:VC_query_reader_down u0 u1 u2 h R):CallOK Tryz.prog 187 [vhp u0 u1,u2] h R:=
 call_of (cfg:=⟨[],[],[]⟩) noNG mixed Tryz.func187 [.one (.hp u0 u1),.one (.v u2)] (by kernel_rfl) rfl (by kernel_rfl) H
def VC_query_reader_atom (u0 u1:Nat)(h:Hp)(R:Value→Hp→Prop):Prop:=
 (∀ b1,h b1=none→let h2:= Hp.set h b1 (cellsO [(vs ⟨#[40]⟩),(vs ⟨#[110,117,108,108]⟩),(vs ⟨#[116,114,117,101]⟩),(vs ⟨#[102,97,108,115,101]⟩),(vs ⟨#[116]⟩),(vs ⟨#[107]⟩),(vs ⟨#[97]⟩),(vs ⟨#[98]⟩)] 9);(CallOK Tryz.prog 83 [vhp u0 u1,(vsl (some (⟨b1,0,none⟩:Addr)) 8 8)] h2 fun v3 h4=>∃ s5,v3=(vs s5)∧(∃ p6,(Rd Tryz.prog ((eqGuard .eql 9 (.tmp 10) (.const (vs ⟨#[40]⟩)) (vs s5) (vs ⟨#[40]⟩) >>= fun _=>binOp .eql 9 (vs s5) (vs ⟨#[40]⟩))) h4 (vb p6))∧((p6=true→(CallOK Tryz.prog 187 [vhp u0 u1,(Value.func (.func 84) #[vhp u0 u1] #[])] h4 fun v7 h8=>∃ a9 n9 c9,v7=(vsl a9 n9 c9)∧(CallOK Tryz.prog 81 [vhp u0 u1,(vs ⟨#[41]⟩)] h8 fun v10 h11=>v10=(vtup [])∧R (vsl a9 n9 c9) h11)))∧(p6=false→(∃ p12,(Rd Tryz.prog ((eqGuard .eql 9 (.tmp 10) (.const (vs ⟨#[110,117,108,108]⟩)) (vs s5) (vs ⟨#[110,117,108,108]⟩) >>= fun _=>binOp .eql 9 (vs s5) (vs ⟨#[110,117,108,108]⟩))) h4 (vb p12))∧(let J18:Bool→Prop:=fun p19=>((p19=true→(CallOK Tryz.prog 214 [vs s5] h4 fun v20 h21=>∃ x22 x23 e24,v20=(vtup [vag [vi x22,vi x23],ifv e24])∧(CallOK Tryz.prog 185 [vag [vi 1,vi 0,vi 0,vi 0,vi x22,vi x23]] h21 fun v25 h26=>∃ a27 n27 c27,v25=(vsl a27 n27 c27)∧R (vsl a27 n27 c27) h26)))∧(p19=false→(∃ p28,(Rd Tryz.prog ((eqGuard .eql 9 (.tmp 10) (.const (vs ⟨#[]⟩)) (vs s5) (vs ⟨#[]⟩) >>= fun _=>binOp .eql 9 (vs s5) (vs ⟨#[]⟩))) h4 (vb p28))∧((p28=true→(CallOK Tryz.prog 85 [vhp u0 u1,vi 1000000000] h4 fun v29 h30=>∃ x31,v29=(vi x31)∧(CallOK Tryz.prog 142 [vi x31] h30 fun v32 h33=>∃ x34 x35,v32=(vag [vi x34,vi x35])∧(CallOK Tryz.prog 185 [vag [vi 1,vi 0,vi 0,vi 0,vi x34,vi x35]] h33 fun v36 h37=>∃ a38 n38 c38,v36=(vsl a38 n38 c38)∧R (vsl a38 n38 c38) h37))))∧(p28=false→(∃ a39 n39 c39,(Hp.cell h4 4 0=some (vsl a39 n39 c39))∧(CallOK Tryz.prog 129 [vsl a39 n39 c39,vs s5] h4 fun v40 h41=>∃ x42,v40=(vi x42)∧(CallOK Tryz.prog 185 [vag [vi 2,vi 0,vi 0,vi x42,vi 0,vi 0]] h41 fun v43 h44=>∃ a45 n45 c45,v43=(vsl a45 n45 c45)∧R (vsl a45 n45 c45) h44))))))));((p12=true→(J18 p12))∧(p12=false→(∃ p14,(Rd Tryz.prog ((eqGuard .eql 9 (.tmp 10) (.const (vs ⟨#[116,114,117,101]⟩)) (vs s5) (vs ⟨#[116,114,117,101]⟩) >>= fun _=>binOp .eql 9 (vs s5) (vs ⟨#[116,114,117,101]⟩))) h4 (vb p14))∧((p14=true→(J18 p14))∧(p14=false→(∃ p16,(Rd Tryz.prog ((eqGuard .eql 9 (.tmp 10) (.const (vs ⟨#[102,97,108,115,101]⟩)) (vs s5) (vs ⟨#[102,97,108,115,101]⟩) >>= fun _=>binOp .eql 9 (vs s5) (vs ⟨#[102,97,108,115,101]⟩))) h4 (vb p16))∧(J18 p16))))))))))))))
theorem ok_query_reader_atom {u0 u1 h R}(H:VC_query_reader_atom u0 u1 h R):CallOK Tryz.prog 209 [vhp u0 u1] h R:=
 call_of (cfg:=⟨[],[],[]⟩) noNG mixed Tryz.func209 [.one (.hp u0 u1)] (by kernel_rfl) rfl (by kernel_rfl) H
def VC_query_reader_unary (u0 u1:Nat)(h:Hp)(R:Value→Hp→Prop):Prop:=
 (∀ b1,h b1=none→let h2:= Hp.set h b1 (cellsO [(vs ⟨#[45]⟩)] 9);(CallOK Tryz.prog 83 [vhp u0 u1,(vsl (some (⟨b1,0,none⟩:Addr)) 1 1)] h2 fun v3 h4=>∃ s5,v3=(vs s5)∧(∃ p6,(Rd Tryz.prog ((eqGuard .eql 9 (.tmp 5) (.const (vs ⟨#[]⟩)) (vs s5) (vs ⟨#[]⟩) >>= fun _=>binOp .eql 9 (vs s5) (vs ⟨#[]⟩))) h4 (vb p6))∧((p6=true→(CallOK Tryz.prog 209 [vhp u0 u1] h4 fun v7 h8=>∃ a9 n9 c9,v7=(vsl a9 n9 c9)∧R (vsl a9 n9 c9) h8))∧(p6=false→(CallOK Tryz.prog 187 [vhp u0 u1,(Value.func (.func 207) #[vhp u0 u1] #[])] h4 fun v11 h12=>∃ a13 n13 c13,v11=(vsl a13 n13 c13)∧(CallOK Tryz.prog 165 [vhp u0 u1,vi 3,vsl a13 n13 c13,vsl none 0 0] h12 fun v14 h15=>∃ a16 n16 c16,v14=(vsl a16 n16 c16)∧R (vsl a16 n16 c16) h15)))))))
theorem ok_query_reader_unary {u0 u1 h R}(H:VC_query_reader_unary u0 u1 h R):CallOK Tryz.prog 207 [vhp u0 u1] h R:=
 call_of (cfg:=⟨[],[],[]⟩) noNG mixed Tryz.func207 [.one (.hp u0 u1)] (by kernel_rfl) rfl (by kernel_rfl) H
def VC_query_reader_row (u0 u1:Nat)(u2:Value)(u3:Value)(u4:Option Addr)(u5 u6:Nat)(h:Hp)(R:Value→Hp→Prop):Prop:=
 (InvOK Tryz.prog u2 [] h fun v1 h2=>∃ a3 n3 c3,v1=(vsl a3 n3 c3)∧(let J26:Option Addr→Nat→Nat→Hp→Prop:=fun a28 n28 c28 h29=>R (vsl a28 n28 c28) h29;(∃(I5:List Value→Hp→Prop) (m6:List Value→Hp→Nat),I5 [vsl a3 n3 c3] h2∧∀ vs7 h8,I5 vs7 h8→∃ a9 n9 c9,vs7=[vsl a9 n9 c9]∧(∃ e10,(Hp.cell h8 u0 (u1+2)=some (ifv e10))∧(((Option.isNone e10)=true→(CallOK Tryz.prog 83 [vhp u0 u1,vsl u4 u5 u6] h8 fun v13 h14=>∃ s15,v13=(vs s15)∧(∃ p16,(Rd Tryz.prog ((eqGuard .eql 9 (.tmp 21) (.const (vs ⟨#[]⟩)) (vs s15) (vs ⟨#[]⟩) >>= fun _=>binOp .eql 9 (vs s15) (vs ⟨#[]⟩))) h14 (vb p16))∧((p16=true→(J26 a9 n9 c9 h14))∧(p16=false→(∃ x19,(Rd Tryz.prog (Instr.lookup 199 u3 (vs s15) false) h14 (vi x19))∧(InvOK Tryz.prog u2 [] h14 fun v20 h21=>∃ a22 n22 c22,v20=(vsl a22 n22 c22)∧((Rd Tryz.prog (Instr.lookup 199 u3 (vs s15) false) h21 (vi x19))∧(CallOK Tryz.prog 165 [vhp u0 u1,vi x19,vsl a9 n9 c9,vsl a22 n22 c22] h21 fun v23 h24=>∃ a25 n25 c25,v23=(vsl a25 n25 c25)∧(I5 [vsl a25 n25 c25] h24∧m6 [vsl a25 n25 c25] h24 < m6 vs7 h8))))))))))∧((Option.isNone e10)=false→(J26 a9 n9 c9 h8)))))))
theorem ok_query_reader_row {u0 u1 u2 u3 u4 u5 u6 h R}(H:VC_query_reader_row u0 u1 u2 u3 u4 u5 u6 h R):CallOK Tryz.prog 131 [vhp u0 u1,u2,u3,vsl u4 u5 u6] h R:=
 call_of (cfg:=⟨[],[(2,([9],[.one (.slice)],[]))],[(5,[0,1,2,3,4,5,6,7,8])]⟩) noNG mixed Tryz.func131 [.one (.hp u0 u1),.one (.v u2),.one (.v u3),.one (.v (vsl u4 u5 u6))] (by kernel_rfl) rfl (by kernel_rfl) H
def VC_query_reader_product (u0 u1:Nat)(h:Hp)(R:Value→Hp→Prop):Prop:=
 (SemOK Tryz.prog (Instr.makeMap 199 none) h fun v1 h2=>∃(y3:Value),v1=y3∧(SemOKu Tryz.prog (Instr.mapUpdate 199 y3 (vs ⟨#[42]⟩) (vi 8)) h2 fun h4=>(∀ b5,h4 b5=none→let h6:= Hp.set h4 b5 (cellsO [(vs ⟨#[42]⟩)] 9);(CallOK Tryz.prog 131 [vhp u0 u1,(Value.func (.func 207) #[vhp u0 u1] #[]),y3,(vsl (some (⟨b5,0,none⟩:Addr)) 1 1)] h6 fun v7 h8=>∃ a9 n9 c9,v7=(vsl a9 n9 c9)∧R (vsl a9 n9 c9) h8))))
theorem ok_query_reader_product {u0 u1 h R}(H:VC_query_reader_product u0 u1 h R):CallOK Tryz.prog 203 [vhp u0 u1] h R:=
 call_of (cfg:=⟨[],[],[]⟩) noNG mixed Tryz.func203 [.one (.hp u0 u1)] (by kernel_rfl) rfl (by kernel_rfl) H
def VC_query_reader_sum (u0 u1:Nat)(h:Hp)(R:Value→Hp→Prop):Prop:=
 (SemOK Tryz.prog (Instr.makeMap 199 none) h fun v1 h2=>∃(y3:Value),v1=y3∧(SemOKu Tryz.prog (Instr.mapUpdate 199 y3 (vs ⟨#[43]⟩) (vi 6)) h2 fun h4=>(SemOKu Tryz.prog (Instr.mapUpdate 199 y3 (vs ⟨#[45]⟩) (vi 7)) h4 fun h5=>(∀ b6,h5 b6=none→let h7:= Hp.set h5 b6 (cellsO [(vs ⟨#[43]⟩),(vs ⟨#[45]⟩)] 9);(CallOK Tryz.prog 131 [vhp u0 u1,(Value.func (.func 203) #[vhp u0 u1] #[]),y3,(vsl (some (⟨b6,0,none⟩:Addr)) 2 2)] h7 fun v8 h9=>∃ a10 n10 c10,v8=(vsl a10 n10 c10)∧R (vsl a10 n10 c10) h9)))))
theorem ok_query_reader_sum {u0 u1 h R}(H:VC_query_reader_sum u0 u1 h R):CallOK Tryz.prog 197 [vhp u0 u1] h R:=
 call_of (cfg:=⟨[],[],[]⟩) noNG mixed Tryz.func197 [.one (.hp u0 u1)] (by kernel_rfl) rfl (by kernel_rfl) H
def VC_query_reader_compare (u0 u1:Nat)(h:Hp)(R:Value→Hp→Prop):Prop:=
 (CallOK Tryz.prog 197 [vhp u0 u1] h fun v1 h2=>∃ a3 n3 c3,v1=(vsl a3 n3 c3)∧(∀ b4,h2 b4=none→let h5:= Hp.set h2 b4 (cellsO [(vs ⟨#[60]⟩),(vs ⟨#[62]⟩),(vs ⟨#[60,61]⟩),(vs ⟨#[62,61]⟩),(vs ⟨#[61]⟩),(vs ⟨#[60,62]⟩),(vs ⟨#[105,115]⟩)] 9);(CallOK Tryz.prog 83 [vhp u0 u1,(vsl (some (⟨b4,0,none⟩:Addr)) 7 7)] h5 fun v6 h7=>∃ s8,v6=(vs s8)∧(let J78:Option Addr→Nat→Nat→Hp→Prop:=fun a80 n80 c80 h81=>R (vsl a80 n80 c80) h81;(∃ p9,(Rd Tryz.prog ((eqGuard .eql 9 (.tmp 11) (.const (vs ⟨#[60]⟩)) (vs s8) (vs ⟨#[60]⟩) >>= fun _=>binOp .eql 9 (vs s8) (vs ⟨#[60]⟩))) h7 (vb p9))∧((p9=true→(CallOK Tryz.prog 197 [vhp u0 u1] h7 fun v10 h11=>∃ a12 n12 c12,v10=(vsl a12 n12 c12)∧(CallOK Tryz.prog 165 [vhp u0 u1,vi 11,vsl a3 n3 c3,vsl a12 n12 c12] h11 fun v13 h14=>∃ a15 n15 c15,v13=(vsl a15 n15 c15)∧R (vsl a15 n15 c15) h14)))∧(p9=false→(∃ p16,(Rd Tryz.prog ((eqGuard .eql 9 (.tmp 11) (.const (vs ⟨#[62]⟩)) (vs s8) (vs ⟨#[62]⟩) >>= fun _=>binOp .eql 9 (vs s8) (vs ⟨#[62]⟩))) h7 (vb p16))∧((p16=true→(CallOK Tryz.prog 197 [vhp u0 u1] h7 fun v17 h18=>∃ a19 n19 c19,v17=(vsl a19 n19 c19)∧(CallOK Tryz.prog 165 [vhp u0 u1,vi 11,vsl a19 n19 c19,vsl a3 n3 c3] h18 fun v20 h21=>∃ a22 n22 c22,v20=(vsl a22 n22 c22)∧R (vsl a22 n22 c22) h21)))∧(p16=false→(∃ p23,(Rd Tryz.prog ((eqGuard .eql 9 (.tmp 11) (.const (vs ⟨#[60,61]⟩)) (vs s8) (vs ⟨#[60,61]⟩) >>= fun _=>binOp .eql 9 (vs s8) (vs ⟨#[60,61]⟩))) h7 (vb p23))∧((p23=true→(CallOK Tryz.prog 197 [vhp u0 u1] h7 fun v24 h25=>∃ a26 n26 c26,v24=(vsl a26 n26 c26)∧(CallOK Tryz.prog 165 [vhp u0 u1,vi 11,vsl a26 n26 c26,vsl a3 n3 c3] h25 fun v27 h28=>∃ a29 n29 c29,v27=(vsl a29 n29 c29)∧(CallOK Tryz.prog 165 [vhp u0 u1,vi 4,vsl a29 n29 c29,vsl none 0 0] h28 fun v30 h31=>∃ a32 n32 c32,v30=(vsl a32 n32 c32)∧R (vsl a32 n32 c32) h31))))∧(p23=false→(∃ p33,(Rd Tryz.prog ((eqGuard .eql 9 (.tmp 11) (.const (vs ⟨#[62,61]⟩)) (vs s8) (vs ⟨#[62,61]⟩) >>= fun _=>binOp .eql 9 (vs s8) (vs ⟨#[62,61]⟩))) h7 (vb p33))∧((p33=true→(CallOK Tryz.prog 197 [vhp u0 u1] h7 fun v34 h35=>∃ a36 n36 c36,v34=(vsl a36 n36 c36)∧(CallOK Tryz.prog 165 [vhp u0 u1,vi 11,vsl a3 n3 c3,vsl a36 n36 c36] h35 fun v37 h38=>∃ a39 n39 c39,v37=(vsl a39 n39 c39)∧(CallOK Tryz.prog 165 [vhp u0 u1,vi 4,vsl a39 n39 c39,vsl none 0 0] h38 fun v40 h41=>∃ a42 n42 c42,v40=(vsl a42 n42 c42)∧R (vsl a42 n42 c42) h41))))∧(p33=false→(∃ p43,(Rd Tryz.prog ((eqGuard .eql 9 (.tmp 11) (.const (vs ⟨#[61]⟩)) (vs s8) (vs ⟨#[61]⟩) >>= fun _=>binOp .eql 9 (vs s8) (vs ⟨#[61]⟩))) h7 (vb p43))∧((p43=true→(CallOK Tryz.prog 197 [vhp u0 u1] h7 fun v44 h45=>∃ a46 n46 c46,v44=(vsl a46 n46 c46)∧(CallOK Tryz.prog 165 [vhp u0 u1,vi 12,vsl a3 n3 c3,vsl a46 n46 c46] h45 fun v47 h48=>∃ a49 n49 c49,v47=(vsl a49 n49 c49)∧R (vsl a49 n49 c49) h48)))∧(p43=false→(∃ p50,(Rd Tryz.prog ((eqGuard .eql 9 (.tmp 11) (.const (vs ⟨#[60,62]⟩)) (vs s8) (vs ⟨#[60,62]⟩) >>= fun _=>binOp .eql 9 (vs s8) (vs ⟨#[60,62]⟩))) h7 (vb p50))∧((p50=true→(CallOK Tryz.prog 197 [vhp u0 u1] h7 fun v51 h52=>∃ a53 n53 c53,v51=(vsl a53 n53 c53)∧(CallOK Tryz.prog 165 [vhp u0 u1,vi 12,vsl a3 n3 c3,vsl a53 n53 c53] h52 fun v54 h55=>∃ a56 n56 c56,v54=(vsl a56 n56 c56)∧(CallOK Tryz.prog 165 [vhp u0 u1,vi 4,vsl a56 n56 c56,vsl none 0 0] h55 fun v57 h58=>∃ a59 n59 c59,v57=(vsl a59 n59 c59)∧R (vsl a59 n59 c59) h58))))∧(p50=false→(∃ p60,(Rd Tryz.prog ((eqGuard .eql 9 (.tmp 11) (.const (vs ⟨#[105,115]⟩)) (vs s8) (vs ⟨#[105,115]⟩) >>= fun _=>binOp .eql 9 (vs s8) (vs ⟨#[105,115]⟩))) h7 (vb p60))∧((p60=true→(∀ b61,h7 b61=none→let h62:= Hp.set h7 b61 (cellsO [(vs ⟨#[110,111,116]⟩)] 9);(CallOK Tryz.prog 83 [vhp u0 u1,(vsl (some (⟨b61,0,none⟩:Addr)) 1 1)] h62 fun v63 h64=>∃ s65,v63=(vs s65)∧(CallOK Tryz.prog 81 [vhp u0 u1,(vs ⟨#[110,117,108,108]⟩)] h64 fun v66 h67=>v66=(vtup [])∧(CallOK Tryz.prog 165 [vhp u0 u1,vi 5,vsl a3 n3 c3,vsl none 0 0] h67 fun v68 h69=>∃ a70 n70 c70,v68=(vsl a70 n70 c70)∧(∃ p71,(Rd Tryz.prog ((eqGuard .neq 9 (.tmp 70) (.const (vs ⟨#[]⟩)) (vs s65) (vs ⟨#[]⟩) >>= fun _=>binOp .neq 9 (vs s65) (vs ⟨#[]⟩))) h69 (vb p71))∧((p71=true→(CallOK Tryz.prog 165 [vhp u0 u1,vi 4,vsl a70 n70 c70,vsl none 0 0] h69 fun v72 h73=>∃ a74 n74 c74,v72=(vsl a74 n74 c74)∧(J78 a74 n74 c74 h73)))∧(p71=false→(J78 a70 n70 c70 h69)))))))))∧(p60=false→(J78 a3 n3 c3 h7))))))))))))))))))))))))))
theorem ok_query_reader_compare {u0 u1 h R}(H:VC_query_reader_compare u0 u1 h R):CallOK Tryz.prog 186 [vhp u0 u1] h R:=
 call_of (cfg:=⟨[],[],[]⟩) noNG mixed Tryz.func186 [.one (.hp u0 u1)] (by kernel_rfl) rfl (by kernel_rfl) H
def VC_query_reader_not (u0 u1:Nat)(h:Hp)(R:Value→Hp→Prop):Prop:=
 (∀ b1,h b1=none→let h2:= Hp.set h b1 (cellsO [(vs ⟨#[110,111,116]⟩)] 9);(CallOK Tryz.prog 83 [vhp u0 u1,(vsl (some (⟨b1,0,none⟩:Addr)) 1 1)] h2 fun v3 h4=>∃ s5,v3=(vs s5)∧(∃ p6,(Rd Tryz.prog ((eqGuard .eql 9 (.tmp 5) (.const (vs ⟨#[]⟩)) (vs s5) (vs ⟨#[]⟩) >>= fun _=>binOp .eql 9 (vs s5) (vs ⟨#[]⟩))) h4 (vb p6))∧((p6=true→(CallOK Tryz.prog 186 [vhp u0 u1] h4 fun v7 h8=>∃ a9 n9 c9,v7=(vsl a9 n9 c9)∧R (vsl a9 n9 c9) h8))∧(p6=false→(CallOK Tryz.prog 187 [vhp u0 u1,(Value.func (.func 166) #[vhp u0 u1] #[])] h4 fun v11 h12=>∃ a13 n13 c13,v11=(vsl a13 n13 c13)∧(CallOK Tryz.prog 165 [vhp u0 u1,vi 4,vsl a13 n13 c13,vsl none 0 0] h12 fun v14 h15=>∃ a16 n16 c16,v14=(vsl a16 n16 c16)∧R (vsl a16 n16 c16) h15)))))))
theorem ok_query_reader_not {u0 u1 h R}(H:VC_query_reader_not u0 u1 h R):CallOK Tryz.prog 166 [vhp u0 u1] h R:=
 call_of (cfg:=⟨[],[],[]⟩) noNG mixed Tryz.func166 [.one (.hp u0 u1)] (by kernel_rfl) rfl (by kernel_rfl) H
def VC_query_reader_and (u0 u1:Nat)(h:Hp)(R:Value→Hp→Prop):Prop:=
 (SemOK Tryz.prog (Instr.makeMap 199 none) h fun v1 h2=>∃(y3:Value),v1=y3∧(SemOKu Tryz.prog (Instr.mapUpdate 199 y3 (vs ⟨#[97,110,100]⟩) (vi 9)) h2 fun h4=>(∀ b5,h4 b5=none→let h6:= Hp.set h4 b5 (cellsO [(vs ⟨#[97,110,100]⟩)] 9);(CallOK Tryz.prog 131 [vhp u0 u1,(Value.func (.func 166) #[vhp u0 u1] #[]),y3,(vsl (some (⟨b5,0,none⟩:Addr)) 1 1)] h6 fun v7 h8=>∃ a9 n9 c9,v7=(vsl a9 n9 c9)∧R (vsl a9 n9 c9) h8))))
theorem ok_query_reader_and {u0 u1 h R}(H:VC_query_reader_and u0 u1 h R):CallOK Tryz.prog 132 [vhp u0 u1] h R:=
 call_of (cfg:=⟨[],[],[]⟩) noNG mixed Tryz.func132 [.one (.hp u0 u1)] (by kernel_rfl) rfl (by kernel_rfl) H
def VC_query_reader_or (u0 u1:Nat)(h:Hp)(R:Value→Hp→Prop):Prop:=
 (SemOK Tryz.prog (Instr.makeMap 199 none) h fun v1 h2=>∃(y3:Value),v1=y3∧(SemOKu Tryz.prog (Instr.mapUpdate 199 y3 (vs ⟨#[111,114]⟩) (vi 10)) h2 fun h4=>(∀ b5,h4 b5=none→let h6:= Hp.set h4 b5 (cellsO [(vs ⟨#[111,114]⟩)] 9);(CallOK Tryz.prog 131 [vhp u0 u1,(Value.func (.func 132) #[vhp u0 u1] #[]),y3,(vsl (some (⟨b5,0,none⟩:Addr)) 1 1)] h6 fun v7 h8=>∃ a9 n9 c9,v7=(vsl a9 n9 c9)∧R (vsl a9 n9 c9) h8))))
theorem ok_query_reader_or {u0 u1 h R}(H:VC_query_reader_or u0 u1 h R):CallOK Tryz.prog 84 [vhp u0 u1] h R:=
 call_of (cfg:=⟨[],[],[]⟩) noNG mixed Tryz.func84 [.one (.hp u0 u1)] (by kernel_rfl) rfl (by kernel_rfl) H
def VC_query_reader_agg (u0 u1:Nat)(h:Hp)(R:Value→Hp→Prop):Prop:=
 (∀ b1,h b1=none→let h2:= Hp.set h b1 (cellsO [(vs ⟨#[99,111,117,110,116]⟩),(vs ⟨#[115,117,109]⟩),(vs ⟨#[109,105,110]⟩),(vs ⟨#[109,97,120]⟩)] 9);(CallOK Tryz.prog 83 [vhp u0 u1,(vsl (some (⟨b1,0,none⟩:Addr)) 4 4)] h2 fun v3 h4=>∃ s5,v3=(vs s5)∧(∃ p6,(Rd Tryz.prog ((eqGuard .eql 9 (.tmp 8) (.const (vs ⟨#[]⟩)) (vs s5) (vs ⟨#[]⟩) >>= fun _=>binOp .eql 9 (vs s5) (vs ⟨#[]⟩))) h4 (vb p6))∧(let J11:Hp→Prop:=fun h12=>(CallOK Tryz.prog 81 [vhp u0 u1,(vs ⟨#[40]⟩)] h12 fun v13 h14=>v13=(vtup [])∧(∃ a15 n15 c15,(Hp.cell h14 0 0=some (vsl a15 n15 c15))∧(CallOK Tryz.prog 129 [vsl a15 n15 c15,vs s5] h14 fun v16 h17=>∃ x18,v16=(vi x18)∧(let J56:Int→Option Addr→Nat→Nat→Hp→Prop:=fun x64 a65 n65 c65 h66=>(CallOK Tryz.prog 81 [vhp u0 u1,(vs ⟨#[41]⟩)] h66 fun v67 h68=>v67=(vtup [])∧R (vag [vi x64,vsl a65 n65 c65]) h68);(∃ p19,(Rd Tryz.prog ((eqGuard .eql 9 (.tmp 23) (.const (vs ⟨#[99,111,117,110,116]⟩)) (vs s5) (vs ⟨#[99,111,117,110,116]⟩) >>= fun _=>binOp .eql 9 (vs s5) (vs ⟨#[99,111,117,110,116]⟩))) h17 (vb p19))∧((p19=true→(∀ b20,h17 b20=none→let h21:= Hp.set h17 b20 (cellsO [(vs ⟨#[42]⟩)] 9);(∃(J22:SV→Hp→Prop),(p19=true→(CallOK Tryz.prog 83 [vhp u0 u1,(vsl (some (⟨b20,0,none⟩:Addr)) 1 1)] h21 fun v23 h24=>∃ s25,v23=(vs s25)∧J22 (.t (.one (.v (vs s25)))) h24))∧(¬(p19=true)→J22 (.t (.one (.v (vs ⟨#[]⟩)))) h21)∧∀ h26 s27,J22 (.t (.one (.v (vs s27)))) h26→(∃ p28,(p19=true→Rd Tryz.prog ((eqGuard .neq 9 (.tmp 28) (.const (vs ⟨#[]⟩)) (vs s27) (vs ⟨#[]⟩) >>= fun _=>binOp .neq 9 (vs s27) (vs ⟨#[]⟩))) h26 (vb p28))∧(((bif p19 then p28 else false)=true→(J56 x18 none 0 0 h26))∧((bif p19 then p28 else false)=false→(∃ p30,(Rd Tryz.prog ((eqGuard .eql 9 (.tmp 32) (.const (vs ⟨#[99,111,117,110,116]⟩)) (vs s5) (vs ⟨#[99,111,117,110,116]⟩) >>= fun _=>binOp .eql 9 (vs s5) (vs ⟨#[99,111,117,110,116]⟩))) h26 (vb p30))∧((p30=true→(CallOK Tryz.prog 84 [vhp u0 u1] h26 fun v31 h32=>∃ a33 n33 c33,v31=(vsl a33 n33 c33)∧(J56 2 a33 n33 c33 h32)))∧(p30=false→(CallOK Tryz.prog 84 [vhp u0 u1] h26 fun v35 h36=>∃ a37 n37 c37,v35=(vsl a37 n37 c37)∧(J56 x18 a37 n37 c37 h36)))))))))))∧(¬(p19=true)→(∃(J39:SV→Hp→Prop),(p19=true→(CallOK Tryz.prog 83 [vhp u0 u1,vsl none 0 0] h17 fun v40 h41=>∃ s42,v40=(vs s42)∧J39 (.t (.one (.v (vs s42)))) h41))∧(¬(p19=true)→J39 (.t (.one (.v (vs ⟨#[]⟩)))) h17)∧∀ h43 s44,J39 (.t (.one (.v (vs s44)))) h43→(∃ p45,(p19=true→Rd Tryz.prog ((eqGuard .neq 9 (.tmp 28) (.const (vs ⟨#[]⟩)) (vs s44) (vs ⟨#[]⟩) >>= fun _=>binOp .neq 9 (vs s44) (vs ⟨#[]⟩))) h43 (vb p45))∧(((bif p19 then p45 else false)=true→(J56 x18 none 0 0 h43))∧((bif p19 then p45 else false)=false→(∃ p47,(Rd Tryz.prog ((eqGuard .eql 9 (.tmp 32) (.const (vs ⟨#[99,111,117,110,116]⟩)) (vs s5) (vs ⟨#[99,111,117,110,116]⟩) >>= fun _=>binOp .eql 9 (vs s5) (vs ⟨#[99,111,117,110,116]⟩))) h43 (vb p47))∧((p47=true→(CallOK Tryz.prog 84 [vhp u0 u1] h43 fun v48 h49=>∃ a50 n50 c50,v48=(vsl a50 n50 c50)∧(J56 2 a50 n50 c50 h49)))∧(p47=false→(CallOK Tryz.prog 84 [vhp u0 u1] h43 fun v52 h53=>∃ a54 n54 c54,v52=(vsl a54 n54 c54)∧(J56 x18 a54 n54 c54 h53))))))))))))))));((p6=true→(CallOK Tryz.prog 128 [vhp u0 u1,(ifv (some (99,(vi 4))))] h4 fun v7 h8=>v7=(vtup [])∧(J11 h8)))∧(p6=false→(J11 h4)))))))
theorem ok_query_reader_agg {u0 u1 h R}(H:VC_query_reader_agg u0 u1 h R):CallOK Tryz.prog 82 [vhp u0 u1] h R:=
 call_of (cfg:=⟨[],[],[]⟩) noNG mixed Tryz.func82 [.one (.hp u0 u1)] (by kernel_rfl) rfl (by kernel_rfl) H
def VC_query_reader_optional (u0 u1:Nat)(u2:ByteArray)(u3:Int)(h:Hp)(R:Value→Hp→Prop):Prop:=
 (∀ b1,h b1=none→let h2:= Hp.set h b1 (cellsO [vs u2] 9);(CallOK Tryz.prog 83 [vhp u0 u1,(vsl (some (⟨b1,0,none⟩:Addr)) 1 1)] h2 fun v3 h4=>∃ s5,v3=(vs s5)∧(∃ p6,(Rd Tryz.prog ((eqGuard .eql 9 (.tmp 10) (.const (vs ⟨#[]⟩)) (vs s5) (vs ⟨#[]⟩) >>= fun _=>binOp .eql 9 (vs s5) (vs ⟨#[]⟩))) h4 (vb p6))∧((p6=true→R (vi u3) h4)∧(p6=false→(CallOK Tryz.prog 85 [vhp u0 u1,vi 1000] h4 fun v8 h9=>∃ x10,v8=(vi x10)∧R (vi x10) h9))))))
theorem ok_query_reader_optional {u0 u1 u2 u3 h R}(H:VC_query_reader_optional u0 u1 u2 u3 h R):CallOK Tryz.prog 86 [vhp u0 u1,vs u2,vi u3] h R:=
 call_of (cfg:=⟨[],[],[]⟩) noNG mixed Tryz.func86 [.one (.hp u0 u1),.one (.v (vs u2)),.one (.v (vi u3))] (by kernel_rfl) rfl (by kernel_rfl) H
def VC_query_Parse (u0:ByteArray)(h:Hp)(R:Value→Hp→Prop):Prop:=
 (CallOK Tryz.prog 80 [vs u0] h fun v1 h2=>∃ a3 n3 c3 e4,v1=(vtup [vsl a3 n3 c3,ifv e4])∧(((Option.isSome e4)=true→R (vtup [vag [vsl none 0 0,vsl none 0 0,vsl none 0 0,vi 0,vi 0,vi 0,vi 0],ifv e4]) h2)∧((Option.isSome e4)=false→(∀ b6,h2 b6=none→let h7:= Hp.set h2 b6 (cellsO [vsl a3 n3 c3,vi 0,ifv none] 150);(CallOK Tryz.prog 81 [vhp b6 0,(vs ⟨#[115,101,108,101,99,116]⟩)] h7 fun v8 h9=>v8=(vtup [])∧(CallOK Tryz.prog 82 [vhp b6 0] h9 fun v10 h11=>∃ x12 a13 n13 c13,v10=(vag [vi x12,vsl a13 n13 c13])∧(∀ b14,h11 b14=none→let h15:= Hp.set h11 b14 (cellsO [vi x12,vsl a13 n13 c13] 86);(SemOK Tryz.prog (Builtin.append_ #[25,25] 25 #[vsl none 0 0,(vsl (some (⟨b14,0,none⟩:Addr)) 1 1)]) h15 fun v16 h17=>∃ a18 n18 c18,v16=(vsl a18 n18 c18)∧(let J48:Option Addr→Nat→Nat→Option Addr→Nat→Nat→Option Addr→Nat→Nat→Hp→Prop:=fun a256 n256 c256 a257 n257 c257 a258 n258 c258 h259=>(CallOK Tryz.prog 81 [vhp b6 0,(vs ⟨#[102,114,111,109]⟩)] h259 fun v260 h261=>v260=(vtup [])∧(CallOK Tryz.prog 81 [vhp b6 0,(vs ⟨#[101,118,101,110,116,115]⟩)] h261 fun v262 h263=>v262=(vtup [])∧(∀ b264,h263 b264=none→let h265:= Hp.set h263 b264 (cellsO [(vs ⟨#[119,104,101,114,101]⟩)] 9);(CallOK Tryz.prog 83 [vhp b6 0,(vsl (some (⟨b264,0,none⟩:Addr)) 1 1)] h265 fun v266 h267=>∃ s268,v266=(vs s268)∧(∃ p269,(Rd Tryz.prog ((eqGuard .neq 9 (.tmp 46) (.const (vs ⟨#[]⟩)) (vs s268) (vs ⟨#[]⟩) >>= fun _=>binOp .neq 9 (vs s268) (vs ⟨#[]⟩))) h267 (vb p269))∧(let J275:Option Addr→Nat→Nat→Hp→Prop:=fun a314 n314 c314 h315=>(∀ b316,h315 b316=none→let h317:= Hp.set h315 b316 (cellsO [(vs ⟨#[103,114,111,117,112]⟩)] 9);(CallOK Tryz.prog 83 [vhp b6 0,(vsl (some (⟨b316,0,none⟩:Addr)) 1 1)] h317 fun v318 h319=>∃ s320,v318=(vs s320)∧(∃ p321,(Rd Tryz.prog ((eqGuard .neq 9 (.tmp 53) (.const (vs ⟨#[]⟩)) (vs s320) (vs ⟨#[]⟩) >>= fun _=>binOp .neq 9 (vs s320) (vs ⟨#[]⟩))) h319 (vb p321))∧(let J329:Option Addr→Nat→Nat→Hp→Prop:=fun a353 n353 c353 h354=>(CallOK Tryz.prog 81 [vhp b6 0,(vs ⟨#[119,105,110,100,111,119]⟩)] h354 fun v355 h356=>v355=(vtup [])∧(CallOK Tryz.prog 85 [vhp b6 0,vi 1000] h356 fun v357 h358=>∃ x359,v357=(vi x359)∧(CallOK Tryz.prog 86 [vhp b6 0,(vs ⟨#[115,108,105,100,101]⟩),vi x359] h358 fun v360 h361=>∃ x362,v360=(vi x362)∧(CallOK Tryz.prog 86 [vhp b6 0,(vs ⟨#[100,101,108,97,121]⟩),vi 0] h361 fun v363 h364=>∃ x365,v363=(vi x365)∧(CallOK Tryz.prog 86 [vhp b6 0,(vs ⟨#[108,97,116,101]⟩),vi 0] h364 fun v366 h367=>∃ x368,v366=(vi x368)∧(∃ e369,(Hp.cell h367 b6 (0+2)=some (ifv e369))∧(∃ a370 n370 c370,((Option.isNone e369)=true→Hp.cell h367 b6 0=some (vsl a370 n370 c370))∧(let J374:Hp→Prop:=fun h375=>(∃ e376,(Hp.cell h375 b6 (0+2)=some (ifv e376))∧(let J383:Hp→Prop:=fun h384=>(∃ e385,(Hp.cell h384 b6 (0+2)=some (ifv e385))∧(((Option.isSome e385)=true→(∃ e386,(Hp.cell h384 b6 (0+2)=some (ifv e386))∧((Hp.cell h384 b6 (0+2)=some (ifv e386))∧R (vtup [vag [vsl none 0 0,vsl none 0 0,vsl none 0 0,vi 0,vi 0,vi 0,vi 0],ifv e386]) h384)))∧((Option.isSome e385)=false→R (vtup [vag [vsl a256 n256 c256,vsl a314 n314 c314,vsl a353 n353 c353,vi x359,vi x362,vi x365,vi x368],ifv none]) h384)));(((Option.isNone e376)=true→(CallOK Tryz.prog 34 [vag [vsl a256 n256 c256,vsl a314 n314 c314,vsl a353 n353 c353,vi x359,vi x362,vi x365,vi x368]] h375 fun v377 h378=>∃ e379,v377=(ifv e379)∧(Hp.store h378 b6 (0+2) [ifv e379] fun h380=>(J383 h380))))∧((Option.isNone e376)=false→(J383 h375)))));(((bif (Option.isNone e369) then(decide ((n370:Int) > 0)) else false)=true→(Hp.store h367 b6 (0+2) [(ifv (some (99,(vi 4))))] fun h371=>(J374 h371)))∧((bif (Option.isNone e369) then(decide ((n370:Int) > 0)) else false)=false→(J374 h367)))))))))));((p321=true→(CallOK Tryz.prog 81 [vhp b6 0,(vs ⟨#[98,121]⟩)] h319 fun v322 h323=>v322=(vtup [])∧(CallOK Tryz.prog 84 [vhp b6 0] h323 fun v324 h325=>∃ a326 n326 c326,v324=(vsl a326 n326 c326)∧(J329 a326 n326 c326 h325))))∧(p321=false→(J329 a258 n258 c258 h319)))))));((p269=true→(CallOK Tryz.prog 84 [vhp b6 0] h267 fun v270 h271=>∃ a272 n272 c272,v270=(vsl a272 n272 c272)∧(J275 a272 n272 c272 h271)))∧(p269=false→(J275 a257 n257 c257 h267)))))))));(∃(I20:List Value→Hp→Prop) (m21:List Value→Hp→Nat),I20 [vsl a18 n18 c18,vsl none 0 0,vsl none 0 0,vi 0,vi 0,vi 0,vi 0] h17∧∀ vs22 h23,I20 vs22 h23→∃ a24 n24 c24 a25 n25 c25 a26 n26 c26 x27 x28 x29 x30,vs22=[vsl a24 n24 c24,vsl a25 n25 c25,vsl a26 n26 c26,vi x27,vi x28,vi x29,vi x30]∧(∀ b31,h23 b31=none→let h32:= Hp.set h23 b31 (cellsO [(vs ⟨#[44]⟩)] 9);(CallOK Tryz.prog 83 [vhp b6 0,(vsl (some (⟨b31,0,none⟩:Addr)) 1 1)] h32 fun v33 h34=>∃ s35,v33=(vs s35)∧(∃ p36,(Rd Tryz.prog ((eqGuard .neq 9 (.tmp 31) (.const (vs ⟨#[]⟩)) (vs s35) (vs ⟨#[]⟩) >>= fun _=>binOp .neq 9 (vs s35) (vs ⟨#[]⟩))) h34 (vb p36))∧((p36=true→(CallOK Tryz.prog 82 [vhp b6 0] h34 fun v39 h40=>∃ x41 a42 n42 c42,v39=(vag [vi x41,vsl a42 n42 c42])∧(∀ b43,h40 b43=none→let h44:= Hp.set h40 b43 (cellsO [vi x41,vsl a42 n42 c42] 86);(SemOK Tryz.prog (Builtin.append_ #[25,25] 25 #[vsl a24 n24 c24,(vsl (some (⟨b43,0,none⟩:Addr)) 1 1)]) h44 fun v45 h46=>∃ a47 n47 c47,v45=(vsl a47 n47 c47)∧(I20 [vsl a47 n47 c47,vsl a25 n25 c25,vsl a26 n26 c26,vi x27,vi x28,vi x29,vi x30] h46∧m21 [vsl a47 n47 c47,vsl a25 n25 c25,vsl a26 n26 c26,vi x27,vi x28,vi x29,vi x30] h46 < m21 vs22 h23)))))∧(p36=false→(J48 a24 n24 c24 a25 n25 c25 a26 n26 c26 h34))))))))))))))))
theorem ok_query_Parse {u0 h R}(H:VC_query_Parse u0 h R):CallOK Tryz.prog 40 [vs u0] h R:=
 call_of (cfg:=⟨[19],[(8,([],[],[(1,[.slice,.slice,.slice,.int .i64,.int .i64,.int .i64,.int .i64])]))],[(7,[0,1,2,3,4,5,6,7]),(9,[0,1,2,3,4,5,6,7]),(27,[0,1,2,3,4,5,6])]⟩) noNG mixed Tryz.func40 [.one (.v (vs u0))] (by kernel_rfl) rfl (by kernel_rfl) H
def VC_slices_Index_string_string (u0:Option Addr)(u1 u2:Nat)(u3:ByteArray)(h:Hp)(R:Value→Hp→Prop):Prop:=
 (∃(I2:List Value→Hp→Prop) (m3:List Value→Hp→Nat),I2 [vi 0] h∧∀ vs4 h5,I2 vs4 h5→∃ x6,vs4=[vi x6]∧(((decide (x6 < (u1:Int)))=true→(∃ b9 o10,(u0=some ⟨b9,o10,none⟩∧(0:Int)≤x6∧x6 < (u1:Int))∧(∃ s11,(Hp.cell h5 b9 (o10+x6.toNat*1)=some (vs s11))∧(∃ p12,(Rd Tryz.prog ((eqGuard .eql 9 (.tmp 11) (.tmp 15) (vs u3) (vs s11) >>= fun _=>binOp .eql 9 (vs u3) (vs s11))) h5 (vb p12))∧((p12=true→R (vi x6) h5)∧(p12=false→(∃ x14,(IsW x14 (x6+1))∧(I2 [vi x14] h5∧m3 [vi x14] h5 < m3 vs4 h5))))))))∧((decide (x6 < (u1:Int)))=false→R (vi (-1)) h5)))
theorem ok_slices_Index_string_string {u0 u1 u2 u3 h R}(H:VC_slices_Index_string_string u0 u1 u2 u3 h R):CallOK Tryz.prog 129 [vsl u0 u1 u2,vs u3] h R:=
 call_of (cfg:=⟨[],[(2,([8],[.one (.int .i64)],[]))],[]⟩) noNG mixed Tryz.func129 [.one (.v (vsl u0 u1 u2)),.one (.v (vs u3))] (by kernel_rfl) rfl (by kernel_rfl) H
def VC_slices_Contains_string_string (u0:Option Addr)(u1 u2:Nat)(u3:ByteArray)(h:Hp)(R:Value→Hp→Prop):Prop:=
 (CallOK Tryz.prog 129 [vsl u0 u1 u2,vs u3] h fun v1 h2=>∃ x3,v1=(vi x3)∧R (vb (decide (x3≥0))) h2)
theorem ok_slices_Contains_string_string {u0 u1 u2 u3 h R}(H:VC_slices_Contains_string_string u0 u1 u2 u3 h R):CallOK Tryz.prog 130 [vsl u0 u1 u2,vs u3] h R:=
 call_of (cfg:=⟨[],[],[]⟩) noNG mixed Tryz.func130 [.one (.v (vsl u0 u1 u2)),.one (.v (vs u3))] (by kernel_rfl) rfl (by kernel_rfl) H
end Go.Proofs.YtiflgceoamkmnaaGreatDoor
namespace Go.Vc
open Go Go.MapKept
section
variable {P:Program}{h:Hp}
theorem sem_makeMap {T:TypeId}{K:Value→Hp→Prop}(hK:∀ b,h b=none→K (.map (some b)) (h.set b (.map #[] 0))):SemOK P (Instr.makeMap T none) h K:=by
 intro w hs
 refine⟨.map (some w.heap.size),_,_,?_,Sub.pushSet hs _,Fr.pushSet h w _,hK _ hs.none⟩
 simp [Instr.makeMap,newObj,Sem.run_bind,Sem.run]
theorem run_getObj {w:World}{r:Nat}{es:Array MapEntry}{c:Nat}(hb:w.heap[r]?=some (.map es c)):(getObj r).run P w=.ok (.map es c) w:=by simp [getObj,Sem.run,hb]
theorem Sub.mapSet {w:World}(hs:Sub h w){b:Nat}{o o':Obj}(hb:h b=some o):Sub (h.set b o') { w with heap:=w.heap.setIfInBounds b o' }∧Fr h (h.set b o') w { w with heap:=w.heap.setIfInBounds b o' }:=by
 have hw:=hs b _ hb
 obtain⟨k1,k2⟩:=heap_set (o':=o') hw
 refine⟨fun c oc hc=>?_,⟨rfl,rfl,rfl,by simp,fun c hc hn=>?_⟩⟩
 ·by_cases e:c=b
  ·subst e;rw [Hp.set_same] at hc;cases hc;exact k1
  ·rw [Hp.set_other _ _ e] at hc;exact(k2 c e).trans (hs c oc hc)
 ·have e:c≠b:=fun e=>by subst e;rw [hn] at hb;cases hb
  exact⟨k2 c e,by rw [Hp.set_other _ _ e];exact hn⟩
theorem sem_mapNew {T k e:TypeId}{d:TypeDesc}(hT:P.underlying T=some (.map k e))(hd:P.underlying k=some d){b:Nat}{es:Array MapEntry}{clock:Nat}(hb:h b=some (.map es clock)){key v:Value}(hk:IsKey d key)(hf:Instr.findNow d key es.toList 0=some none){K:Hp→Prop}
  (hK:K (h.set b (.map (es.push { key:=key,val:=v,born:=clock }) (clock+1)))):SemOKu P (Instr.mapUpdate T (.map (some b)) key v) h K:=by
 intro w hs
 have hw:=hs b _ hb
 obtain⟨k1,k2⟩:=hs.mapSet (o':=.map (es.push { key:=key,val:=v,born:=clock }) (clock+1)) hb
 refine⟨_,_,?_,k1,k2,hK⟩
 simp only [Instr.mapUpdate,Sem.run_bind,run_underlying hT,Result.andThen_ok,run_getObj hw,run_checkKey hd hk,run_findKey hd hf,run_setObj_map _ hw]
theorem rd_lookup {T k e:TypeId}{d:TypeDesc}(hT:P.underlying T=some (.map k e))(hd:P.underlying k=some d){b:Nat}{es:Array MapEntry}{clock:Nat}(hb:h b=some (.map es clock)){key v:Value}(hk:IsKey d key){i:Nat}(hf:Instr.findNow d key es.toList 0=some (some (i,v))):Rd P (Instr.lookup T (.map (some b)) key false) h v:=by
 intro w hs
 have hw:=hs b _ hb
 simp only [Instr.lookup,Sem.run_bind,run_underlying hT,Result.andThen_ok,run_getObj hw,run_checkKey hd hk,run_findKey hd hf,Sem.run_pure]
 rfl
end
end Go.Vc
namespace Go.Proofs.YtiflgceoamkmnaaGreatDoor
open Go Go.Vc
def VC_expr_Arity (u0:Int)(h:Hp)(R:Value→Hp→Prop):Prop:=
 (((bif (decide (u0=1)) then true else(decide (u0=2)))=true→R (vi 0) h)∧((bif (decide (u0=1)) then true else(decide (u0=2)))=false→(((bif (bif (decide (u0=3)) then true else(decide (u0=4))) then true else(decide (u0=5)))=true→R (vi 1) h)∧((bif (bif (decide (u0=3)) then true else(decide (u0=4))) then true else(decide (u0=5)))=false→(((bif (decide (u0≥6)) then(decide (u0≤12)) else false)=true→R (vi 2) h)∧((bif (decide (u0≥6)) then(decide (u0≤12)) else false)=false→R (vi (-1)) h))))))
theorem ok_expr_Arity {u0 h R}(H:VC_expr_Arity u0 h R):CallOK Tryz.prog 64 [vi u0] h R:=
 call_of (cfg:=⟨[],[],[]⟩) noNG mixed Tryz.func64 [.one (.v (vi u0))] (by kernel_rfl) rfl (by kernel_rfl) H
def VC_expr_field (u0:Int)(u1:Int)(u2:Int)(u3:Int)(u4:Int)(u5:Int)(u6:Int)(u7:Int)(h:Hp)(R:Value→Hp→Prop):Prop:=
 (CallOK Tryz.prog 142 [vi u0] h fun v1 h2=>∃ x3 x4,v1=(vag [vi x3,vi x4])∧(∃ x5 x6,(Rd Tryz.prog (Instr.index 205 (vag [vi x3,vi x4,vi u1,vi u2,vi u3,vi u4,vi u5,vi u6]) (vi u7)) h2 (vag [vi x5,vi x6]))∧R (vag [vi x5,vi x6]) h2))
theorem ok_expr_field {u0 u1 u2 u3 u4 u5 u6 u7 h R}(H:VC_expr_field u0 u1 u2 u3 u4 u5 u6 u7 h R):CallOK Tryz.prog 94 [vag [vi u0,vi u1,vi u2,vi u3,vi u4,vi u5,vi u6],vi u7] h R:=
 call_of (cfg:=⟨[],[],[(1,[0,1,3,4,5,6,7,8,10,2,9,11,12])]⟩) noNG mixed Tryz.func94 [.ag [.v (vi u0),.v (vi u1),.v (vi u2),.v (vi u3),.v (vi u4),.v (vi u5),.v (vi u6)],.one (.v (vi u7))] (by kernel_rfl) rfl (by kernel_rfl) H
def VC_expr_Eval (u0:Option Addr)(u1 u2:Nat)(u3:Int)(u4:Int)(u5:Int)(u6:Int)(u7:Int)(u8:Int)(u9:Int)(h:Hp)(R:Value→Hp→Prop):Prop:=
 (SemOK Tryz.prog (Instr.makeSlice 70 (vi (u1:Int)) (vi (u1:Int))) h fun v1 h2=>∃ a3 n3 c3,v1=(vsl a3 n3 c3)∧(∃(I5:List Value→Hp→Prop) (m6:List Value→Hp→Nat),I5 [vi 0] h2∧∀ vs7 h8,I5 vs7 h8→∃ x9,vs7=[vi x9]∧(((decide (x9 < (u1:Int)))=true→(let J83:Hp→Prop:=fun h84=>(∃ x85,(IsW x85 (x9+1))∧(I5 [vi x85] h84∧m6 [vi x85] h84 < m6 vs7 h8));(∃ b12 o13,(u0=some ⟨b12,o13,none⟩∧(0:Int)≤x9∧x9 < (u1:Int))∧(∃ x14 x15 x16 x17 x18 x19,(Hp.row h8 b12 (o13+x9.toNat*6) 6=some [vi x14,vi x15,vi x16,vi x17,vi x18,vi x19])∧(((decide (x14=1))=true→(∃ b20 o21,(a3=some ⟨b20,o21,none⟩∧(0:Int)≤x9∧x9 < (n3:Int))∧(Hp.store h8 b20 (o21+x9.toNat*2) [vi x18,vi x19] fun h22=>(J83 h22))))∧((decide (x14=1))=false→(((decide (x14=2))=true→(CallOK Tryz.prog 94 [vag [vi u3,vi u4,vi u5,vi u6,vi u7,vi u8,vi u9],vi x17] h8 fun v24 h25=>∃ x26 x27,v24=(vag [vi x26,vi x27])∧(∃ b28 o29,(a3=some ⟨b28,o29,none⟩∧(0:Int)≤x9∧x9 < (n3:Int))∧(Hp.store h25 b28 (o29+x9.toNat*2) [vi x26,vi x27] fun h30=>(J83 h30)))))∧((decide (x14=2))=false→(((decide (x14=3))=true→(∃ b32 o33,(a3=some ⟨b32,o33,none⟩∧(0:Int)≤x15∧x15 < (n3:Int))∧(∃ x34 x35,(Hp.row h8 b32 (o33+x15.toNat*2) 2=some [vi x34,vi x35])∧(CallOK Tryz.prog 95 [vag [vi x34,vi x35]] h8 fun v36 h37=>∃ x38 x39,v36=(vag [vi x38,vi x39])∧(∃ b40 o41,(a3=some ⟨b40,o41,none⟩∧(0:Int)≤x9∧x9 < (n3:Int))∧(Hp.store h37 b40 (o41+x9.toNat*2) [vi x38,vi x39] fun h42=>(J83 h42)))))))∧((decide (x14=3))=false→(((decide (x14=4))=true→(∃ b44 o45,(a3=some ⟨b44,o45,none⟩∧(0:Int)≤x15∧x15 < (n3:Int))∧(∃ x46 x47,(Hp.row h8 b44 (o45+x15.toNat*2) 2=some [vi x46,vi x47])∧(CallOK Tryz.prog 96 [vag [vi x46,vi x47]] h8 fun v48 h49=>∃ x50 x51,v48=(vag [vi x50,vi x51])∧(∃ b52 o53,(a3=some ⟨b52,o53,none⟩∧(0:Int)≤x9∧x9 < (n3:Int))∧(Hp.store h49 b52 (o53+x9.toNat*2) [vi x50,vi x51] fun h54=>(J83 h54)))))))∧((decide (x14=4))=false→(((decide (x14=5))=true→(∃ b56 o57,(a3=some ⟨b56,o57,none⟩∧(0:Int)≤x15∧x15 < (n3:Int))∧(∃ x58,(Hp.cell h8 b56 (o57+x15.toNat*2)=some (vi x58))∧(CallOK Tryz.prog 32 [(vb (decide (x58=0)))] h8 fun v59 h60=>∃ x61 x62,v59=(vag [vi x61,vi x62])∧(∃ b63 o64,(a3=some ⟨b63,o64,none⟩∧(0:Int)≤x9∧x9 < (n3:Int))∧(Hp.store h60 b63 (o64+x9.toNat*2) [vi x61,vi x62] fun h65=>(J83 h65)))))))∧((decide (x14=5))=false→(∃ b67 o68,(a3=some ⟨b67,o68,none⟩∧(0:Int)≤x15∧x15 < (n3:Int))∧(∃ x69 x70,(Hp.row h8 b67 (o68+x15.toNat*2) 2=some [vi x69,vi x70])∧(∃ b71 o72,(a3=some ⟨b71,o72,none⟩∧(0:Int)≤x16∧x16 < (n3:Int))∧(∃ x73 x74,(Hp.row h8 b71 (o72+x16.toNat*2) 2=some [vi x73,vi x74])∧(CallOK Tryz.prog 97 [vi x14,vag [vi x69,vi x70],vag [vi x73,vi x74]] h8 fun v75 h76=>∃ x77 x78,v75=(vag [vi x77,vi x78])∧(∃ b79 o80,(a3=some ⟨b79,o80,none⟩∧(0:Int)≤x9∧x9 < (n3:Int))∧(Hp.store h76 b79 (o80+x9.toNat*2) [vi x77,vi x78] fun h81=>(J83 h81))))))))))))))))))))))∧((decide (x9 < (u1:Int)))=false→(∃ x86,(IsW x86 ((n3:Int) - 1))∧(∃ b87 o88,(a3=some ⟨b87,o88,none⟩∧(0:Int)≤x86∧x86 < (n3:Int))∧(∃ x89 x90,(Hp.row h8 b87 (o88+x86.toNat*2) 2=some [vi x89,vi x90])∧R (vag [vi x89,vi x90]) h8)))))))
theorem ok_expr_Eval {u0 u1 u2 u3 u4 u5 u6 u7 u8 u9 h R}(H:VC_expr_Eval u0 u1 u2 u3 u4 u5 u6 u7 u8 u9 h R):CallOK Tryz.prog 45 [vsl u0 u1 u2,vag [vi u3,vi u4,vi u5,vi u6,vi u7,vi u8,vi u9]] h R:=
 call_of (cfg:=⟨[],[(3,([13],[.one (.int .i64)],[]))],[(6,[0,1,2,3,4,5,6,7,8,9,10,11,12,13,14,15,16])]⟩) noNG mixed Tryz.func45 [.one (.v (vsl u0 u1 u2)),.ag [.v (vi u3),.v (vi u4),.v (vi u5),.v (vi u6),.v (vi u7),.v (vi u8),.v (vi u9)]] (by kernel_rfl) rfl (by kernel_rfl) H
def VC_expr_join (u0:Int)(u1:Int)(h:Hp)(R:Value→Hp→Prop):Prop:=
 (((decide (u0=0))=true→R (vtup [vi u1,vb true]) h)∧((decide (u0=0))=false→(let J3:Bool→Prop:=fun p4=>((p4=true→R (vtup [vi u0,vb true]) h)∧(p4=false→R (vtup [vi 0,vb false]) h));(((decide (u1=0))=true→(J3 (decide (u1=0))))∧((decide (u1=0))=false→(J3 (decide (u0=u1))))))))
theorem ok_expr_join {u0 u1 h R}(H:VC_expr_join u0 u1 h R):CallOK Tryz.prog 152 [vi u0,vi u1] h R:=
 call_of (cfg:=⟨[],[],[]⟩) noNG mixed Tryz.func152 [.one (.v (vi u0)),.one (.v (vi u1))] (by kernel_rfl) rfl (by kernel_rfl) H
def VC_expr_Type (u0:Option Addr)(u1 u2:Nat)(h:Hp)(R:Value→Hp→Prop):Prop:=
 (SemOK Tryz.prog (Instr.makeSlice 50 (vi (u1:Int)) (vi (u1:Int))) h fun v1 h2=>∃ a3 n3 c3,v1=(vsl a3 n3 c3)∧(∃(I5:List Value→Hp→Prop) (m6:List Value→Hp→Nat),I5 [vi 0] h2∧∀ vs7 h8,I5 vs7 h8→∃ x9,vs7=[vi x9]∧(((decide (x9 < (u1:Int)))=true→(let J95:Hp→Prop:=fun h96=>(∃ x97,(IsW x97 (x9+1))∧(I5 [vi x97] h96∧m6 [vi x97] h96 < m6 vs7 h8));(∃ b12 o13,(u0=some ⟨b12,o13,none⟩∧(0:Int)≤x9∧x9 < (u1:Int))∧(∃ x14 x15 x16 x17 x18 x19,(Hp.row h8 b12 (o13+x9.toNat*6) 6=some [vi x14,vi x15,vi x16,vi x17,vi x18,vi x19])∧(let J39:Int→Prop:=fun x60=>(CallOK Tryz.prog 64 [vi x14] h8 fun v61 h62=>∃ x63,v61=(vi x63)∧(∀ b64,h62 b64=none→let h65:= Hp.set h62 b64 (cellsO [vi x15,vi x16] 3);(∃ a66 n66 c66,(Rd Tryz.prog (Instr.sliceAt 50 (vsl (some (⟨b64,0,none⟩:Addr)) 2 2) none (some (vi x63)) none) h65 (vsl a66 n66 c66))∧(∃(I68:List Value→Hp→Prop) (m69:List Value→Hp→Nat),I68 [vi 0] h65∧∀ vs70 h71,I68 vs70 h71→∃ x72,vs70=[vi x72]∧(((decide (x72 < (n66:Int)))=true→(∃ b75 o76,(a66=some ⟨b75,o76,none⟩∧(0:Int)≤x72∧x72 < (n66:Int))∧(∃ x77,(Hp.cell h71 b75 (o76+x72.toNat*1)=some (vi x77))∧(∃ b78 o79,(a3=some ⟨b78,o79,none⟩∧(0:Int)≤x77∧x77 < (n3:Int))∧(∃ x80,(Hp.cell h71 b78 (o79+x77.toNat*1)=some (vi x80))∧(CallOK Tryz.prog 152 [vi x60,vi x80] h71 fun v81 h82=>∃ x83 p84,v81=(vtup [vi x83,vb p84])∧(((!p84)=true→R (vtup [vi 0,(ifv (some (99,(vi 3))))]) h82)∧((!p84)=false→(∃ x86,(IsW x86 (x72+1))∧(I68 [vi x86] h82∧m69 [vi x86] h82 < m69 vs70 h71))))))))))∧((decide (x72 < (n66:Int)))=false→(∃ b87 o88,(a3=some ⟨b87,o88,none⟩∧(0:Int)≤x9∧x9 < (n3:Int))∧(Hp.store h71 b87 (o88+x9.toNat*1) [vi x60] fun h89=>(((bif (decide (x14=11)) then true else(decide (x14=12)))=true→(∃ b90 o91,(a3=some ⟨b90,o91,none⟩∧(0:Int)≤x9∧x9 < (n3:Int))∧(Hp.store h89 b90 (o91+x9.toNat*1) [vi 2] fun h92=>(J95 h92))))∧((bif (decide (x14=11)) then true else(decide (x14=12)))=false→(J95 h89)))))))))));(((decide (x14=1))=true→(∃ b20 o21,(a3=some ⟨b20,o21,none⟩∧(0:Int)≤x9∧x9 < (n3:Int))∧(Hp.store h8 b20 (o21+x9.toNat*1) [vi x18] fun h22=>(J95 h22))))∧((decide (x14=1))=false→(((decide (x14=2))=true→(∃ b24 o25,(a3=some ⟨b24,o25,none⟩∧(0:Int)≤x9∧x9 < (n3:Int))∧(Hp.store h8 b24 (o25+x9.toNat*1) [vi 1] fun h26=>(J95 h26))))∧((decide (x14=2))=false→(((decide (x14=5))=true→(∃ b28 o29,(a3=some ⟨b28,o29,none⟩∧(0:Int)≤x9∧x9 < (n3:Int))∧(Hp.store h8 b28 (o29+x9.toNat*1) [vi 2] fun h30=>(J95 h30))))∧((decide (x14=5))=false→(let J35:Bool→Prop:=fun p36=>((p36=true→(J39 2))∧(p36=false→(J39 1)));(((decide (x14=4))=true→(J35 (decide (x14=4))))∧((decide (x14=4))=false→(((decide (x14=9))=true→(J35 (decide (x14=9))))∧((decide (x14=9))=false→(J35 (decide (x14=10)))))))))))))))))))∧((decide (x9 < (u1:Int)))=false→(∃ x98,(IsW x98 ((n3:Int) - 1))∧(∃ b99 o100,(a3=some ⟨b99,o100,none⟩∧(0:Int)≤x98∧x98 < (n3:Int))∧(∃ x101,(Hp.cell h8 b99 (o100+x98.toNat*1)=some (vi x101))∧R (vtup [vi x101,ifv none]) h8)))))))
theorem ok_expr_Type {u0 u1 u2 h R}(H:VC_expr_Type u0 u1 u2 h R):CallOK Tryz.prog 119 [vsl u0 u1 u2] h R:=
 call_of (cfg:=⟨[],[(18,([56],[.one (.int .i64)],[])),(3,([17],[.one (.int .i64)],[]))],[(17,[0,1,2,3,5,6,10,7,4,8,9])]⟩) noNG mixed Tryz.func119 [.one (.v (vsl u0 u1 u2))] (by kernel_rfl) rfl (by kernel_rfl) H
def VC_expr_Cut (u0:Option Addr)(u1 u2:Nat)(u3:Int)(h:Hp)(R:Value→Hp→Prop):Prop:=
 (∃ b1 o2,(u0=some ⟨b1,o2,none⟩∧(0:Int)≤u3∧u3 < (u1:Int))∧(∃ x3,(Hp.cell h b1 (o2+u3.toNat*6)=some (vi x3))∧(CallOK Tryz.prog 64 [vi x3] h fun v4 h5=>∃ x6,v4=(vi x6)∧(∃(I8:List Value→Hp→Prop) (m9:List Value→Hp→Nat),I8 [vi u3,vi x6] h5∧∀ vs10 h11,I8 vs10 h11→∃ x12 x13,vs10=[vi x12,vi x13]∧(((decide (x13 > 0))=true→(∃ x16,(IsW x16 (x12 - 1))∧(∃ b17 o18,(u0=some ⟨b17,o18,none⟩∧(0:Int)≤x16∧x16 < (u1:Int))∧(∃ x19,(Hp.cell h11 b17 (o18+x16.toNat*6)=some (vi x19))∧(CallOK Tryz.prog 64 [vi x19] h11 fun v20 h21=>∃ x22,v20=(vi x22)∧(∃ x23,(IsW x23 (x22 - 1))∧(∃ x24,(IsW x24 (x13+x23))∧(I8 [vi x16,vi x24] h21∧m9 [vi x16,vi x24] h21 < m9 vs10 h11))))))))∧((decide (x13 > 0))=false→(∃ x25,(IsW x25 (u3+1))∧(∃ a26 n26 c26,(Rd Tryz.prog (Instr.sliceAt 26 (vsl u0 u1 u2) (some (vi x12)) (some (vi x25)) none) h11 (vsl a26 n26 c26))∧(CallOK Tryz.prog 150 [vsl a26 n26 c26] h11 fun v27 h28=>∃ a29 n29 c29,v27=(vsl a29 n29 c29)∧(∃(I31:List Value→Hp→Prop) (m32:List Value→Hp→Nat),I31 [vi 0] h28∧∀ vs33 h34,I31 vs33 h34→∃ x35,vs33=[vi x35]∧(((decide (x35 < (n29:Int)))=true→(let J70:Hp→Prop:=fun h71=>(∃ x72,(IsW x72 (x35+1))∧(I31 [vi x72] h71∧m32 [vi x72] h71 < m32 vs33 h34));(∃ b38 o39,(a29=some ⟨b38,o39,none⟩∧(0:Int)≤x35∧x35 < (n29:Int))∧(∃ x40,(Hp.cell h34 b38 (o39+x35.toNat*6)=some (vi x40))∧(CallOK Tryz.prog 64 [vi x40] h34 fun v41 h42=>∃ x43,v41=(vi x43)∧(let J53:Hp→Prop:=fun h54=>(∃ b55 o56,(a29=some ⟨b55,o56,none⟩∧(0:Int)≤x35∧x35 < (n29:Int))∧(∃ x57,(Hp.cell h54 b55 (o56+x35.toNat*6)=some (vi x57))∧(CallOK Tryz.prog 64 [vi x57] h54 fun v58 h59=>∃ x60,v58=(vi x60)∧(((decide (x60 > 1))=true→(∃ b61 o62,(a29=some ⟨b61,o62,none⟩∧(0:Int)≤x35∧x35 < (n29:Int))∧(∃ x63,(Hp.cell h59 b61 ((o62+x35.toNat*6)+2)=some (vi x63))∧(∃ x64,(IsW x64 (x63 - x12))∧(∃ b65 o66,(a29=some ⟨b65,o66,none⟩∧(0:Int)≤x35∧x35 < (n29:Int))∧(Hp.store h59 b65 ((o66+x35.toNat*6)+2) [vi x64] fun h67=>(J70 h67)))))))∧((decide (x60 > 1))=false→(J70 h59))))));(((decide (x43 > 0))=true→(∃ b44 o45,(a29=some ⟨b44,o45,none⟩∧(0:Int)≤x35∧x35 < (n29:Int))∧(∃ x46,(Hp.cell h42 b44 ((o45+x35.toNat*6)+1)=some (vi x46))∧(∃ x47,(IsW x47 (x46 - x12))∧(∃ b48 o49,(a29=some ⟨b48,o49,none⟩∧(0:Int)≤x35∧x35 < (n29:Int))∧(Hp.store h42 b48 ((o49+x35.toNat*6)+1) [vi x47] fun h50=>(J53 h50)))))))∧((decide (x43 > 0))=false→(J53 h42)))))))))∧((decide (x35 < (n29:Int)))=false→R (vsl a29 n29 c29) h34))))))))))))
theorem ok_expr_Cut {u0 u1 u2 u3 h R}(H:VC_expr_Cut u0 u1 u2 u3 h R):CallOK Tryz.prog 114 [vsl u0 u1 u2,vi u3] h R:=
 call_of (cfg:=⟨[],[(2,([5,6],[.one (.int .i64),.one (.int .i64)],[])),(7,([37],[.one (.int .i64)],[]))],[]⟩) noNG mixed Tryz.func114 [.one (.v (vsl u0 u1 u2)),.one (.v (vi u3))] (by kernel_rfl) rfl (by kernel_rfl) H
def VC_expr_Join (u0:Int)(u1:Option Addr)(u2 u3:Nat)(u4:Option Addr)(u5 u6:Nat)(h:Hp)(R:Value→Hp→Prop):Prop:=
 (CallOK Tryz.prog 150 [vsl u1 u2 u3] h fun v1 h2=>∃ a3 n3 c3,v1=(vsl a3 n3 c3)∧(∃ x4,(IsW x4 ((u2:Int) - 1))∧(∃(I6:List Value→Hp→Prop) (m7:List Value→Hp→Nat),I6 [vsl a3 n3 c3,vi 0] h2∧∀ vs8 h9,I6 vs8 h9→∃ a10 n10 c10 x11,vs8=[vsl a10 n10 c10,vi x11]∧(((decide (x11 < (u5:Int)))=true→(∃ b14 o15,(u4=some ⟨b14,o15,none⟩∧(0:Int)≤x11∧x11 < (u5:Int))∧(∃ x16 x17 x18 x19 x20 x21,(Hp.row h9 b14 (o15+x11.toNat*6) 6=some [vi x16,vi x17,vi x18,vi x19,vi x20,vi x21])∧(CallOK Tryz.prog 64 [vi x16] h9 fun v22 h23=>∃ x24,v22=(vi x24)∧(let J28:Int→Prop:=fun x38=>(CallOK Tryz.prog 64 [vi x16] h23 fun v39 h40=>∃ x41,v39=(vi x41)∧(let J45:Int→Prop:=fun x48=>(∀ b49,h40 b49=none→let h50:= Hp.set h40 b49 (cellsO [vi x16,vi x38,vi x48,vi x19,vi x20,vi x21] 83);(SemOK Tryz.prog (Builtin.append_ #[26,26] 26 #[vsl a10 n10 c10,(vsl (some (⟨b49,0,none⟩:Addr)) 1 1)]) h50 fun v51 h52=>∃ a53 n53 c53,v51=(vsl a53 n53 c53)∧(∃ x55,(IsW x55 (x11+1))∧(I6 [vsl a53 n53 c53,vi x55] h52∧m7 [vsl a53 n53 c53,vi x55] h52 < m7 vs8 h9))));(((decide (x41 > 1))=true→(∃ x42,(IsW x42 (x18+(u2:Int)))∧(J45 x42)))∧((decide (x41 > 1))=false→(J45 x18)))));(((decide (x24 > 0))=true→(∃ x25,(IsW x25 (x17+(u2:Int)))∧(J28 x25)))∧((decide (x24 > 0))=false→(J28 x17))))))))∧((decide (x11 < (u5:Int)))=false→(CallOK Tryz.prog 64 [vi u0] h9 fun v56 h57=>∃ x58,v56=(vi x58)∧(let J62:Int→Prop:=fun x65=>(∀ b66,h57 b66=none→let h67:= Hp.set h57 b66 (cellsO [vi u0,vi x4,vi x65,vi 0,vi 0,vi 0] 83);(SemOK Tryz.prog (Builtin.append_ #[26,26] 26 #[vsl a10 n10 c10,(vsl (some (⟨b66,0,none⟩:Addr)) 1 1)]) h67 fun v68 h69=>∃ a70 n70 c70,v68=(vsl a70 n70 c70)∧R (vsl a70 n70 c70) h69));(((decide (x58 > 1))=true→(∃ x59,(IsW x59 ((n10:Int) - 1))∧(J62 x59)))∧((decide (x58 > 1))=false→(J62 0))))))))))
theorem ok_expr_Join {u0 u1 u2 u3 u4 u5 u6 h R}(H:VC_expr_Join u0 u1 u2 u3 u4 u5 u6 h R):CallOK Tryz.prog 112 [vi u0,vsl u1 u2 u3,vsl u4 u5 u6] h R:=
 call_of (cfg:=⟨[],[(4,([7,20],[.one (.slice),.one (.int .i64)],[]))],[]⟩) noNG mixed Tryz.func112 [.one (.v (vi u0)),.one (.v (vsl u1 u2 u3)),.one (.v (vsl u4 u5 u6))] (by kernel_rfl) rfl (by kernel_rfl) H
def VC_slices_Clone_api_Node_api_Node (u0:Option Addr)(u1 u2:Nat)(h:Hp)(R:Value→Hp→Prop):Prop:=
 (∃ p1,(Rd Tryz.prog ((eqGuard .eql 26 (.tmp 3) (.const (vsl none 0 0)) (vsl u0 u1 u2) (vsl none 0 0) >>= fun _=>binOp .eql 26 (vsl u0 u1 u2) (vsl none 0 0))) h (vb p1))∧((p1=true→R (vsl none 0 0) h)∧(p1=false→(∀ b3,h b3=none→let h4:= Hp.set h b3 (cellsO [] 83);(SemOK Tryz.prog (Builtin.append_ #[26,26] 26 #[(vsl (some (⟨b3,0,none⟩:Addr)) 0 0),vsl u0 u1 u2]) h4 fun v5 h6=>∃ a7 n7 c7,v5=(vsl a7 n7 c7)∧R (vsl a7 n7 c7) h6)))))
theorem ok_slices_Clone_api_Node_api_Node {u0 u1 u2 h R}(H:VC_slices_Clone_api_Node_api_Node u0 u1 u2 h R):CallOK Tryz.prog 150 [vsl u0 u1 u2] h R:=
 call_of (cfg:=⟨[],[],[]⟩) noNG mixed Tryz.func150 [.one (.v (vsl u0 u1 u2))] (by kernel_rfl) rfl (by kernel_rfl) H
def encN (n:Nd):List Value:=[vi n.op,vi n.x,vi n.y,vi n.n,vi n.v.1,vi n.v.2]
theorem encN_len (n:Nd):(encN n).length=6:=rfl
theorem one_encN (n:Nd):∀ u ∈ encN n,u.oneCell'=true:=by
 intro u hu
 simp [encN] at hu
 rcases hu with rfl|rfl|rfl|rfl|rfl|rfl<;>rfl
theorem one_nds (l:List Nd):∀ u ∈ l.flatMap encN,u.oneCell'=true:=by
 intro u hu
 obtain⟨v,_,hv⟩:=List.mem_flatMap.1 hu
 exact one_encN v u hv
theorem elNd:ElT Tryz.prog 26 83 6 48:=.of (by kernel_rfl) (by kernel_rfl) (by decide)
theorem popN_some {n:Nd}{st s:List Int}(ha:0≤arI n.op)(h:popN n st=some s):(s.length:Int)=st.length - arI n.op∧st.reverse.take s.length=s.reverse:=by
 unfold popN at h
 rcases arI_range ha with h1|h1|h1
 ·rw [if_pos h1] at h
  cases h
  refine⟨by omega,?_⟩
  rw [List.take_of_length_le (by simp)]
 ·rw [if_neg (by omega),if_pos h1] at h
  match st,h with
  | a :: t,h=>
   simp only at h
   split at h
   ·cases h
    refine⟨by simp;omega,?_⟩
    rw [List.reverse_cons,List.take_left' (by simp)]
   ·cases h
 ·rw [if_neg (by omega),if_neg (by omega)] at h
  match st,h with
  | b :: a :: t,h=>
   simp only at h
   split at h
   ·cases h
    refine⟨by simp;omega,?_⟩
    rw [List.reverse_cons,List.reverse_cons,List.append_assoc,List.take_left' (by simp)]
   ·cases h
theorem chk_none {n:Nd}{l:List Nd}{st:List Int}{i:Nat}(h0:nodeF n=0)(h:popN n st=none):chkGo st i (n :: l)=3:=by
 rw [chkGo,if_neg (fun q=>q h0),h]
theorem chk_some {n:Nd}{l:List Nd}{st s:List Int}{i:Nat}(h0:nodeF n=0)(h:popN n st=some s):chkGo st i (n :: l)=chkGo (i :: s) (i+1) l:=by
 rw [chkGo,if_neg (fun q=>q h0),h]
theorem chk_fault {n:Nd}{l:List Nd}{st:List Int}{i:Nat}{f:Int}(h0:nodeF n=f)(hf:f≠0):chkGo st i (n :: l)=f:=by
 rw [chkGo,if_pos (by rw [h0];exact hf),h0]
theorem expr_Arity_ok {op:Int}{h:Hp}{R:Value→Hp→Prop}(hK:R (vi (arI op)) h):CallOK Tryz.prog 64 [vi op] h R:=by
 refine ok_expr_Arity ?_
 unfold VC_expr_Arity
 unfold arI at hK
 refine⟨fun e=>?_,fun e=>⟨fun e2=>?_,fun e2=>⟨fun e3=>?_,fun e3=>?_⟩⟩⟩
 all_goals simp only [cand,cor] at *
 ·rw [if_pos (of_decide_eq_true e)] at hK;exact hK
 ·rw [if_neg (of_decide_eq_false e),if_pos (by have:=of_decide_eq_true e2;omega)] at hK;exact hK
 ·rw [if_neg (of_decide_eq_false e),if_neg (by have:=of_decide_eq_false e2;omega),if_pos (by have:=of_decide_eq_true e3;omega)] at hK;exact hK
 ·rw [if_neg (of_decide_eq_false e),if_neg (by have:=of_decide_eq_false e2;omega),if_neg (by have:=of_decide_eq_false e3;omega)] at hK;exact hK
section
variable {a:Option Addr}{m c:Nat}{l:List Nd}{h:Hp}
theorem tyG_some (op a b:Int):tyG op (some a) (some b)=if op=5 then some 2 else if (a≠0∧a≠wantT op)∨(b≠0∧b≠wantT op) then none else if op=11∨op=12 then some 2 else some (wantT op):=rfl
end
theorem expr_field_ok {e:EvL}{n:Int}(hn:0≤n∧n≤3){h:Hp}{R:Value→Hp→Prop}(hK:R (vag (encV (fieldV e n))) h):CallOK Tryz.prog 94 [vag (encE e),vi n] h R:=by
 refine ok_expr_field ?_
 unfold VC_expr_field
 refine value_Number_ok ⟨_,_,rfl,?_⟩
 have r:n=0∨n=1∨n=2∨n=3:=by omega
 rcases r with rfl|rfl|rfl|rfl
 ·exact⟨_,_,fun w _=>by kernel_rfl,hK⟩
 ·exact⟨_,_,fun w _=>by kernel_rfl,hK⟩
 ·exact⟨_,_,fun w _=>by kernel_rfl,hK⟩
 ·exact⟨_,_,fun w _=>by kernel_rfl,hK⟩
theorem elVal:ElT Tryz.prog 70 41 2 16:=.of (by kernel_rfl) (by kernel_rfl) (by decide)
theorem outs_get {β:Type}{d:β}{F:Nd→β→β→β}{l:List Nd}{outs:List β}{i k:Nat}(ho:outs.take i=fwd d F (l.take i))(hi:i≤l.length)(hk:k < i):outs[k]?=some (fAt d F l k):=by
 have h1:outs[k]?=(outs.take i)[k]?:=by rw [List.getElem?_take,if_pos hk]
 rw [h1,ho]
 have hlen:(fwd d F (l.take i)).length=i:=by rw [fwd_length,List.length_take];omega
 rw [←fAt_take l hk hi,List.getD_eq_getElem?_getD,List.getElem?_eq_getElem (by omega)]
 rfl
theorem outs_set {β:Type}{d:β}{F:Nd→β→β→β}{l:List Nd}{outs:List β}{i:Nat}{n:Nd}(ho:outs.take i=fwd d F (l.take i))(hn:l[i]?=some n)(hl:outs.length=l.length):(outs.set i (fAt d F l i)).take (i+1)=fwd d F (l.take (i+1)):=by
 have hlt:=(List.getElem?_eq_some_iff.1 hn).1
 rw [fwd_take l hn,←ho,List.take_succ_eq_append_getElem (by rw [List.length_set];omega),List.take_set_of_le (Nat.le_refl _),List.getElem_set_self]
section
variable {a:Option Addr}{m c:Nat}{l:List Nd}{h:Hp}
theorem expr_Eval_ok (S:SlP encN h a m l)(W:WfL l)(hl:0 < l.length)(hm:l.length≤1000000){e:EvL}{R:Value→Hp→Prop}(hK:∀ h',h.le h'→R (vag (encV (valE e l))) h'):CallOK Tryz.prog 45 [vsl a m c,vag (encE e)] h R:=by
 refine ok_expr_Eval ?_
 unfold VC_expr_Eval
 obtain rfl:=S.1
 refine Vec.make (enc:=encV) (x:=(0,0)) elVal (z:=[vi 0,vi 0]) (by kernel_rfl) rfl rfl hm (by omega) fun a3 h2 V2=>⟨_,_,_,rfl,?_⟩
 refine⟨fun vs hh=>∃(i:Nat) (outs:List (Int × Int)),vs=[vi i]∧i≤l.length∧outs.length=l.length∧outs.take i=fwd (0,0) (stepF e) (l.take i)∧Vec encV 2 41 h hh a3 l.length outs,fun vs hh=>l.length - (vint vs 0).toNat,
  ⟨0,_,rfl,Nat.zero_le _,by simp,rfl,V2⟩,?_⟩
 rintro vs hh ⟨i,outs,rfl,hi,hlo,ho,V⟩
 refine⟨i,rfl,fun q=>?_,fun q=>?_⟩
 ·have hlt:i < l.length:=by have:=of_decide_eq_true q;omega
  have hx:l[i]?=some l[i]:=List.getElem?_eq_getElem hlt
  have Wn:=W _ _ hx
  have hv:vAt e l i=_:=fAt_wf (own_stepF e) hx Wn
  have hset:=outs_set ho hx hlo
  obtain⟨b,o,ha,hr⟩:=(S.le V.le0).get encN_len (by decide) hx
  generalize l[i]=n at *
  have hout:outs[i]?=some (outs[i]'(by omega)):=List.getElem?_eq_getElem (by omega)
  obtain⟨b3,o3,ha3,hput⟩:=V.put encV_len (x':=vAt e l i) (k:=0) (vs:=encV (vAt e l i)) hout (by rw [encV_len];decide) (by rw [encV_len];decide) rfl
  have A3:∀{x:Int},0≤x→x < l.length→a3=some ⟨b3,o3,none⟩∧(0:Int)≤x∧x < (l.length:Nat):=fun h0 h1=>⟨ha3,h0,h1⟩
  have rdo:∀{x:Int},0≤x→x < i→hh.row b3 (o3+x.toNat*2) 2=some (encV (vAt e l x.toNat)):=by
   intro x h0 h1
   obtain⟨b',o',ha',hr'⟩:=(V.slp encV_len (by decide)).get encV_len (by decide) (outs_get ho hi (k:=x.toNat) (by omega))
   rw [ha3] at ha'
   cases ha'
   exact hr'
  intro J83
  have hJ:∀ h',Vec encV 2 41 h h' a3 l.length (outs.set i (vAt e l i))→J83 h':=by
   intro h' V'
   exact⟨_,isW (by unfold InR;omega),⟨i+1,_,rfl,by omega,by rw [List.length_set];exact hlo,hset,V'⟩,by simp [vint];omega⟩
  clear_value J83
  have fin:∀{v:Int × Int},v=vAt e l i→hh.store b3 (o3+i*2) (encV v) J83:=by
   rintro v rfl
   exact hput _ hJ
  have ar:=ar0 Wn.a
  have hfold:vAt e l=fAt (0,0) (stepF e) l:=rfl
  rw [←hfold] at hv
  unfold stepF at hv
  have Ai:a3=some ⟨b3,o3,none⟩∧(0:Int)≤i∧(i:Int) < (l.length:Nat):=A3 (by omega) (by omega)
  refine⟨b,o,⟨ha,by omega,by omega⟩,_,_,_,_,_,_,hr,fun q=>?_,fun q1=>⟨fun q=>?_,fun q2=>⟨fun q=>?_,fun q3=>⟨fun q=>?_,fun q4=>⟨fun q=>?_,fun q5=>?_⟩⟩⟩⟩⟩
  ·rw [if_pos (of_decide_eq_true q)] at hv
   exact⟨b3,o3,Ai,fin hv.symm⟩
  ·rw [if_neg (of_decide_eq_false q1),if_pos (of_decide_eq_true q)] at hv
   exact expr_field_ok (Wn.f (of_decide_eq_true q)) ⟨_,_,rfl,b3,o3,Ai,fin hv.symm⟩
  ·rw [if_neg (of_decide_eq_false q1),if_neg (of_decide_eq_false q2),if_pos (of_decide_eq_true q)] at hv
   have:=of_decide_eq_true q
   have hX:=Wn.x (by omega)
   exact⟨b3,o3,A3 (by omega) (by omega),_,_,rdo hX.1 hX.2,value_Neg_ok ⟨_,_,rfl,b3,o3,Ai,fin hv.symm⟩⟩
  ·rw [if_neg (of_decide_eq_false q1),if_neg (of_decide_eq_false q2),if_neg (of_decide_eq_false q3),if_pos (of_decide_eq_true q)] at hv
   have:=of_decide_eq_true q
   have hX:=Wn.x (by omega)
   exact⟨b3,o3,A3 (by omega) (by omega),_,_,rdo hX.1 hX.2,value_Not_ok ⟨_,_,rfl,b3,o3,Ai,fin hv.symm⟩⟩
  ·rw [if_neg (of_decide_eq_false q1),if_neg (of_decide_eq_false q2),if_neg (of_decide_eq_false q3),if_neg (of_decide_eq_false q4),if_pos (of_decide_eq_true q)] at hv
   have:=of_decide_eq_true q
   have hX:=Wn.x (by omega)
   exact⟨b3,o3,A3 (by omega) (by omega),_,Hp.row_cell (rdo hX.1 hX.2) (i:=0) rfl,value_Truth_ok ⟨_,_,rfl,b3,o3,Ai,fin hv.symm⟩⟩
  ·have p1:=of_decide_eq_false q1
   have p2:=of_decide_eq_false q2
   have p3:=of_decide_eq_false q3
   have p4:=of_decide_eq_false q4
   have p5:=of_decide_eq_false q5
   rw [if_neg p1,if_neg p2,if_neg p3,if_neg p4,if_neg p5] at hv
   have h2:arI n.op=2:=by rcases arI_range Wn.a with h|h|h<;>omega
   have hX:=Wn.x (by omega)
   have hY:=Wn.y (by omega)
   exact⟨b3,o3,A3 (by omega) (by omega),_,_,rdo hX.1 hX.2,b3,o3,A3 (by omega) (by omega),_,_,rdo hY.1 hY.2,value_Do_ok ⟨_,_,rfl,b3,o3,Ai,fin hv.symm⟩⟩
 ·have hge:i=l.length:=by have:=of_decide_eq_false q;omega
  subst hge
  obtain⟨b',o',ha',hr'⟩:=(V.slp encV_len (by decide)).get encV_len (by decide) (outs_get ho (Nat.le_refl _) (k:=l.length - 1) (by omega))
  refine⟨_,isW (by unfold InR;omega),b',o',⟨ha',by omega,by omega⟩,_,_,?_,hK hh V.le0⟩
  have e1:(((l.length:Nat):Int) - 1).toNat=l.length - 1:=by omega
  rw [e1]
  exact hr'
theorem expr_join_ok {x y:Int}{R:Value→Hp→Prop}(hK:R (vtup [vi (if x=0 then y else if y=0∨x=y then x else 0),vb (decide (x=0∨y=0∨x=y))]) h):CallOK Tryz.prog 152 [vi x,vi y] h R:=by
 refine ok_expr_join ?_
 unfold VC_expr_join
 refine⟨fun q=>?_,fun q=>?_⟩
 ·have q:=of_decide_eq_true q
  rw [if_pos q,decide_eq_true (.inl q)] at hK;exact hK
 have q:=of_decide_eq_false q
 rw [if_neg q] at hK
 intro J3
 refine⟨fun q2=>⟨fun _=>?_,fun q3=>?_⟩,fun q2=>⟨fun q3=>?_,fun q3=>?_⟩⟩
 ·have q2:=of_decide_eq_true q2
  rw [if_pos (.inl q2),decide_eq_true (.inr (.inl q2))] at hK;exact hK
 ·rw [q2] at q3;cases q3
 ·have q3:=of_decide_eq_true q3
  rw [if_pos (.inr q3),decide_eq_true (.inr (.inr q3))] at hK;exact hK
 ·have q2:=of_decide_eq_false q2
  have q3:=of_decide_eq_false q3
  rw [if_neg (by omega),decide_eq_false (by omega)] at hK;exact hK
def encI (x:Int):List Value:=[vi x]
theorem encI_len (x:Int):(encI x).length=1:=rfl
theorem expr_Type_ok (S:SlP encN h a m l)(O:OkE l)(hm:l.length≤1000000){R:Value→Hp→Prop}(hK:∀ h',h.le h'→R (vtup [vi (typE l).1,ifv (errV (typE l).2)]) h'):CallOK Tryz.prog 119 [vsl a m c] h R:=by
 have W:=O.wf
 have hl:=O.pos
 refine ok_expr_Type ?_
 unfold VC_expr_Type
 obtain rfl:=S.1
 refine Vec.make (enc:=encI) (x:=0) elInt (z:=[vi 0]) (by kernel_rfl) rfl rfl hm (by omega) fun a3 h2 V2=>⟨_,_,_,rfl,?_⟩
 refine⟨fun vs hh=>∃(i:Nat) (outs:List Int),vs=[vi i]∧i≤l.length∧outs.length=l.length∧(outs.map some).take i=fwd none tyF (l.take i)∧Vec encI 1 3 h hh a3 l.length outs,fun vs hh=>l.length - (vint vs 0).toNat,
  ⟨0,_,rfl,Nat.zero_le _,by simp,rfl,V2⟩,?_⟩
 rintro vs hh ⟨i,outs,rfl,hi,hlo,ho,V⟩
 have get:∀{k:Nat},k < i→∃ t,outs[k]?=some t∧tAt l k=some t:=by
  intro k hk
  have:=outs_get ho hi hk
  rw [List.getElem?_map,Option.map_eq_some_iff] at this
  obtain⟨t,h1,h2⟩:=this
  exact⟨t,h1,h2.symm⟩
 refine⟨i,rfl,fun q=>?_,fun q=>?_⟩
 ·have hlt:i < l.length:=by have:=of_decide_eq_true q;omega
  have hx:l[i]?=some l[i]:=List.getElem?_eq_getElem hlt
  have Wn:=W _ _ hx
  have hv:tAt l i=_:=fAt_wf own_tyF hx Wn
  have hset:=fun t (e:tAt l i=some t)=>(by
   have:=outs_set (outs:=outs.map some) ho hx (by simpa using hlo)
   rw [show fAt none tyF l i=some t from e,←List.map_set] at this
   exact this:((outs.set i t).map some).take (i+1)=fwd none tyF (l.take (i+1)))
  obtain⟨b,o,ha,hr⟩:=(S.le V.le0).get encN_len (by decide) hx
  generalize l[i]=n at *
  have hout:outs[i]?=some (outs[i]'(by omega)):=List.getElem?_eq_getElem (by omega)
  obtain⟨b3,o3,ha3,_⟩:=V.put encI_len (x':=0) (k:=0) (vs:=[vi 0]) hout (by decide) (by decide) rfl
  have A3:∀{x:Int},0≤x→x < l.length→a3=some ⟨b3,o3,none⟩∧(0:Int)≤x∧x < (l.length:Nat):=fun h0 h1=>⟨ha3,h0,h1⟩
  have put:∀(outs':List Int) (hh':Hp),outs'.length=l.length→Vec encI 1 3 h hh' a3 l.length outs'→∀(t:Int) (K:Hp→Prop),(∀ h',Vec encI 1 3 h h' a3 l.length (outs'.set i t)→K h')→hh'.store b3 (o3+i*1) [vi t] K:=by
   intro outs' hh' h1 V' t K hK
   obtain⟨b',o',ha',hp⟩:=V'.put encI_len (i:=i) (x:=outs'[i]'(by omega)) (x':=t) (k:=0) (vs:=[vi t]) (List.getElem?_eq_getElem (by omega)) (Nat.succ_pos 0) (Nat.le_refl 1) rfl
   rw [ha3] at ha'
   cases ha'
   exact hp K hK
  intro J95
  have hJ:∀ t,tAt l i=some t→∀ h',Vec encI 1 3 h h' a3 l.length (outs.set i t)→J95 h':=by
   intro t e h' V'
   exact⟨_,isW (by unfold InR;omega),⟨i+1,_,rfl,by omega,by rw [List.length_set];exact hlo,hset t e,V'⟩,by simp [vint];omega⟩
  clear_value J95
  have ar:=ar0 Wn.a
  have hfold:tAt l=fAt none tyF l:=rfl
  rw [←hfold] at hv
  have Ai:a3=some ⟨b3,o3,none⟩∧(0:Int)≤i∧(i:Int) < (l.length:Nat):=A3 (by omega) (by omega)
  refine⟨b,o,⟨ha,by omega,by omega⟩,_,_,_,_,_,_,hr,?_⟩
  intro J39
  have bad:tAt l i=none→∀ h',h.le h'→R (vtup [vi 0,ifv (errV 3)]) h':=by
   intro e h' l'
   have:typE l=(0,3):=by
    unfold typE
    cases ht:tAt l (l.length - 1) with
    | none=>rfl
    | some t=>exact absurd e (O.b.ty W (by rw [ht];simp) i (Nat.zero_le _) hlt)
   rw [this] at hK
   exact hK h' l'
  have hJ39:¬ n.op=1→¬ n.op=2→¬ n.op=5→J39 (wantT n.op):=by
   intro p1 p2 p5
   have har:1≤arI n.op:=by rcases arI_range Wn.a with h|h|h<;>omega
   rw [tyF_op p1 p2] at hv
   have hX:=Wn.x har
   obtain⟨tx,ox,ex⟩:=get (k:=n.x.toNat) (by omega)
   have hy:∃ ty,2≤arI n.op→outs[n.y.toNat]?=some ty∧tAt l n.y.toNat=some ty:=by
    by_cases h2:2≤arI n.op
    ·have hY:=Wn.y h2
     obtain⟨ty,q⟩:=get (k:=n.y.toNat) (by omega)
     exact⟨ty,fun _=>q⟩
    ·exact⟨0,fun h=>absurd h h2⟩
   obtain⟨ty,hy⟩:=hy
   have hv2:tAt l i=tyG n.op (some tx) (some (if arI n.op=2 then ty else tx)):=by
    rw [hv,ex]
    by_cases h2:arI n.op=2
    ·rw [if_pos h2,if_pos h2,(hy (by omega)).2]
    ·rw [if_neg h2,if_neg h2]
   rw [tyG_some,if_neg p5] at hv2
   have hw0:wantT n.op≠0:=by unfold wantT;split<;>decide
   generalize hwd:wantT n.op=want at *
   refine expr_Arity_ok ⟨_,rfl,fun b64 hb64=>?_⟩
   intro h65
   have S65:SlI h65 (some ⟨b64,0,none⟩) 2 [n.x,n.y]:=⟨rfl,HasRow.new _ _ [vi n.x,vi n.y] _⟩
   have V65:Vec encI 1 3 h h65 a3 l.length outs:=V.keep0 (Hp.le_set (Hp.le_refl hh) hb64 _)
   clear_value h65
   refine⟨_,_,_,rd_slice_h (e:=3) (by kernel_rfl) (by kernel_rfl) (by omega) (by rcases arI_range Wn.a with h|h|h<;>omega),?_⟩
   have rdo:∀{x t:Int},0≤x→outs[x.toNat]?=some t→h65.cell b3 (o3+x.toNat*1)=some (vi t):=by
    intro x t h0 h1
    obtain⟨b',o',ha',hr'⟩:=(V65.slp encI_len (by decide)).cell (j:=0) encI_len (by decide) h1 rfl
    rw [ha3] at ha'
    cases ha'
    exact hr'
   refine⟨fun vs h'=>h'=h65∧∃ j:Nat,vs=[vi j]∧(j:Int)≤arI n.op∧(1≤j→tx=0∨tx=want)∧(2≤j→ty=0∨ty=want),fun vs hh=>(arI n.op).toNat - (vint vs 0).toNat,⟨rfl,0,rfl,by omega,by omega,by omega⟩,?_⟩
   rintro vs h71 ⟨rfl,j,rfl,hj,f1,f2⟩
   refine⟨j,rfl,fun g=>?_,fun g=>?_⟩
   ·have hj2:(j:Int) < arI n.op:=by have:=of_decide_eq_true g;omega
    have fact:∃ x t:Int,[n.x,n.y].getD j 0=x∧0≤x∧x < l.length∧outs[x.toNat]?=some t∧(¬(t=0∨t=want)→tAt l i=none)∧(j=0→t=tx)∧(j=1→t=ty):=by
     by_cases hj0:j=0
     ·subst hj0
      refine⟨n.x,tx,rfl,hX.1,by omega,ox,fun hb=>?_,fun _=>rfl,fun h=>by omega⟩
      rw [hv2,if_pos (by omega)]
     ·have hj1:j=1:=by rcases arI_range Wn.a with h|h|h<;>omega
      subst hj1
      have hY:=Wn.y (by omega)
      refine⟨n.y,ty,rfl,hY.1,by omega,(hy (by omega)).1,fun hb=>?_,fun h=>by omega,fun _=>rfl⟩
      rw [hv2,if_pos]
      rw [if_pos (by rcases arI_range Wn.a with h|h|h<;>omega)]
      omega
    obtain⟨x,t,e0,h0,h1,e1,hb,u1,u2⟩:=fact
    obtain⟨q,p,hq,hcell⟩:=S65.get (i:=j) (by rcases arI_range Wn.a with h|h|h<;>omega)
    rw [e0] at hcell
    refine⟨q,p,⟨hq,by omega,by omega⟩,_,hcell,b3,o3,A3 h0 h1,_,rdo h0 e1,expr_join_ok ⟨_,_,rfl,fun g=>?_,fun g=>?_⟩⟩
    ·rw [cnot] at g
     have g:=of_decide_eq_true g
     exact bad (hb (by omega)) h71 V65.le0
    ·rw [cnot] at g
     have g:=of_decide_eq_false g
     refine⟨_,isW (by unfold InR;rcases arI_range Wn.a with h|h|h<;>omega),⟨rfl,j+1,rfl,by omega,fun _=>?_,fun h=>?_⟩,by simp [vint];omega⟩
     ·by_cases hj0:j=0
      ·have:=u1 hj0;omega
      ·exact f1 (by omega)
     ·have:=u2 (by rcases arI_range Wn.a with h|h|h<;>omega);omega
   ·have hje:(j:Int)=arI n.op:=by have:=of_decide_eq_false g;omega
    have hfine:tAt l i=some (if n.op=11∨n.op=12 then 2 else want):=by
     rw [hv2,if_neg]
     ·split<;>rfl
     ·have:=f1 (by omega)
      by_cases h2:arI n.op=2
      ·rw [if_pos h2]
       have:=f2 (by omega)
       omega
      ·rw [if_neg h2]
       omega
    refine⟨b3,o3,Ai,put outs _ hlo V65 want _ fun h89 V89=>⟨fun g=>?_,fun g=>?_⟩⟩
    ·rw [cor] at g
     have g:=of_decide_eq_true g
     rw [if_pos g] at hfine
     refine⟨b3,o3,Ai,put _ h89 (by rw [List.length_set];exact hlo) V89 2 _ fun h92 V92=>hJ 2 hfine h92 ?_⟩
     rw [List.set_set] at V92
     exact V92
    ·rw [cor] at g
     have g:=of_decide_eq_false g
     rw [if_neg g] at hfine
     exact hJ want hfine h89 V89
  clear_value J39
  refine⟨fun q=>?_,fun q1=>⟨fun q=>?_,fun q2=>⟨fun q=>?_,fun q5=>?_⟩⟩⟩
  ·have e:tAt l i=some n.v.1:=by rw [hv];unfold tyF;exact if_pos (of_decide_eq_true q)
   exact⟨b3,o3,Ai,put outs hh hlo V _ _ (hJ _ e)⟩
  ·have e:tAt l i=some 1:=by rw [hv];unfold tyF;rw [if_neg (of_decide_eq_false q1)];exact if_pos (of_decide_eq_true q)
   exact⟨b3,o3,Ai,put outs hh hlo V _ _ (hJ _ e)⟩
  ·have h5:=of_decide_eq_true q
   have hX:=Wn.x (by omega)
   obtain⟨tx,ox,ex⟩:=get (k:=n.x.toNat) (by omega)
   have e:tAt l i=some 2:=by
    rw [hv,tyF_op (by omega) (by omega),if_neg (by omega),ex,tyG_some,if_pos h5]
   exact⟨b3,o3,Ai,put outs hh hlo V _ _ (hJ _ e)⟩
  ·have p1:=of_decide_eq_false q1
   have p2:=of_decide_eq_false q2
   have p5:=of_decide_eq_false q5
   have hw:=hJ39 p1 p2 p5
   unfold wantT at hw
   intro J35
   refine⟨fun g=>⟨fun _=>?_,fun g2=>?_⟩,fun g1=>⟨fun g=>⟨fun _=>?_,fun g2=>?_⟩,fun g2=>⟨fun g=>?_,fun g=>?_⟩⟩⟩
   ·rw [if_pos (.inl (of_decide_eq_true g))] at hw;exact hw
   ·rw [g] at g2;cases g2
   ·rw [if_pos (.inr (.inl (of_decide_eq_true g)))] at hw;exact hw
   ·rw [g] at g2;cases g2
   ·rw [if_pos (.inr (.inr (of_decide_eq_true g)))] at hw;exact hw
   ·have a1:=of_decide_eq_false g1
    have a2:=of_decide_eq_false g2
    have a3:=of_decide_eq_false g
    rw [if_neg (by omega)] at hw;exact hw
 ·have hge:i=l.length:=by have:=of_decide_eq_false q;omega
  subst hge
  obtain⟨t,ot,et⟩:=get (k:=l.length - 1) (by omega)
  obtain⟨b',o',ha',hr'⟩:=(V.slp encI_len (by decide)).cell (j:=0) encI_len (by decide) ot rfl
  refine⟨_,isW (by unfold InR;omega),b',o',⟨ha',by omega,by omega⟩,t,?_,?_⟩
  ·have e1:(((l.length:Nat):Int) - 1).toNat=l.length - 1:=by omega
   rw [e1]
   exact hr'
  ·have:typE l=(t,0):=by unfold typE;rw [et]
   rw [this] at hK
   exact hK hh V.le0
end
end Go.Proofs.YtiflgceoamkmnaaGreatDoor
