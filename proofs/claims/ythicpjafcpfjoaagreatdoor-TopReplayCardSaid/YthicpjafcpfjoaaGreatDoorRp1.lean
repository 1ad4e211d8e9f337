/-
  Laws and contracts on which the statement's proof stands, part 1. Conditions: those stated at each.
-/
import Derived.WalkKit
import Derived.WalkLawsBesides
import Derived.RangeFuncNested
import Derived.RangeFuncLeaves
import Derived.Orders
import Derived.Laws.OwnMore
import Derived.RowKit3
import Derived.OpenShut
import Derived.ChangeSame
import Derived.ProofKit
import Derived.JoinedCond
import Derived.Laws.StructEq
import Derived.Laws.Slices
namespace Go.Vc
end Go.Vc
namespace Go.Vd
end Go.Vd
namespace Go.Txt
end Go.Txt
abbrev bB:=@of_decide_eq_false
abbrev bC:=@of_decide_eq_true
abbrev bD:=@List.getElem?_eq_getElem
abbrev bE:=@if_neg
abbrev bF:=@Int.toNat_natCast
abbrev bG:=@List.getElem?_eq_some_iff
abbrev bH:=@Option.some.injEq
abbrev bI:=@List.getD_eq_getElem?_getD
abbrev bJ:=@if_pos
abbrev bL:=@List.take_succ_eq_append_getElem
abbrev bO:=@List.length_append
abbrev bP:=@Nat.le_of_ble_eq_true
abbrev bQ:=@List.length_map
abbrev bS:=@List.mem_cons
abbrev bT:=@List.mem_cons_of_mem
abbrev bU:=@List.mem_append
abbrev bV:=@Array.getElem?_eq_some_iff
abbrev bX:=@List.append_assoc
abbrev bY:=@List.mem_cons_self
abbrev bZ:=@List.length_take
abbrev cB:=@Nat.le_refl
abbrev cC:=@List.getElem?_map
abbrev cD:=@List.mem_singleton
abbrev cE:=@Nat.zero_le
abbrev cF:=@List.mem_of_getElem?
abbrev cG:=@Bool.and_eq_true
abbrev cH:=@List.length_cons
abbrev cJ:=@List.map_append
abbrev cL:=@decide_eq_true
abbrev cM:=@List.getElem_mem
abbrev cO:=@decide_eq_false
abbrev cP:=@List.flatMap_append
abbrev cQ:=@Bool.cond_eq_ite
abbrev cT:=@Nat.eq_of_beq_eq_true
abbrev cU:=@Option.some.inj
abbrev cX:=@cond_true
abbrev cY:=@List.take_of_length_le
abbrev cZ:=@List.mem_map
abbrev dA:=@List.cons_append
abbrev dB:=@List.not_mem_nil
abbrev dC:=@Bool.eq_false_or_eq_true
abbrev dD:=@List.map_cons
abbrev dE:=@List.nil_append
abbrev dF:=@Option.map_eq_some_iff
abbrev dG:=@List.take_length
abbrev dH:=@List.append_nil
abbrev dI:=@List.flatMap_cons
abbrev dJ:=@List.set_cons_zero
abbrev dK:=@Nat.le_trans
abbrev dL:=@List.length_set
abbrev dM:=@cond_false
abbrev dN:=@List.flatMap_singleton
abbrev dO:=@List.getElem?_append_left
abbrev dP:=@List.getElem?_append_right
abbrev dQ:=@List.length_replicate
abbrev dR:=@List.eq_nil_of_length_eq_zero
abbrev dS:=@List.drop_eq_getElem_cons
abbrev dU:=@Nat.min_eq_left
abbrev dV:=@List.length_singleton
abbrev dW:=@Nat.zero_add
abbrev dX:=@List.take_append_drop
abbrev dY:=@Iff.rfl
abbrev dZ:=@Option.bind_eq_some_iff
abbrev d5:=@List.length_drop
abbrev d6:=@List.set_cons_succ
abbrev d7:=@Nat.ne_of_beq_eq_false
abbrev d8:=@List.mem_filter
abbrev d9:=@Nat.mul_le_mul_right
abbrev fA:=@List.pairwise_cons
abbrev fB:=@List.length_nil
abbrev fC:=@Prod.mk.injEq
abbrev fD:=@Option.map_some
abbrev fE:=@Array.length_toList
abbrev fF:=@List.mem_append_left
abbrev fG:=@List.getElem?_set_self
abbrev fH:=@List.map_map
abbrev fI:=@List.mem_flatMap
abbrev fJ:=@Option.isSome_iff_exists
abbrev fK:=@List.map_congr_left
abbrev fL:=@List.pairwise_iff_getElem
abbrev fM:=@List.foldl_append
abbrev fN:=@decide_eq_decide
abbrev fO:=@List.filter_cons
abbrev fP:=@List.getElem?_drop
abbrev fQ:=@List.eq_of_mem_replicate
abbrev fR:=@List.ext_getElem?
abbrev fS:=@List.replicate_succ
abbrev fT:=@Nat.sub_self
abbrev fU:=@List.length_eq_zero_iff
abbrev fV:=@or_false
abbrev fW:=@List.foldl_cons
abbrev fX:=@List.sublist_cons_self
abbrev fY:=@Array.getD_eq_getD_getElem?
abbrev fZ:=@Nat.mul_one
abbrev f7:=@Nat.add_zero
abbrev f8:=@List.nodup_cons
abbrev f9:=@decide_eq_false_iff_not
abbrev gA:=@Decidable.not_not
abbrev gB:=@List.getElem?_of_mem
abbrev gC:=@List.mem_of_mem_take
abbrev gD:=@List.mem_or_eq_of_mem_set
abbrev gE:=@List.getElem?_take
abbrev gF:=@Nat.le_of_lt
abbrev gG:=@List.drop_of_length_le
abbrev gH:=@Nat.add_mul
abbrev gI:=@List.getElem?_eq_none
abbrev gJ:=@List.set_append_right
abbrev gK:=@List.getElem?_set_ne
abbrev gL:=@List.drop_eq_nil_of_le
abbrev gM:=@List.map_set
abbrev gN:=@List.getElem?_set
abbrev gO:=@Bool.not_eq_true'
abbrev gP:=@List.take_append_of_le_length
abbrev gQ:=@Int.le_refl
abbrev gR:=@List.reverse_cons
abbrev gS:=@List.mem_append_right
abbrev gT:=@List.mapM_cons
abbrev gU:=@exists_eq_left'
abbrev gV:=@List.filter_append
abbrev gW:=@List.map_replicate
abbrev gX:=@Option.bind_some
abbrev gY:=@List.drop_drop
abbrev gZ:=@List.size_toArray
abbrev g7:=@List.length_zipWith
abbrev g8:=@List.cons.injEq
abbrev g9:=@Array.getElem?_eq_getElem
abbrev jA:=@Decidable.byContradiction
abbrev jB:=@Array.getElem?_toList
abbrev jC:=@List.length_filter_le
abbrev jD:=@List.getElem?_zipWith
abbrev jE:=@Nat.add_sub_cancel
abbrev jF:=@List.getElem_map
abbrev jG:=@List.take_zero
abbrev jH:=@List.Sublist.refl
abbrev jI:=@decide_eq_true_eq
abbrev jJ:=@List.getElem?_replicate
abbrev jK:=@List.filter_cons_of_neg
abbrev jL:=@true_and
abbrev jM:=@Bool.true_and
abbrev jN:=@List.map_take
abbrev jO:=@Nat.lt_succ_self
abbrev jP:=@List.take_take
abbrev jQ:=@Bool.false_eq_true
abbrev jR:=@Array.ext'
abbrev jS:=@List.set_eq_take_append_cons_drop
abbrev jT:=@List.take_left'
abbrev jU:=@Nat.le_succ_of_le
abbrev jV:=@List.nodup_append
abbrev jW:=@List.getElem_zipWith
abbrev jX:=@List.replicate_succ'
abbrev jY:=@List.toList_toArray
abbrev jZ:=@List.length_flatten
abbrev j0:=@List.all_eq_true
abbrev j5:=@List.filter_cons_of_pos
abbrev j6:=@List.nodup_nil
abbrev j7:=@Nat.one_mul
abbrev j8:=@List.map_id
abbrev j9:=@Nat.mul_comm
abbrev kA:=@Nat.succ_mul
abbrev kC:=@List.map_nil
abbrev kD:=@getElem!_pos
abbrev kE:=@List.length_zip
abbrev kF:=@if_false
abbrev kG:=@Nat.add_assoc
abbrev kH:=@List.getElem_set_self
abbrev kI:=@List.pairwise_map
abbrev kJ:=@List.mem_iff_getElem
abbrev kK:=@Int.tmod_eq_emod_of_nonneg
abbrev kL:=@List.drop_length
abbrev kM:=@Nat.lt_or_ge
abbrev kO:=@List.foldlM_cons
abbrev kP:=@Int.dvd_refl
abbrev kQ:=@Option.bind_eq_bind
abbrev kR:=@List.Sublist.append
abbrev kS:=@Array.toList_append
abbrev kU:=@List.sum_cons
abbrev kV:=@List.range_succ
abbrev kW:=@List.head?_drop
abbrev kX:=@List.zipWith_cons_cons
abbrev kY:=@Array.size_append
abbrev kZ:=@List.flatten_cons
abbrev k8:=@List.take_add_one
abbrev k9:=@UInt8.toNat_lt
abbrev mA:=@List.filter_congr
abbrev mB:=@Array.mem_of_getElem?
abbrev mC:=@Nat.div_lt_iff_lt_mul
abbrev mD:=@Nat.mod_lt
abbrev mE:=@List.pairwise_append
abbrev mF:=@List.reverse_reverse
abbrev mG:=@List.drop_append_of_le_length
abbrev mH:=@and_true
abbrev mI:=@Int.mul_le_mul_of_nonneg_left
abbrev mJ:=@Nat.not_lt_zero
abbrev mK:=@List.map_const'
abbrev mL:=@Option.pure_def
abbrev mM:=@List.filter_nil
abbrev mN:=@List.of_mem_zip
abbrev mO:=@List.append_inj
abbrev mP:=@List.take_set_of_le
abbrev mQ:=@Nat.add_comm
abbrev mR:=@List.mem_range
abbrev mS:=@Int.tdiv_eq_ediv_of_nonneg
abbrev mT:=@List.perm_ext_iff_of_nodup
abbrev mU:=@List.take_left
abbrev mV:=@Nat.lt_of_lt_of_le
abbrev mW:=@Classical.byContradiction
abbrev mX:=@List.mem_of_find?_eq_some
abbrev mY:=@Array.mapM_eq_mapM_toList
abbrev mZ:=@List.extract_eq_take_drop
abbrev pA:=@List.length_range
abbrev pB:=@Int.dvd_sub
abbrev pC:=@Nat.lt_trichotomy
abbrev pF:=@List.map_drop
abbrev pG:=@List.getElem?_take_of_lt
abbrev pH:=@Bool.not_true
abbrev pI:=@List.getElem?_cons_succ
abbrev pJ:=@Nat.mod_eq_of_lt
abbrev pK:=@List.pairwise_singleton
abbrev pL:=@Int.eq_ofNat_of_zero_le
abbrev pM:=@Nat.sub_zero
abbrev pN:=@Nat.succ_pos
abbrev pO:=@Nat.beq_eq
abbrev pP:=@beq_iff_eq
abbrev pQ:=@Nat.min_self
abbrev pR:=@List.drop_left'
abbrev pU:=@Nat.mul_eq_zero
abbrev pV:=@List.filter_map
abbrev pY:=@Bool.or_eq_true
abbrev pZ:=@List.headD_cons
abbrev p7:=@Int.emod_nonneg
abbrev qA:=@Int.natCast_add
abbrev qB:=@Int.natCast_mul
abbrev qC:=@List.Perm.refl
abbrev qD:=@List.drop_zero
abbrev qE:=@Ne.symm
abbrev qF:=@false_implies
abbrev qG:=@ByteArray.ext
abbrev qH:=@Nat.blt_eq
abbrev qI:=@if_true
set_option linter.unusedVariables false
set_option maxRecDepth 100000
namespace Go.Vc
open Go
abbrev Hp:=Nat->Option Obj
def Hp.set (h:Hp)(b:Nat)(o:Obj):Hp:=fun i=>if i=b then some o else h i
def Hp.cell (h:Hp)(b o:Nat):Option Value:=match h b with|some (.cells c _ _)=>c[o]?|_=>none
def Hp.row (h:Hp)(b o n:Nat):Option (List Value):=
 match h b with
 | some (.cells c _ _)=>if o+n<=c.size then some ((c.toList.drop o).take n) else none
 | _=>none
def Hp.le (h h':Hp):Prop:=∀ b o,h b=some o->h' b=some o
def Sub (h:Hp)(w:World):Prop:=∀ b o,h b=some o->w.heap[b]?=some o
structure Fr (h h':Hp)(w w':World):Prop where
 os:w'.os=w.os
 tape:w'.tape=w.tape
 output:w'.output=w.output
 size:w.heap.size<=w'.heap.size
 keep:∀ b,b<w.heap.size->h b=none->w'.heap[b]?=w.heap[b]?/\h' b=none
def Qa (P:Program)(f:FuncId)(args:List Value)(h:Hp)(K:Value->Hp->Prop):Prop:=
 ∀ w,Sub h w->Calls P f args.toArray w fun e w'=>∃ v h',e=.returned v/\Sub h' w'/\Fr h h' w w'/\K v h'
def Qh (P:Program)(m:Sem Value)(h:Hp)(K:Value->Hp->Prop):Prop:=
 ∀ w,Sub h w->∃ v w' h',m.run P w=.ok v w'/\Sub h' w'/\Fr h h' w w'/\K v h'
def WX (P:Program)(m:Sem Unit)(h:Hp)(K:Hp->Prop):Prop:=
 ∀ w,Sub h w->∃ w' h',m.run P w=.ok () w'/\Sub h' w'/\Fr h h' w w'/\K h'
def Qbk (P:Program)(f:FuncId)(args:List Value)(h:Hp)(K:Value->Hp->Prop):Prop:=
 ∀ w,Sub h w->∃ v w' h',(callFunc f args.toArray).run P w=.ok (.value v) w'/\Sub h' w'/\Fr h h' w w'/\K v h'
def ZC (P:Program)(fv:Value)(args:List Value)(h:Hp)(K:Value->Hp->Prop):Prop:=
 ∃ f pre post,fv=.func (.func f) pre post/\(∃ fn,P.funcs[f]?=some fn/\(fn.name == "runtime.NumGoroutine")=false/\fn.body.isNone=false)/\Qa P f (pre.toList++args++post.toList) h K
def Rd (P:Program)(m:Sem Value)(h:Hp)(v:Value):Prop:=∀ w,Sub h w->m.run P w=.ok v w
abbrev vi (x:Int):Value:=.int .i64 x
abbrev vk (k:IntKind)(x:Int):Value:=.int k x
abbrev vb (x:Bool):Value:=.bool x
abbrev vs (x:ByteArray):Value:=.string x
abbrev vsl (a:Option Addr)(n c:Nat):Value:=.slice a n c
abbrev vp (p:Option Addr):Value:=.pointer p
abbrev vhp (b o:Nat):Value:=.pointer (some ⟨b,o,none⟩)
abbrev vag (l:List Value):Value:=.agg l.toArray
abbrev Qf (l:List Value):Value:=.tuple l.toArray
abbrev Qb (l:List Value)(t:TypeId):Obj:=.cells l.toArray t (0,0)
inductive TV where
 | v (x:Value)|hp (b o:Nat)|ifc (e:Option (TypeId × Value))
def ifv:Option (TypeId × Value)->Value
 | some (t,v)=>.iface t v
 | none=>.nilIface
def TV.val:TV->Value
 | .v x=>x
 | .hp b o=>.pointer (some ⟨b,o,none⟩)
 | .ifc e=>ifv e
def Qn:List TV->List Value
 | []=>[]
 | x :: l=>x.val :: Qn l
inductive TW where
 | one (x:TV)|ag (l:List TV)
def TW.val:TW->Value
 | .one x=>x.val
 | .ag l=>.agg (Qn l).toArray
def TW.cells:TW->List TV
 | .one x=>[x]
 | .ag l=>l
def Kt:List TW->List Value
 | []=>[]
 | x :: l=>x.val :: Kt l
inductive SV where
 | t (x:TW)|tup (l:List TW)|bp (i o:Nat)|any
inductive Sl where
 | s (x:SV)|gd (s:Nat) (pol:Bool) (x:SV)
def SV.val:SV->Value
 | .t x=>x.val
 | .tup l=>.tuple (Kt l).toArray
 | _=>undef
def SV.val?:SV->Option Value
 | .t x=>some x.val
 | .tup l=>some (.tuple (Kt l).toArray)
 | _=>none
def SV.tw?:SV->Option TW
 | .t x=>some x
 | _=>none
inductive Sh1 where
 | int (k:IntKind)|bool|str|slice|ptr|ifc|val
inductive Sh0 where
 | one (s:Sh1)|agg (l:List Sh1)
inductive Sh where
 | s (x:Sh0)|tup (l:List Sh0)
def ex1:Sh1->(TV->Prop)->Prop
 | .int k,K=>∃ x:Int,K (.v (.int k x))
 | .bool,K=>∃ x:Bool,K (.v (.bool x))
 | .str,K=>∃ x:ByteArray,K (.v (.string x))
 | .slice,K=>∃(a:Option Addr) (n c:Nat),K (.v (.slice a n c))
 | .ptr,K=>∃ p:Option Addr,K (.v (.pointer p))
 | .ifc,K=>∃ e:Option (TypeId × Value),K (.ifc e)
 | .val,K=>∃ x:Value,K (.v x)
def exL:List Sh1->(List TV->Prop)->Prop
 | [],K=>K []
 | s :: l,K=>ex1 s fun x=>exL l fun xs=>K (x :: xs)
def ex0:Sh0->(TW->Prop)->Prop
 | .one s,K=>ex1 s fun x=>K (.one x)
 | .agg l,K=>exL l fun xs=>K (.ag xs)
def NY:List Sh0->(List TW->Prop)->Prop
 | [],K=>K []
 | s :: l,K=>ex0 s fun x=>NY l fun xs=>K (x :: xs)
def exS:Sh->(SV->Prop)->Prop
 | .s s,K=>ex0 s fun x=>K (.t x)
 | .tup l,K=>NY l fun xs=>K (.tup xs)
def res (s:Sh)(v:Value)(K:SV->Prop):Prop:=exS s fun x=>v=x.val/\K x
section
variable (P:Program)
def sh1 (t:TypeId):Sh1:=
 match P.underlying t with
 | some (.int k)=>.int k
 | some .bool=>.bool
 | some .string=>.str
 | some (.slice _)=>.slice
 | some (.pointer _)=>.ptr
 | some (.interface _)=>.ifc
 | _=>.val
def QoY:Nat->TypeId->List Sh1
 | 0,_=>[]
 | n+1,t=>
  match P.underlying t with
  | some (.struct fs)=>fs.toList.flatMap fun f=>QoY n f.type
  | some (.array k e)=>(List.replicate k (QoY n e)).flatten
  | _=>[sh1 P t]
def QW (t:TypeId):Bool:=
 match P.underlying t with
 | some (.struct _)|some (.array _ _)=>true
 | _=>false
def sh0 (t:TypeId):Sh0:=bif QW P t then .agg (QoY P 8 t) else .one (sh1 P t)
def shp (t:TypeId):Sh:=
 match P.underlying t with
 | some (.tuple ts)=>.tup (ts.toList.map (sh0 P))
 | _=>.s (sh0 P t)
def szT (t:TypeId):Nat:=P.cellsOf t
def QpW (t:TypeId)(f:Nat):Option Nat:=
 match P.underlying t with
 | some (.struct fs)=>(fs[f]?).bind fun x=>bif Nat.beq (szT P x.type) 0 then none else some x.offset
 | _=>none
end
def MV (P:Program):List Field->Bool
 | []=>true
 | f :: l=>Nat.ble 1 (szT P f.type)&&MV P l
structure Box where
 ty:TypeId
 c:List TV
 st:Nat
structure St where
 n:Nat
 t:Nat->Sl
 g:Nat->Bool
 b:List Box
def JL (x:Nat):List Nat->Bool
 | []=>false
 | y :: l=>bif Nat.beq x y then true else JL x l
def Qmk (s:Nat)(p:Bool):List (Nat × Bool)->Bool
 | []=>false
 | (y,q) :: l=>bif (Nat.beq s y&&(p == q)) then true else Qmk s p l
def Qp4:Value->TV
 | .nilIface=>.ifc none
 | v=>.v v
def St.ev (st:St)(ch:List (Nat × Bool)):Operand->SV
 | .tmp i=>match st.t i with
  | .s x=>x
  | .gd s p x=>bif Qmk s p ch then x else .any
 | .const v=>.t (.one (Qp4 v))
 | .global g=>.t (.one (.hp g 0))
 | .func f=>.t (.one (.v (.func (.func f) #[] #[])))
def St.evs (st:St)(ch:List (Nat × Bool)):List Operand->Option (List Value)
 | []=>some []
 | x :: l=>match (st.ev ch x).val?,st.evs ch l with
  | some v,some vs=>some (v :: vs)
  | _,_=>none
def St.put (st:St)(dst:Option Nat)(gd:Option (Nat × Bool))(x:SV)(K:St->Prop):Prop:=
 match dst with
 | none=>K st
 | some d=>
  match gd with
  | none=>bif (Nat.blt d st.n&&!(st.g d)) then K { st with t:=fun i=>bif Nat.beq i d then .s x else st.t i } else False
  | some (s,p)=>bif (Nat.blt d st.n&&!(Nat.beq d s||st.g d)) then K { st with t:=fun i=>bif Nat.beq i d then .gd s p x else st.t i,g:=fun k=>bif Nat.beq k s then true else st.g k } else False
def IsW (z e:Int):Prop:=z=IntKind.i64.wrap e
def InR (z:Int):Prop:=-9223372036854775808<=z/\z<=9223372036854775807
def QP {α:Type}(l:List α)(o:Nat)(vs:List α):List α:=l.take o++vs++l.drop (o+vs.length)
def UI (place:Nat->Option (Nat × Nat)):List TV->List (Nat × TW)->Option (List TV)
 | cells,[]=>some cells
 | cells,(i,v) :: rest=>
  match place i with
  | none=>none
  | some (off,size)=>bif (Nat.beq v.cells.length size&&Nat.ble (off+size) cells.length) then UI place (QP cells off v.cells) rest else none
def one?:Value->Bool
 | .agg _|.tuple _=>false
 | _=>true
def QpC:TV->Bool
 | .v x=>one? x
 | .hp _ _=>true
 | .ifc _=>true
def QC:List TV->Bool
 | []=>true
 | v :: l=>QpC v&&QC l
def X7:TW->Bool
 | .one v=>QpC v
 | .ag _=>true
def partsL (st:St)(ch:List (Nat × Bool)):List (Nat × Operand)->Option (List (Nat × TW))
 | []=>some []
 | (i,x) :: l=>match (st.ev ch x).tw?,partsL st ch l with
  | some v,some vs=>bif X7 v then some ((i,v) :: vs) else none
  | _,_=>none
def optV (st:St)(ch:List (Nat × Bool)):Option Operand->Option (Option Value)
 | none=>some none
 | some x=>match (st.ev ch x).val? with
  | some v=>some (some v)
  | none=>none
def Qk6:List Value->List TV
 | []=>[]
 | v :: l=>Qp4 v :: Qk6 l
def Xg (P:Program)(t:TypeId):Option (List TV):=((P.info? t).bind (·.zero)).map fun z=>Qk6 z.cells.toList
inductive VD where
 | pt (x:SV)|no|ob (p:Prop) (x:SV)|wr (e:Int)
 | nilc (p:Option Addr)|idx (a:Option Addr) (n:Nat) (i:Int) (sz:Nat)
 | rd (m:Sem Value) (s:Sh)|ldA (b o n:Nat) (l:List Sh1)|ld1 (b o:Nat) (s:Sh1)
def QnG (op:BinOp)(a b:Int):VD:=
 match op with
 | .add=>.wr (a+b)
 | .sub=>.wr (a-b)
 | .mul=>.wr (a*b)
 | .quo=>.ob (b≠0/\InR (a.tdiv b)) (.t (.one (.v (.int .i64 (a.tdiv b)))))
 | .rem=>.ob (b≠0) (.t (.one (.v (.int .i64 (a.tmod b)))))
 | .eql=>.pt (.t (.one (.v (.bool (decide (a=b))))))
 | .neq=>.pt (.t (.one (.v (.bool (decide (a≠b))))))
 | .lss=>.pt (.t (.one (.v (.bool (decide (a<b))))))
 | .leq=>.pt (.t (.one (.v (.bool (decide (a<=b))))))
 | .gtr=>.pt (.t (.one (.v (.bool (decide (a>b))))))
 | .geq=>.pt (.t (.one (.v (.bool (decide (a>=b))))))
 | _=>.no
def Qls:BinOp->Bool
 | .add|.sub|.mul|.quo|.rem|.eql|.neq|.lss|.leq|.gtr|.geq=>true
 | _=>false
def Qol (op:BinOp)(a b:Int):VD:=
 match op with
 | .eql=>.pt (.t (.one (.v (.bool (decide (a=b))))))
 | .neq=>.pt (.t (.one (.v (.bool (decide (a≠b))))))
 | .lss=>.pt (.t (.one (.v (.bool (decide (a<b))))))
 | .leq=>.pt (.t (.one (.v (.bool (decide (a<=b))))))
 | .gtr=>.pt (.t (.one (.v (.bool (decide (a>b))))))
 | .geq=>.pt (.t (.one (.v (.bool (decide (a>=b))))))
 | _=>.no
def QlO:BinOp->Bool
 | .eql|.neq|.lss|.leq|.gtr|.geq=>true
 | _=>false
inductive Two where
 | i64 (a b:Int)|ik (k:IntKind) (a b:Int)|nilR (e:Option (TypeId × Value))|nilL (e:Option (TypeId × Value))|other
def Qa6:SV->SV->Two
 | .t (.one (.v (.int .i64 a))),.t (.one (.v (.int .i64 b)))=>.i64 a b
 | .t (.one (.v (.int .u8 a))),.t (.one (.v (.int .u8 b)))=>.ik .u8 a b
 | .t (.one (.v (.int .u64 a))),.t (.one (.v (.int .u64 b)))=>.ik .u64 a b
 | .t (.one (.v (.int .u32 a))),.t (.one (.v (.int .u32 b)))=>.ik .u32 a b
 | .t (.one (.v (.int .i32 a))),.t (.one (.v (.int .i32 b)))=>.ik .i32 a b
 | .t (.one (.ifc e)),.t (.one (.ifc none))=>.nilR e
 | .t (.one (.ifc none)),.t (.one (.ifc e))=>.nilL e
 | _,_=>.other
def Qpk (P:Program)(G:Prop->Prop)(m:Sem Value)(s:Sh)(h:Hp)(K:SV->Prop):Prop:=
 exS s fun x=>G (Rd P m h x.val)/\K x
def QgN (P:Program)(t:TypeId):Bool:=match P.underlying t with|some (.interface _)=>true|_=>false
def QbZ:Operand->Bool
 | .const .nilIface=>true
 | _=>false
def QqL (P:Program)(t:TypeId):Bool:=match P.underlying t with|some (.slice _)=>true|_=>false
def isE (P:Program):Op->Bool
 | .convert _ t _=>QqL P t
 | .alloc _|.box ..|.buildSlice ..|.store ..|.makeMap ..|.makeSlice ..|.mapUpdate ..|.insert ..|.range ..|.next ..=>true
 | .call { callee:=.builtin .len,.. }|.call { callee:=.builtin .cap,.. }|.call { callee:=.builtin .max,.. }|.call { callee:=.builtin .min,.. }=>false
 | .call _=>true
 | _=>false
def QY (P:Program)(o:Oper)(ch:List (Nat × Bool))(st:St):VD:=
 match o.op with
 | .move x=>.pt (st.ev ch x)
 | .assign x=>.pt (st.ev ch x)
 | .pick c a b=>
  match c with
  | .tmp s=>
   match st.ev ch (.tmp s),st.ev ((s,true) :: ch) a,st.ev ((s,false) :: ch) b with
   | .t (.one (.v (.bool c))),.t (.one (.v (.bool x))),.t (.one (.v (.bool y)))=>.pt (.t (.one (.v (.bool (bif c then x else y)))))
   | _,_,_=>.no
  | _=>.no
 | .nilCheck x=>
  match st.ev ch x with
  | .bp i o=>.pt (.bp i o)
  | .t (.one (.hp b o))=>.pt (.t (.one (.hp b o)))
  | .t (.one (.v (.pointer p)))=>.nilc p
  | _=>.no
 | .binOp op T x y _=>
  match Qa6 (st.ev ch x) (st.ev ch y) with
  | .i64 a b=>bif Qls op then QnG op a b else .rd (binOp op T (.int .i64 a) (.int .i64 b)) (shp P o.type)
  | .ik k a b=>bif QlO op then Qol op a b else .rd (binOp op T (.int k a) (.int k b)) (shp P o.type)
  | .nilR e=>bif (QbZ y&&QgN P T) then(match op with|.eql=>.pt (.t (.one (.v (.bool e.isNone))))|.neq=>.pt (.t (.one (.v (.bool e.isSome))))|_=>.no) else .no
  | .nilL e=>bif (QbZ x&&QgN P T) then(match op with|.eql=>.pt (.t (.one (.v (.bool e.isNone))))|.neq=>.pt (.t (.one (.v (.bool e.isSome))))|_=>.no) else .no
  | .other=>
   match (st.ev ch x).val?,(st.ev ch y).val? with
   | some a,some b=>.rd (eqGuard op T x y a b >>= fun _=>binOp op T a b) (shp P o.type)
   | _,_=>.no
 | .unOp op _ x=>
  match op,st.ev ch x with
  | .not,.t (.one (.v (.bool b)))=>.pt (.t (.one (.v (.bool (!b)))))
  | .neg,.t (.one (.v (.int .i64 a)))=>.wr (-a)
  | op,x=>match x.val? with
   | some a=>.rd (Op.unary op a) (shp P o.type)
   | none=>.no
 | .convert src dst x=>
  match (P.underlying src).isSome,P.underlying dst,st.ev ch x with
  | true,some (.int k),.t (.one (.v (.int _ a)))=>.pt (.t (.one (.v (.int k (k.wrap a)))))
  | _,_,x=>match x.val? with
   | some a=>.rd (convert src dst a) (shp P o.type)
   | none=>.no
 | .makeInterface T x=>
  match P.underlying T,(st.ev ch x).val? with
  | some (.interface _),_=>.no
  | none,_=>.no
  | _,some a=>.pt (.t (.one (.ifc (some (T,a)))))
  | _,none=>.no
 | .fieldAddr T x f=>
  match QpW P T f,st.ev ch x with
  | some off,.bp i o=>.pt (.bp i (o+off))
  | some off,.t (.one (.hp b o))=>.pt (.t (.one (.hp b (o+off))))
  | _,_=>.no
 | .field T x f=>
  match P.underlying T,st.ev ch x with
  | some (.struct fs),.t (.ag l)=>
   match fs[f]? with
   | some fd=>bif QW P fd.type then .pt (.t (.ag ((l.drop fd.offset).take (szT P fd.type)))) else bif (P.underlying fd.type).isSome then(match l.drop fd.offset with|v :: _=>.pt (.t (.one v))|[]=>.no) else .no
   | none=>.no
  | _,_=>.no
 | .indexAddr T x ix=>
  match P.underlying T,st.ev ch x,st.ev ch ix with
  | some (.slice e),.t (.one (.v (.slice a n _))),.t (.one (.v (.int .i64 i)))=>bif Nat.ble 1 (szT P e) then .idx a n i (szT P e) else .no
  | some (.array n e),.t (.one (.hp b o)),.t (.one (.v (.int .i64 i)))=>bif (Nat.ble 1 (szT P e)&&Nat.ble 2 n) then .ob (0<=i/\i<n) (.t (.one (.hp b (o+i.toNat*szT P e)))) else .no
  | _,_,_=>.no
 | .load T x=>
  match st.ev ch x with
  | .bp i o=>
   match st.b[i]? with
   | some bx=>bif Nat.ble (o+szT P T) bx.c.length then
     (bif QW P T then .pt (.t (.ag ((bx.c.drop o).take (szT P T))))
      else bif (Nat.beq (szT P T) 1&&(P.underlying T).isSome) then(match bx.c.drop o with|v :: _=>.pt (.t (.one v))|[]=>.no) else .no) else .no
   | none=>.no
  | .t (.one (.hp b o))=>
   bif QW P T then .ldA b o (szT P T) (QoY P 8 T)
   else bif (P.underlying T).isSome then .ld1 b o (sh1 P T) else .no
  | _=>.no
 | .extract x i=>
  match st.ev ch x with
  | .tup l=>match l[i]? with|some v=>.pt (.t v)|none=>.no
  | _=>.no
 | .build T parts=>
  match P.underlying T,Xg P T,partsL st ch parts.toList with
  | some (.struct fs),some z,some ps=>bif !(MV P fs.toList) then .no else match UI (fun i=>(fs[i]?).map fun f=>(f.offset,szT P f.type)) z ps with|some cs=>.pt (.t (.ag cs))|none=>.no
  | some (.array _ e),some z,some ps=>bif Nat.ble 1 (szT P e) then(match UI (fun i=>some (i*szT P e,szT P e)) z ps with|some cs=>.pt (.t (.ag cs))|none=>.no) else .no
  | _,_,_=>.no
 | .index T x ix=>
  match (st.ev ch x).val?,(st.ev ch ix).val? with
  | some a,some i=>.rd (Instr.index T a i) (shp P o.type)
  | _,_=>.no
 | .lookup T x ix ok=>
  match (st.ev ch x).val?,(st.ev ch ix).val? with
  | some a,some i=>.rd (Instr.lookup T a i ok) (shp P o.type)
  | _,_=>.no
 | .typeAssert x T U ok=>
  match (st.ev ch x).val? with
  | some a=>.rd (Instr.typeAssert a T U ok) (shp P o.type)
  | _=>.no
 | .slice T x lo hi mx=>
  match (st.ev ch x).val?,optV st ch lo,optV st ch hi,optV st ch mx with
  | some a,some l,some u,some m=>.rd (Instr.sliceAt T a l u m) (shp P o.type)
  | _,_,_,_=>.no
 | .makeFunc fn first cap=>
  match st.evs ch first.toList,st.evs ch cap.toList with
  | some a,some b=>.pt (.t (.one (.v (.func fn a.toArray b.toArray))))
  | _,_=>.no
 | .call { callee:=.builtin .len,args:=args,argTypes:=ts }=>
  match args.toList with
  | [x]=>match (ts[0]?).bind P.underlying,st.ev ch x with
   | some (.slice _),.t (.one (.v (.slice _ n _)))=>.pt (.t (.one (.v (.int .i64 n))))
   | some .string,.t (.one (.v (.string s)))=>.pt (.t (.one (.v (.int .i64 s.size))))
   | _,x=>match x.val? with
    | some a=>.rd (Builtin.len_ ts o.type #[a]) (shp P o.type)
    | none=>.no
  | _=>.no
 | .call { callee:=.builtin .cap,args:=args,argTypes:=ts }=>
  match st.evs ch args.toList with
  | some vs=>.rd (Builtin.cap_ ts o.type vs.toArray) (shp P o.type)
  | none=>.no
 | .call { callee:=.builtin .max,args:=args,argTypes:=ts }=>
  match st.evs ch args.toList with
  | some vs=>.rd (Builtin.max_ ts o.type vs.toArray) (shp P o.type)
  | none=>.no
 | .call { callee:=.builtin .min,args:=args,argTypes:=ts }=>
  match st.evs ch args.toList with
  | some vs=>.rd (Builtin.min_ ts o.type vs.toArray) (shp P o.type)
  | none=>.no
 | _=>.no
def VD.sem (P:Program)(G:Prop->Prop)(h:Hp)(K:SV->Prop):VD->Prop
 | .pt x=>K x
 | .no=>False
 | .ob p x=>G p/\K x
 | .wr e=>∃ z:Int,G (IsW z e)/\K (.t (.one (.v (.int .i64 z))))
 | .nilc p=>∃ b o,G (p=some ⟨b,o,none⟩)/\K (.t (.one (.hp b o)))
 | .idx a n i sz=>∃ b o,G (a=some ⟨b,o,none⟩/\0<=i/\i<n)/\K (.t (.one (.hp b (o+i.toNat*sz))))
 | .rd m s=>Qpk P G m s h K
 | .ldA b o n l=>exL l fun xs=>G (h.row b o n=some (Qn xs))/\K (.t (.ag xs))
 | .ld1 b o s=>ex1 s fun x=>G (h.cell b o=some x.val)/\K (.t (.one x))
def VD.hr:VD->Bool
 | .rd ..|.ldA ..|.ld1 ..=>true
 | _=>false
def vcV (P:Program)(o:Oper)(ch:List (Nat × Bool))(G:Prop->Prop)(st:St)(h:Hp)(K:SV->Prop):Prop:=(QY P o ch st).sem P G h K
def Kq {α:Type}:List α->Nat->α->List α
 | [],_,_=>[]
 | _ :: l,0,y=>y :: l
 | x :: l,i+1,y=>x :: Kq l i y
def Hp.store (h:Hp)(b o:Nat)(vs:List Value)(K:Hp->Prop):Prop:=
 ∃ c e,h b=some (.cells c e (0,0))/\o+vs.length<=c.size/\K (h.set b (.cells (QP c.toList o vs).toArray e (0,0)))
structure Cfg where
 pub:List Nat
 ann:List (Nat × (List Nat × List Sh0 × List (Nat × List Sh1)))
 ord:List (Nat × List Nat)
def Qbh (cfg:Cfg):Option Nat->Bool
 | some d=>JL d cfg.pub
 | none=>true
def newBox (cfg:Cfg)(o:Oper)(st:St)(h:Hp)(ty:TypeId)(cs:List TV)(K:SV->List Box->Hp->Prop):Prop:=
 bif QC cs then
  bif Qbh cfg o.dst then ∀ b,h b=none->K (.t (.one (.hp b 0))) st.b (h.set b (.cells (Qn cs).toArray ty (0,0)))
  else K (.bp st.b.length 0) (st.b++[⟨ty,cs,0⟩]) h
 else False
def vcE (P:Program)(cfg:Cfg)(o:Oper)(ch:List (Nat × Bool))(st:St)(h:Hp)(K:SV->List Box->Hp->Prop):Prop:=
 match o.op with
 | .alloc T=>match Xg P T with
  | some z=>newBox cfg o st h T z K
  | none=>False
 | .box T x=>match st.ev ch x with
  | .t w=>newBox cfg o st h T w.cells K
  | _=>False
 | .buildSlice T n parts=>
  match P.underlying T,partsL st ch parts.toList with
  | some (.slice e),some ps=>
   match Xg P e with
   | some z=>
    bif (Nat.ble 1 (szT P e)&&Nat.beq z.length (szT P e)&&Nat.ble (n*szT P e) 4096) then
     match UI (fun i=>some (i*szT P e,szT P e)) ((List.replicate n z).flatten) ps with
     | some cs=>bif QC cs then ∀ b,h b=none->K (.t (.one (.v (.slice (some ⟨b,0,none⟩) n n)))) st.b (h.set b (.cells (Qn cs).toArray e (0,0))) else False
     | none=>False
    else False
   | none=>False
  | _,_=>False
 | .store T x y=>
  match st.ev ch x,st.ev ch y with
  | .bp i o,.t w=>
   match st.b[i]? with
   | some bx=>bif (Nat.ble 1 (szT P T)&&Nat.beq w.cells.length (szT P T)&&Nat.ble (o+w.cells.length) bx.c.length&&QC w.cells) then K .any (Kq st.b i ⟨bx.ty,QP bx.c o w.cells,bx.st+1⟩) h else False
   | none=>False
  | .t (.one (.hp b o)),.t w=>bif (Nat.ble 1 (szT P T)&&Nat.beq w.cells.length (szT P T)&&QC w.cells) then h.store b o (Qn w.cells) (fun h'=>K .any st.b h') else False
  | _,_=>False
 | .call { callee:=.value (.func g),args:=args,.. }=>
  match st.evs ch args.toList with
  | some vs=>
   match (P.funcs[g]?).map (·.body.isSome) with
   | some true=>Qa P g vs h fun v h'=>res (shp P o.type) v fun x=>K x st.b h'
   | some false=>Qbk P g vs h fun v h'=>res (shp P o.type) v fun x=>K x st.b h'
   | none=>False
  | none=>False
 | .call { callee:=.value (.tmp t),args:=args,.. }=>
  match st.evs ch args.toList,(st.ev ch (.tmp t)).val? with
  | some vs,some fv=>ZC P fv vs h fun v h'=>res (shp P o.type) v fun x=>K x st.b h'
  | _,_=>False
 | .call { callee:=.builtin b,args:=args,argTypes:=ts }=>
  match st.evs ch args.toList with
  | some vs=>
   let go (m:Sem Value):Prop:=Qh P m h fun v h'=>res (shp P o.type) v fun x=>K x st.b h'
   match b with
   | .append=>go (Builtin.append_ ts o.type vs.toArray)
   | .copy=>go (Builtin.copy_ ts o.type vs.toArray)
   | .delete=>go (Builtin.delete_ ts o.type vs.toArray)
   | .clear=>go (Builtin.clear_ ts o.type vs.toArray)
   | _=>False
  | none=>False
 | .makeMap T none=>Qh P (Instr.makeMap T none) h fun v h'=>res (shp P o.type) v fun x=>K x st.b h'
 | .makeSlice T l c=>match (st.ev ch l).val?,(st.ev ch c).val? with
  | some l,some c=>Qh P (Instr.makeSlice T l c) h fun v h'=>res (shp P o.type) v fun x=>K x st.b h'
  | _,_=>False
 | .convert src dst x=>match (st.ev ch x).val? with
  | some a=>Qh P (convert src dst a) h fun v h'=>res (shp P o.type) v fun x=>K x st.b h'
  | none=>False
 | .mapUpdate T m k x=>match (st.ev ch m).val?,(st.ev ch k).val?,(st.ev ch x).val? with
  | some m,some k,some x=>WX P (Instr.mapUpdate T m k x) h fun h'=>K .any st.b h'
  | _,_,_=>False
 | .insert T m k x=>match (st.ev ch m).val?,(st.ev ch k).val?,(st.ev ch x).val? with
  | some m,some k,some x=>WX P (Instr.mapUpdate T m k x) h fun h'=>K .any st.b h'
  | _,_,_=>False
 | .range T x=>match (st.ev ch x).val? with
  | some a=>Qh P (Instr.range T a) h fun v h'=>K (.t (.one (.v v))) st.b h'
  | none=>False
 | .next it s=>match (st.ev ch it).val? with
  | some a=>Qh P (Instr.next a s o.type) h fun v h'=>res (shp P o.type) v fun x=>K x st.b h'
  | none=>False
 | _=>False
def chain (st:St):Nat->Nat->Bool->List (Nat × Bool)
 | 0,_,_=>[]
 | n+1,s,p=>(s,p) :: (match st.t s with|.gd s' p' _=>chain st n s' p'|_=>[])
def condP (st:St):Nat->Nat->Bool->Prop
 | 0,_,_=>False
 | n+1,s,p=>match st.t s with
  | .s (.t (.one (.v (.bool b))))=>b=p
  | .gd s' p' (.t (.one (.v (.bool b))))=>condP st n s' p'/\b=p
  | _=>False
def okGd (st:St):Nat->Nat->Bool
 | 0,_=>false
 | n+1,s=>match st.t s with
  | .s (.t (.one (.v (.bool _))))=>true
  | .gd s' _ (.t (.one (.v (.bool _))))=>okGd st n s'
  | _=>false
def Qqo:Sh1->TV
 | .int k=>.v (.int k 0)
 | .bool=>.v (.bool false)
 | .str=>.v (.string ⟨#[]⟩)
 | .slice=>.v (.slice none 0 0)
 | .ptr=>.v (.pointer none)
 | .ifc=>.ifc none
 | .val=>.v undef
def Qqa:List Sh1->List TV
 | []=>[]
 | s :: l=>Qqo s :: Qqa l
def Qqi:Sh0->TW
 | .one s=>.one (Qqo s)
 | .agg l=>.ag (Qqa l)
def QmX:List Sh0->List TW
 | []=>[]
 | s :: l=>Qqi s :: QmX l
def dfl:Sh->SV
 | .s s=>.t (Qqi s)
 | .tup l=>.tup (QmX l)
def al1:Sh1->(TV->Prop)->Prop
 | .int k,K=>∀ x:Int,K (.v (.int k x))
 | .bool,K=>∀ x:Bool,K (.v (.bool x))
 | .str,K=>∀ x:ByteArray,K (.v (.string x))
 | .slice,K=>∀(a:Option Addr) (n c:Nat),K (.v (.slice a n c))
 | .ptr,K=>∀ p:Option Addr,K (.v (.pointer p))
 | .ifc,K=>∀ e:Option (TypeId × Value),K (.ifc e)
 | .val,K=>∀ x:Value,K (.v x)
def alL:List Sh1->(List TV->Prop)->Prop
 | [],K=>K []
 | s :: l,K=>al1 s fun x=>alL l fun xs=>K (x :: xs)
def al0:Sh0->(TW->Prop)->Prop
 | .one s,K=>al1 s fun x=>K (.one x)
 | .agg l,K=>alL l fun xs=>K (.ag xs)
def Qoe:List Sh0->(List TW->Prop)->Prop
 | [],K=>K []
 | s :: l,K=>al0 s fun x=>Qoe l fun xs=>K (x :: xs)
def alS:Sh->(SV->Prop)->Prop
 | .s s,K=>al0 s fun x=>K (.t x)
 | .tup l,K=>Qoe l fun xs=>K (.tup xs)
def YS:Op->Bool
 | .call _=>true
 | _=>false
def QG (P:Program)(cfg:Cfg)(ops:Array Oper)(o:Oper)(st:St)(h:Hp)(K:St->Hp->Prop):Prop:=
 match o.guard with
 | none=>
  bif isE P o.op then vcE P cfg o [] st h fun sv b h'=>St.put ⟨st.n,st.t,st.g,b⟩ o.dst none sv fun st'=>K st' h'
  else vcV P o [] (fun p=>p) st h fun sv=>st.put o.dst none sv fun st'=>K st' h
 | some (j,p)=>
  match (ops[j]?).bind (·.dst) with
  | none=>False
  | some s=>
   bif okGd st 8 s then
    bif isE P o.op then
     (bif YS o.op then
      ∃ J:SV->Hp->Prop,(condP st 8 s p->vcE P cfg o (chain st 8 s p) st h fun sv _ h'=>J sv h')/\(¬ condP st 8 s p->J (dfl (shp P o.type)) h) /\
       ∀ h':Hp,alS (shp P o.type) fun x=>J x h'->st.put o.dst (some (s,p)) x fun st'=>K st' h'
     else
      (condP st 8 s p->vcE P cfg o (chain st 8 s p) st h fun sv b h'=>St.put ⟨st.n,st.t,st.g,b⟩ o.dst none sv fun st'=>K st' h') /\
      (¬ condP st 8 s p->st.put o.dst (some (s,p)) (dfl (shp P o.type)) fun st'=>K st' h))
    else vcV P o (chain st 8 s p) (fun q=>condP st 8 s p->q) st h fun sv=>st.put o.dst (some (s,p)) sv fun st'=>K st' h
   else False
def Qbw (P:Program)(cfg:Cfg)(ops:Array Oper):List Oper->St->Hp->(St->Hp->Prop)->Prop
 | [],st,h,K=>K st h
 | o :: l,st,h,K=>QG P cfg ops o st h fun st' h'=>Qbw P cfg ops l st' h' K
def YJ {α:Type}(k:Nat):List (Nat × α)->Option α
 | []=>none
 | (i,x) :: l=>bif Nat.beq k i then some x else YJ k l
def isA:Op->Bool
 | .alloc _|.box ..|.buildSlice ..=>true
 | _=>false
def Nn:List Oper->List Nat->List Nat
 | [],acc=>acc
 | o :: l,acc=>Nn l (acc++[o.after.toList.foldl (fun s e=>bif Region.binds .any e then Nat.lor s (Nat.lor (Nat.shiftLeft 1 e.on) (acc.getD e.on 0)) else s) 0])
def bit (m i:Nat):Bool:=Nat.beq (Nat.land (Nat.shiftRight m i) 1) 1
def Gj (ops:Array Oper)(o:Oper):List Nat:=
 (match o.guard with|some (j,_)=>(match (ops[j]?).bind (·.dst) with|some s=>[s]|none=>[])|none=>[])++o.op.operands.toList.filterMap fun x=>match x with|.tmp t=>some t|_=>none
def Qii (d:Option Nat)(l:List Nat):Bool:=match d with|some x=>!(JL x l)|none=>true
def QpT (d e:Option Nat):Bool:=match d,e with|some x,some y=>!(Nat.beq x y)|_,_=>true
def Qkk (ops:Array Oper)(x y:Oper):Bool:=Qii x.dst (Gj ops y)&&Qii y.dst (Gj ops x)&&QpT x.dst y.dst
def isB (cfg:Cfg)(o:Oper):Bool:=
 match o.op with
 | .buildSlice ..=>true
 | .alloc _=>Qbh cfg o.dst
 | .box ..=>Qbh cfg o.dst
 | _=>false
def Qg7 (P:Program)(cfg:Cfg)(ops:Array Oper)(ms:List Nat)(i:Nat)(x:Oper):List Nat->Bool
 | []=>true
 | j :: l=>(match ops[j]? with
   | some y=>bit (ms.getD i 0) j||(Qkk ops x y&&((!(isE P y.op)||(isA x.op&&x.guard.isNone&&(YS y.op&&y.guard.isNone)))||(isB cfg x&&x.guard.isNone&&(isB cfg y&&y.guard.isNone))))
   | none=>false)&&Qg7 P cfg ops ms i x l
def Qki (x:Oper)(done:List Nat):Bool:=x.after.toList.all fun e=>!(Region.binds .any e)||JL e.on done
def KK (P:Program)(cfg:Cfg)(ops:Array Oper)(ms:List Nat):List Nat->List Nat->Bool
 | done,[]=>Nat.beq done.length ops.size
 | done,i :: l=>(match ops[i]? with
   | some x=>!(JL i done)&&Qki x done&&Qg7 P cfg ops ms i x done
   | none=>false)&&KK P cfg ops ms (i :: done) l
def Qbe:Nat->List Nat->Bool
 | 0,_=>true
 | n+1,l=>JL n l&&Qbe n l
structure Fg where
 j:Nat
 bx:Option Nat
 p:Option (Hp->Prop)
def SV.tcells:SV->List TV
 | .t w=>w.cells
 | _=>[]
def VD.again (P:Program)(G:Prop->Prop)(h:Hp)(x:SV):VD->Prop
 | .rd m _=>G (Rd P m h x.val)
 | .ldA b o n _=>G (h.row b o n=some (Qn x.tcells))
 | .ld1 b o _=>G (h.cell b o=some x.val)
 | _=>True
def boxR (o:Oper)(st:St)(ch:List (Nat × Bool)):Option Nat:=
 match o.op with
 | .load _ x=>(match st.ev ch x with|.bp i _=>some i|_=>none)
 | _=>none
def Z1 (P:Program)(o:Oper)(ch:List (Nat × Bool))(G:Prop->Prop)(st:St)(i:Nat)(sv:SV)(fl:List Fg):List Fg:=
 match (QY P o ch st).hr,boxR o st ch with
 | false,none=>fl
 | true,b=>⟨i,b,some fun h'=>(QY P o ch st).again P G h' sv⟩ :: fl
 | false,some k=>⟨i,some k,none⟩ :: fl
def WC (b b':List Box):Option Nat->Bool
 | none=>true
 | some k=>match b[k]?,b'[k]? with|some x,some y=>Nat.beq x.st y.st|_,_=>false
def agn (m:Nat)(b b':List Box)(h':Hp):List Fg->Prop->Prop
 | [],K=>K
 | f :: l,K=>bif bit m f.j then agn m b b' h' l K else
   bif WC b b' f.bx then(match f.p with|some p=>p h'/\agn m b b' h' l K|none=>agn m b b' h' l K) else False
def KR (P:Program)(ops:Array Oper)(i:Nat)(o:Oper)(st:St)(h:Hp)(fl:List Fg)(K:List Fg->St->Prop):Prop:=
 match o.guard with
 | none=>vcV P o [] (fun p=>p) st h fun sv=>st.put o.dst none sv fun st'=>K (Z1 P o [] (fun p=>p) st i sv fl) st'
 | some (j,p)=>
  match (ops[j]?).bind (·.dst) with
  | none=>False
  | some s=>bif okGd st 8 s then vcV P o (chain st 8 s p) (fun q=>condP st 8 s p->q) st h fun sv=>st.put o.dst (some (s,p)) sv fun st'=>K (Z1 P o (chain st 8 s p) (fun q=>condP st 8 s p->q) st i sv fl) st' else False
def vcD (P:Program)(cfg:Cfg)(ops:Array Oper)(ms:List Nat):List Nat->List Fg->St->Hp->(St->Hp->Prop)->Prop
 | [],_,st,h,K=>K st h
 | i :: l,fl,st,h,K=>
  match ops[i]? with
  | none=>False
  | some o=>
   bif isE P o.op then
    (bif isA o.op then QG P cfg ops o st h fun st' h'=>vcD P cfg ops ms l fl st' h' K
     else QG P cfg ops o st h fun st' h'=>agn (ms.getD i 0) st.b st'.b h' fl (vcD P cfg ops ms l fl st' h' K))
   else KR P ops i o st h fl fun fl' st'=>vcD P cfg ops ms l fl' st' h K
def Yr:List Oper->List Nat
 | []=>[]
 | o :: l=>match o.dst with|some d=>d :: Yr l|none=>Yr l
def QH:Code->List Nat
 | .region _ ops _=>Yr ops.toList
 | .seq a b=>QH a++QH b
 | .cond _ a b=>QH a++QH b
 | .block _ a=>QH a
 | .loop a=>QH a
 | .scope a=>QH a
 | _=>[]
def Uo:Code->Option Nat
 | .region id _ _=>some id
 | .seq a b=>(Uo a).or (Uo b)
 | .cond _ a b=>(Uo a).or (Uo b)
 | .block _ a=>Uo a
 | .loop a=>Uo a
 | .scope a=>Uo a
 | _=>none
def V0 (D:List Nat)(st:St):St:=
 { st with g:=fun _=>false,t:=fun i=>match st.t i with|.s x=>.s x|.gd s p x=>bif JL i D then .s .any else .gd s p x }
inductive Ex where
 | nrm|ext (id:Nat)|ret
def WL (st:St):List Nat->Option (List Value)
 | []=>some []
 | s :: l=>match st.t s,WL st l with
  | .s (.t x),some vs=>some (x.val :: vs)
  | _,_=>none
def Ub (st:St):List (Nat × List Sh1)->Option (List Value)
 | []=>some []
 | (i,_) :: l=>match st.b[i]?,Ub st l with
  | some bx,some vs=>some (Qn bx.c++vs)
  | _,_=>none
def YL (st:St)(slots:List Nat)(bxs:List (Nat × List Sh1)):Option (List Value):=
 match WL st slots,Ub st bxs with
 | some a,some b=>some (a++b)
 | _,_=>none
def Yw:(Nat->Sl)->List Nat->List TW->(Nat->Sl)
 | t,s :: l,x :: xs=>Yw (fun i=>bif Nat.beq i s then .s (.t x) else t i) l xs
 | t,_,_=>t
def Zn:List Box->List (Nat × List Sh1)->List (List TV)->List Box
 | b,(i,_) :: l,x :: xs=>Zn (match b[i]? with|some bx=>Kq b i ⟨bx.ty,x,bx.st+1⟩|none=>b) l xs
 | b,_,_=>b
def Y7 (st:St)(D:List Nat)(slots:List Nat)(bxs:List (Nat × List Sh1))(xs:List TW)(ys:List (List TV)):St:=
 { st with t:=Yw (fun i=>bif JL i D then .s .any else st.t i) slots xs,b:=Zn st.b bxs ys }
def Qpd:List (Nat × List Sh1)->(List (List TV)->Prop)->Prop
 | [],K=>K []
 | (_,s) :: l,K=>exL s fun x=>Qpd l fun xs=>K (x :: xs)
def JE:List (List TV)->List Value
 | []=>[]
 | x :: l=>Qn x++JE l
def NB:Nat->List Box->List Box->List (Nat × List Sh1)->Bool
 | _,[],_,_=>true
 | k,x :: l,y :: m,bxs=>((YJ k bxs).isSome||Nat.beq x.st y.st)&&NB (k+1) l m bxs
 | _,_ :: _,[],_=>false
def WD (st:St):List (Nat × List Sh1)->Bool
 | []=>true
 | (i,s) :: l=>(match st.b[i]? with|some bx=>Nat.beq bx.c.length s.length|none=>false)&&WD st l
def QnS:List Nat->List Nat->Bool
 | [],_=>true
 | x :: l,d=>JL x d&&QnS l d
def QiP (P:Program)(fv:Value)(hc:Hp)(good:Value->Prop)(xs:List Value):Prop:=
 (∀ b o,hc b=some o->o.isCells=true)/\∃ gf lb fn,fv=.func (.func gf) #[] lb/\P.funcs[gf]?=some fn/\(fn.name == "runtime.NumGoroutine")=false/\fn.body.isNone=false /\
  ∀(w:World),Sub hc w->SeqStopsK (α:={ v:Value // good v }) Fence.wide 2 P gf lb (fun x=>#[x.1]) (fun A B=>Sub hc A->Sub hc B) (fun l=>l.map (·.1)=xs) (fun l=>l.map (·.1) <+: xs) xs.length w
def QgU:List Oper->Bool
 | []=>true
 | o :: l=>(match o.op with|.defer _=>false|_=>true)&&QgU l
def WQ:Code->Bool
 | .skip=>true
 | .region _ ops draw=>!draw&&QgU ops.toList
 | .seq a b=>WQ a&&WQ b
 | .cond _ a b=>WQ a&&WQ b
 | .block _ a=>WQ a
 | .exit _=>true
 | .ret=>true
 | _=>false
def QoJ:Code->Option (Nat × Nat)
 | .region _ ops false=>match ops.toList with
  | [o]=>match o.dst,o.op,o.guard with
   | some d,.assign (.tmp q),none=>some (q,d)
   | _,_,_=>none
  | _=>none
 | _=>none
def QqF:Sl->Sl
 | .s (.bp _ _)=>.s .any
 | x=>x
def Vn (st:St)(p d:Nat)(x:TW):St:=⟨st.n,fun i=>bif Nat.beq i d then .s (.t x) else bif Nat.beq i p then .s (.t x) else QqF (st.t i),fun _=>false,[]⟩
def ZR (h h':Hp):Prop:=∀ b o,h' b=some o->h b=none->o.isCells=true
def vcC (P:Program)(cfg:Cfg):Code->St->Hp->(Ex->St->Hp->Prop)->Prop
 | .skip,st,h,Q=>Q .nrm st h
 | .region id ops draw,st,h,Q=>bif draw then
   (match YJ id cfg.ord with
    | some l=>bif (KK P cfg ops (Nn ops.toList []) [] l&&Qbe ops.size l) then vcD P cfg ops (Nn ops.toList []) l [] st h fun st' h'=>Q .nrm (V0 (Yr ops.toList) st') h' else False
    | none=>False)
  else Qbw P cfg ops ops.toList st h fun st' h'=>Q .nrm (V0 (Yr ops.toList) st') h'
 | .seq a b,st,h,Q=>vcC P cfg a st h fun e st' h'=>match e with
  | .nrm=>vcC P cfg b st' h' Q
  | e=>Q e st' h'
 | .cond c a b,st,h,Q=>match st.ev [] c with
  | .t (.one (.v (.bool t)))=>(t=true->vcC P cfg a st h Q)/\(t=false->vcC P cfg b st h Q)
  | _=>False
 | .block id a,st,h,Q=>vcC P cfg a st h fun e st' h'=>match e with
  | .ext i=>bif Nat.beq i id then Q .nrm st' h' else Q (.ext i) st' h'
  | e=>Q e st' h'
 | .loop a,st,h,Q=>
  match (Uo a).bind fun r=>YJ r cfg.ann with
  | none=>False
  | some (slots,shs,bxs)=>
   match YL st slots bxs,(Nat.beq shs.length slots.length&&WD st bxs&&QnS slots (QH a)) with
   | none,_=>False
   | _,false=>False
   | some vs0,true=>∃(I:List Value->Hp->Prop) (μ:List Value->Hp->Nat),I vs0 h/\∀ vs h',I vs h'->NY shs fun xs=>Qpd bxs fun ys=>vs=Kt xs++JE ys /\
     vcC P cfg a (Y7 st (QH a) slots bxs xs ys) h' fun e st' h''=>match e with
      | .nrm=>match YL st' slots bxs with
       | some vs'=>bif (NB 0 st.b st'.b bxs&&WD st' bxs) then(I vs' h''/\μ vs' h'' < μ vs h') else False
       | none=>False
      | e=>Q e st' h''
 | .exit id,st,h,Q=>Q (.ext id) st h
 | .ret,st,h,Q=>Q .ret st h
 | .rangeFunc g ps asg body,st,h,Q=>
  match (st.ev [] g).val?,ps.toList,QoJ asg,(Uo asg).bind fun r=>YJ r cfg.ann with
  | some fv,[p],some (q,d),some (_,[sh],_)=>
   bif (WQ body&&Nat.beq q p&&Nat.blt p st.n&&Nat.blt d st.n) then
    ∃(hc:Hp) (good:Value->Prop) (xs:List Value) (I:List Value->Hp->Prop),QiP P fv hc good xs/\I [] h/\(∀ l h',I l h'->hc.le h'/\ZR h h') /\
     (∀ l h' x,good x->l.length<xs.length->I l h'->ex0 sh fun y=>x=y.val/\vcC P cfg body (Vn st p d y) h' fun e _ h2=>match e with
      | .nrm=>I (l++[x]) h2
      | e=>ZR h h2/\(l++[x] <+: xs->Q e st h2)) /\
     ∀ h',I xs h'->Q .nrm st h'
   else False
  | _,_,_,_=>False
 | _,_,_,_=>False
def QjI (P:Program)(st:St):List ResultVar->Option (List Value)
 | []=>some []
 | .tmp t :: l=>match (st.ev [] (.tmp t)).val?,QjI P st l with
  | some v,some vs=>some (v :: vs)
  | _,_=>none
 | .cell a T :: l=>match st.t a,QjI P st l with
  | .s (.bp i 0),some vs=>match st.b[i]? with
   | some bx=>bif Nat.beq bx.c.length (szT P T) then
     (bif QW P T then some (.agg (Qn bx.c).toArray :: vs) else match bx.c with|[v]=>(bif (P.underlying T).isSome then some (v.val :: vs) else none)|_=>none) else none
   | none=>none
  | _,_=>none
def Qbs (P:Program)(st:St)(h:Hp):List ResultVar->(List Value->Prop)->Prop
 | [],K=>K []
 | r :: l,K=>match QjI P st [r] with
  | some [v]=>Qbs P st h l fun vs=>K (v :: vs)
  | _=>match r with
   | .cell a T=>match st.t a with
    | .s (.t (.one (.hp b o)))=>bif (!(QW P T)&&(P.underlying T).isSome) then ex1 (sh1 P T) fun x=>h.cell b o=some x.val/\Qbs P st h l fun vs=>K (x.val :: vs) else False
    | _=>False
   | .tmp _=>False
def ZN:List TW->Nat->Sl
 | [],_=>.s .any
 | x :: l,i=>match i with|0=>.s (.t x)|i+1=>ZN l i
def Qif (P:Program)(cfg:Cfg)(fn:Func)(args:List TW)(h:Hp)(R:Value->Hp->Prop):Prop:=
 match fn.body with
 | none=>False
 | some c=>vcC P cfg c ⟨fn.ntmps,ZN args,fun _=>false,[]⟩ h fun e st' h'=>match e with
  | .ext _=>False
  | _=>Qbs P st' h' fn.results.toList fun vs=>match vs with
   | [v]=>R v h'
   | vs=>R (.tuple vs.toArray) h'
abbrev _root_.RtT:=Value->Hp->Prop
abbrev _root_.LtT:=List Value->Hp->Prop
abbrev _root_.OaT:=Option Addr
abbrev _root_.OtT:=Option (TypeId × Value)
abbrev _root_.LmT:=List Value->Hp->Nat
abbrev _root_.ShT:=SV->Hp->Prop
abbrev _root_.HpT:=Hp->Prop
abbrev _root_.LuT:=List UInt8
abbrev _root_.NpT:=Nat->Prop
def SV.ok (ρ:Nat->Option Nat):SV->Value->Prop
 | .t x,y=>y=x.val
 | .tup l,y=>y=.tuple (Kt l).toArray
 | .bp i o,y=>∃ b,ρ i=some b/\y=.pointer (some ⟨b,o,none⟩)
 | .any,_=>True
def Sl.ok (ρ:Nat->Option Nat)(tm:Array Value):Sl->Value->Prop
 | .s x,y=>x.ok ρ y
 | .gd k p x,y=>(tm.getD k undef=.bool p->x.ok ρ y)/\(tm.getD k undef≠.bool p->y=undef)
def QoB (ds:List Deferred)(w0 w:World)(h:Hp):Prop:=ds.Nodup/\∀ d ∈ ds,∃ D,d={ target:=.collected D,args:=#[] }/\w.heap[D]?=some (.deferred (some []))/\h D=none/\w0.heap.size<=D
structure RelR (ρ:Nat->Option Nat)(w0:World)(h0:Hp)(st:St)(h:Hp)(a:Act)(w:World):Prop where
 n:a.tmps.size=st.n
 d:QoB a.defers w0 w h
 fr:∀ i,(st.t i).ok ρ a.tmps (a.tmps.getD i undef)
 gd:∀ i s p x,st.t i=.gd s p x->st.g s=true
 sub:Sub h w
 F:Fr h0 h w0 w
 box:∀ i bx,st.b[i]?=some bx->∃ b,ρ i=some b/\w.heap[b]?=some (.cells (Qn bx.c).toArray bx.ty (0,0))/\h b=none/\w0.heap.size<=b
 dom:∀ i b,ρ i=some b->i<st.b.length
 inj:∀ i j b,ρ i=some b->ρ j=some b->i=j
def Rel (w0:World)(h0:Hp)(st:St)(h:Hp)(a:Act)(w:World):Prop:=∃ ρ,RelR ρ w0 h0 st h a w
theorem QjO (v:Value):(Qp4 v).val=v:=by cases v<;>rfl
theorem SV.val?_ok {ρ:Nat->Option Nat}{x:SV}{v y:Value}(h:x.val?=some v)(hy:x.ok ρ y):y=v:=by
 cases x<;>simp only [SV.val?,SV.ok,bH,reduceCtorEq] at h hy
 ·rw [hy,h]
 ·rw [hy,h]
theorem QM (l:List TV):(Qn l).length=l.length:=by induction l<;>simp_all [Qn]
theorem Qby (l m:List TV):Qn (l++m)=Qn l++Qn m:=by induction l<;>simp_all [Qn]
theorem JG (l:List TV)(n:Nat):Qn (l.drop n)=(Qn l).drop n:=by induction l generalizing n<;>cases n<;>simp_all [Qn]
theorem Qah (l:List TV)(n:Nat):Qn (l.take n)=(Qn l).take n:=by induction l generalizing n<;>cases n<;>simp_all [Qn]
theorem JZ (l:List Value):Qn (Qk6 l)=l:=by induction l<;>simp_all [Qn,Qk6,QjO]
theorem QmB {s:Nat}{p:Bool}{ch:List (Nat × Bool)}(h:Qmk s p ch=true):(s,p) ∈ ch:=by
 induction ch with
 | nil=>simp [Qmk] at h
 | cons x l ih=>
  obtain⟨y,q⟩:=x;simp only [Qmk] at h;cases hc:(Nat.beq s y&&(p == q)) with
  | true=>
   simp only [cG,pP] at hc;have:=cT hc.1;simp [this,hc.2]
  | false=>rw [hc] at h;simp only [dM] at h;exact bT _ (ih h)
theorem Ys {s:Nat}{l:List Nat}:JL s l=true↔s ∈ l:=by
 induction l with
 | nil=>simp [JL]
 | cons y l ih=>
  simp only [JL,bS];cases hc:Nat.beq s y with
  | true=>simp [cT hc]
  | false=>have:=d7 hc;simp [ih,this]
section
variable {ρ:Nat->Option Nat}{w0:World}{h0:Hp}{st:St}{h:Hp}{a:Act}{w:World}
theorem ev_ok (R:RelR ρ w0 h0 st h a w){ch:List (Nat × Bool)}(hch:∀ s p,(s,p) ∈ ch->a.tmps.getD s undef=.bool p)(x:Operand):(st.ev ch x).ok ρ (a.eval x):=by
 cases x with
 | tmp i=>
  have:=R.fr i;simp only [St.ev,Act.eval];cases hi:st.t i with
  | s x=>simpa [hi,Sl.ok] using this
  | gd s p x=>
   simp only [hi,Sl.ok] at this ⊢;cases hm:Qmk s p ch with
   | true=>exact this.1 (hch s p (QmB hm))
   | false=>trivial
 | const v=>simp [St.ev,Act.eval,SV.ok,TW.val,QjO]
 | global g=>simp [St.ev,Act.eval,SV.ok,TW.val,TV.val]
 | func f=>simp [St.ev,Act.eval,SV.ok,TW.val,TV.val]
theorem val_ok (R:RelR ρ w0 h0 st h a w){ch:List (Nat × Bool)}(hch:∀ s p,(s,p) ∈ ch->a.tmps.getD s undef=.bool p){x:Operand}{v:Value}(hv:(st.ev ch x).val?=some v):a.eval x=v:=
 SV.val?_ok hv (ev_ok R hch x)
theorem evs_ok (R:RelR ρ w0 h0 st h a w){ch:List (Nat × Bool)}(hch:∀ s p,(s,p) ∈ ch->a.tmps.getD s undef=.bool p):∀{l:List Operand} {vs:List Value},st.evs ch l=some vs->l.map a.eval=vs
 | [],vs,hv=>by simp [St.evs] at hv;simp [hv]
 | x :: l,vs,hv=>by
  simp only [St.evs] at hv;split at hv
  ·rename_i v vs' hx hl;simp only [bH] at hv;subst hv;simp [val_ok R hch hx,evs_ok R hch hl]
  ·simp at hv
theorem Qjy {v:TV}(h:QpC v=true):one? v.val=true:=by
 cases v with
 | v x=>exact h
 | hp b o=>rfl
 | ifc e=>rcases e with _|⟨t,v⟩<;>rfl
theorem one?_cell {v:Value}(h:one? v=true):v.oneCell'=true:=by cases v<;>simp_all [one?,Value.oneCell']
theorem XB:∀{l:List TV},QC l=true->∀ v ∈ Qn l,v.oneCell'=true
 | [],_,v,hv=>by simp [Qn] at hv
 | x :: l,h,v,hv=>by
  simp only [QC,cG] at h;simp only [Qn,bS] at hv;rcases hv with rfl|hv
  ·exact one?_cell (Qjy h.1)
  ·exact XB h.2 v hv
theorem YB {x:TW}(h:X7 x=true):Qn x.cells=x.val.cells.toList:=by
 cases x with
 | one v=>
  have:=Qjy (show QpC v=true from h)
  cases hv:v.val<;>simp_all [TW.cells,TW.val,Qn,Value.cells,one?]
 | ag l=>simp [TW.cells,TW.val,Value.cells]
theorem WI {st:St}{ch:List (Nat × Bool)}:∀{l:List (Nat × Operand)} {vs:List (Nat × TW)},partsL st ch l=some vs->∀ q ∈ vs,X7 q.2=true
 | [],vs,hv,q,hq=>by simp [partsL] at hv;subst hv;simp at hq
 | (i,x) :: l,vs,hv,q,hq=>by
  simp only [partsL] at hv;split at hv
  ·rename_i v vs' hx hl;cases hp:X7 v with
   | false=>simp [hp] at hv
   | true=>
   simp only [hp,cX,bH] at hv;subst hv;simp only [bS] at hq;rcases hq with rfl|hq
   ·exact hp
   ·exact WI hl q hq
  ·simp at hv
theorem optV_ok (R:RelR ρ w0 h0 st h a w){ch:List (Nat × Bool)}(hch:∀ s p,(s,p) ∈ ch->a.tmps.getD s undef=.bool p){x:Option Operand}{v:Option Value}(hv:optV st ch x=some v):x.map a.eval=v:=by
 cases x with
 | none=>simp [optV] at hv;simp [hv]
 | some x=>
  simp only [optV] at hv;split at hv
  ·rename_i v' hx;simp only [bH] at hv;subst hv;simp [val_ok R hch hx]
  ·simp at hv
theorem partsL_ok (R:RelR ρ w0 h0 st h a w){ch:List (Nat × Bool)}(hch:∀ s p,(s,p) ∈ ch->a.tmps.getD s undef=.bool p):∀{l:List (Nat × Operand)} {vs:List (Nat × TW)},partsL st ch l=some vs->l.map (fun q=>(q.1,a.eval q.2))=vs.map (fun q=>(q.1,q.2.val))
 | [],vs,hv=>by simp [partsL] at hv;simp [<-hv]
 | (i,x) :: l,vs,hv=>by
  simp only [partsL] at hv;split at hv
  ·rename_i v vs' hx hl;cases hp:X7 v with
   | false=>simp [hp] at hv
   | true=>
   simp only [hp,cX,bH] at hv;subst hv;have e:=ev_ok R hch x;have:a.eval x=v.val:=by
    cases hs:st.ev ch x with
    | t y=>rw [hs] at hx e;simp only [SV.tw?,bH] at hx;subst hx;exact e
    | _=>rw [hs] at hx;simp [SV.tw?] at hx
   simp [this,partsL_ok R hch hl]
  ·simp at hv
end
theorem Gu {s:Sh1}{K:TV->Prop}(H:ex1 s K):∃ x,K x:=by
 cases s<;>simp only [ex1] at H
 case slice=>obtain⟨a,n,c,H⟩:=H;exact⟨_,H⟩
 all_goals (obtain⟨x,H⟩:=H;exact⟨_,H⟩)
theorem GD:∀{l:List Sh1} {K:List TV->Prop},exL l K->∃ x,K x/\x.length=l.length
 | [],K,H=>⟨[],H,rfl⟩
 | s :: l,K,H=>by
  obtain⟨x,H⟩:=Gu (show ex1 s _ from H)
  obtain⟨xs,H,e⟩:=GD H;exact⟨x :: xs,H,by simp [e]⟩
theorem QaQ {s:Sh0}{K:TW->Prop}(H:ex0 s K):∃ x,K x:=by
 cases s with
 | one s=>obtain⟨x,H⟩:=Gu (show ex1 s _ from H);exact⟨_,H⟩
 | agg l=>obtain⟨x,H,_⟩:=GD (show exL l _ from H);exact⟨_,H⟩
theorem Qgh:∀{l:List Sh0} {K:List TW->Prop},NY l K->∃ x,K x
 | [],K,H=>⟨[],H⟩
 | s :: l,K,H=>by
  obtain⟨x,H⟩:=QaQ (show ex0 s _ from H)
  obtain⟨xs,H⟩:=Qgh H;exact⟨x :: xs,H⟩
def SV.isVal:SV->Prop
 | .t _|.tup _=>True
 | _=>False
theorem XQ {s:Sh}{K:SV->Prop}(H:exS s K):∃ x,K x/\x.isVal:=by
 cases s with
 | s s=>obtain⟨x,H⟩:=QaQ (show ex0 s _ from H);exact⟨_,H,trivial⟩
 | tup l=>obtain⟨x,H⟩:=Qgh (show NY l _ from H);exact⟨_,H,trivial⟩
theorem SV.ok_val {ρ:Nat->Option Nat}{x:SV}(h:x.isVal):x.ok ρ x.val:=by
 cases x<;>first|rfl|exact h.elim
theorem XJ {s:Sh1}{K K':TV->Prop}(hk:∀ x,K x->K' x)(H:ex1 s K):ex1 s K':=by
 cases s<;>simp only [ex1] at H ⊢
 case slice=>obtain⟨a,n,c,H⟩:=H;exact⟨a,n,c,hk _ H⟩
 all_goals (obtain⟨x,H⟩:=H;exact⟨x,hk _ H⟩)
theorem XS:∀{l:List Sh1} {K K':List TV->Prop},(∀ x,K x->K' x)->exL l K->exL l K'
 | [],K,K',hk,H=>hk _ H
 | s :: l,K,K',hk,H=>XJ (fun x hx=>XS (fun xs hxs=>hk _ hxs) hx) (show ex1 s _ from H)
theorem UG {s:Sh0}{K K':TW->Prop}(hk:∀ x,K x->K' x)(H:ex0 s K):ex0 s K':=by
 cases s with
 | one s=>exact XJ (fun x hx=>hk _ hx) (show ex1 s _ from H)
 | agg l=>exact XS (fun x hx=>hk _ hx) (show exL l _ from H)
theorem Jm:∀{l:List Sh0} {K K':List TW->Prop},(∀ x,K x->K' x)->NY l K->NY l K'
 | [],K,K',hk,H=>hk _ H
 | s :: l,K,K',hk,H=>UG (fun x hx=>Jm (fun xs hxs=>hk _ hxs) hx) (show ex0 s _ from H)
theorem Ml {s:Sh}{K K':SV->Prop}(hk:∀ x,K x->K' x)(H:exS s K):exS s K':=by
 cases s with
 | s s=>exact UG (fun x hx=>hk _ hx) (show ex0 s _ from H)
 | tup l=>exact Jm (fun x hx=>hk _ hx) (show NY l _ from H)
theorem UJ {s:Sh1}{K:TV->Prop}(H:ex1 s K):∃ x,ex1 s (fun y=>y=x)/\K x:=by
 cases s<;>simp only [ex1] at H ⊢
 case slice=>obtain⟨a,n,c,h2⟩:=H;exact⟨_,⟨a,n,c,rfl⟩,h2⟩
 all_goals (obtain⟨x,h2⟩:=H;exact⟨_,⟨x,rfl⟩,h2⟩)
theorem UL:∀{l:List Sh1} {K:List TV->Prop},exL l K->∃ x,exL l (fun y=>y=x)/\K x
 | [],K,H=>⟨[],rfl,H⟩
 | s :: l,K,H=>by
  obtain⟨x,h1,h2⟩:=UJ (show ex1 s _ from H)
  obtain⟨xs,h3,h4⟩:=UL h2;exact⟨x :: xs,XJ (fun y hy=>XS (fun ys hys=>by rw [hy,hys]) h3) h1,h4⟩
theorem MJ {s:Sh0}{K:TW->Prop}(H:ex0 s K):∃ x,ex0 s (fun y=>y=x)/\K x:=by
 cases s with
 | one s=>obtain⟨x,h1,h2⟩:=UJ (show ex1 s _ from H);exact⟨_,XJ (fun y hy=>by rw [hy]) h1,h2⟩
 | agg l=>obtain⟨x,h1,h2⟩:=UL (show exL l _ from H);exact⟨_,XS (fun y hy=>by rw [hy]) h1,h2⟩
theorem U1:∀{l:List Sh0} {K:List TW->Prop},NY l K->∃ x,NY l (fun y=>y=x)/\K x
 | [],K,H=>⟨[],rfl,H⟩
 | s :: l,K,H=>by
  obtain⟨x,h1,h2⟩:=MJ (show ex0 s _ from H)
  obtain⟨xs,h3,h4⟩:=U1 h2;exact⟨x :: xs,UG (fun y hy=>Jm (fun ys hys=>by rw [hy,hys]) h3) h1,h4⟩
theorem Qgq {s:Sh}{K:SV->Prop}(H:exS s K):∃ x,exS s (fun y=>y=x)/\K x:=by
 cases s with
 | s s=>obtain⟨x,h1,h2⟩:=MJ (show ex0 s _ from H);exact⟨_,UG (fun y hy=>by rw [hy]) h1,h2⟩
 | tup l=>obtain⟨x,h1,h2⟩:=U1 (show NY l _ from H);exact⟨_,Jm (fun y hy=>by rw [hy]) h1,h2⟩
theorem QnR {s:Sh1}{p K:TV->Prop}(H:ex1 s fun x=>p x/\K x):∃ x,ex1 s (fun y=>p y/\y=x)/\K x:=by
 obtain⟨x,h1,h2,h3⟩:=UJ H;exact⟨x,XJ (fun y hy=>⟨by rw [hy];exact h2,hy⟩) h1,h3⟩
theorem Qni {s:List Sh1}{p K:List TV->Prop}(H:exL s fun x=>p x/\K x):∃ x,exL s (fun y=>p y/\y=x)/\K x:=by
 obtain⟨x,h1,h2,h3⟩:=UL H;exact⟨x,XS (fun y hy=>⟨by rw [hy];exact h2,hy⟩) h1,h3⟩
theorem QnE {s:Sh}{p K:SV->Prop}(H:exS s fun x=>p x/\K x):∃ x,exS s (fun y=>p y/\y=x)/\K x:=by
 obtain⟨x,h1,h2,h3⟩:=Qgq H;exact⟨x,Ml (fun y hy=>⟨by rw [hy];exact h2,hy⟩) h1,h3⟩
theorem Qon {P:Program}{t:TypeId}(h:1<=szT P t):∃ i,P.info? t=some i/\i.size=szT P t:=by
 unfold szT Program.cellsOf at *
 cases hi:P.info? t with
 | none=>simp [hi] at h
 | some i=>exact⟨i,rfl,by simp⟩
theorem Z3 {P:Program}{t:TypeId}(h:1<=szT P t)(w:World):(sizeOf t).run P w=.ok (szT P t) w:=by
 obtain⟨i,hi,hs⟩:=Qon h;simp [sizeOf,typeInfo,hi,hs]
theorem Qnm {P:Program}{t:TypeId}{d:TypeDesc}(h:P.underlying t=some d):∃ i,P.info? t=some i/\i.size=szT P t:=by
 unfold Program.underlying at h;unfold szT Program.cellsOf;cases hi:P.info? t with
 | none=>simp [hi] at h
 | some i=>exact⟨i,rfl,by simp⟩
theorem Me {P:Program}{t:TypeId}{d:TypeDesc}(h:P.underlying t=some d)(w:World):(sizeOf t).run P w=.ok (szT P t) w:=by
 obtain⟨i,hi,hs⟩:=Qnm h;simp [sizeOf,typeInfo,hi,hs]
theorem QaD {P:Program}{t:TypeId}(h:QW P t=true):∃ d,P.underlying t=some d/\(match d with|.struct _|.array _ _=>true|_=>false)=true:=by
 unfold QW at h;split at h
 ·rename_i f hf;exact⟨_,hf,rfl⟩
 ·rename_i f hf;exact⟨_,hf,rfl⟩
 ·simp at h
theorem GZ {P:Program}{t:TypeId}(h:QW P t=true)(w:World):(isAgg t).run P w=.ok true w:=by
 obtain⟨d,hd,hm⟩:=QaD h;unfold isAgg;rw [Sem.run_bind,run_underlying hd w];cases d<;>simp_all
theorem VH {P:Program}{t:TypeId}{d:TypeDesc}(hd:P.underlying t=some d)(h:QW P t=false)(w:World):(isAgg t).run P w=.ok false w:=by
 unfold QW at h;rw [hd] at h;unfold isAgg;rw [Sem.run_bind,run_underlying hd w];cases d<;>simp_all
theorem Yo (b o j:Nat):(⟨b,o,none⟩:Addr).add j=⟨b,o+j,none⟩:=by unfold Addr.add;split<;>simp_all
abbrev _root_.qJ:=@SV.ok_val
def Qqs (P:Program)(o:Oper)(ρ:Nat->Option Nat)(a:Act)(w:World)(sv:SV):Prop:=∃ v,(execOp a.eval o).run P w=.ok (.value v) w/\sv.ok ρ v
section
variable {P:Program}{ρ:Nat->Option Nat}{w0:World}{h0:Hp}{st:St}{h:Hp}{a:Act}{w:World}{ch:List (Nat × Bool)}{G:Prop->Prop}{K:SV->Prop}{o:Oper}
theorem Xr (hs:Sub h w)(hG:∀ p,G p->p){m:Sem Value}{s:Sh}(H:Qpk P G m s h K)(hm:(execOp a.eval o).run P w=(m.run P w).andThen fun v w'=>.ok (.value v) w'):∃ sv,K sv/\Qqs P o ρ a w sv:=by
 obtain⟨x,⟨hx,hk⟩,hv⟩:=XQ H;refine⟨x,hk,x.val,?_,qJ hv⟩
 rw [hm,hG _ hx w hs];rfl
theorem We {x:SV}{y:TW}(h:x=.t y){ρ:Nat->Option Nat}{v:Value}(hv:x.ok ρ v):v=y.val:=by subst h;exact hv
theorem Qn4 {T:TypeId}(hG:∀ p,G p->p){op:BinOp}{x y:Int}(H:(QnG op x y).sem P G h K) :
  ∃ v,K (.t (.one v))/\(binOp op T (.int .i64 x) (.int .i64 y)).run P w=.ok v.val w:=by
 have hw:∀ z,InR z->IntKind.i64.wrap z=z:=by intro z hz;unfold InR at hz;exact IntWalk.i64_in _ hz
 cases op<;>simp only [QnG,VD.sem] at H
 case add=>obtain⟨z,hz,hk⟩:=H;have e:z=_:=hG _ hz;exact⟨_,hk,by simp [binOp,Op.intArith,e,TV.val]⟩
 case sub=>obtain⟨z,hz,hk⟩:=H;have e:z=_:=hG _ hz;exact⟨_,hk,by simp [binOp,Op.intArith,e,TV.val]⟩
 case mul=>obtain⟨z,hz,hk⟩:=H;have e:z=_:=hG _ hz;exact⟨_,hk,by simp [binOp,Op.intArith,e,TV.val]⟩
 case quo=>exact⟨_,H.2,by simp [binOp,Op.intDiv,hw _ (hG _ H.1).2,(hG _ H.1).1,TV.val]⟩
 case rem=>exact⟨_,H.2,by simp [binOp,Op.intDiv,(hG _ H.1),TV.val]⟩
 case eql=>exact⟨_,H,by simp [binOp,Op.intCmp,TV.val];rfl⟩
 case neq=>exact⟨_,H,by simp [binOp,Op.intCmp,TV.val,bne];rfl⟩
 all_goals exact⟨_,H,by simp [binOp,Op.intCmp,TV.val]⟩
theorem Qoy {T:TypeId}{op:BinOp}{k:IntKind}{x y:Int}(H:(Qol op x y).sem P G h K) :
  ∃ v,K (.t (.one v))/\(binOp op T (.int k x) (.int k y)).run P w=.ok v.val w:=by
 cases op<;>simp only [Qol,VD.sem] at H
 case eql=>exact⟨_,H,by simp [binOp,Op.intCmp,TV.val];rfl⟩
 case neq=>exact⟨_,H,by simp [binOp,Op.intCmp,TV.val,bne];rfl⟩
 all_goals exact⟨_,H,by simp [binOp,Op.intCmp,TV.val]⟩
theorem Qc4 (op:BinOp)(T:TypeId)(x y:Operand)(j k:IntKind)(m n:Int):(eqGuard op T x y (.int j m) (.int k n)).run P w=.ok () w:=by
 unfold eqGuard;split<;>simp
theorem Wu {op:BinOp}{T T':TypeId}{x y:Operand}{d:Option Tmp}{ty:TypeId}{pos:String}{af:Array Edge}{gd:Option (Nat × Bool)}{u v:Value}(hx:a.eval x=u)(hy:a.eval y=v) :
  (execOp a.eval ⟨d,.binOp op T x y T',ty,pos,af,gd⟩).run P w=((eqGuard op T x y u v >>= fun _=>binOp op T u v).run P w).andThen fun v w'=>.ok (.value v) w':=by
 subst hx;subst hy;simp only [execOp,Sem.run_bind];cases (eqGuard op T x y (a.eval x) (a.eval y)).run P w<;>simp [Result.andThen]
theorem Qpz {x y:SV}{m n:Int}(e:Qa6 x y=.i64 m n):x=.t (.one (.v (.int .i64 m)))/\y=.t (.one (.v (.int .i64 n))):=by
 unfold Qa6 at e;split at e<;>simp_all
theorem Qqq {x y:SV}{k:IntKind}{m n:Int}(e:Qa6 x y=.ik k m n):x=.t (.one (.v (.int k m)))/\y=.t (.one (.v (.int k n))):=by
 unfold Qa6 at e;split at e<;>simp_all
theorem Qm0 {x y:SV}{m}(e:Qa6 x y=.nilR m):x=.t (.one (.ifc m))/\y=.t (.one (.ifc none)):=by
 unfold Qa6 at e;split at e<;>simp_all
theorem Qnd {x y:SV}{m}(e:Qa6 x y=.nilL m):x=.t (.one (.ifc none))/\y=.t (.one (.ifc m)):=by
 unfold Qa6 at e;split at e<;>simp_all
theorem QdG (e:OtT):(∃ T v,ifv e=.iface T v/\e.isNone=false/\e.isSome=true)\/(ifv e=.nilIface/\e.isNone=true/\e.isSome=false):=by
 cases e with
 | none=>right;simp [ifv]
 | some q=>obtain⟨t,v⟩:=q;left;exact⟨t,v,rfl,rfl,rfl⟩
theorem Mq (d:Nat){T:TypeId}{ms}(hT:P.underlying T=some (.interface ms))(e:OtT):(Op.equalIn (d+1) T .nilIface (ifv e)).run P w=.ok e.isNone w:=by
 rcases QdG e with ⟨t,v,h1,h2,_⟩|⟨h1,h2,_⟩<;>rw [h1,h2]<;>simp [Op.equalIn,run_underlying hT]
theorem VY (d:Nat){T:TypeId}{ms}(hT:P.underlying T=some (.interface ms))(e:OtT):(Op.equalIn (d+1) T (ifv e) .nilIface).run P w=.ok e.isNone w:=by
 rcases QdG e with ⟨t,v,h1,h2,_⟩|⟨h1,h2,_⟩<;>rw [h1,h2]<;>simp [Op.equalIn,run_underlying hT]
theorem QaK {T:TypeId}{ms}(hT:P.underlying T=some (.interface ms))(e:OtT):(Op.equal T .nilIface (ifv e)).run P w=.ok e.isNone w:=
 Mq 9999 hT e
theorem Nq {T:TypeId}{ms}(hT:P.underlying T=some (.interface ms))(e:OtT):(Op.equal T (ifv e) .nilIface).run P w=.ok e.isNone w:=
 VY 9999 hT e
theorem QgL {T:TypeId}(h:QgN P T=true):∃ ms,P.underlying T=some (.interface ms):=by
 unfold QgN at h;split at h
 ·rename_i ms hm;exact⟨ms,hm⟩
 ·simp at h
theorem QgY {x:Operand}(h:QbZ x=true):x=.const .nilIface:=by
 unfold QbZ at h;split at h<;>simp_all
theorem QcU {op:BinOp}{T:TypeId}{x y:Operand}{u v:Value}(hx:x=.const .nilIface\/y=.const .nilIface)(hu:u=.nilIface\/v=.nilIface):(eqGuard op T x y u v).run P w=.ok () w:=by
 unfold eqGuard;rcases hx with rfl|rfl<;>rcases hu with rfl|rfl<;>(repeat' split)<;>simp_all
theorem Gh {op:BinOp}{T:TypeId}{ms}(hT:P.underlying T=some (.interface ms))(e:OtT)(b:Bool)(hop:op=.eql/\b=e.isNone\/op=.neq/\b=e.isSome):(binOp op T .nilIface (ifv e)).run P w=.ok (.bool b) w:=by
 have hE:=QaK (P:=P) (w:=w) hT e;rcases QdG e with ⟨t,v,h1,h2,h3⟩|⟨h1,h2,h3⟩<;>rw [h1] at hE ⊢<;>rcases hop with ⟨rfl,rfl⟩|⟨rfl,rfl⟩<;>simp [binOp,hE,h2,h3]
theorem VF {op:BinOp}{T:TypeId}{ms}(hT:P.underlying T=some (.interface ms))(e:OtT)(b:Bool)(hop:op=.eql/\b=e.isNone\/op=.neq/\b=e.isSome):(binOp op T (ifv e) .nilIface).run P w=.ok (.bool b) w:=by
 have hE:=Nq (P:=P) (w:=w) hT e;rcases QdG e with ⟨t,v,h1,h2,h3⟩|⟨h1,h2,h3⟩<;>rw [h1] at hE ⊢<;>rcases hop with ⟨rfl,rfl⟩|⟨rfl,rfl⟩<;>simp [binOp,hE,h2,h3]
theorem QlV {b o n:Nat}{l:List Value}(h1:Hp.row h b o n=some l)(hs:Sub h w):l.length=n/\∀ j v,l[j]?=some v->w.cell? ((⟨b,o,none⟩:Addr).add j)=some v:=by
 unfold Hp.row at h1;split at h1
 ·rename_i c e fz hb;have hw:=hs _ _ hb;split at h1
  ·rename_i hle;simp only [bH] at h1;subst h1;refine⟨by simp;omega,fun j v hj=>?_⟩
   rw [Yo];simp only [World.cell?,hw];simp only [gE,fP] at hj
   split at hj
   ·simpa using hj
   ·simp at hj
  ·simp at h1
 ·simp at h1
theorem ZA {b o:Nat}{v:Value}(h1:Hp.cell h b o=some v)(hs:Sub h w):w.cell? ⟨b,o,none⟩=some v:=by
 unfold Hp.cell at h1;split at h1
 ·rename_i c e fz hb;have hw:=hs _ _ hb;simp [World.cell?,hw,h1]
 ·simp at h1
theorem KI {T:TypeId}(hT:QW P T=true){b o:Nat}{l:List Value}(hl:l.length=szT P T)(hc:∀ j v,l[j]?=some v->w.cell? ((⟨b,o,none⟩:Addr).add j)=some v) :
  (loadVar T ⟨b,o,none⟩).run P w=.ok (.agg l.toArray) w:=by
 obtain⟨d,hd,_⟩:=QaD hT;have:=run_loadCells_list (P:=P) w ⟨b,o,none⟩ l hc;rw [hl] at this;simp [loadVar,GZ hT,Me hd,this]
theorem XV {T:TypeId}(hT:QW P T=false){d:TypeDesc}(hd:P.underlying T=some d){b o:Nat}{v:Value}(hc:w.cell? ⟨b,o,none⟩=some v) :
  (loadVar T ⟨b,o,none⟩).run P w=.ok v w:=by
 simp [loadVar,VH hd hT,hc]
theorem QcW (off:Nat):∀(vs:List Value)(k:Nat)(cs:Array Value),off+k+vs.length<=cs.size ->
  ((vs.zipIdx k).foldl (fun(cs:Array Value)(q:Value × Nat)=>cs.setIfInBounds (off+q.2) q.1) cs).toList=QP cs.toList (off+k) vs
 | [],k,cs,_=>by simp [QP]
 | v :: vs,k,cs,hl=>by
  simp only [cH] at hl;simp only [List.zipIdx_cons,fW];rw [QcW off vs (k+1) _ (by simp;omega)]
  simp only [QP,Array.toList_setIfInBounds];have e:off+(k+1)=(off+k)+1:=by omega
  rw [e];have hlt:off+k<cs.toList.length:=by simp;omega
  apply fR;intro j;simp only [bX,List.getElem?_append,bZ,dL,gE,gN,fP,cH,List.getElem?_cons]
  have m1:min (off+k+1) cs.toList.length=off+k+1:=by omega
  have m2:min (off+k) cs.toList.length=off+k:=by omega
  rw [m1,m2];by_cases h1:j<off+k
  ·simp [h1,show j<off+k+1 by omega,show ¬ off+k=j by omega]
  ·by_cases h2:j=off+k
   ·subst h2;simp;omega
   ·have h3:¬ j<off+k+1:=by omega
    simp only [h1,h3,kF,show ¬(off+k=j) by omega]
    have h4:¬(j-(off+k)=0):=by omega
    simp only [h4,kF];have e1:j-(off+k)-1=j-(off+k+1):=by omega
    rw [e1];by_cases h5:j-(off+k+1)<vs.length
    ·simp [h5,show j-(off+k)<vs.length+1 by omega]
    ·simp only [h5,kF,show ¬(j-(off+k)<vs.length+1) by omega]
     have e2:off+k+1+vs.length+(j-(off+k+1)-vs.length)=j:=by omega
     have e3:off+k+(vs.length+1)+(j-(off+k)-(vs.length+1))=j:=by omega
     rw [e2,e3];simp [show ¬(off+k=j) by omega]
theorem NP (cs vs:List TV)(off:Nat):Qn (QP cs off vs)=QP (Qn cs) off (Qn vs):=by
 simp [QP,Qby,Qah,JG,QM]
theorem Vr {pl:Nat->Option (Nat × Nat)}:∀{ps:List (Nat × TW)} {z cs:List TV},UI pl z ps=some cs->(∀ q ∈ ps,X7 q.2=true) ->
  Instr.fill pl (Qn z).toArray (ps.map fun q=>(q.1,q.2.val))=some (Qn cs).toArray
 | [],z,cs,H,_=>by simp [UI] at H;simp [Instr.fill,H]
 | (i,v) :: ps,z,cs,H,hp=>by
  simp only [UI] at H;cases hpl:pl i with
  | none=>simp [hpl] at H
  | some q=>
   obtain⟨off,size⟩:=q;simp only [hpl] at H;cases hc:(Nat.beq v.cells.length size&&Nat.ble (off+size) z.length) with
   | false=>simp [hc] at H
   | true=>
    simp only [hc,cX] at H;simp only [cG] at hc;have h1:=cT hc.1;have h2:=bP hc.2;have hv:=YB (hp (i,v) (by simp))
    have hsz:v.val.cells.size=size:=by rw [<-fE,<-hv,QM,h1]
    have ih:=Vr H (fun q hq=>hp q (by simp [hq]))
    simp only [dD,Instr.fill,hpl];rw [bE (by simp [hsz,QM];omega)]
    have e:(v.val.cells.zipIdx.foldl (fun cs x=>cs.setIfInBounds (off+x.2) x.1) (Qn z).toArray)=(Qn (QP z off v.cells)).toArray:=by
     apply jR;have:=QcW off (v.val.cells.toList) 0 (Qn z).toArray (by simp [QM,hsz];omega)
     simp only [f7] at this;rw [NP,hv];rw [<-Array.foldl_toList,Array.toList_zipIdx];simpa using this
    rw [show (fun(cs:Array Value)(x:Value × Nat)=>match x with|(c,j)=>cs.setIfInBounds (off+j) c)=(fun cs x=>cs.setIfInBounds (off+x.2) x.1) from rfl]
    rw [e];exact ih
theorem MK {T:TypeId}{z:List TV}(h1:Xg P T=some z):∃ i zv,P.info? T=some i/\i.zero=some zv/\Qn z=zv.cells.toList:=by
 unfold Xg at h1;simp only [dF,dZ] at h1;obtain⟨zv,⟨i,hi,hz⟩,rfl⟩:=h1;exact⟨i,zv,hi,hz,by rw [JZ]⟩
end
section
variable {P:Program}{ρ:Nat->Option Nat}{w0:World}{h0:Hp}{st:St}{h:Hp}{a:Act}{w:World}{ch:List (Nat × Bool)}{G:Prop->Prop}{K:SV->Prop}
theorem Zo {d:Option Tmp}{op:Op}{ty:TypeId}{pos:String}{af:Array Edge}{gd:Option (Nat × Bool)}{m:Sem Value}
  (hm:execOp a.eval ⟨d,op,ty,pos,af,gd⟩=(do pure (.value (<-m)))):(execOp a.eval ⟨d,op,ty,pos,af,gd⟩).run P w=(m.run P w).andThen fun v w'=>.ok (.value v) w':=by
 rw [hm];simp
theorem Qc2 {T:TypeId}{f off:Nat}(hf:QpW P T f=some off){x:Value}{b o:Nat}(hx:x=.pointer (some ⟨b,o,none⟩)) :
  (Instr.fieldAt T x f).run P w=.ok (.pointer (some ⟨b,o+off,none⟩)) w:=by
 subst hx;unfold QpW at hf;split at hf
 ·rename_i fs hu;cases hg:fs[f]? with
  | none=>simp [hg] at hf
  | some fd=>
   simp only [hg,gX] at hf;cases hz:Nat.beq (szT P fd.type) 0 with
   | true=>simp [hz] at hf
   | false=>
    simp only [hz,dM,bH] at hf;subst hf;have h1:1<=szT P fd.type:=by have:=d7 hz;omega
    have hs:=Z3 (P:=P) h1 w;simp [Instr.fieldAt,run_underlying hu,hg,Instr.sureAddr,fieldPlace,hs,Yo,show ¬ szT P fd.type=0 by omega]
 ·simp at hf
theorem QbC (w:World):∀(fs:List Field),MV P fs=true->(fs.mapM fun f=>Functor.map (Prod.mk f.offset) (sizeOf f.type)).run P w=.ok (fs.map fun f=>(f.offset,szT P f.type)) w
 | [],_=>by simp
 | f :: fs,h1=>by
  simp only [MV,cG] at h1;have hs:=Z3 (P:=P) (bP h1.1) w;simp [gT,hs,QbC w fs h1.2]
theorem QbR {T:TypeId}{fs:Array Field}(hu:P.underlying T=some (.struct fs)){z cs:List TV}(hz:Xg P T=some z)(hs:MV P fs.toList=true){ps:List (Nat × TW)}(hp:∀ q ∈ ps,X7 q.2=true)
  (hf:UI (fun i=>(fs[i]?).map fun f=>(f.offset,szT P f.type)) z ps=some cs) :
  (Instr.build T (ps.map fun q=>(q.1,q.2.val)).toArray).run P w=.ok (.agg (Qn cs).toArray) w:=by
 obtain⟨it,zv,hi,hz1,hz2⟩:=MK hz;have hfill:=Vr hf hp;have hzc:zv.cells=(Qn z).toArray:=by rw [hz2]
 have hpl:=QbC (P:=P) w fs.toList hs;have e:(fun(i:Nat)=>(fs.toList.map fun f=>(f.offset,szT P f.type)).toArray[i]?)=fun i=>(fs[i]?).map fun f=>(f.offset,szT P f.type):=by funext i;simp
 simp [Instr.build,zeroValue,typeInfo,hi,hz1,run_underlying hu,mY,hpl,hzc];have e':(fun(i:Nat)=>Option.map (fun f=>(f.offset,szT P f.type)) fs[i]?)=fun i=>(fs[i]?).map fun f=>(f.offset,szT P f.type):=rfl
 rw [show (fun(x:Nat)=>Option.map (fun f=>(f.offset,szT P f.type)) fs[x]?)=fun i=>(fs[i]?).map fun f=>(f.offset,szT P f.type) from rfl,hfill]
 simp
theorem Qdc {T e:TypeId}{n:Nat}(hu:P.underlying T=some (.array n e)){z cs:List TV}(hz:Xg P T=some z)(hs:1<=szT P e){ps:List (Nat × TW)}(hp:∀ q ∈ ps,X7 q.2=true)
  (hf:UI (fun i=>some (i*szT P e,szT P e)) z ps=some cs) :
  (Instr.build T (ps.map fun q=>(q.1,q.2.val)).toArray).run P w=.ok (.agg (Qn cs).toArray) w:=by
 obtain⟨it,zv,hi,hz1,hz2⟩:=MK hz;have hfill:=Vr hf hp;have hzc:zv.cells=(Qn z).toArray:=by rw [hz2]
 have hsz:=Z3 (P:=P) hs w;simp [Instr.build,zeroValue,typeInfo,hi,hz1,run_underlying hu,hzc,hsz,hfill]
theorem vcV_ok (R:RelR ρ w0 h0 st h a w)(hch:∀ s p,(s,p) ∈ ch->a.tmps.getD s undef=.bool p)(hG:∀ p,G p->p){o:Oper}(H:vcV P o ch G st h K) :
  ∃ sv,K sv/\Qqs P o ρ a w sv:=by
 obtain⟨d,op,ty,pos,af,gd⟩:=o;have hev:=fun x=>ev_ok R hch x
 have hval:=fun {x:Operand} {v:Value} (hv:(st.ev ch x).val?=some v)=>val_ok R hch hv
 cases op with
 | move x=>exact⟨_,H,_,rfl,hev x⟩
 | assign x=>exact⟨_,H,_,rfl,hev x⟩
 | pick c x y=>
  simp only [vcV,QY] at H;cases c with
  | tmp s=>
   simp only at H;split at H
   ·rename_i c' x' y' hc hx hy;refine⟨_,H,.bool (bif c' then x' else y'),?_,rfl⟩
    have ec:a.eval (.tmp s)=.bool c':=We hc (hev _);have hs:a.tmps.getD s undef=.bool c':=ec;cases c' with
    | true=>
     have ex:a.eval x=.bool x':=We hx (ev_ok R (by
      intro s' p' hm;simp only [bS,fC] at hm;rcases hm with ⟨rfl,rfl⟩|hm
      ·exact hs
      ·exact hch _ _ hm) x)
     simp [execOp,ec,ex,asBool]
    | false=>
     have ey:a.eval y=.bool y':=We hy (ev_ok R (by
      intro s' p' hm;simp only [bS,fC] at hm;rcases hm with ⟨rfl,rfl⟩|hm
      ·exact hs
      ·exact hch _ _ hm) y)
     simp [execOp,ec,ey,asBool]
   ·exact H.elim
  | _=>exact H.elim
 | nilCheck x=>
  simp only [vcV,QY] at H;have hx:=hev x;split at H
  ·rename_i i o' e;rw [e] at hx;obtain⟨b',hb',hx⟩:=hx;exact⟨_,H,_,by simp [execOp,hx],b',hb',rfl⟩
  ·rename_i b o' e;rw [e] at hx;exact⟨_,H,_,by simp [execOp,show a.eval x=_ from hx,TW.val,TV.val],rfl⟩
  ·rename_i p e;rw [e] at hx;obtain⟨b,o',hp,hk⟩:=H;have hp:=hG _ hp;subst hp;exact⟨_,hk,_,by simp [execOp,show a.eval x=_ from hx,TW.val,TV.val],rfl⟩
  ·exact H.elim
 | binOp op T x y T'=>
  simp only [vcV,QY] at H;have hx:=hev x;have hy:=hev y;split at H
  ·rename_i m n e;obtain⟨e1,e2⟩:=Qpz e;rw [e1] at hx;rw [e2] at hy;have hrun:=Wu (P:=P) (a:=a) (w:=w) (op:=op) (T:=T) (T':=T') (d:=d) (ty:=ty) (pos:=pos) (af:=af) (gd:=gd) (show a.eval x=.int .i64 m from hx) (show a.eval y=.int .i64 n from hy)
   rw [Sem.run_bind,Qc4,Result.andThen_ok] at hrun;cases hop:Qls op with
   | true=>
    rw [hop] at H;obtain⟨v,hk,hr⟩:=Qn4 (P:=P) (w:=w) (T:=T) hG H;exact⟨_,hk,v.val,by rw [hrun,hr];rfl,rfl⟩
   | false=>
    rw [hop] at H;exact Xr R.sub hG (show Qpk P G _ _ h K from H) hrun
  ·rename_i k m n e;obtain⟨e1,e2⟩:=Qqq e;rw [e1] at hx;rw [e2] at hy;have hrun:=Wu (P:=P) (a:=a) (w:=w) (op:=op) (T:=T) (T':=T') (d:=d) (ty:=ty) (pos:=pos) (af:=af) (gd:=gd) (show a.eval x=.int k m from hx) (show a.eval y=.int k n from hy)
   rw [Sem.run_bind,Qc4,Result.andThen_ok] at hrun;cases hop:QlO op with
   | true=>
    rw [hop] at H;obtain⟨v,hk,hr⟩:=Qoy (P:=P) (w:=w) (T:=T) (k:=k) H;exact⟨_,hk,v.val,by rw [hrun,hr];rfl,rfl⟩
   | false=>
    rw [hop] at H;exact Xr R.sub hG (show Qpk P G _ _ h K from H) hrun
  ·rename_i m e;obtain⟨e1,e2⟩:=Qm0 e;rw [e1] at hx;rw [e2] at hy;cases hc:(QbZ y&&QgN P T) with
   | false=>rw [hc] at H;exact H.elim
   | true=>
    rw [hc] at H;simp only [cG] at hc;obtain⟨ms,hT⟩:=QgL hc.2;have hrun:=Wu (P:=P) (a:=a) (w:=w) (op:=op) (T:=T) (T':=T') (d:=d) (ty:=ty) (pos:=pos) (af:=af) (gd:=gd) (show a.eval x=ifv m from hx) (show a.eval y=.nilIface from hy)
    rw [Sem.run_bind,QcU (.inr (QgY hc.1)) (.inr rfl),Result.andThen_ok] at hrun;simp only [cX] at H;split at H
    ·exact⟨_,H,_,by rw [hrun,VF hT m _ (.inl ⟨rfl,rfl⟩)];rfl,rfl⟩
    ·exact⟨_,H,_,by rw [hrun,VF hT m _ (.inr ⟨rfl,rfl⟩)];rfl,rfl⟩
    ·exact H.elim
  ·rename_i m e;obtain⟨e1,e2⟩:=Qnd e;rw [e1] at hx;rw [e2] at hy;cases hc:(QbZ x&&QgN P T) with
   | false=>rw [hc] at H;exact H.elim
   | true=>
    rw [hc] at H;simp only [cG] at hc;obtain⟨ms,hT⟩:=QgL hc.2;have hrun:=Wu (P:=P) (a:=a) (w:=w) (op:=op) (T:=T) (T':=T') (d:=d) (ty:=ty) (pos:=pos) (af:=af) (gd:=gd) (show a.eval x=.nilIface from hx) (show a.eval y=ifv m from hy)
    rw [Sem.run_bind,QcU (.inl (QgY hc.1)) (.inl rfl),Result.andThen_ok] at hrun;simp only [cX] at H;split at H
    ·exact⟨_,H,_,by rw [hrun,Gh hT m _ (.inl ⟨rfl,rfl⟩)];rfl,rfl⟩
    ·exact⟨_,H,_,by rw [hrun,Gh hT m _ (.inr ⟨rfl,rfl⟩)];rfl,rfl⟩
    ·exact H.elim
  ·split at H
   ·rename_i u v e1 e2;exact Xr R.sub hG H (Wu (hval e1) (hval e2))
   ·exact H.elim
 | unOp op T x=>
  simp only [vcV,QY] at H;have hx:=hev x;split at H
  ·rename_i b e;rw [e] at hx;exact⟨_,H,.bool (!b),by simp [execOp,show a.eval x=.bool b from hx,Op.unary],rfl⟩
  ·rename_i m e;rw [e] at hx;obtain⟨z,hz,hk⟩:=H;have hw:IntKind.i64.wrap (0-m)=z:=by
    have:=hG _ hz;unfold IsW at this;rw [Int.zero_sub,this]
   exact⟨_,hk,.int .i64 z,by simp only [execOp,show a.eval x=.int .i64 m from hx,Op.unary,Op.intArith,hw];rfl,rfl⟩
  ·split at H
   ·rename_i u e;refine Xr R.sub hG H (Zo ?_)
    simp [execOp,hval e]
   ·exact H.elim
 | convert src dst x=>
  simp only [vcV,QY] at H;have hx:=hev x;split at H
  ·rename_i k k' m hs hu e;rw [e] at hx;have hx':a.eval x=.int k' m:=hx;obtain⟨sd,hsd⟩:=fJ.1 hs;refine⟨_,H,.int k (k.wrap m),?_,rfl⟩
   simp [execOp,hx',convert,run_underlying hsd,run_underlying hu,Conv.intToInt]
  ·split at H
   ·rename_i u e;refine Xr R.sub hG H (Zo ?_)
    simp [execOp,hval e]
   ·exact H.elim
 | makeInterface T x=>
  simp only [vcV,QY] at H;cases hd:P.underlying T with
  | none=>rw [hd] at H;exact H.elim
  | some dd=>
   cases hv:(st.ev ch x).val? with
   | none=>rw [hd,hv] at H;cases dd<;>exact H.elim
   | some u=>
    rw [hd,hv] at H;have hE:(execOp a.eval ⟨d,.makeInterface T x,ty,pos,af,gd⟩).run P w=((Instr.makeInterface T u).run P w).andThen fun v w'=>.ok (.value v) w':=Zo (by simp [execOp,hval hv])
    cases dd<;>first|exact H.elim|exact⟨_,H,.iface T u,by rw [hE];simp [Instr.makeInterface,run_underlying hd],rfl⟩
 | fieldAddr T x f=>
  simp only [vcV,QY] at H;have hx:=hev x;split at H
  ·rename_i off i o' hf e;rw [e] at hx;obtain⟨b',hb',hx⟩:=hx;exact⟨_,H,_,by simp only [execOp,Sem.run_bind];rw [Qc2 hf hx];rfl,b',hb',rfl⟩
  ·rename_i off b o' hf e;rw [e] at hx;exact⟨_,H,_,by simp only [execOp,Sem.run_bind];rw [Qc2 hf hx];rfl,rfl⟩
  ·exact H.elim
 | field T x f=>
  simp only [vcV,QY] at H;have hx:=hev x;split at H
  ·rename_i fs l hu e;rw [e] at hx;have hx':a.eval x=.agg (Qn l).toArray:=hx;split at H
   ·rename_i fd hf;have hE:(execOp a.eval ⟨d,.field T x f,ty,pos,af,gd⟩).run P w=((part fd.type (Qn l).toArray fd.offset).run P w).andThen fun v w'=>.ok (.value v) w':=by
     rw [Zo (m:=Instr.field T (a.eval x) f) rfl];simp [hx',Instr.field,run_underlying hu,hf,asAgg]
    cases hA:QW P fd.type with
    | true=>
     rw [hA] at H;obtain⟨dd,hdd,_⟩:=QaD hA;refine⟨_,H,_,by rw [hE];simp [part,GZ hA,Me hdd];rfl,?_⟩
     simp [SV.ok,TW.val,Qah,JG,List.take_drop]
    | false=>
     rw [hA] at H;cases hS:(P.underlying fd.type).isSome with
     | false=>rw [hS] at H;exact H.elim
     | true=>
      rw [hS] at H;obtain⟨dd,hdd⟩:=fJ.1 hS;simp only [cX,dM] at H;split at H
      ·rename_i v rest hv;have hc:(Qn l)[fd.offset]?=some v.val:=by
        have:(Qn l).drop fd.offset=v.val :: Qn rest:=by rw [<-JG,hv];rfl
        rw [<-kW,this];rfl
       exact⟨_,H,_,by rw [hE];simp [part,VH hdd hA,hc];rfl,rfl⟩
      ·exact H.elim
   ·exact H.elim
  ·exact H.elim
 | indexAddr T x ix=>
  simp only [vcV,QY] at H;have hx:=hev x;have hi:=hev ix;split at H
  ·rename_i e s n c i hu e1 e2;rw [e1] at hx;rw [e2] at hi;have hx':a.eval x=.slice s n c:=hx;have hi':a.eval ix=.int .i64 i:=hi;cases hz:Nat.ble 1 (szT P e) with
   | false=>rw [hz] at H;exact H.elim
   | true=>
    rw [hz] at H;obtain⟨b,o',hb,hk⟩:=H;obtain⟨rfl,h1,h2⟩:=hG _ hb;have hs:=Z3 (P:=P) (bP hz) w;refine⟨_,hk,_,?_,rfl⟩
    rw [Zo (m:=Instr.indexAt T (a.eval x) (a.eval ix)) rfl];simp [hx',hi',Instr.indexAt,asIntOf,run_underlying hu,h1,h2,hs,Yo,TW.val,TV.val]
  ·rename_i n e b o' i hu e1 e2;rw [e1] at hx;rw [e2] at hi;have hx':a.eval x=.pointer (some ⟨b,o',none⟩):=hx;have hi':a.eval ix=.int .i64 i:=hi;cases hz:(Nat.ble 1 (szT P e)&&Nat.ble 2 n) with
   | false=>rw [hz] at H;exact H.elim
   | true=>
    rw [hz] at H;simp only [cG] at hz;obtain⟨hb,hk⟩:=H;obtain⟨h1,h2⟩:=hG _ hb;have hs:=Z3 (P:=P) (bP hz.1) w;refine⟨_,hk,_,?_,rfl⟩
    rw [Zo (m:=Instr.indexAt T (a.eval x) (a.eval ix)) rfl];simp [hx',hi',Instr.indexAt,asIntOf,run_underlying hu,h1,h2,hs,Yo,Instr.sureAddr,TW.val,TV.val]
  ·exact H.elim
 | load T x=>
  simp only [vcV,QY] at H;have hx:=hev x;have hE:∀ b o',a.eval x=.pointer (some ⟨b,o',none⟩)->(execOp a.eval ⟨d,.load T x,ty,pos,af,gd⟩).run P w=((loadVar T ⟨b,o',none⟩).run P w).andThen fun v w'=>.ok (.value v) w':=by
   intro b o' hb;rw [Zo (m:=Instr.loadAt T (a.eval x)) rfl];simp [hb,Instr.loadAt,Instr.sureAddr]
  split at H
  ·rename_i i o' e;rw [e] at hx;obtain⟨bb,hbb,hx⟩:=hx;split at H
   ·rename_i bx hbx;obtain⟨bb',hbb',hb1,hb2,hb3⟩:=R.box i bx hbx;obtain rfl:bb=bb':=by rw [hbb] at hbb';exact cU hbb'
    cases hl:Nat.ble (o'+szT P T) bx.c.length with
    | false=>rw [hl] at H;exact H.elim
    | true=>
     rw [hl] at H;have hl':=bP hl;have hc:∀ j,w.cell? ((⟨bb,o',none⟩:Addr).add j)=(Qn bx.c)[o'+j]?:=by
      intro j;rw [Yo];simp [World.cell?,hb1]
     cases hA:QW P T with
     | true=>
      rw [hA] at H;refine⟨_,H,_,?_,rfl⟩
      rw [hE _ _ hx,KI (l:=Qn ((bx.c.drop o').take (szT P T))) hA (by simp [QM];omega)]
      ·rfl
      ·intro j v hj;rw [hc,<-hj,Qah,JG];have:j<szT P T:=by
        have:=(bG.1 hj).1
        simp [QM] at this;omega
       simp [this]
     | false=>
      rw [hA] at H;simp only [cX,dM] at H;cases hS:(Nat.beq (szT P T) 1&&(P.underlying T).isSome) with
      | false=>rw [hS] at H;exact H.elim
      | true=>
       rw [hS] at H;simp only [cG] at hS;obtain⟨dd,hdd⟩:=fJ.1 hS.2;simp only [cX] at H;split at H
       ·rename_i v rest hv;refine⟨_,H,_,?_,rfl⟩
        have hcc:w.cell? ⟨bb,o',none⟩=some v.val:=by have:=hc 0;rw [Yo] at this;simp only [f7] at this;rw [this,<-kW,<-JG,hv];rfl
        rw [hE _ _ hx,XV hA hdd hcc];rfl
       ·exact H.elim
   ·exact H.elim
  ·rename_i b o' e;rw [e] at hx;cases hA:QW P T with
   | true=>
    rw [hA] at H;obtain⟨xs,⟨hr,hk⟩,_⟩:=GD (show exL _ _ from H)
    obtain⟨hl,hc⟩:=QlV (hG _ hr) R.sub;exact⟨_,hk,_,by rw [hE _ _ hx,KI hA hl hc];rfl,rfl⟩
   | false=>
    rw [hA] at H;simp only [dM] at H;cases hS:(P.underlying T).isSome with
    | false=>rw [hS] at H;exact H.elim
    | true=>
     rw [hS] at H;obtain⟨dd,hdd⟩:=fJ.1 hS;obtain⟨x',hr,hk⟩:=Gu (show ex1 _ _ from H)
     exact⟨_,hk,_,by rw [hE _ _ hx,XV hA hdd (ZA (hG _ hr) R.sub)];rfl,rfl⟩
  ·exact H.elim
 | extract x i=>
  simp only [vcV,QY] at H;have hx:=hev x;split at H
  ·rename_i l e;rw [e] at hx;have hx':a.eval x=.tuple (Kt l).toArray:=hx;split at H
   ·rename_i v hv;have:(Kt l)[i]?=some v.val:=by
     clear H hx hx' e;induction l generalizing i with
     | nil=>simp at hv
     | cons y l ih=>cases i<;>simp_all [Kt]
    exact⟨_,H,_,by rw [Zo (m:=Instr.extract (a.eval x) i) rfl];simp [hx',Instr.extract,this],rfl⟩
   ·exact H.elim
  ·exact H.elim
 | build T parts=>
  simp only [vcV,QY] at H;have hE:∀ ps,partsL st ch parts.toList=some ps->(execOp a.eval ⟨d,.build T parts,ty,pos,af,gd⟩).run P w=((Instr.build T (ps.map fun q=>(q.1,q.2.val)).toArray).run P w).andThen fun v w'=>.ok (.value v) w':=by
   intro ps hps;have e:=partsL_ok R hch hps;have:parts.map (fun(q:Nat × Operand)=>(q.1,a.eval q.2))=(ps.map fun q=>(q.1,q.2.val)).toArray:=by
    apply jR;simpa using e
   rw [<-this];exact Zo rfl
  split at H
  ·rename_i fs z ps hu hz hps;cases hs:MV P fs.toList with
   | false=>rw [hs] at H;exact H.elim
   | true=>
    rw [hs] at H;simp only [pH,dM] at H;split at H
    ·rename_i cs hf;exact⟨_,H,_,by rw [hE ps hps,QbR hu hz hs (WI hps) hf];rfl,rfl⟩
    ·exact H.elim
  ·rename_i n e z ps hu hz hps;cases hs:Nat.ble 1 (szT P e) with
   | false=>rw [hs] at H;exact H.elim
   | true=>
    rw [hs] at H;simp only [cX] at H;split at H
    ·rename_i cs hf;exact⟨_,H,_,by rw [hE ps hps,Qdc hu hz (bP hs) (WI hps) hf];rfl,rfl⟩
    ·exact H.elim
  ·exact H.elim
 | index T x ix=>
  simp only [vcV,QY] at H;split at H
  ·rename_i u v e1 e2;refine Xr R.sub hG H (Zo ?_)
   simp [execOp,hval e1,hval e2]
  ·exact H.elim
 | lookup T x ix ok=>
  simp only [vcV,QY] at H;split at H
  ·rename_i u v e1 e2;refine Xr R.sub hG H (Zo ?_)
   simp [execOp,hval e1,hval e2]
  ·exact H.elim
 | typeAssert x T U ok=>
  simp only [vcV,QY] at H;split at H
  ·rename_i u e1;refine Xr R.sub hG H (Zo ?_)
   simp [execOp,hval e1]
  ·exact H.elim
 | slice T x lo hi mx=>
  simp only [vcV,QY] at H;split at H
  ·rename_i u l v m e1 e2 e3 e4;refine Xr R.sub hG H (Zo ?_)
   simp [execOp,hval e1,optV_ok R hch e2,optV_ok R hch e3,optV_ok R hch e4]
  ·exact H.elim
 | makeFunc fn first cap=>
  simp only [vcV,QY] at H;split at H
  ·rename_i l1 l2 e1 e2;have k1:first.map a.eval=l1.toArray:=by apply jR;simpa using evs_ok R hch e1
   have k2:cap.map a.eval=l2.toArray:=by apply jR;simpa using evs_ok R hch e2
   refine⟨_,H,_,?_,rfl⟩
   simp [execOp,Instr.makeFunc,k1,k2];rfl
  ·exact H.elim
 | call c=>
  obtain⟨callee,args,ts⟩:=c;have hE:∀(b:Builtin)(m:Sem Value)(vs:List Value),st.evs ch args.toList=some vs->(∀ cs,builtin b ts ty cs vs.toArray=(do pure (.value (<-m)))) ->
    (execOp a.eval ⟨d,.call ⟨.builtin b,args,ts⟩,ty,pos,af,gd⟩).run P w=(m.run P w).andThen fun v w'=>.ok (.value v) w':=by
   intro b m vs hvs hm;have e:=evs_ok R hch hvs;have:args.map a.eval=vs.toArray:=by apply jR;simpa using e
   simp [execOp,resolve,invoke,this,hm]
  cases callee with
  | value f=>exact H.elim
  | invoke r m=>exact H.elim
  | builtin b=>
   cases b with
   | len=>
    simp only [vcV,QY] at H;split at H
    ·rename_i x hargs;have hx:=hev x;split at H
     ·rename_i e s n cp hu hxe;rw [hxe] at hx;have hx':a.eval x=.slice s n cp:=hx;have hvs:st.evs ch args.toList=some [.slice s n cp]:=by rw [hargs];simp [St.evs,hxe,SV.val?,TW.val,TV.val]
      refine⟨_,H,_,?_,rfl⟩
      rw [hE .len (Builtin.len_ ts ty #[.slice s n cp]) _ hvs (fun _=>rfl)]
      obtain⟨t0,ht0,hu0⟩:=dZ.1 hu;simp [Builtin.len_,ht0,run_underlying hu0,goInt,TW.val,TV.val]
     ·rename_i s hu hxe;rw [hxe] at hx;have hvs:st.evs ch args.toList=some [.string s]:=by rw [hargs];simp [St.evs,hxe,SV.val?,TW.val,TV.val]
      refine⟨_,H,_,?_,rfl⟩
      rw [hE .len (Builtin.len_ ts ty #[.string s]) _ hvs (fun _=>rfl)]
      obtain⟨t0,ht0,hu0⟩:=dZ.1 hu;simp [Builtin.len_,ht0,run_underlying hu0,goInt,TW.val,TV.val]
     ·split at H
      ·rename_i u hv;have hvs:st.evs ch args.toList=some [u]:=by rw [hargs];simp [St.evs,hv]
       exact Xr R.sub hG H (hE .len (Builtin.len_ ts ty #[u]) _ hvs (fun _=>rfl))
      ·exact H.elim
    ·exact H.elim
   | cap=>
    simp only [vcV,QY] at H;split at H
    ·rename_i vs hvs;exact Xr R.sub hG H (hE .cap _ _ hvs (fun _=>rfl))
    ·exact H.elim
   | max=>
    simp only [vcV,QY] at H;split at H
    ·rename_i vs hvs;exact Xr R.sub hG H (hE .max _ _ hvs (fun _=>rfl))
    ·exact H.elim
   | min=>
    simp only [vcV,QY] at H;split at H
    ·rename_i vs hvs;exact Xr R.sub hG H (hE .min _ _ hvs (fun _=>rfl))
    ·exact H.elim
   | _=>exact H.elim
 | _=>exact H.elim
theorem VD.pick {v:VD}(H:v.sem P G h K):∃ x,v.sem P G h (fun y=>y=x)/\K x:=by
 cases v<;>simp only [VD.sem] at H ⊢
 case pt x=>exact⟨x,rfl,H⟩
 case ob p x=>exact⟨x,⟨H.1,rfl⟩,H.2⟩
 case wr e=>obtain⟨z,h1,h2⟩:=H;exact⟨_,⟨z,h1,rfl⟩,h2⟩
 case nilc p=>obtain⟨b,o,h1,h2⟩:=H;exact⟨_,⟨b,o,h1,rfl⟩,h2⟩
 case idx a n i sz=>obtain⟨b,o,h1,h2⟩:=H;exact⟨_,⟨b,o,h1,rfl⟩,h2⟩
 case rd m s=>exact QnE (p:=fun x=>G (Rd P m h x.val)) H
 case ldA b o n l=>obtain⟨x,e,hk⟩:=Qni (p:=fun xs=>G (h.row b o n=some (Qn xs))) (K:=fun xs=>K (.t (.ag xs))) H;exact⟨_,XS (fun xs hx=>⟨hx.1,by rw [hx.2]⟩) e,hk⟩
 case ld1 b o s=>obtain⟨x,e,hk⟩:=QnR (p:=fun x=>G (h.cell b o=some x.val)) (K:=fun x=>K (.t (.one x))) H;exact⟨_,XJ (fun xs hx=>⟨hx.1,by rw [hx.2]⟩) e,hk⟩
theorem VD.mono {v:VD}{K':SV->Prop}{h':Hp}(hh:v.hr=true->h.le h')(hG:∀ p q:Prop,(p->q)->G p->G q)(hk:∀ x,K x->K' x)(H:v.sem P G h K):v.sem P G h' K':=by
 have hs:v.hr=true->∀ w,Sub h' w->Sub h w:=fun e w hw b o hb=>hw b o (hh e b o hb)
 cases v<;>simp only [VD.sem] at H ⊢
 case pt x=>exact hk _ H
 case ob p x=>exact⟨H.1,hk _ H.2⟩
 case wr e=>obtain⟨z,h1,h2⟩:=H;exact⟨z,h1,hk _ h2⟩
 case nilc p=>obtain⟨b,o,h1,h2⟩:=H;exact⟨b,o,h1,hk _ h2⟩
 case idx a n i sz=>obtain⟨b,o,h1,h2⟩:=H;exact⟨b,o,h1,hk _ h2⟩
 case rd m s=>exact Ml (fun x hx=>⟨hG _ _ (fun hr w hw=>hr w (hs rfl w hw)) hx.1,hk _ hx.2⟩) H
 case ldA b o n l=>
  refine XS (fun x hx=>⟨hG _ _ (fun hr=>?_) hx.1,hk _ hx.2⟩) H
  unfold Hp.row at hr ⊢;split at hr
  ·rename_i c e fz hb;rw [hh rfl b _ hb];exact hr
  ·simp at hr
 case ld1 b o s=>
  refine XJ (fun x hx=>⟨hG _ _ (fun hr=>?_) hx.1,hk _ hx.2⟩) H
  unfold Hp.cell at hr ⊢;split at hr
  ·rename_i c e fz hb;rw [hh rfl b _ hb];exact hr
  ·simp at hr
theorem Qlk {o:Oper}(H:vcV P o ch G st h K):∃ sv,K sv:=
 let ⟨x,_,hk⟩:=VD.pick H
 ⟨x,hk⟩
end
theorem Hp.set_same (h:Hp)(b:Nat)(o:Obj):h.set b o b=some o:=by simp [Hp.set]
theorem Hp.set_other (h:Hp){b i:Nat}(o:Obj)(hi:i≠b):h.set b o i=h i:=by simp [Hp.set,hi]
theorem Fr.refl (h:Hp)(w:World):Fr h h w w:=⟨rfl,rfl,rfl,cB _,fun _ _ hb=>⟨rfl,hb⟩⟩
theorem Fr.trans {h h' h'':Hp}{w w' w'':World}(x:Fr h h' w w')(y:Fr h' h'' w' w''):Fr h h'' w w'':=
 ⟨y.os.trans x.os,y.tape.trans x.tape,y.output.trans x.output,dK x.size y.size,fun b hb hn=>
  let ⟨e1,n1⟩:=x.keep b hb hn
  let ⟨e2,n2⟩:=y.keep b (mV hb x.size) n1
  ⟨e2.trans e1,n2⟩⟩
theorem Sub.lt {h:Hp}{w:World}(hs:Sub h w){b:Nat}{o:Obj}(hb:h b=some o):b<w.heap.size:=by
 have:=hs b o hb;exact(bV.1 this).1
theorem Sub.none {h:Hp}{w:World}(hs:Sub h w):h w.heap.size=none:=by
 cases hb:h w.heap.size with
 | none=>rfl
 | some o=>exact absurd (hs.lt hb) (by omega)
theorem YM (w:World)(o:Obj)(b:Nat):(w.alloc o).heap[b]?=if b=w.heap.size then some o else w.heap[b]?:=by
 show (w.heap.push o)[b]?=_;rw [Array.getElem?_push]
theorem Sub.push {h:Hp}{w:World}(hs:Sub h w)(o:Obj):Sub h (w.alloc o):=by
 intro b o' hb;rw [YM,bE (by have:=hs.lt hb;omega)]
 exact hs b o' hb
theorem Sub.pushSet {h:Hp}{w:World}(hs:Sub h w)(o:Obj):Sub (h.set w.heap.size o) (w.alloc o):=by
 intro b o' hb;rw [YM];unfold Hp.set at hb;split at hb
 ·rename_i e;rw [bJ e];exact hb
 ·rename_i e;rw [bE e];exact hs b o' hb
theorem Fr.push (h:Hp)(w:World)(o:Obj):Fr h h w (w.alloc o):=
 ⟨rfl,rfl,rfl,by show _<=(w.heap.push o).size;simp,fun b hb hn=>⟨by rw [YM,bE (by omega)],hn⟩⟩
theorem Fr.pushSet (h:Hp)(w:World)(o:Obj):Fr h (h.set w.heap.size o) w (w.alloc o):=
 ⟨rfl,rfl,rfl,by show _<=(w.heap.push o).size;simp,fun b hb hn=>⟨by rw [YM,bE (by omega)],by rw [Hp.set_other _ _ (by omega)];exact hn⟩⟩
def Qs (b b':List Box):Prop:=∀(i:Nat)(x:Box),b[i]?=some x->∃ y,b'[i]?=some y/\y.ty=x.ty/\x.st<=y.st/\(y.st=x.st->y=x)
theorem Qs.refl (b:List Box):Qs b b:=fun i x h=>⟨x,h,rfl,cB _,fun _=>rfl⟩
theorem Qs.trans {a b c:List Box}(x:Qs a b)(y:Qs b c):Qs a c:=by
 intro i u hu;obtain⟨v,hv,t1,s1,e1⟩:=x i u hu;obtain⟨z,hz,t2,s2,e2⟩:=y i v hv;refine⟨z,hz,t2.trans t1,dK s1 s2,fun e=>?_⟩
 have:v.st=u.st:=by omega
 rw [e2 (by omega),e1 this]
theorem Wh {α:Type}:∀(l:List α)(i:Nat)(x:α)(j:Nat),(Kq l i x)[j]?=if j=i/\j<l.length then some x else l[j]?
 | [],i,x,j=>by simp [Kq]
 | y :: l,0,x,j=>by cases j<;>simp [Kq]
 | y :: l,i+1,x,j=>by
  cases j with
  | zero=>simp [Kq]
  | succ j=>simp [Kq,Wh l i x j]
theorem Xu {α:Type}:∀(l:List α)(i:Nat)(x:α),(Kq l i x).length=l.length
 | [],i,x=>by simp [Kq]
 | y :: l,0,x=>by simp [Kq]
 | y :: l,i+1,x=>by simp [Kq,Xu l i x]
section
variable {P:Program}{cfg:Cfg}{ρ:Nat->Option Nat}{w0:World}{h0:Hp}{st:St}{h:Hp}{a:Act}{w:World}{ch:List (Nat × Bool)}
theorem RelR.step (R:RelR ρ w0 h0 st h a w){h':Hp}{w':World}(hs:Sub h' w')(hf:Fr h h' w w'):RelR ρ w0 h0 st h' a w' where
 n:=R.n
 d:=by
  refine⟨R.d.1,fun d hd=>?_⟩
  obtain⟨D,e,h1,h2,h3⟩:=R.d.2 d hd;obtain⟨e1,n1⟩:=hf.keep D (bV.1 h1).1 h2
  exact⟨D,e,e1.trans h1,n1,h3⟩
 fr:=R.fr
 gd:=R.gd
 sub:=hs
 F:=R.F.trans hf
 box i bx hb:=by
  obtain⟨b,h1,h2,h3,h4⟩:=R.box i bx hb;have hlt:b<w.heap.size:=(bV.1 h2).1
  obtain⟨e,n⟩:=hf.keep b hlt h3;exact⟨b,h1,e.trans h2,n,h4⟩
 dom:=R.dom
 inj:=R.inj
theorem Sl.ok_mono {ρ':Nat->Option Nat}{tm:Array Value}{x:Sl}{y:Value}(hρ:∀ i b,ρ i=some b->ρ' i=some b)(hx:x.ok ρ tm y):x.ok ρ' tm y:=by
 have hsv:∀(x:SV)(y:Value),x.ok ρ y->x.ok ρ' y:=by
  intro x y hx;cases x with
  | bp i o=>obtain⟨b,h1,h2⟩:=hx;exact⟨b,hρ _ _ h1,h2⟩
  | _=>exact hx
 cases x with
 | s x=>exact hsv _ _ hx
 | gd k p x=>exact⟨fun e=>hsv _ _ (hx.1 e),hx.2⟩
theorem RelR.newBox (R:RelR ρ w0 h0 st h a w)(ty:TypeId)(cs:List TV) :
  RelR (fun i=>if i=st.b.length then some w.heap.size else ρ i) w0 h0 ⟨st.n,st.t,st.g,st.b++[⟨ty,cs,0⟩]⟩ h a (w.alloc (.cells (Qn cs).toArray ty)) where
 n:=R.n
 d:=by
  refine⟨R.d.1,fun d hd=>?_⟩
  obtain⟨D,e,h1,h2,h3⟩:=R.d.2 d hd;have hlt:=(bV.1 h1).1
  exact⟨D,e,by rw [YM,bE (by omega)];exact h1,h2,h3⟩
 fr i:=by
  refine Sl.ok_mono (ρ:=ρ) ?_ (R.fr i)
  intro j b hj;have:=R.dom j b hj;simp [show ¬ j=st.b.length by omega,hj]
 gd:=R.gd
 sub:=R.sub.push _
 F:=R.F.trans (Fr.push h w _)
 box i bx hb:=by
  by_cases hi:i=st.b.length
  ·subst hi;simp at hb;subst hb;refine⟨w.heap.size,by simp,?_,R.sub.none,R.F.size⟩
   rw [YM,bJ rfl]
  ·have hlt:i<st.b.length:=by
    have:=(bG.1 hb).1
    simp at this;omega
   rw [dO hlt] at hb
   obtain⟨b,h1,h2,h3,h4⟩:=R.box i bx hb;have hb2:b<w.heap.size:=(bV.1 h2).1
   refine⟨b,by simp [hi,h1],?_,h3,h4⟩
   rw [YM,bE (by omega)]
   exact h2
 dom i b hi:=by
  split at hi
  ·rename_i e;simp;omega
  ·have:=R.dom i b hi;simp;omega
 inj i j b hi hj:=by
  have hbl:∀ k,ρ k=some b->b<w.heap.size:=by
   intro k hk;have:=R.dom k b hk;obtain⟨bx,hbx⟩:∃ bx,st.b[k]?=some bx:=⟨st.b[k],by simp [this]⟩
   obtain⟨b',h1,h2,_⟩:=R.box k bx hbx;rw [hk] at h1;obtain rfl:=cU h1;exact(bV.1 h2).1
  split at hi<;>split at hj
  ·omega
  ·have:=hbl _ hj;simp at hi;omega
  ·have:=hbl _ hi;simp at hj;omega
  ·exact R.inj i j b hi hj
theorem Zp (w:World)(g:Nat)(cs:Array Value)(old:Array Value)(t:TypeId)(fz:Nat × Nat)(hg:w.heap[g]?=some (.cells old t fz))(b:Nat) :
  (w.setRow g cs).heap[b]?=if b=g then some (.cells cs t fz) else w.heap[b]?:=by
 by_cases hb:b=g
 ·subst hb;rw [bJ rfl];exact setRow_heap w b old cs t fz hg
 ·rw [bE hb];simp only [World.setRow,Array.getElem?_modify]
  rw [bE (by omega)]
theorem WA {T:TypeId}{b o:Nat}{v:Value}{vs:List Value}{cur:Array Value}{t:TypeId}(hT:1<=szT P T)(hvs:v.cells.toList=vs)(hl:vs.length=szT P T)(hone:∀ u ∈ vs,u.oneCell'=true)
  (hg:w.heap[b]?=some (.cells cur t (0,0))) (hfit:o+vs.length<=cur.size) :
  (storeVar T ⟨b,o,none⟩ v).run P w=.ok () (w.setRow b (QP cur.toList o vs).toArray):=by
 have hs:=Z3 (P:=P) hT w;have hst:=run_storeCells_at P b o t vs 0 cur w hg (by simpa using hfit) hone
 have hsz:v.cells.size=szT P T:=by rw [<-fE,hvs,hl]
 simp only [f7] at hst;simp [storeVar,hs,hsz,hvs,hst,QP]
theorem RelR.setBox (R:RelR ρ w0 h0 st h a w){i b:Nat}{bx:Box}(hb:st.b[i]?=some bx)(hρ:ρ i=some b)(c:List TV) :
  RelR ρ w0 h0 ⟨st.n,st.t,st.g,Kq st.b i ⟨bx.ty,c,bx.st+1⟩⟩ h a (w.setRow b (Qn c).toArray) where
 n:=R.n
 d:=by
  refine⟨R.d.1,fun d hd=>?_⟩
  obtain⟨D,e,h1,h2,h3⟩:=R.d.2 d hd;obtain⟨b',k1,k2,k3,k4⟩:=R.box i bx hb;rw [hρ] at k1;obtain rfl:=cU k1;refine⟨D,e,?_,h2,h3⟩
  rw [Zp w b _ _ _ _ k2,bE (by intro e2;subst e2;rw [k2] at h1;cases h1)]
  exact h1
 fr:=R.fr
 gd:=R.gd
 sub:=by
  obtain⟨b',h1,h2,h3,h4⟩:=R.box i bx hb;rw [hρ] at h1;obtain rfl:=cU h1;intro k o hk;rw [Zp w b _ _ _ _ h2,bE (by intro e;subst e;simp [h3] at hk)]
  exact R.sub k o hk
 F:=by
  obtain⟨b',h1,h2,h3,h4⟩:=R.box i bx hb;rw [hρ] at h1;obtain rfl:=cU h1;refine⟨R.F.os,R.F.tape,R.F.output,by simpa [World.setRow] using R.F.size,fun k hk hn=>?_⟩
  obtain⟨e,n⟩:=R.F.keep k hk hn;exact⟨by rw [Zp w b _ _ _ _ h2,bE (by omega)];exact e,n⟩
 box j bj hj:=by
  obtain⟨b',h1,h2,h3,h4⟩:=R.box i bx hb;rw [hρ] at h1;obtain rfl:=cU h1;simp only [Wh] at hj;split at hj
  ·rename_i e;obtain⟨rfl,_⟩:=e;simp only [bH] at hj;subst hj;exact⟨b,hρ,by rw [Zp w b _ _ _ _ h2,bJ rfl],h3,h4⟩
  ·rename_i e;obtain⟨b2,k1,k2,k3,k4⟩:=R.box j bj hj;have hjl:j<st.b.length:=(bG.1 hj).1
   have hne:b2≠b:=by intro e2;subst e2;exact e ⟨R.inj j i b2 k1 hρ,hjl⟩
   exact⟨b2,k1,by rw [Zp w b _ _ _ _ h2,bE hne];exact k2,k3,k4⟩
 dom j b' hj:=by simpa [Xu] using R.dom j b' hj
 inj:=R.inj
theorem JP {i:Nat}{bx:Box}(hb:st.b[i]?=some bx)(c:List TV):Qs st.b (Kq st.b i ⟨bx.ty,c,bx.st+1⟩):=by
 intro j x hx;rw [Wh];split
 ·rename_i e;obtain⟨rfl,_⟩:=e;rw [hb] at hx;obtain rfl:=cU hx;exact⟨_,rfl,rfl,by simp,fun e=>by simp at e⟩
 ·exact⟨x,hx,rfl,cB _,fun _=>rfl⟩
theorem Mu (x:Box):Qs st.b (st.b++[x]):=by
 intro j y hy;have hlt:=(bG.1 hy).1
 exact⟨y,by rw [dO hlt];exact hy,rfl,cB _,fun _=>rfl⟩
def Nxt (w0:World)(h0:Hp)(st:St)(K:SV->List Box->Hp->Prop)(o:Oper)(a:Act)(next:Act->World->Prop):Prop:=
 ∀ sv b' h' ρ' v w',K sv b' h'->RelR ρ' w0 h0 ⟨st.n,st.t,st.g,b'⟩ h' a w'->sv.ok ρ' v->Qs st.b b'->next (a.put o.dst v) w'
variable {K:SV->List Box->Hp->Prop}{o:Oper}{next:Act->World->Prop}{Q:Exit->Act->World->Prop}
theorem Ku (R:RelR ρ w0 h0 st h a w){ty:TypeId}{cs:List TV}(H:newBox cfg o st h ty cs K)(hn:Nxt w0 h0 st K o a next)
  (hrun:(execOp a.eval o).run P w=.ok (.value (.pointer (some ⟨w.heap.size,0,none⟩))) (w.alloc (.cells (Qn cs).toArray ty))):o.upon P a next Q ((execOp a.eval o).run P w):=by
 rw [hrun,Oper.upon_value];unfold newBox at H;cases ho:QC cs with
 | false=>rw [ho] at H;exact H.elim
 | true=>
  rw [ho] at H;simp only [cX] at H;cases hp:Qbh cfg o.dst with
  | true=>
   rw [hp] at H;simp only [cX] at H;exact hn _ _ _ ρ _ _ (H w.heap.size R.sub.none) (R.step (R.sub.pushSet _) (Fr.pushSet h w _)) rfl (Qs.refl _)
  | false=>
   rw [hp] at H;simp only [dM] at H;exact hn _ _ _ _ _ _ H (R.newBox ty cs) ⟨w.heap.size,by simp,rfl⟩ (Mu _)
theorem ZD (R:RelR ρ w0 h0 st h a w){m:Sem Value}{sh:Sh}(H:Qh P m h fun v h'=>res sh v fun x=>K x st.b h')(hn:Nxt w0 h0 st K o a next)
  (hrun:(execOp a.eval o).run P w=(m.run P w).andThen fun v w'=>.ok (.value v) w'):o.upon P a next Q ((execOp a.eval o).run P w):=by
 obtain⟨v,w',h',h1,h2,h3,h4⟩:=H w R.sub;obtain⟨x,⟨rfl,hk⟩,hx⟩:=XQ (show exS sh _ from h4)
 rw [hrun,h1,Result.andThen_ok,Oper.upon_value];exact hn _ _ _ ρ _ _ hk (R.step h2 h3) (qJ hx) (Qs.refl _)
theorem UC (R:RelR ρ w0 h0 st h a w){f:FuncId}{vs:List Value}{sh:Sh}(H:Qa P f vs h fun v h'=>res sh v fun x=>K x st.b h')(hn:Nxt w0 h0 st K o a next)
  (hrun:(execOp a.eval o).run P w=.ok (.enter f vs.toArray) w):o.upon P a next Q ((execOp a.eval o).run P w):=by
 rw [hrun,Oper.upon_enter];refine(H w R.sub).mono ?_
 rintro e w' ⟨v,h',rfl,h2,h3,h4⟩;obtain⟨x,⟨rfl,hk⟩,hx⟩:=XQ (show exS sh _ from h4)
 exact hn _ _ _ ρ _ _ hk (R.step h2 h3) (qJ hx) (Qs.refl _)
end
theorem Y5 {P:Program}{f:FuncId}{fn:Func}(hf:P.funcs[f]?=some fn)(hname:(fn.name == "runtime.NumGoroutine")=false)(hb:fn.body.isSome=true)(args:Array Value)(w:World) :
  (callFunc f args).run P w=.ok (.enter f args) w:=by
 have hb':fn.body.isNone=false:=by cases h:fn.body<;>simp_all
 simp only [callFunc,Sem.run_bind,run_program,Result.andThen_ok,hf,hname,hb',jQ,kF];rfl
def WZ (P:Program):Prop:=∀(f:FuncId)(fn:Func),P.funcs[f]?=some fn->(fn.name == "runtime.NumGoroutine")=false
abbrev _root_.qK:=@Hp.set_same
abbrev _root_.qL:=@Hp.set_other
abbrev _root_.qM:=@Qs.refl
section
variable {P:Program}{cfg:Cfg}{ρ:Nat->Option Nat}{w0:World}{h0:Hp}{st:St}{h:Hp}{a:Act}{w:World}{ch:List (Nat × Bool)}
variable {K:SV->List Box->Hp->Prop}{next:Act->World->Prop}{Q:Exit->Act->World->Prop}
theorem QcS {T:TypeId}{z:List TV}(hz:Xg P T=some z):(Instr.alloc T true (.tuple #[])).run P w=.ok (.pointer (some ⟨w.heap.size,0,none⟩)) (w.alloc (.cells (Qn z).toArray T)):=by
 obtain⟨i,zv,hi,hz1,hz2⟩:=MK hz;have:(Qn z).toArray=zv.cells:=by rw [hz2]
 rw [this];simp [Instr.alloc,zeroValue,typeInfo,hi,hz1,newVar,newRow]
theorem Qge {T:TypeId}{v:Value}:(Instr.box T v).run P w=.ok (.pointer (some ⟨w.heap.size,0,none⟩)) (w.alloc (.cells v.cells T)):=by
 simp [Instr.box,newVar,newRow]
theorem MG (z:Array Value)(n:Nat)(hz:0<z.size):((Array.range (n*z.size)).map fun i=>z[i % z.size]!)=((List.replicate n z.toList).flatten).toArray:=by
 apply Array.ext
 ·simp
 ·intro i h1 h2;simp at h1;have hm:i % z.size<z.size:=mD _ hz;simp only [Array.getElem_map,Array.getElem_range,List.getElem_toArray];rw [kD z _ hm];have:∀(n i:Nat)(hi:i<n*z.size),((List.replicate n z.toList).flatten)[i]?=z.toList[i % z.size]?:=by
   intro n;induction n with
   | zero=>intro i hi;omega
   | succ n ih=>
    intro i hi;simp only [fS,kZ,List.getElem?_append,fE]
    split
    ·rename_i hlt;rw [pJ hlt]
    ·rename_i hge;rw [ih (i-z.size) (by rw [kA] at hi;omega)]
     have:i=i-z.size+z.size:=by omega
     conv=>rhs;rw [this,Nat.add_mod_right]
  have e:=this n i h1;have h3:i<((List.replicate n z.toList).flatten).length:=by simpa using h2
  rw [bD h3] at e
  rw [bD (by simpa using hm)] at e
  simpa using e.symm
theorem UP (n:Nat)(z:List TV):Qn ((List.replicate n z).flatten)=(List.replicate n (Qn z)).flatten:=by
 induction n with
 | zero=>simp [Qn]
 | succ n ih=>simp [fS,Qby,ih]
theorem UW {T e:TypeId}{n:Nat}(hu:P.underlying T=some (.slice e)){z cs:List TV}(hz:Xg P e=some z)(h1:1<=szT P e)(h2:z.length=szT P e)(h3:n*szT P e<=4096)
  {ps:List (Nat × TW)} (hp:∀ q ∈ ps,X7 q.2=true) (hf:UI (fun i=>some (i*szT P e,szT P e)) ((List.replicate n z).flatten) ps=some cs) :
  (Instr.buildSlice T n (ps.map fun q=>(q.1,q.2.val)).toArray).run P w=.ok (.slice (some ⟨w.heap.size,0,none⟩) n n) (w.alloc (.cells (Qn cs).toArray e)):=by
 obtain⟨i,zv,hi,hz1,hz2⟩:=MK hz;have hfill:=Vr hf hp;have hsz:=Z3 (P:=P) h1 w;have hzs:zv.cells.size=szT P e:=by rw [<-fE,<-hz2,QM,h2]
 have hcells:((Array.range (n*szT P e)).map fun i=>zv.cells[i % zv.cells.size]!)=(Qn ((List.replicate n z).flatten)).toArray:=by rw [UP,hz2,<-hzs];exact MG zv.cells n (by omega)
 rw [<-hcells] at hfill;have hle:¬(n*szT P e>2 ^ 24):=by omega
 by_cases hn:n=0
 ·subst hn;simp at hfill;simp [Instr.buildSlice,run_underlying hu,hsz,newRow];rw [show (Array.map (fun(_:Nat)=>(default:Value)) (Array.range 0))=Array.map (fun i=>zv.cells[i % zv.cells.size]!) (Array.range 0) from by simp,hfill]
  simp
 ·have hne:¬(n*szT P e=0):=by
   intro h0;rcases pU.1 h0 with h0|h0<;>omega
  simp [Instr.buildSlice,run_underlying hu,hsz,newRow,hle,hne,zeroValue,typeInfo,hi,hz1];rw [hfill];simp
theorem Qaz (hP:WZ P)(R:RelR ρ w0 h0 st h a w)(hch:∀ s p,(s,p) ∈ ch->a.tmps.getD s undef=.bool p){o:Oper}(H:vcE P cfg o ch st h K)(hn:Nxt w0 h0 st K o a next) :
  o.upon P a next Q ((execOp a.eval o).run P w):=by
 obtain⟨d,op,ty,pos,af,gd⟩:=o;have hev:=fun x=>ev_ok R hch x
 have hval:=fun {x:Operand} {v:Value} (hv:(st.ev ch x).val?=some v)=>val_ok R hch hv
 cases op with
 | alloc T=>
  simp only [vcE] at H;split at H
  ·rename_i z hz;exact Ku R H hn (by rw [Zo (m:=Instr.alloc T true (.tuple #[])) rfl,QcS hz];rfl)
  ·exact H.elim
 | box T x=>
  simp only [vcE] at H;have hx:=hev x;split at H
  ·rename_i y e;rw [e] at hx;cases ho:QC y.cells with
   | false=>unfold newBox at H;rw [ho] at H;exact H.elim
   | true=>
    have hpl:X7 y=true:=by
     cases y with
     | one v=>simp [TW.cells,QC] at ho;exact ho
     | ag l=>rfl
    have hc:=YB hpl;refine Ku R H hn ?_
    rw [Zo (m:=Instr.box T (a.eval x)) rfl,Qge,show a.eval x=y.val from hx]
    rw [hc];rfl
  ·exact H.elim
 | buildSlice T n parts=>
  simp only [vcE] at H;split at H
  ·rename_i e ps hu hps;split at H
   ·rename_i z hz;cases hc:(Nat.ble 1 (szT P e)&&Nat.beq z.length (szT P e)&&Nat.ble (n*szT P e) 4096) with
    | false=>rw [hc] at H;exact H.elim
    | true=>
     rw [hc] at H;simp only [cG] at hc;simp only [cX] at H;split at H
     ·rename_i cs hf;cases ho:QC cs with
      | false=>rw [ho] at H;exact H.elim
      | true=>
       rw [ho] at H;simp only [cX] at H;have hE:(execOp a.eval ⟨d,.buildSlice T n parts,ty,pos,af,gd⟩).run P w=((Instr.buildSlice T n (ps.map fun q=>(q.1,q.2.val)).toArray).run P w).andThen fun v w'=>.ok (.value v) w':=by
        have e:=partsL_ok R hch hps;have:parts.map (fun(q:Nat × Operand)=>(q.1,a.eval q.2))=(ps.map fun q=>(q.1,q.2.val)).toArray:=by apply jR;simpa using e
        rw [<-this];exact Zo rfl
       rw [hE,UW hu hz (bP hc.1.1) (cT hc.1.2) (bP hc.2) (WI hps) hf,Result.andThen_ok,Oper.upon_value];exact hn _ _ _ ρ _ _ (H w.heap.size R.sub.none) (R.step (R.sub.pushSet _) (Fr.pushSet h w _)) rfl (qM _)
     ·exact H.elim
   ·exact H.elim
  ·exact H.elim
 | store T x y=>
  simp only [vcE] at H;have hx:=hev x;have hy:=hev y;have hE:∀ b o',a.eval x=.pointer (some ⟨b,o',none⟩)->(execOp a.eval ⟨d,.store T x y,ty,pos,af,gd⟩).run P w=((storeVar T ⟨b,o',none⟩ (a.eval y)).run P w).andThen fun _ w'=>.ok .skip w':=by
   intro b o' hb;simp [execOp,hb,Instr.storeAt,Instr.sureAddr]
  split at H
  ·rename_i i o' y' e1 e2;rw [e1] at hx;rw [e2] at hy;obtain⟨b,hb,hx⟩:=hx;split at H
   ·rename_i bx hbx;cases hc:(Nat.ble 1 (szT P T)&&Nat.beq y'.cells.length (szT P T)&&Nat.ble (o'+y'.cells.length) bx.c.length&&QC y'.cells) with
    | false=>rw [hc] at H;exact H.elim
    | true=>
     rw [hc] at H;simp only [cG] at hc;simp only [cX] at H;have hpl:X7 y'=true:=by
      cases y' with
      | one v=>simp [TW.cells,QC] at hc;exact hc.2
      | ag l=>rfl
     obtain⟨b',k1,k2,k3,k4⟩:=R.box i bx hbx;rw [hb] at k1;obtain rfl:=cU k1;have hfit:=bP hc.1.2;have hrun:=WA (P:=P) (w:=w) (T:=T) (b:=b) (o:=o') (v:=y'.val) (vs:=Qn y'.cells) (bP hc.1.1.1) (YB hpl).symm
      (by rw [QM];exact cT hc.1.1.2) (XB hc.2) k2 (by simpa [QM] using hfit)
     rw [hE _ _ hx,show a.eval y=y'.val from hy,hrun,Result.andThen_ok,Oper.upon_skip]
     have hset:=R.setBox hbx hb (QP bx.c o' y'.cells);rw [NP] at hset;exact hn .any _ _ ρ undef _ H (by simpa using hset) trivial (JP hbx _)
   ·exact H.elim
  ·rename_i b o' y' e1 e2;rw [e1] at hx;rw [e2] at hy;have hx':a.eval x=.pointer (some ⟨b,o',none⟩):=hx;cases hc:(Nat.ble 1 (szT P T)&&Nat.beq y'.cells.length (szT P T)&&QC y'.cells) with
   | false=>rw [hc] at H;exact H.elim
   | true=>
    rw [hc] at H;simp only [cG] at hc;simp only [cX] at H;obtain⟨c,t,hb,hfit,hk⟩:=H;have hpl:X7 y'=true:=by
     cases y' with
     | one v=>simp [TW.cells,QC] at hc;exact hc.2
     | ag l=>rfl
    have hwb:=R.sub b _ hb;have hrun:=WA (P:=P) (w:=w) (T:=T) (b:=b) (o:=o') (v:=y'.val) (vs:=Qn y'.cells) (bP hc.1.1) (YB hpl).symm
     (by rw [QM];exact cT hc.1.2) (XB hc.2) hwb hfit
    rw [hE _ _ hx',show a.eval y=y'.val from hy,hrun,Result.andThen_ok,Oper.upon_skip]
    refine hn .any _ _ ρ undef _ hk (R.step ?_ ?_) trivial (qM _)
    ·intro k o hk;rw [Zp w b _ _ _ _ hwb];by_cases e:k=b
     ·subst e;rw [qK] at hk;rw [bJ rfl,hk]
     ·rw [qL _ _ e] at hk;rw [bE e];exact R.sub k o hk
    ·refine⟨rfl,rfl,rfl,by simp [World.setRow],fun k hk hkn=>?_⟩
     have e:k≠b:=by intro e;subst e;simp [hb] at hkn
     exact⟨by rw [Zp w b _ _ _ _ hwb,bE e],by rw [qL _ _ e];exact hkn⟩
  ·exact H.elim
 | call c=>
  obtain⟨callee,args,ts⟩:=c;have hargs:∀ vs,st.evs ch args.toList=some vs->args.map a.eval=vs.toArray:=by
   intro vs hvs;have e:=evs_ok R hch hvs;apply jR;simpa using e
  cases callee with
  | invoke r m=>exact H.elim
  | value f=>
   cases f with
   | func g=>
    simp only [vcE] at H;split at H
    ·rename_i vs hvs;have hE:(execOp a.eval ⟨d,.call ⟨.value (.func g),args,ts⟩,ty,pos,af,gd⟩).run P w=(callFunc g vs.toArray).run P w:=by
      simp [execOp,resolve,invoke,Act.eval,Deferred.ofValue,hargs vs hvs]
     split at H
     ·rename_i hb;obtain⟨fn,hf,hbody⟩:=dF.1 hb;exact UC R H hn (by rw [hE,Y5 hf (hP g fn hf) hbody])
     ·rename_i hb;obtain⟨v,w',h',k1,k2,k3,k4⟩:=H w R.sub;obtain⟨x,⟨rfl,hk⟩,hx⟩:=XQ (show exS _ _ from k4)
      rw [hE,k1,Oper.upon_value];exact hn _ _ _ ρ _ _ hk (R.step k2 k3) (qJ hx) (qM _)
     ·exact H.elim
    ·exact H.elim
   | tmp t=>
    simp only [vcE] at H;split at H
    ·rename_i vs fv hvs hfv;obtain⟨g,pre,post,rfl,⟨fn,hf,hname,hb⟩,hc⟩:=H;have hE:(execOp a.eval ⟨d,.call ⟨.value (.tmp t),args,ts⟩,ty,pos,af,gd⟩).run P w=(callFunc g (pre.toList++vs++post.toList).toArray).run P w:=by
      have e:(pre.toList++vs++post.toList).toArray=pre++vs.toArray++post:=by apply jR;simp
      rw [e];simp [execOp,resolve,invoke,hval hfv,Deferred.ofValue,hargs vs hvs]
     have hb':fn.body.isSome=true:=by cases hq:fn.body<;>simp_all
     exact UC R hc hn (by rw [hE,Y5 hf hname hb'])
    ·exact H.elim
   | _=>exact H.elim
  | builtin b=>
   have hE:∀(m:Sem Value)(vs:List Value),st.evs ch args.toList=some vs->(∀ cs,builtin b ts ty cs vs.toArray=(do pure (.value (<-m)))) ->
     (execOp a.eval ⟨d,.call ⟨.builtin b,args,ts⟩,ty,pos,af,gd⟩).run P w=(m.run P w).andThen fun v w'=>.ok (.value v) w':=by
    intro m vs hvs hm;simp [execOp,resolve,invoke,hargs vs hvs,hm]
   simp only [vcE] at H;split at H
   ·rename_i vs hvs;split at H
    ·exact ZD R H hn (hE _ vs hvs (fun _=>rfl))
    ·exact ZD R H hn (hE _ vs hvs (fun _=>rfl))
    ·exact ZD R H hn (hE _ vs hvs (fun _=>rfl))
    ·exact ZD R H hn (hE _ vs hvs (fun _=>rfl))
    ·exact H.elim
   ·exact H.elim
 | makeMap T r=>
  cases r with
  | some r=>exact H.elim
  | none=>exact ZD R (show Qh P _ h _ from H) hn (Zo (by simp [execOp]))
 | makeSlice T l c=>
  simp only [vcE] at H;split at H
  ·rename_i u v e1 e2;exact ZD R H hn (Zo (by simp [execOp,hval e1,hval e2]))
  ·exact H.elim
 | convert s t x=>
  simp only [vcE] at H;split at H
  ·rename_i u e1;exact ZD R H hn (Zo (by simp [execOp,hval e1]))
  ·exact H.elim
 | mapUpdate T m k x=>
  simp only [vcE] at H;split at H
  ·rename_i m' k' x' e1 e2 e3;obtain⟨w',h',k1,k2,k3,k4⟩:=H w R.sub;have hE:(execOp a.eval ⟨d,.mapUpdate T m k x,ty,pos,af,gd⟩).run P w=((Instr.mapUpdate T m' k' x').run P w).andThen fun _ w'=>.ok .skip w':=by
    simp [execOp,hval e1,hval e2,hval e3]
   rw [hE,k1,Result.andThen_ok,Oper.upon_skip];exact hn .any _ _ ρ undef _ k4 (R.step k2 k3) trivial (qM _)
  ·exact H.elim
 | insert T m k x=>
  simp only [vcE] at H;split at H
  ·rename_i m' k' x' e1 e2 e3;obtain⟨w',h',k1,k2,k3,k4⟩:=H w R.sub;have hE:(execOp a.eval ⟨d,.insert T m k x,ty,pos,af,gd⟩).run P w=((Instr.mapUpdate T m' k' x').run P w).andThen fun _ w'=>.ok .skip w':=by
    simp [execOp,hval e1,hval e2,hval e3]
   rw [hE,k1,Result.andThen_ok,Oper.upon_skip];exact hn .any _ _ ρ undef _ k4 (R.step k2 k3) trivial (qM _)
  ·exact H.elim
 | range T x=>
  simp only [vcE] at H;split at H
  ·rename_i u e1;obtain⟨v,w',h',k1,k2,k3,k4⟩:=H w R.sub;have hE:(execOp a.eval ⟨d,.range T x,ty,pos,af,gd⟩).run P w=((Instr.range T u).run P w).andThen fun v w'=>.ok (.value v) w':=Zo (by simp [execOp,hval e1])
   rw [hE,k1,Result.andThen_ok,Oper.upon_value];exact hn _ _ _ ρ _ _ k4 (R.step k2 k3) rfl (qM _)
  ·exact H.elim
 | next it s=>
  simp only [vcE] at H;split at H
  ·rename_i u e1;exact ZD R H hn (Zo (by simp [execOp,hval e1]))
  ·exact H.elim
 | _=>exact H.elim
end
def GE:Option Nat->List Nat
 | some d=>[d]
 | none=>[]
structure Ev (D:List Nat)(st st':St):Prop where
 n:st'.n=st.n
 t:∀ i,i ∉ D->st'.t i=st.t i
 b:Qs st.b st'.b
theorem Ev.refl (D:List Nat)(st:St):Ev D st st:=⟨rfl,fun _ _=>rfl,qM _⟩
theorem Ev.trans {D:List Nat}{a b c:St}(x:Ev D a b)(y:Ev D b c):Ev D a c:=
 ⟨y.n.trans x.n,fun i hi=>(y.t i hi).trans (x.t i hi),x.b.trans y.b⟩
theorem Ev.mono {D D':List Nat}{a b:St}(x:Ev D a b)(h:∀ i,i ∈ D->i ∈ D'):Ev D' a b:=
 ⟨x.n,fun i hi=>x.t i (fun hd=>hi (h i hd)),x.b⟩
section
variable {P:Program}{cfg:Cfg}{ρ:Nat->Option Nat}{w0:World}{h0:Hp}{st:St}{h:Hp}{a:Act}{w:World}
theorem XP (tm:Array Value)(d:Nat)(v:Value)(i:Nat)(hd:d<tm.size):(tm.setIfInBounds d v).getD i undef=if i=d then v else tm.getD i undef:=by
 simp only [fY,Array.getElem?_setIfInBounds]
 by_cases h:d=i
 ·subst h;simp [hd]
 ·simp [h,show ¬ i=d from fun e=>h e.symm]
theorem Wb (R:RelR ρ w0 h0 st h a w){dst:Option Nat}{gd:Option (Nat × Bool)}{x:SV}{K:St->Prop}(H:st.put dst gd x K){v:Value}
  (hv:match gd with
   | none=>x.ok ρ v
   | some (s,p)=>(a.tmps.getD s undef=.bool p->x.ok ρ v)/\(a.tmps.getD s undef≠.bool p->v=undef)) :
  ∃ st',K st'/\RelR ρ w0 h0 st' h (a.put dst v) w/\Ev (GE dst) st st':=by
 cases dst with
 | none=>exact⟨st,H,R,Ev.refl _ _⟩
 | some d=>
  cases gd with
  | none=>
   simp only [St.put] at H;cases hc:(Nat.blt d st.n&&!(st.g d)) with
   | false=>rw [hc] at H;exact H.elim
   | true=>
    rw [hc] at H;simp only [cG,gO] at hc;have hd:d<a.tmps.size:=by rw [R.n];exact bC (by have:=hc.1;simpa [qH] using this)
    refine⟨_,H,⟨by simp [Act.put,R.n],R.d,fun i=>?_,?_,R.sub,R.F,R.box,R.dom,R.inj⟩,⟨rfl,fun i hi=>?_,qM _⟩⟩
    ·simp only [Act.put];rw [XP _ _ _ _ hd];cases hb:Nat.beq i d with
     | true=>
      have:=cT hb;simp only [cX,bJ this];exact hv
     | false=>
      have hne:=d7 hb;simp only [dM,bE hne];have hr:=R.fr i;cases hi:st.t i with
      | s y=>rw [hi] at hr;exact hr
      | gd k p y=>
       rw [hi] at hr;have hk:=R.gd i k p y hi;have hkd:k≠d:=by intro e;subst e;rw [hc.2] at hk;simp at hk
       simp only [Sl.ok] at hr ⊢;rw [XP _ _ _ _ hd,bE hkd];exact hr
    ·intro i s p y hi;simp only at hi;cases hb:Nat.beq i d with
     | true=>rw [hb] at hi;simp at hi
     | false=>rw [hb] at hi;exact R.gd i s p y hi
    ·have hne:i≠d:=by simpa [GE] using hi
     have:Nat.beq i d=false:=by cases hq:Nat.beq i d<;>simp_all
     simp [this]
  | some q=>
   obtain⟨s,p⟩:=q;simp only [St.put] at H;cases hc:(Nat.blt d st.n&&!(Nat.beq d s||st.g d)) with
   | false=>rw [hc] at H;exact H.elim
   | true=>
    rw [hc] at H;simp only [cG,gO] at hc;have hd:d<a.tmps.size:=by rw [R.n];exact bC (by have:=hc.1;simpa [qH] using this)
    have hnm:¬ d=s/\¬ st.g d=true:=by have:=hc.2;simp only [Bool.or_eq_false_iff] at this;exact⟨d7 this.1,by simp [this.2]⟩
    refine⟨_,H,⟨by simp [Act.put,R.n],R.d,fun i=>?_,?_,R.sub,R.F,R.box,R.dom,R.inj⟩,⟨rfl,fun i hi=>?_,qM _⟩⟩
    ·simp only [Act.put];rw [XP _ _ _ _ hd];cases hb:Nat.beq i d with
     | true=>
      have:=cT hb;simp only [cX,bJ this,Sl.ok];rw [XP _ _ _ _ hd,bE (fun e=>hnm.1 e.symm)]
      exact hv
     | false=>
      have hne:=d7 hb;simp only [dM,bE hne];have hr:=R.fr i;cases hi:st.t i with
      | s y=>rw [hi] at hr;exact hr
      | gd k p y=>
       rw [hi] at hr;have hk:=R.gd i k p y hi;have hkd:k≠d:=by intro e;subst e;exact hnm.2 hk
       simp only [Sl.ok] at hr ⊢;rw [XP _ _ _ _ hd,bE hkd];exact hr
    ·intro i k p' y hi;simp only at hi;cases hb:Nat.beq i d with
     | true=>
      rw [hb] at hi;simp only [cX,Sl.gd.injEq] at hi;simp [hi.1]
     | false=>
      rw [hb] at hi;have:=R.gd i k p' y hi;simp only;cases hq:Nat.beq k s<;>simp [this]
    ·have hne:i≠d:=by simpa [GE] using hi
     have:Nat.beq i d=false:=by cases hq:Nat.beq i d<;>simp_all
     simp [this]
theorem cond_spec (R:RelR ρ w0 h0 st h a w):∀(n s:Nat)(p:Bool),okGd st n s=true ->
  (condP st n s p->a.tmps.getD s undef=.bool p/\∀ s' p',(s',p') ∈ chain st n s p->a.tmps.getD s' undef=.bool p') /\
  (¬ condP st n s p->a.tmps.getD s undef≠.bool p)
 | 0,s,p,hok=>by simp [okGd] at hok
 | n+1,s,p,hok=>by
  have hr:=R.fr s;cases hs:st.t s with
  | s y=>
   rw [hs] at hr;simp only [okGd,hs] at hok;split at hok
   ·rename_i b hb;simp only [Sl.s.injEq] at hb;subst hb;have hr':a.tmps.getD s undef=.bool b:=hr;simp only [condP,hs,chain,hr',Value.bool.injEq,bS,dB,fV,fC];refine⟨fun e=>⟨e,?_⟩,fun e he=>e (by simpa using he)⟩
    rintro s' p' ⟨rfl,rfl⟩;rw [hr',e]
   ·rename_i hb;simp at hb
   ·simp at hok
  | gd k q y=>
   rw [hs] at hr;simp only [okGd,hs] at hok;split at hok
   ·rename_i b hb;simp at hb
   ·rename_i k' q' b hb;simp only [Sl.gd.injEq] at hb;obtain⟨rfl,rfl,rfl⟩:=hb;have ih:=cond_spec R n k q hok;have hr':(a.tmps.getD k undef=.bool q->a.tmps.getD s undef=.bool b)/\(a.tmps.getD k undef≠.bool q->a.tmps.getD s undef=undef):=hr;simp only [condP,hs,chain,bS,fC];constructor
    ·rintro⟨hc,rfl⟩;obtain⟨h1,h2⟩:=ih.1 hc;refine⟨hr'.1 h1,?_⟩
     rintro s' p' (⟨rfl,rfl⟩|hm)
     ·exact hr'.1 h1
     ·exact h2 s' p' hm
    ·intro hc e;by_cases hk:condP st n k q
     ·have h1:=(ih.1 hk).1;have h2:=hr'.1 h1;rw [h2] at e;simp only [Value.bool.injEq] at e;exact hc ⟨hk,e⟩
     ·have h1:=hr'.2 (ih.2 hk);rw [h1] at e;simp [undef] at e
   ·simp at hok
theorem Gg {o:Oper}(hg:o.guard=none)(y:Nat->Option Bool):Region.wanted o y=true:=by simp [Region.wanted,hg]
theorem QcV {ops:Array Oper}{o:Oper}{j s:Nat}{p:Bool}(hg:o.guard=some (j,p))(hj:(ops[j]?).bind (·.dst)=some s)(tm:Array Value) :
  Region.wanted o (yielded ops tm)=true↔tm.getD s undef=.bool p:=by
 simp only [Region.wanted,hg,yielded,hj,gX,fY];cases hs:tm[s]? with
 | none=>simp [undef]
 | some v=>cases v<;>simp
end
theorem QnU {s:Sh1}{F:TV->Prop}{x:TV}(H:al1 s F)(hx:ex1 s fun y=>y=x):F x:=by
 cases s with
 | slice=>obtain⟨a,n,c,rfl⟩:=hx;exact H a n c
 | _=>obtain⟨a,rfl⟩:=hx;exact H a
theorem Qot:∀{l:List Sh1} {F:List TV->Prop} {x:List TV},alL l F->(exL l fun y=>y=x)->F x
 | [],F,x,H,hx=>by obtain rfl:[]=x:=hx;exact H
 | s :: l,F,x,H,hx=>by
  obtain⟨u,hu,h2⟩:=UJ hx;obtain⟨v,hv,rfl⟩:=UL h2;exact Qot (F:=fun xs=>F (u :: xs)) (QnU (F:=fun u=>alL l fun xs=>F (u :: xs)) H hu) hv
theorem Qn6 {s:Sh0}{F:TW->Prop}{x:TW}(H:al0 s F)(hx:ex0 s fun y=>y=x):F x:=by
 cases s with
 | one s=>obtain⟨u,hu,rfl⟩:=UJ hx;exact QnU (F:=fun u=>F (.one u)) H hu
 | agg l=>obtain⟨u,hu,rfl⟩:=UL hx;exact Qot (F:=fun u=>F (.ag u)) H hu
theorem Qlh:∀{l:List Sh0} {F:List TW->Prop} {x:List TW},Qoe l F->(NY l fun y=>y=x)->F x
 | [],F,x,H,hx=>by obtain rfl:[]=x:=hx;exact H
 | s :: l,F,x,H,hx=>by
  obtain⟨u,hu,h2⟩:=MJ hx;obtain⟨v,hv,rfl⟩:=U1 h2;exact Qlh (F:=fun xs=>F (u :: xs)) (Qn6 (F:=fun u=>Qoe l fun xs=>F (u :: xs)) H hu) hv
theorem G8 {s:Sh}{F:SV->Prop}{x:SV}(H:alS s F)(hx:exS s fun y=>y=x):F x:=by
 cases s with
 | s s=>obtain⟨u,hu,rfl⟩:=MJ hx;exact Qn6 (F:=fun u=>F (.t u)) H hu
 | tup l=>obtain⟨u,hu,rfl⟩:=U1 hx;exact Qlh (F:=fun u=>F (.tup u)) H hu
theorem Qlr {s:Sh1}{F:TV->Prop}(H:∀ x,F x):al1 s F:=by
 cases s<;>(simp only [al1];intros;exact H _)
theorem Qlx:∀{l:List Sh1} {F:List TV->Prop},(∀ x,F x)->alL l F
 | [],F,H=>H _
 | s :: l,F,H=>Qlr fun u=>Qlx fun xs=>H _
theorem QlD {s:Sh0}{F:TW->Prop}(H:∀ x,F x):al0 s F:=by
 cases s with
 | one s=>exact Qlr fun u=>H _
 | agg l=>exact Qlx fun u=>H _
theorem Qjp:∀{l:List Sh0} {F:List TW->Prop},(∀ x,F x)->Qoe l F
 | [],F,H=>H _
 | s :: l,F,H=>QlD fun u=>Qjp fun xs=>H _
theorem Qll {s:Sh}{F:SV->Prop}(H:∀ x,F x):alS s F:=by
 cases s with
 | s s=>exact QlD fun u=>H _
 | tup l=>exact Qjp fun u=>H _
theorem Qln (s:Sh1):ex1 s fun y=>y=Qqo s:=by
 cases s with
 | slice=>exact⟨_,_,_,rfl⟩
 | _=>exact⟨_,rfl⟩
theorem Qlv:∀ l:List Sh1,exL l fun y=>y=Qqa l
 | []=>rfl
 | s :: l=>XJ (fun x hx=>XS (fun y hy=>by rw [hx,hy];rfl) (Qlv l)) (Qln s)
theorem QlF (s:Sh0):ex0 s fun y=>y=Qqi s:=by
 cases s with
 | one s=>exact XJ (fun x hx=>by rw [hx];rfl) (Qln s)
 | agg l=>exact XS (fun x hx=>by rw [hx];rfl) (Qlv l)
theorem Qiy:∀ l:List Sh0,NY l fun y=>y=QmX l
 | []=>rfl
 | s :: l=>UG (fun x hx=>Jm (fun y hy=>by rw [hx,hy];rfl) (Qiy l)) (QlF s)
theorem Qhs (s:Sh):exS s fun y=>y=dfl s:=by
 cases s with
 | s s=>exact UG (fun x hx=>by rw [hx];rfl) (QlF s)
 | tup l=>exact Jm (fun x hx=>by rw [hx];rfl) (Qiy l)
theorem QgO {s:Sh}{v:Value}{J K:SV->Prop}(hk:∀ x,J x->(exS s fun y=>y=x)->K x)(H:res s v J):res s v K:=by
 obtain⟨x,hx,hv,hj⟩:=Qgq H;exact Ml (fun y hy=>by subst hy;exact⟨hv,hk _ hj hx⟩) hx
theorem Ma {P:Program}{cfg:Cfg}{o:Oper}{ch:List (Nat × Bool)}{st:St}{h:Hp}{J:ShT}{K:SV->List Box->Hp->Prop}(hc:YS o.op=true)(hk:∀ sv h',J sv h'->(exS (shp P o.type) fun y=>y=sv)->K sv st.b h')(H:vcE P cfg o ch st h fun sv _ h'=>J sv h') :
  vcE P cfg o ch st h K:=by
 obtain⟨dst,op,ty,pos,af,gd⟩:=o;have hR:∀ v h',(res (shp P ty) v fun x=>J x h')->res (shp P ty) v fun x=>K x st.b h':=fun v h' hr=>QgO (fun x=>hk x h') hr
 have hsem:∀ m,(Qh P m h fun v h'=>res (shp P ty) v fun x=>J x h')->Qh P m h fun v h'=>res (shp P ty) v fun x=>K x st.b h':=
  fun m Hm w hs=>let ⟨v,w',h',h1,h2,h3,h4⟩:=Hm w hs;⟨v,w',h',h1,h2,h3,hR _ _ h4⟩
 have hcall:∀ f vs,(Qa P f vs h fun v h'=>res (shp P ty) v fun x=>J x h')->Qa P f vs h fun v h'=>res (shp P ty) v fun x=>K x st.b h':=
  fun f vs Hm w hs=>(Hm w hs).mono fun e w' ⟨v,h',h1,h2,h3,h4⟩=>⟨v,h',h1,h2,h3,hR _ _ h4⟩
 cases op with
 | call c=>
  obtain⟨callee,args,ts⟩:=c;cases callee with
  | builtin b=>
   simp only [vcE] at H ⊢;split at H
   ·cases b<;>first|exact H.elim|exact hsem _ H
   ·exact H.elim
  | value f=>
   cases f with
   | func g=>
    simp only [vcE] at H ⊢;split at H
    ·rename_i vs hvs;cases hb:(P.funcs[g]?).map (·.body.isSome) with
     | none=>rw [hb] at H;exact H.elim
     | some q=>
      rw [hb] at H;cases q with
      | true=>exact hcall _ _ H
      | false=>exact fun w hs=>let ⟨v,w',h',h1,h2,h3,h4⟩:=H w hs;⟨v,w',h',h1,h2,h3,hR _ _ h4⟩
    ·exact H.elim
   | tmp t=>
    simp only [vcE] at H ⊢;split at H
    ·obtain⟨f,pre,post,e,hfn,hcl⟩:=H;exact⟨f,pre,post,e,hfn,hcall _ _ hcl⟩
    ·exact H.elim
   | _=>exact H.elim
  | invoke r m=>exact H.elim
 | _=>cases hc
theorem Jp {P:Program}{cfg:Cfg}(hP:WZ P){ops:Array Oper}{o:Oper}{w0:World}{h0:Hp}{st:St}{h:Hp}{a:Act}{w:World}{K:St->Hp->Prop}{Q:Exit->Act->World->Prop}{N:Act->World->Prop}
  (R:Rel w0 h0 st h a w) (H:QG P cfg ops o st h K)
  (hn:∀ st' h' a' w',K st' h'->Rel w0 h0 st' h' a' w'->Ev (GE o.dst) st st'->N a' w'):if Region.wanted o (yielded ops a.tmps) then o.wp P a w N Q\/(o.asks P a w/\LetsOut Q) else N (a.put o.dst undef) w:=by
 obtain⟨ρ,R⟩:=R;unfold QG at H;have hnE:∀{gdr:Option (Nat × Bool)},Nxt w0 h0 st (fun sv b h'=>St.put ⟨st.n,st.t,st.g,b⟩ o.dst none sv fun st'=>K st' h') o a N:=by
  intro _ sv b' h' ρ' v w' hk R' hsv hb;obtain⟨st',k1,k2,k3⟩:=Wb R' (gd:=none) hk hsv;exact hn st' h' _ _ k1 ⟨ρ',k2⟩ ⟨k3.n,k3.t,hb.trans k3.b⟩
 cases hg:o.guard with
 | none=>
  rw [hg] at H;simp only at H;rw [bJ (Gg hg _)];left;unfold Oper.wp;cases hE:isE P o.op with
  | true=>
   rw [hE] at H;simp only [cX] at H;exact Qaz hP R (ch:=[]) (fun _ _ hm=>by simp at hm) H (hnE (gdr:=none))
  | false=>
   rw [hE] at H;simp only [dM] at H;obtain⟨sv,hk,v,hr,hsv⟩:=vcV_ok R (ch:=[]) (fun _ _ hm=>by simp at hm) (G:=fun p=>p) (fun p hp=>hp) H
   rw [hr,Oper.upon_value];obtain⟨st',k1,k2,k3⟩:=Wb R (gd:=none) hk hsv;exact hn st' h _ _ k1 ⟨ρ,k2⟩ k3
 | some q=>
  obtain⟨j,p⟩:=q;rw [hg] at H;simp only at H;split at H
  ·exact H.elim
  ·rename_i s hj;cases hok:okGd st 8 s with
   | false=>rw [hok] at H;exact H.elim
   | true=>
    rw [hok] at H;simp only [cX] at H;have hspec:=cond_spec R 8 s p hok;have hw:=QcV (ops:=ops) hg hj a.tmps;cases hE:isE P o.op with
    | true=>
     rw [hE] at H;simp only [cX] at H;cases hC:YS o.op with
     | true=>
      rw [hC] at H;simp only [cX] at H;obtain⟨J,H1,H2,H3⟩:=H;by_cases hc:condP st 8 s p
      ·obtain⟨h1,h2⟩:=hspec.1 hc;rw [bJ (hw.2 h1)];left;unfold Oper.wp;refine Qaz hP R h2 (Ma (K:=fun sv b h'=>b=st.b/\J sv h'/\exS (shp P o.type) fun y=>y=sv) hC (fun sv h' q1 q2=>⟨rfl,q1,q2⟩) (H1 hc)) ?_
       rintro sv b' h' ρ' v w' ⟨hk0,hk1,hk2⟩ R' hsv hb;subst hk0;obtain⟨st',k1,k2,k3⟩:=Wb R' (gd:=some (s,p)) (G8 (H3 h') hk2 hk1) (v:=v) ⟨fun _=>hsv,fun e=>(e h1).elim⟩
       exact hn st' h' _ _ k1 ⟨ρ',k2⟩ ⟨k3.n,k3.t,hb.trans k3.b⟩
      ·have h1:=hspec.2 hc;rw [bE (fun e=>h1 (hw.1 e))]
       obtain⟨st',k1,k2,k3⟩:=Wb R (gd:=some (s,p)) (v:=undef) (G8 (H3 h) (Qhs _) (H2 hc)) ⟨fun e=>(h1 e).elim,fun _=>rfl⟩
       exact hn st' h _ _ k1 ⟨ρ,k2⟩ k3
     | false=>
     rw [hC] at H;simp only [dM] at H;by_cases hc:condP st 8 s p
     ·obtain⟨h1,h2⟩:=hspec.1 hc;rw [bJ (hw.2 h1)];left;unfold Oper.wp;exact Qaz hP R h2 (H.1 hc) (hnE (gdr:=none))
     ·have h1:=hspec.2 hc;rw [bE (fun e=>h1 (hw.1 e))]
      obtain⟨st',k1,k2,k3⟩:=Wb R (gd:=some (s,p)) (v:=undef) (H.2 hc) ⟨fun e=>(h1 e).elim,fun _=>rfl⟩
      exact hn st' h _ _ k1 ⟨ρ,k2⟩ k3
    | false=>
     rw [hE] at H;simp only [dM] at H;by_cases hc:condP st 8 s p
     ·obtain⟨h1,h2⟩:=hspec.1 hc;rw [bJ (hw.2 h1)];left;unfold Oper.wp;obtain⟨sv,hk,v,hr,hsv⟩:=vcV_ok R h2 (fun q hq=>hq hc) H
      rw [hr,Oper.upon_value];obtain⟨st',k1,k2,k3⟩:=Wb R (gd:=some (s,p)) hk (v:=v) ⟨fun _=>hsv,fun e=>(e h1).elim⟩
      exact hn st' h _ _ k1 ⟨ρ,k2⟩ k3
     ·have h1:=hspec.2 hc;rw [bE (fun e=>h1 (hw.1 e))]
      obtain⟨sv,hk⟩:=Qlk H;obtain⟨st',k1,k2,k3⟩:=Wb R (gd:=some (s,p)) hk (v:=undef) ⟨fun e=>(h1 e).elim,fun _=>rfl⟩
      exact hn st' h _ _ k1 ⟨ρ,k2⟩ k3
theorem Qhk {P:Program}{cfg:Cfg}(hP:WZ P){ops:Array Oper}{o:Oper}{w0:World}{h0:Hp}{st:St}{h:Hp}{a:Act}{w:World}{K:St->Hp->Prop}{Q:Exit->Act->World->Prop}{rest:List Oper}
  (R:Rel w0 h0 st h a w) (H:QG P cfg ops o st h K)
  (hn:∀ st' h' a' w',K st' h'->Rel w0 h0 st' h' a' w'->Ev (GE o.dst) st st'->wpList P ops Q rest a' w'):wpList P ops Q (o :: rest) a w:=by
 unfold wpList;exact Jp hP R H hn
abbrev _root_.qN:=@Ev.refl
structure Agr (d:Nat)(st st1:St):Prop where
 t:∀ i,i≠d->st1.t i=st.t i
 b:st1.b=st.b
 n:st1.n=st.n
section
variable {P:Program}{cfg:Cfg}{st st1:St}{d:Nat}{ch:List (Nat × Bool)}
theorem Agr.ev (A:Agr d st st1){x:Operand}(hx:x≠.tmp d):st1.ev ch x=st.ev ch x:=by
 cases x with
 | tmp i=>simp only [St.ev];rw [A.t i (fun e=>hx (by rw [e]))]
 | _=>rfl
theorem Agr.evs (A:Agr d st st1):∀{l:List Operand},(∀ x ∈ l,x≠.tmp d)->st1.evs ch l=st.evs ch l
 | [],_=>rfl
 | x :: l,h=>by simp only [St.evs];rw [A.ev (h x (by simp)),A.evs (fun y hy=>h y (by simp [hy]))]
theorem Agr.partsL (A:Agr d st st1):∀{l:List (Nat × Operand)},(∀ x ∈ l,x.2≠.tmp d)->Vc.partsL st1 ch l=Vc.partsL st ch l
 | [],_=>rfl
 | (i,x) :: l,h=>by simp only [Vc.partsL];rw [A.ev (h (i,x) (by simp)),A.partsL (fun y hy=>h y (by simp [hy]))]
theorem Agr.optV (A:Agr d st st1):∀{x:Option Operand},(∀ y,x=some y->y≠.tmp d)->Vc.optV st1 ch x=Vc.optV st ch x
 | none,_=>rfl
 | some x,h=>by simp only [Vc.optV];rw [A.ev (h x rfl)]
theorem Agr.vd (A:Agr d st st1){o:Oper}(h:∀ x ∈ o.op.operands.toList,x≠.tmp d):QY P o ch st1=QY P o ch st:=by
 obtain⟨dst,op,ty,pos,af,gd⟩:=o;cases op with
 | move x=>simp only [QY];rw [A.ev (h x (by simp [Op.operands]))]
 | assign x=>simp only [QY];rw [A.ev (h x (by simp [Op.operands]))]
 | pick c x y=>
  simp only [QY];have hx:=h x (by simp [Op.operands])
  have hy:=h y (by simp [Op.operands])
  cases c with
  | tmp s=>simp only;rw [A.ev (h (.tmp s) (by simp [Op.operands])),A.ev hx,A.ev hy]
  | _=>rfl
 | nilCheck x=>simp only [QY];rw [A.ev (h x (by simp [Op.operands]))]
 | binOp op T x y T'=>simp only [QY];rw [A.ev (h x (by simp [Op.operands])),A.ev (h y (by simp [Op.operands]))]
 | unOp op T x=>simp only [QY];rw [A.ev (h x (by simp [Op.operands]))]
 | convert s t x=>simp only [QY];rw [A.ev (h x (by simp [Op.operands]))]
 | makeInterface T x=>simp only [QY];rw [A.ev (h x (by simp [Op.operands]))]
 | makeFunc fn l1 l2=>simp only [QY];rw [A.evs (fun x hx=>h x (by simp [Op.operands,Array.mem_toList_iff.1 hx])),A.evs (fun x hx=>h x (by simp [Op.operands,Array.mem_toList_iff.1 hx]))]
 | fieldAddr T x f=>simp only [QY];rw [A.ev (h x (by simp [Op.operands]))]
 | field T x f=>simp only [QY];rw [A.ev (h x (by simp [Op.operands]))]
 | indexAddr T x y=>simp only [QY];rw [A.ev (h x (by simp [Op.operands])),A.ev (h y (by simp [Op.operands]))]
 | load T x=>simp only [QY];rw [A.ev (h x (by simp [Op.operands])),A.b]
 | extract x i=>simp only [QY];rw [A.ev (h x (by simp [Op.operands]))]
 | build T ps=>
  simp only [QY];rw [A.partsL (fun x hx=>h x.2 (by simp only [Op.operands,cZ];exact⟨x,hx,rfl⟩))]
 | index T x y=>simp only [QY];rw [A.ev (h x (by simp [Op.operands])),A.ev (h y (by simp [Op.operands]))]
 | lookup T x y ok=>simp only [QY];rw [A.ev (h x (by simp [Op.operands])),A.ev (h y (by simp [Op.operands]))]
 | typeAssert x T U ok=>simp only [QY];rw [A.ev (h x (by simp [Op.operands]))]
 | slice T x lo hi mx=>
  simp only [QY];rw [A.ev (h x (by simp [Op.operands])),A.optV (x:=lo) (fun y hy=>h y (by simp [Op.operands,hy])),A.optV (x:=hi) (fun y hy=>h y (by simp [Op.operands,hy])),A.optV (x:=mx) (fun y hy=>h y (by simp [Op.operands,hy]))]
 | call c=>
  obtain⟨callee,args,ts⟩:=c;cases callee with
  | builtin b=>
   have ha:∀ x ∈ args.toList,x≠.tmp d:=fun x hx=>h x (by simpa [Op.operands,Call.operands] using hx)
   cases b with
   | len=>
    simp only [QY];split
    ·rename_i x hargs;rw [A.ev (ha x (by rw [hargs];simp))]
    ·rfl
   | cap=>simp only [QY];rw [A.evs ha]
   | max=>simp only [QY];rw [A.evs ha]
   | min=>simp only [QY];rw [A.evs ha]
   | _=>rfl
  | _=>rfl
 | _=>rfl
theorem Agr.boxR (A:Agr d st st1){o:Oper}(h:∀ x ∈ o.op.operands.toList,x≠.tmp d):Vc.boxR o st1 ch=Vc.boxR o st ch:=by
 obtain⟨dst,op,ty,pos,af,gd⟩:=o;cases op with
 | load T x=>simp only [Vc.boxR];rw [A.ev (h x (by simp [Op.operands]))]
 | _=>rfl
theorem Agr.vcE (A:Agr d st st1){o:Oper}(h:∀ x ∈ o.op.operands.toList,x≠.tmp d){hp:Hp}{K:SV->List Box->Hp->Prop}:Vc.vcE P cfg o ch st1 hp K=Vc.vcE P cfg o ch st hp K:=by
 obtain⟨dst,op,ty,pos,af,gd⟩:=o;have hnb:∀ T cs,Vc.newBox cfg ⟨dst,op,ty,pos,af,gd⟩ st1 hp T cs K=Vc.newBox cfg ⟨dst,op,ty,pos,af,gd⟩ st hp T cs K:=by intro T cs;simp only [Vc.newBox,A.b]
 cases op with
 | alloc T=>simp only [Vc.vcE,hnb]
 | box T x=>simp only [Vc.vcE,hnb];rw [A.ev (h x (by simp [Op.operands]))]
 | buildSlice T n ps=>
  simp only [Vc.vcE,A.b];rw [A.partsL (fun x hx=>h x.2 (by simp only [Op.operands,cZ];exact⟨x,hx,rfl⟩))]
 | store T x y=>simp only [Vc.vcE,A.b];rw [A.ev (h x (by simp [Op.operands])),A.ev (h y (by simp [Op.operands]))]
 | call c=>
  obtain⟨callee,args,ts⟩:=c;have ha:∀ x ∈ args.toList,x≠.tmp d:=fun x hx=>h x (by simp only [Op.operands,Call.operands];cases callee<;>simp_all)
  cases callee with
  | builtin b=>simp only [Vc.vcE,A.b];rw [A.evs ha]
  | value f=>
   cases f with
   | func g=>simp only [Vc.vcE,A.b];rw [A.evs ha]
   | tmp t=>simp only [Vc.vcE,A.b];rw [A.evs ha,A.ev (h (.tmp t) (by simp [Op.operands,Call.operands]))]
   | _=>rfl
  | invoke r m=>rfl
 | makeMap T r=>cases r<;>simp only [Vc.vcE,A.b]
 | convert s t x=>simp only [Vc.vcE,A.b];rw [A.ev (h x (by simp [Op.operands]))]
 | makeSlice T l c=>simp only [Vc.vcE,A.b];rw [A.ev (h l (by simp [Op.operands])),A.ev (h c (by simp [Op.operands]))]
 | mapUpdate T m k x=>simp only [Vc.vcE,A.b];rw [A.ev (h m (by simp [Op.operands])),A.ev (h k (by simp [Op.operands])),A.ev (h x (by simp [Op.operands]))]
 | insert T m k x=>simp only [Vc.vcE,A.b];rw [A.ev (h m (by simp [Op.operands])),A.ev (h k (by simp [Op.operands])),A.ev (h x (by simp [Op.operands]))]
 | range T x=>simp only [Vc.vcE,A.b];rw [A.ev (h x (by simp [Op.operands]))]
 | next it s=>simp only [Vc.vcE,A.b];rw [A.ev (h it (by simp [Op.operands]))]
 | _=>rfl
end
def WF (st:St):Prop:=∀ i s p x,st.t i=.gd s p x->st.g s=true
def Yc (st:St)(dst:Option Nat)(gd:Option (Nat × Bool)):Prop:=
 ∀ d,dst=some d->Nat.blt d st.n=true/\st.g d=false/\∀ s p,gd=some (s,p)->d≠s
def Qm (st:St)(dst:Option Nat)(gd:Option (Nat × Bool))(x:SV):St:=
 match dst with
 | none=>st
 | some d=>match gd with
  | none=>{ st with t:=fun i=>bif Nat.beq i d then .s x else st.t i }
  | some (s,p)=>{ st with t:=fun i=>bif Nat.beq i d then .gd s p x else st.t i,g:=fun k=>bif Nat.beq k s then true else st.g k }
theorem Zl {st:St}{dst:Option Nat}{gd:Option (Nat × Bool)}{x:SV}{K:St->Prop}:st.put dst gd x K↔Yc st dst gd/\K (Qm st dst gd x):=by
 cases dst with
 | none=>simp [St.put,Yc,Qm]
 | some d=>
  cases gd with
  | none=>
   simp only [St.put,Yc,Qm,bH,reduceCtorEq,qF,implies_true,mH,forall_eq'];cases h1:Nat.blt d st.n<;>cases h2:st.g d<;>simp_all
  | some q=>
   obtain⟨s,p⟩:=q;simp only [St.put,Yc,Qm,bH,forall_eq',fC];rcases dC (Nat.beq d s) with h3|h3
   ·have:=cT h3;rw [h3];simp only [Bool.true_or,pH,Bool.and_false,dM,false_iff,not_and];rintro⟨_,_,h⟩;exact(h s p ⟨rfl,rfl⟩ this).elim
   ·have hne:=d7 h3;rw [h3];cases h1:Nat.blt d st.n<;>cases h2:st.g d<;>simp_all
theorem QeS {i d:Nat}(h:i≠d):Nat.beq i d=false:=by cases hq:Nat.beq i d<;>simp_all
theorem QnO {st:St}{d:Nat}{gd:Option (Nat × Bool)}{x:SV}:Agr d st (Qm st (some d) gd x):=by
 cases gd with
 | none=>exact⟨fun i hi=>by simp [Qm,QeS hi],rfl,rfl⟩
 | some q=>exact⟨fun i hi=>by simp [Qm,QeS hi],rfl,rfl⟩
theorem U3 {st:St}{dst:Option Nat}{gd:Option (Nat × Bool)}{x:SV}(W:WF st):WF (Qm st dst gd x):=by
 cases dst with
 | none=>exact W
 | some d=>
  intro i s p y hi;cases gd with
  | none=>
   simp only [Qm] at hi ⊢;cases hb:Nat.beq i d with
   | true=>rw [hb] at hi;simp at hi
   | false=>rw [hb] at hi;exact W i s p y hi
  | some q=>
   obtain⟨s',p'⟩:=q;simp only [Qm] at hi ⊢;cases hb:Nat.beq i d with
   | true=>rw [hb] at hi;simp at hi;simp [hi.1]
   | false=>rw [hb] at hi;have:=W i s p y hi;cases Nat.beq s s'<;>simp [this]
section
variable {P:Program}{cfg:Cfg}{ops:Array Oper}{st st1:St}{d:Nat}
theorem Agr.chain (A:Agr d st st1)(W:WF st)(hg:st.g d=false):∀(n s:Nat)(p:Bool),s≠d->Vc.chain st1 n s p=Vc.chain st n s p
 | 0,_,_,_=>rfl
 | n+1,s,p,hs=>by
  simp only [Vc.chain];rw [A.t s hs];cases hx:st.t s with
  | s y=>rfl
  | gd s' p' y=>
   have:s'≠d:=by intro e;have:=W s s' p' y hx;rw [e,hg] at this;simp at this
   simp only;rw [A.chain W hg n s' p' this]
theorem Agr.condP (A:Agr d st st1)(W:WF st)(hg:st.g d=false):∀(n s:Nat)(p:Bool),s≠d->Vc.condP st1 n s p=Vc.condP st n s p
 | 0,_,_,_=>rfl
 | n+1,s,p,hs=>by
  simp only [Vc.condP];rw [A.t s hs];cases hx:st.t s with
  | s y=>
   cases y with
   | t z=>cases z with
    | one u=>cases u with
     | v v=>cases v<;>rfl
     | _=>rfl
    | _=>rfl
   | _=>rfl
  | gd s' p' y=>
   have:s'≠d:=by intro e;have:=W s s' p' y hx;rw [e,hg] at this;simp at this
   have ih:=A.condP W hg n s' p' this;cases y with
   | t z=>cases z with
    | one u=>cases u with
     | v v=>cases v<;>simp only [ih]
     | _=>rfl
    | _=>rfl
   | _=>rfl
theorem Agr.okGd (A:Agr d st st1)(W:WF st)(hg:st.g d=false):∀(n s:Nat),s≠d->Vc.okGd st1 n s=Vc.okGd st n s
 | 0,_,_=>rfl
 | n+1,s,hs=>by
  simp only [Vc.okGd];rw [A.t s hs];cases hx:st.t s with
  | s y=>
   cases y with
   | t z=>cases z with
    | one u=>cases u with
     | v v=>cases v<;>rfl
     | _=>rfl
    | _=>rfl
   | _=>rfl
  | gd s' p' y=>
   have:s'≠d:=by intro e;have:=W s s' p' y hx;rw [e,hg] at this;simp at this
   have ih:=A.okGd W hg n s' this;cases y with
   | t z=>cases z with
    | one u=>cases u with
     | v v=>cases v<;>simp only [ih]
     | _=>rfl
    | _=>rfl
   | _=>rfl
def gdO (ops:Array Oper)(o:Oper):Option (Option (Nat × Bool)):=
 match o.guard with
 | none=>some none
 | some (j,p)=>((ops[j]?).bind (·.dst)).map fun s=>some (s,p)
def okG (st:St):Option (Nat × Bool)->Prop
 | none=>True
 | some (s,_)=>okGd st 8 s=true
def chG (st:St):Option (Nat × Bool)->List (Nat × Bool)
 | none=>[]
 | some (s,p)=>chain st 8 s p
def coG (st:St):Option (Nat × Bool)->Prop
 | none=>True
 | some (s,p)=>condP st 8 s p
def GG (st:St):Option (Nat × Bool)->Prop->Prop
 | none,p=>p
 | some (s,q),p=>condP st 8 s q->p
theorem QhF (st:St)(g:Option (Nat × Bool))(p q:Prop)(h:p->q):GG st g p->GG st g q:=by
 cases g with
 | none=>exact h
 | some s=>exact fun f c=>h (f c)
theorem Agr.okG (A:Agr d st st1)(W:WF st)(hg:st.g d=false){g:Option (Nat × Bool)}(hs:∀ s p,g=some (s,p)->s≠d):Vc.okG st1 g=Vc.okG st g:=by
 cases g with
 | none=>rfl
 | some q=>simp only [Vc.okG];rw [A.okGd W hg 8 q.1 (hs q.1 q.2 rfl)]
theorem Agr.chG (A:Agr d st st1)(W:WF st)(hg:st.g d=false){g:Option (Nat × Bool)}(hs:∀ s p,g=some (s,p)->s≠d):Vc.chG st1 g=Vc.chG st g:=by
 cases g with
 | none=>rfl
 | some q=>simp only [Vc.chG];rw [A.chain W hg 8 q.1 q.2 (hs q.1 q.2 rfl)]
theorem Agr.coG (A:Agr d st st1)(W:WF st)(hg:st.g d=false){g:Option (Nat × Bool)}(hs:∀ s p,g=some (s,p)->s≠d):Vc.coG st1 g=Vc.coG st g:=by
 cases g with
 | none=>rfl
 | some q=>simp only [Vc.coG];rw [A.condP W hg 8 q.1 q.2 (hs q.1 q.2 rfl)]
theorem Agr.GG (A:Agr d st st1)(W:WF st)(hg:st.g d=false){g:Option (Nat × Bool)}(hs:∀ s p,g=some (s,p)->s≠d):Vc.GG st1 g=Vc.GG st g:=by
 cases g with
 | none=>rfl
 | some q=>funext p;simp only [Vc.GG];rw [A.condP W hg 8 q.1 q.2 (hs q.1 q.2 rfl)]
def VS (P:Program)(g:Option (Nat × Bool))(o:Oper)(st:St)(h:Hp)(sv:SV):Prop:=(QY P o (chG st g) st).sem P (GG st g) h (fun y=>y=sv)
theorem XY {o:Oper}{h:Hp}{K:St->Hp->Prop}(hE:isE P o.op=false):QG P cfg ops o st h K↔∃ g,gdO ops o=some g/\okG st g/\Yc st o.dst g/\∃ sv,VS P g o st h sv/\K (Qm st o.dst g sv) h:=by
 unfold QG gdO;cases hg:o.guard with
 | none=>
  simp only [hE,dM,bH,gU,okG,jL];constructor
  ·intro H;obtain⟨sv,h1,h2⟩:=VD.pick (show (QY P o [] st).sem P (fun p=>p) h _ from H)
   rw [Zl] at h2;exact⟨h2.1,sv,h1,h2.2⟩
  ·rintro⟨h1,sv,h2,h3⟩;exact VD.mono (fun _ b o hb=>hb) (fun p q f=>f) (fun x hx=>by rw [hx];exact Zl.2 ⟨h1,h3⟩) h2
 | some q=>
  obtain⟨j,p⟩:=q;simp only;cases hj:(ops[j]?).bind (·.dst) with
  | none=>simp
  | some s=>
   simp only [fD,bH,gU,okG,hE,dM];cases hok:okGd st 8 s with
   | false=>simp
   | true=>
    simp only [cX,jL];constructor
    ·intro H;obtain⟨sv,h1,h2⟩:=VD.pick (show (QY P o (chain st 8 s p) st).sem P (fun q=>condP st 8 s p->q) h _ from H)
     rw [Zl] at h2;exact⟨h2.1,sv,h1,h2.2⟩
    ·rintro⟨h1,sv,h2,h3⟩;exact VD.mono (fun _ b o hb=>hb) (fun p q f g c=>f (g c)) (fun x hx=>by rw [hx];exact Zl.2 ⟨h1,h3⟩) h2
theorem JR {o:Oper}{st:St}{h:Hp}{ty:TypeId}{cs:List TV}{K K':SV->List Box->Hp->Prop}(hk:∀ sv b h',Qs st.b b->K sv b h'->K' sv b h')(H:newBox cfg o st h ty cs K):newBox cfg o st h ty cs K':=by
 unfold newBox at *
 rcases dC (QC cs) with h1|h1
 ·rw [h1] at H ⊢;simp only [cX] at *
  rcases dC (Qbh cfg o.dst) with h2|h2
  ·rw [h2] at H ⊢;simp only [cX] at *;exact fun b hb=>hk _ _ _ (qM _) (H b hb)
  ·rw [h2] at H ⊢;simp only [dM] at *
   exact hk _ _ _ (Mu _) H
 ·rw [h1] at H;exact H.elim
theorem QL {s:Sh}{v:Value}{K K':SV->Prop}(hk:∀ x,K x->K' x)(H:res s v K):res s v K':=Ml (fun x hx=>⟨hx.1,hk _ hx.2⟩) H
theorem Wz {o:Oper}{st:St}{ch:List (Nat × Bool)}{h:Hp}{K K':SV->List Box->Hp->Prop}(hk:∀ sv b h',Qs st.b b->K sv b h'->K' sv b h')(H:vcE P cfg o ch st h K):vcE P cfg o ch st h K':=by
 obtain⟨dst,op,ty,pos,af,gd⟩:=o;have same:∀ sv h',K sv st.b h'->K' sv st.b h':=fun sv h'=>hk sv st.b h' (qM _)
 have hsem:∀ m sh,(Qh P m h fun v h'=>res sh v fun x=>K x st.b h')->Qh P m h fun v h'=>res sh v fun x=>K' x st.b h':=by intro m sh H w hs;obtain⟨v,w',h',h1,h2,h3,h4⟩:=H w hs;exact⟨v,w',h',h1,h2,h3,QL (fun x hx=>same _ _ hx) h4⟩
 have hcall:∀ f vs sh,(Qa P f vs h fun v h'=>res sh v fun x=>K x st.b h')->Qa P f vs h fun v h'=>res sh v fun x=>K' x st.b h':=by intro f vs sh H w hs;exact(H w hs).mono fun e w' ⟨v,h',h1,h2,h3,h4⟩=>⟨v,h',h1,h2,h3,QL (fun x hx=>same _ _ hx) h4⟩
 cases op with
 | alloc T=>
  simp only [vcE] at *
  split at H
  ·exact JR hk H
  ·exact H.elim
 | box T x=>
  simp only [vcE] at *
  split at H
  ·exact JR hk H
  ·exact H.elim
 | buildSlice T n parts=>
  simp only [vcE] at *
  rcases hu:P.underlying T with _|d'
  ·rw [hu] at H;exact H.elim
  ·rcases hp:partsL st ch parts.toList with _|ps
   ·rw [hu,hp] at H;cases d'<;>exact H.elim
   ·rw [hu,hp] at H;cases d' with
    | slice e=>
     simp only at *
     rcases hz:Xg P e with _|z
     ·rw [hz] at H;exact H.elim
     ·rw [hz] at H;simp only at *
      rcases dC (Nat.ble 1 (szT P e)&&Nat.beq z.length (szT P e)&&Nat.ble (n*szT P e) 4096) with hc|hc
      ·rw [hc] at H ⊢;simp only [cX] at *
       rcases hf:UI (fun i=>some (i*szT P e,szT P e)) ((List.replicate n z).flatten) ps with _|cs
       ·rw [hf] at H;exact H.elim
       ·rw [hf] at H;simp only at *
        rcases dC (QC cs) with ho|ho
        ·rw [ho] at H ⊢;exact fun b hb=>same _ _ (H b hb)
        ·rw [ho] at H;exact H.elim
      ·rw [hc] at H;exact H.elim
    | _=>exact H.elim
 | store T x y=>
  simp only [vcE] at *
  split at H
  ·rename_i i o' y' e1 e2;rcases hb:st.b[i]? with _|bx
   ·rw [hb] at H;exact H.elim
   ·rw [hb] at H;simp only at *
    rcases dC (Nat.ble 1 (szT P T)&&Nat.beq y'.cells.length (szT P T)&&Nat.ble (o'+y'.cells.length) bx.c.length&&QC y'.cells) with hc|hc
    ·rw [hc] at H ⊢;exact hk _ _ _ (JP hb _) H
    ·rw [hc] at H;exact H.elim
  ·rename_i b o' y' e1 e2;rcases dC (Nat.ble 1 (szT P T)&&Nat.beq y'.cells.length (szT P T)&&QC y'.cells) with hc|hc
   ·rw [hc] at H ⊢;simp only [cX] at *
    obtain⟨c,e,h1,h2,h3⟩:=H;exact⟨c,e,h1,h2,same _ _ h3⟩
   ·rw [hc] at H;exact H.elim
  ·exact H.elim
 | call c=>
  obtain⟨callee,args,ts⟩:=c;cases callee with
  | invoke r m=>exact H.elim
  | value f=>
   cases f with
   | func g=>
    simp only [vcE] at *
    split at H
    ·split at H
     ·exact hcall _ _ _ H
     ·intro w hs;obtain⟨v,w',h',h1,h2,h3,h4⟩:=H w hs;exact⟨v,w',h',h1,h2,h3,QL (fun x hx=>same _ _ hx) h4⟩
     ·exact H.elim
    ·exact H.elim
   | tmp t=>
    simp only [vcE] at *
    split at H
    ·obtain⟨f,pre,post,h1,h2,h3⟩:=H;exact⟨f,pre,post,h1,h2,hcall _ _ _ h3⟩
    ·exact H.elim
   | _=>exact H.elim
  | builtin b=>
   simp only [vcE] at *
   split at H
   ·split at H
    ·exact hsem _ _ H
    ·exact hsem _ _ H
    ·exact hsem _ _ H
    ·exact hsem _ _ H
    ·exact H.elim
   ·exact H.elim
 | makeMap T r=>
  cases r with
  | some r=>exact H.elim
  | none=>exact hsem _ _ H
 | convert s t x=>
  simp only [vcE] at *
  split at H
  ·exact hsem _ _ H
  ·exact H.elim
 | makeSlice T l c=>
  simp only [vcE] at *
  split at H
  ·exact hsem _ _ H
  ·exact H.elim
 | mapUpdate T m k x=>
  simp only [vcE] at *
  split at H
  ·intro w hs;obtain⟨w',h',h1,h2,h3,h4⟩:=H w hs;exact⟨w',h',h1,h2,h3,same _ _ h4⟩
  ·exact H.elim
 | insert T m k x=>
  simp only [vcE] at *
  split at H
  ·intro w hs;obtain⟨w',h',h1,h2,h3,h4⟩:=H w hs;exact⟨w',h',h1,h2,h3,same _ _ h4⟩
  ·exact H.elim
 | range T x=>
  simp only [vcE] at *
  split at H
  ·intro w hs;obtain⟨v,w',h',h1,h2,h3,h4⟩:=H w hs;exact⟨v,w',h',h1,h2,h3,same _ _ h4⟩
  ·exact H.elim
 | next it s=>
  simp only [vcE] at *
  split at H
  ·exact hsem _ _ H
  ·exact H.elim
 | _=>exact H.elim
theorem Qcj {o:Oper}{st:St}{ch:List (Nat × Bool)}{h:Hp}{K:SV->List Box->Hp->Prop}{J:ShT}(hc:YS o.op=true)(hk:∀ sv h',K sv st.b h'->J sv h')(H:vcE P cfg o ch st h K):vcE P cfg o ch st h fun sv _ h'=>J sv h':=by
 obtain⟨dst,op,ty,pos,af,gd⟩:=o;have hR:∀ v h',(res (shp P ty) v fun x=>K x st.b h')->res (shp P ty) v fun x=>J x h':=fun v h' hr=>QL (fun x=>hk x h') hr
 have hsem:∀ m,(Qh P m h fun v h'=>res (shp P ty) v fun x=>K x st.b h')->Qh P m h fun v h'=>res (shp P ty) v fun x=>J x h':=
  fun m Hm w hs=>let ⟨v,w',h',h1,h2,h3,h4⟩:=Hm w hs;⟨v,w',h',h1,h2,h3,hR _ _ h4⟩
 have hcall:∀ f vs,(Qa P f vs h fun v h'=>res (shp P ty) v fun x=>K x st.b h')->Qa P f vs h fun v h'=>res (shp P ty) v fun x=>J x h':=
  fun f vs Hm w hs=>(Hm w hs).mono fun e w' ⟨v,h',h1,h2,h3,h4⟩=>⟨v,h',h1,h2,h3,hR _ _ h4⟩
 cases op with
 | call c=>
  obtain⟨callee,args,ts⟩:=c;cases callee with
  | builtin b=>
   simp only [Vc.vcE] at H ⊢;split at H
   ·cases b<;>first|exact H.elim|exact hsem _ H
   ·exact H.elim
  | value f=>
   cases f with
   | func g=>
    simp only [Vc.vcE] at H ⊢;split at H
    ·rename_i vs hvs;cases hb:(P.funcs[g]?).map (·.body.isSome) with
     | none=>rw [hb] at H;exact H.elim
     | some q=>
      rw [hb] at H;cases q with
      | true=>exact hcall _ _ H
      | false=>exact fun w hs=>let ⟨v,w',h',h1,h2,h3,h4⟩:=H w hs;⟨v,w',h',h1,h2,h3,hR _ _ h4⟩
    ·exact H.elim
   | tmp t=>
    simp only [Vc.vcE] at H ⊢;split at H
    ·obtain⟨f,pre,post,e,hfn,hcl⟩:=H;exact⟨f,pre,post,e,hfn,hcall _ _ hcl⟩
    ·exact H.elim
   | _=>exact H.elim
  | invoke r m=>exact H.elim
 | _=>cases hc
def pgO (o:Oper)(g:Option (Nat × Bool)):Option (Nat × Bool):=bif YS o.op then g else none
theorem Qnu (o:Oper)(g:Option (Nat × Bool)):pgO o g=none\/pgO o g=g:=by unfold pgO;cases YS o.op<;>simp
theorem Vv {o:Oper}{h:Hp}{K:St->Hp->Prop}(hE:isE P o.op=true):QG P cfg ops o st h K↔∃ g,gdO ops o=some g/\okG st g /\
  (coG st g->vcE P cfg o (chG st g) st h fun sv b h'=>Yc ⟨st.n,st.t,st.g,b⟩ o.dst (pgO o g)/\K (Qm ⟨st.n,st.t,st.g,b⟩ o.dst (pgO o g) sv) h') /\
  (¬ coG st g->Yc st o.dst g/\K (Qm st o.dst g (dfl (shp P o.type))) h):=by
 unfold QG gdO;cases hg:o.guard with
 | none=>
  have e0:pgO o none=none:=by unfold pgO;cases YS o.op<;>rfl
  simp only [hE,cX,bH,gU,okG,coG,chG,jL,not_true_eq_false,qF,true_implies,mH,Zl,e0]
 | some q=>
  obtain⟨j,p⟩:=q;simp only;cases hj:(ops[j]?).bind (·.dst) with
  | none=>simp
  | some s=>
   simp only [fD,bH,gU,okG,coG,chG,hE,cX];cases hok:okGd st 8 s with
   | false=>simp
   | true=>
    cases hC:YS o.op with
    | false=>
     have e0:pgO o (some (s,p))=none:=by unfold pgO;rw [hC];rfl
     simp only [cX,dM,jL,Zl,e0]
    | true=>
     have e0:pgO o (some (s,p))=some (s,p):=by unfold pgO;rw [hC];rfl
     simp only [cX,jL,e0];constructor
     ·rintro⟨J,H1,H2,H3⟩;exact⟨fun hc=>Ma hC (fun sv h' q1 q2=>Zl.1 (G8 (H3 h') q2 q1)) (H1 hc),fun hc=>Zl.1 (G8 (H3 h) (Qhs _) (H2 hc))⟩
     ·rintro⟨H1,H2⟩;exact⟨fun sv h'=>Yc st o.dst (some (s,p))/\K (Qm st o.dst (some (s,p)) sv) h',fun hc=>Qcj hC (fun sv h' q1=>q1) (H1 hc),fun hc=>H2 hc,fun h'=>Qll fun x hx=>Zl.2 hx⟩
theorem Vu {o:Oper}{g:Option (Nat × Bool)}(hg:gdO ops o=some g){s:Nat}{p:Bool}(e:g=some (s,p)):s ∈ Gj ops o:=by
 subst e;unfold gdO at hg;unfold Gj;cases hq:o.guard with
 | none=>rw [hq] at hg;simp at hg
 | some q=>
  rw [hq] at hg;simp only [dF] at hg;obtain⟨s',hs,rfl,rfl⟩:=hg;simp [hs]
theorem Q4 {o:Oper}{x:Operand}{t:Nat}(hx:x ∈ o.op.operands.toList)(e:x=.tmp t):t ∈ Gj ops o:=by
 subst e;unfold Gj;rw [bU];right;rw [List.mem_filterMap];exact⟨_,hx,rfl⟩
structure ZW (ops:Array Oper)(x y:Oper):Prop where
 xy:∀ d,x.dst=some d->d ∉ Gj ops y
 yx:∀ d,y.dst=some d->d ∉ Gj ops x
 ne:∀ d e,x.dst=some d->y.dst=some e->d≠e
theorem Qjb {x y:Oper}(h:Qkk ops x y=true):ZW ops x y:=by
 simp only [Qkk,cG] at h;obtain⟨⟨h1,h2⟩,h3⟩:=h;refine⟨fun d e hm=>?_,fun d e hm=>?_,fun d e hd he=>?_⟩
 ·rw [e] at h1;simp only [Qii] at h1;rw [Ys.2 hm] at h1;simp at h1
 ·rw [e] at h2;simp only [Qii] at h2;rw [Ys.2 hm] at h2;simp at h2
 ·rw [hd,he] at h3;simp only [QpT,gO] at h3;exact d7 h3
theorem Wp {st:St}{dst:Option Nat}{g:Option (Nat × Bool)}{x:SV}:dst=none/\Qm st dst g x=st\/∃ d,dst=some d/\Agr d st (Qm st dst g x):=by
 cases dst with
 | none=>exact .inl ⟨rfl,rfl⟩
 | some d=>exact .inr ⟨d,rfl,QnO⟩
theorem NW {x y:Oper}(A:ZW ops x y)(W:WF st){gx gy:Option (Nat × Bool)}(hy:gdO ops y=some gy)(hc:Yc st x.dst gx){v:SV}{h:Hp} :
  (okG (Qm st x.dst gx v) gy↔okG st gy)/\(∀ u,VS P gy y (Qm st x.dst gx v) h u↔VS P gy y st h u)/\(∀ i u fl,Z1 P y (chG (Qm st x.dst gx v) gy) (GG (Qm st x.dst gx v) gy) (Qm st x.dst gx v) i u fl=Z1 P y (chG st gy) (GG st gy) st i u fl)/\coG (Qm st x.dst gx v) gy=coG st gy/\chG (Qm st x.dst gx v) gy=chG st gy:=by
 rcases Wp (st:=st) (dst:=x.dst) (g:=gx) (x:=v) with ⟨_,e⟩|⟨d,hd,AG⟩
 ·rw [e];exact⟨dY,fun _=>dY,fun _ _ _=>rfl,rfl,rfl⟩
 ·have hg:=(hc d hd).2.1;have hs:∀ s p,gy=some (s,p)->s≠d:=fun s p e he=>A.xy d hd (he▸Vu hy e)
  have ho:∀ z ∈ y.op.operands.toList,z≠.tmp d:=fun z hz he=>A.xy d hd (Q4 hz he)
  refine⟨by rw [AG.okG W hg hs],fun u=>?_,fun i u fl=>?_,AG.coG W hg hs,AG.chG W hg hs⟩
  ·unfold VS;rw [AG.chG W hg hs,AG.vd ho,AG.GG W hg hs]
  ·unfold Z1;rw [AG.chG W hg hs,AG.vd ho,AG.boxR ho,AG.GG W hg hs]
theorem YK {x y:Oper}(A:ZW ops x y){gx gy:Option (Nat × Bool)}(hx:gdO ops x=some gx)(hy:gdO ops y=some gy){v:SV}(h1:Yc st x.dst gx):Yc (Qm st x.dst gx v) y.dst gy↔Yc st y.dst gy:=by
 constructor
 ·intro h d hd;obtain⟨a,b,c⟩:=h d hd;cases hxd:x.dst with
  | none=>rw [hxd] at a b;exact⟨a,b,c⟩
  | some e=>
   rw [hxd] at a b;cases gx with
   | none=>exact⟨a,b,c⟩
   | some q=>
    obtain⟨s,p⟩:=q;simp only [Qm] at a b;refine⟨a,?_,c⟩
    cases hq:Nat.beq d s with
    | true=>rw [hq] at b;simp at b
    | false=>rw [hq] at b;exact b
 ·intro h d hd;obtain⟨a,b,c⟩:=h d hd;cases hxd:x.dst with
  | none=>exact⟨a,b,c⟩
  | some e=>
   cases gx with
   | none=>exact⟨a,b,c⟩
   | some q=>
    obtain⟨s,p⟩:=q;refine⟨a,?_,c⟩
    have:d≠s:=fun he=>A.yx d hd (he▸Vu hx rfl)
    simp only [Qm,QeS this,dM];exact b
theorem Xl {x y:Oper}(A:ZW ops x y){gx gy:Option (Nat × Bool)}{u v:SV}:Qm (Qm st x.dst gx u) y.dst gy v=Qm (Qm st y.dst gy v) x.dst gx u:=by
 cases hx:x.dst with
 | none=>rfl
 | some d=>
  cases hy:y.dst with
  | none=>rfl
  | some e=>
   have hne:=A.ne d e hx hy;have ht:∀(a b:Sl)(i:Nat),(bif Nat.beq i e then a else bif Nat.beq i d then b else st.t i)=bif Nat.beq i d then b else bif Nat.beq i e then a else st.t i:=by
    intro a b i;cases h1:Nat.beq i e with
    | true=>
     have:=cT h1;have h2:Nat.beq i d=false:=QeS (fun h=>hne (h.symm.trans this))
     simp [h2]
    | false=>simp
   have hgg:∀(s s' k:Nat),(bif Nat.beq k s then true else bif Nat.beq k s' then true else st.g k)=bif Nat.beq k s' then true else bif Nat.beq k s then true else st.g k:=by intro s s' k;cases Nat.beq k s<;>cases Nat.beq k s'<;>rfl
   cases gx with
   | none=>cases gy with
    | none=>simp only [Qm];congr 1;funext i;exact ht _ _ i
    | some q=>simp only [Qm];congr 1;funext i;exact ht _ _ i
   | some q=>cases gy with
    | none=>simp only [Qm];congr 1;funext i;exact ht _ _ i
    | some q'=>simp only [Qm];(congr 1;(funext i;exact ht _ _ i);(funext k;exact hgg _ _ k))
theorem Hp.le_set' {h:Hp}{b:Nat}(hb:h b=none)(ob:Obj):h.le (h.set b ob):=fun i p hp=>by
 have:i≠b:=fun e=>by rw [e,hb] at hp;cases hp
 simp [Hp.set,this,hp]
theorem Ym {st:St}{dst:Option Nat}{g:Option (Nat × Bool)}{x:SV}:(Qm st dst g x).b=st.b:=by
 cases dst with
 | none=>rfl
 | some d=>cases g<;>rfl
theorem Ms {st:St}{dst:Option Nat}{g:Option (Nat × Bool)}{x:SV}{b:List Box}:(⟨(Qm st dst g x).n,(Qm st dst g x).t,(Qm st dst g x).g,b⟩:St)=Qm ⟨st.n,st.t,st.g,b⟩ dst g x:=by
 cases dst with
 | none=>rfl
 | some d=>cases g<;>rfl
theorem Yt {o:Oper}{i:Nat}{h:Hp}{fl:List Fg}{K:List Fg->St->Prop}:KR P ops i o st h fl K↔∃ g,gdO ops o=some g/\okG st g/\Yc st o.dst g/\∃ sv,VS P g o st h sv/\K (Z1 P o (chG st g) (GG st g) st i sv fl) (Qm st o.dst g sv):=by
 unfold KR gdO;cases hg:o.guard with
 | none=>
  simp only [bH,gU,okG,jL];constructor
  ·intro H;obtain⟨sv,h1,h2⟩:=VD.pick (show (QY P o [] st).sem P (fun p=>p) h _ from H)
   rw [Zl] at h2;exact⟨h2.1,sv,h1,h2.2⟩
  ·rintro⟨h1,sv,h2,h3⟩;exact VD.mono (fun _ b o hb=>hb) (fun p q f=>f) (fun x hx=>by rw [hx];exact Zl.2 ⟨h1,h3⟩) h2
 | some q=>
  obtain⟨j,p⟩:=q;simp only;cases hj:(ops[j]?).bind (·.dst) with
  | none=>simp
  | some s=>
   simp only [fD,bH,gU,okG];cases hok:okGd st 8 s with
   | false=>simp
   | true=>
    simp only [cX,jL];constructor
    ·intro H;obtain⟨sv,h1,h2⟩:=VD.pick (show (QY P o (chain st 8 s p) st).sem P (fun q=>condP st 8 s p->q) h _ from H)
     rw [Zl] at h2;exact⟨h2.1,sv,h1,h2.2⟩
    ·rintro⟨h1,sv,h2,h3⟩;exact VD.mono (fun _ b o hb=>hb) (fun p q f g c=>f (g c)) (fun x hx=>by rw [hx];exact Zl.2 ⟨h1,h3⟩) h2
theorem QkD {j i:Oper}{nj:Nat}(A:ZW ops j i)(W:WF st)(hi:isE P i.op=false){h:Hp}{fl:List Fg}{F:List Fg->St->Prop}
  (H:KR P ops nj j st h fl fun fl' s=>QG P cfg ops i s h fun s2 _=>F fl' s2):QG P cfg ops i st h fun s _=>KR P ops nj j s h fl fun fl' s2=>F fl' s2:=by
 obtain⟨gj,hgj,okj,pj,svj,vj,H⟩:=Yt.1 H;obtain⟨gi,hgi,oki,pi,svi,vi,H⟩:=(XY hi).1 H;obtain⟨e1,e2,_,_,_⟩:=NW (P:=P) A W hgi pj (v:=svj) (h:=h);have pi':=(YK A hgj hgi pj).1 pi;have A':ZW ops i j:=⟨A.yx,A.xy,fun d e hd he=>(A.ne e d he hd).symm⟩
 obtain⟨f1,f2,f3,_,_⟩:=NW (P:=P) A' W hgj pi' (v:=svi) (h:=h);refine(XY hi).2 ⟨gi,hgi,e1.1 oki,pi',svi,(e2 _).1 vi,?_⟩
 refine Yt.2 ⟨gj,hgj,f1.2 okj,(YK A' hgi hgj pi').2 pj,svj,(f2 _).2 vj,?_⟩
 rw [Xl A',f3];exact H
theorem VD.again_sem {G:Prop->Prop}{h h':Hp}{u:SV}{v:VD}(H:v.sem P G h fun y=>y=u)(ha:v.hr=true->v.again P G h' u):v.sem P G h' fun y=>y=u:=by
 cases v with
 | rd m s=>exact Ml (fun x hx=>⟨by have:=ha rfl;rw [hx.2];exact this,hx.2⟩) H
 | ldA b o n l=>exact XS (fun x hx=>⟨by have:=ha rfl;rw [<-hx.2] at this;exact this,hx.2⟩) H
 | ld1 b o s=>exact XJ (fun x hx=>⟨by have:=ha rfl;rw [<-hx.2] at this;exact this,hx.2⟩) H
 | _=>exact H
theorem Qps {o:Oper}{g:Option (Nat × Bool)}{h h':Hp}{u:SV}{n:Nat}{t:Nat->Sl}{gg:Nat->Bool}{b b':List Box}
  (hb:∀ k x,boxR o ⟨n,t,gg,b⟩ (chG ⟨n,t,gg,b⟩ g)=some k->b[k]?=some x->b'[k]?=some x)
  (hh:(QY P o (chG ⟨n,t,gg,b⟩ g) ⟨n,t,gg,b⟩).hr=true->(QY P o (chG ⟨n,t,gg,b⟩ g) ⟨n,t,gg,b⟩).again P (GG ⟨n,t,gg,b⟩ g) h' u) (H:VS P g o ⟨n,t,gg,b⟩ h u) :
  VS P g o ⟨n,t,gg,b'⟩ h' u/\∀ i sv fl,Z1 P o (chG ⟨n,t,gg,b'⟩ g) (GG ⟨n,t,gg,b'⟩ g) ⟨n,t,gg,b'⟩ i sv fl=Z1 P o (chG ⟨n,t,gg,b⟩ g) (GG ⟨n,t,gg,b⟩ g) ⟨n,t,gg,b⟩ i sv fl:=by
 have ec:∀(k s:Nat)(p:Bool),chain ⟨n,t,gg,b'⟩ k s p=chain ⟨n,t,gg,b⟩ k s p:=by
  intro k;induction k with
  | zero=>intro s p;rfl
  | succ k ih=>intro s p;simp only [chain];cases t s<;>simp [ih]
 have ecG:chG ⟨n,t,gg,b'⟩ g=chG ⟨n,t,gg,b⟩ g:=by cases g<;>simp [chG,ec]
 have eco:∀(k s:Nat)(p:Bool),condP ⟨n,t,gg,b'⟩ k s p=condP ⟨n,t,gg,b⟩ k s p:=by
  intro k;induction k with
  | zero=>intro s p;rfl
  | succ k ih=>intro s p;simp only [condP];split<;>first|rfl|rw [ih]
 have eGG:GG ⟨n,t,gg,b'⟩ g=GG ⟨n,t,gg,b⟩ g:=by cases g<;>funext p<;>simp [GG,eco]
 have hev:∀ ch x,(⟨n,t,gg,b'⟩:St).ev ch x=(⟨n,t,gg,b⟩:St).ev ch x:=fun ch x=>rfl
 have ebx:∀ ch,boxR o ⟨n,t,gg,b'⟩ ch=boxR o ⟨n,t,gg,b⟩ ch:=fun ch=>rfl
 have evd:QY P o (chG ⟨n,t,gg,b⟩ g) ⟨n,t,gg,b'⟩=QY P o (chG ⟨n,t,gg,b⟩ g) ⟨n,t,gg,b⟩:=by
  have hparts:∀ ch l,partsL ⟨n,t,gg,b'⟩ ch l=partsL ⟨n,t,gg,b⟩ ch l:=by
   intro ch l;induction l with
   | nil=>rfl
   | cons q l ih=>obtain⟨i,x⟩:=q;simp only [partsL,hev,ih]
  have hevs:∀ ch l,(⟨n,t,gg,b'⟩:St).evs ch l=(⟨n,t,gg,b⟩:St).evs ch l:=by
   intro ch l;induction l with
   | nil=>rfl
   | cons q l ih=>simp only [St.evs,hev,ih]
  obtain⟨dst,op,ty,pos,af,gd⟩:=o;cases op with
  | load T x=>
   unfold VS at H;simp only [boxR] at hb;simp only [QY] at H ⊢;rw [hev];split
   ·rename_i i o' e1;rw [e1] at H hb;simp only at H;rcases hbi:b[i]? with _|bx
    ·rw [hbi] at H;exact H.elim
    ·rw [hb i bx rfl hbi]
   ·rfl
   ·rfl
  | build T ps=>simp only [QY,hparts]
  | makeFunc fn l1 l2=>simp only [QY,hevs]
  | call c=>
   obtain⟨callee,args,ts⟩:=c;cases callee with
   | builtin bb=>cases bb<;>first|rfl|simp only [QY,hevs]|simp only [QY,hev]
   | _=>rfl
  | _=>rfl
 refine⟨?_,fun i sv fl=>?_⟩
 ·unfold VS at *
  rw [ecG,eGG,evd];exact VD.again_sem H hh
 ·unfold Z1;rw [ecG,eGG,evd,ebx]
theorem Qpe {st:St}{b':List Box}{g:Option (Nat × Bool)}:okG ⟨st.n,st.t,st.g,b'⟩ g↔okG st g:=by
 have:∀ k s,okGd ⟨st.n,st.t,st.g,b'⟩ k s=okGd st k s:=by
  intro k;induction k with
  | zero=>intro s;rfl
  | succ k ih=>intro s;simp only [okGd];split<;>simp_all
 cases g<;>simp [okG,this]
theorem Yd {m:Nat}{b b':List Box}{h':Hp}{K K':Prop}(hk:K->K'):∀{fl:List Fg},agn m b b' h' fl K->agn m b b' h' fl K'
 | [],H=>hk H
 | f :: l,H=>by
  unfold agn at *
  cases hb:bit m f.j with
  | true=>rw [hb] at H;exact Yd hk H
  | false=>
   rw [hb] at H;simp only [dM] at *
   cases hs:WC b b' f.bx with
   | false=>rw [hs] at H;exact H.elim
   | true=>
    rw [hs] at H;simp only [cX] at *
    cases hp:f.p with
    | none=>rw [hp] at H;exact Yd hk H
    | some p=>rw [hp] at H;exact⟨H.1,Yd hk H.2⟩
theorem NK {m:Nat}{b b':List Box}{h':Hp}{K:Prop}:∀{fl:List Fg},agn m b b' h' fl K->K
 | [],H=>H
 | f :: l,H=>by
  unfold agn at H;cases hb:bit m f.j with
  | true=>rw [hb] at H;exact NK H
  | false=>
   rw [hb] at H;simp only [dM] at H;cases hs:WC b b' f.bx with
   | false=>rw [hs] at H;exact H.elim
   | true=>
    rw [hs] at H;simp only [cX] at H;cases hp:f.p with
    | none=>rw [hp] at H;exact NK H
    | some p=>rw [hp] at H;exact NK H.2
theorem Qjx {m i:Nat}{b b':List Box}{h':Hp}{K:Prop}{fl:List Fg}{o:Oper}{ch:List (Nat × Bool)}{G:Prop->Prop}{sv:SV}(hb:bit m i=false)(H:agn m b b' h' (Z1 P o ch G st i sv fl) K) :
  (∀ k,boxR o st ch=some k->WC b b' (some k)=true)/\((QY P o ch st).hr=true->(QY P o ch st).again P G h' sv)/\agn m b b' h' fl K:=by
 unfold Z1 at H;cases h1:(QY P o ch st).hr with
 | false=>
  cases h2:boxR o st ch with
  | none=>rw [h1,h2] at H;exact⟨fun k e=>by (cases e),fun e=>by (cases e),H⟩
  | some k=>
   rw [h1,h2] at H;unfold agn at H;simp only [hb,dM] at H;cases hs:WC b b' (some k) with
   | false=>rw [hs] at H;exact H.elim
   | true=>rw [hs] at H;exact⟨fun k' e=>by (cases e;exact hs),fun e=>by (cases e),H⟩
 | true=>
  rw [h1] at H;unfold agn at H;simp only [hb,dM] at H;cases hs:WC b b' (boxR o st ch) with
  | false=>rw [hs] at H;exact H.elim
  | true=>rw [hs] at H;exact⟨fun k' e=>by rw [<-e];exact hs,fun _=>H.1,H.2⟩
theorem Qdb {b b':List Box}{k:Nat}{x:Box}(hs:WC b b' (some k)=true)(hm:Qs b b')(hx:b[k]?=some x):b'[k]?=some x:=by
 obtain⟨y,h1,_,_,h2⟩:=hm k x hx;simp only [WC,hx,h1] at hs;have:=cT hs;rw [h1,h2 this.symm]
theorem QnK {j e:Oper}{nj:Nat}(A:ZW ops e j)(W:WF st){gj ge:Option (Nat × Bool)}(hgj:gdO ops j=some gj)(okj:okG st gj)(pj:Yc st j.dst gj){h h2:Hp}{svj:SV}(vj:VS P gj j st h svj)(hge:gdO ops e=some ge)
  {q:Option (Nat × Bool)} {b:List Box} {sv:SV} (hqq:q=none\/q=ge) (hbx:∀ k x,boxR j st (chG st gj)=some k->st.b[k]?=some x->b[k]?=some x)
  (hag:(QY P j (chG st gj) st).hr=true->(QY P j (chG st gj) st).again P (GG st gj) h2 svj) (hpe:Yc st e.dst q) {fl:List Fg} {F:List Fg->St->Prop}
  (hF:F (Z1 P j (chG st gj) (GG st gj) st nj svj fl) (Qm ⟨(Qm st j.dst gj svj).n,(Qm st j.dst gj svj).t,(Qm st j.dst gj svj).g,b⟩ e.dst q sv)) :
  KR P ops nj j (Qm ⟨st.n,st.t,st.g,b⟩ e.dst q sv) h2 fl F:=by
 have hpe':Yc ⟨st.n,st.t,st.g,b⟩ e.dst q:=hpe;obtain⟨m1,m2⟩:=Qps (P:=P) (g:=gj) (o:=j) (n:=st.n) (t:=st.t) (gg:=st.g) (b:=st.b) (b':=b) (h:=h) (h':=h2) hbx hag vj;obtain⟨k1,k2,k3,_,_⟩:=NW (P:=P) (st:=⟨st.n,st.t,st.g,b⟩) A W hgj hpe' (v:=sv) (h:=h2);refine Yt.2 ⟨gj,hgj,k1.2 (Qpe.2 okj),?_,svj,(k2 _).2 m1,?_⟩
 ·intro d hd;obtain⟨a1,a2,a3⟩:=pj d hd;refine⟨?_,?_,a3⟩
  ·cases hed:e.dst<;>(try cases q)<;>exact a1
  ·cases hed:e.dst with
   | none=>exact a2
   | some de=>
    cases q with
    | none=>exact a2
    | some sp=>
     obtain⟨s,p⟩:=sp;have hq2:ge=some (s,p):=by
      rcases hqq with h9|h9
      ·cases h9
      ·exact h9.symm
     have hs:d≠s:=fun he=>A.yx d hd (he▸Vu hge hq2)
     have hb9:Nat.beq d s=false:=QeS hs;simp only [Qm];rw [hb9];exact a2
 ·rw [k3,m2];rw [Ms] at hF;have hc:=Xl (st:=⟨st.n,st.t,st.g,b⟩) A (gx:=q) (gy:=gj) (u:=sv) (v:=svj);rw [hc];exact hF
theorem XH {j:Oper}{gj:Option (Nat × Bool)}{svj:SV}{e:Oper}{q:Option (Nat × Bool)}{b:List Box}(hp:Yc ⟨(Qm st j.dst gj svj).n,(Qm st j.dst gj svj).t,(Qm st j.dst gj svj).g,b⟩ e.dst q):Yc st e.dst q:=by
 intro d hd;obtain⟨a1,a2,a3⟩:=hp d hd;refine⟨?_,?_,a3⟩
 ·cases hjd:j.dst<;>rw [hjd] at a1<;>(try cases gj)<;>exact a1
 ·cases hjd:j.dst with
  | none=>rw [hjd] at a2;exact a2
  | some dj=>
   rw [hjd] at a2;cases gj with
   | none=>exact a2
   | some q=>
    obtain⟨s,p⟩:=q;simp only [Qm] at a2;cases hq:Nat.beq d s with
    | true=>rw [hq] at a2;simp at a2
    | false=>rw [hq] at a2;exact a2
inductive AD where
 | no|pub (f:Nat->SV) (ob:Obj)|prv (sv:SV) (bx:Box)
def AD.sem (bs:List Box)(h:Hp)(K:SV->List Box->Hp->Prop):AD->Prop
 | .no=>False
 | .pub f ob=>∀ b,h b=none->K (f b) bs (h.set b ob)
 | .prv sv bx=>K sv (bs++[bx]) h
theorem QbH {o:Oper}{st:St}{ty:TypeId}{cs:List TV}:∃ D:AD,∀ h K,newBox cfg o st h ty cs K↔D.sem st.b h K:=by
 unfold newBox;cases QC cs with
 | false=>exact⟨.no,fun h K=>dY⟩
 | true=>
  cases Qbh cfg o.dst with
  | false=>exact⟨.prv _ _,fun h K=>dY⟩
  | true=>exact⟨.pub (fun b=>.t (.one (.hp b 0))) _,fun h K=>dY⟩
theorem QiO {o:Oper}{ch:List (Nat × Bool)}{st:St}(hA:isA o.op=true):∃ D:AD,∀ h K,vcE P cfg o ch st h K↔D.sem st.b h K:=by
 obtain⟨dst,op,ty,pos,af,gd⟩:=o;cases op with
 | alloc T=>
  simp only [vcE];split
  ·exact QbH
  ·exact⟨.no,fun h K=>dY⟩
 | box T x=>
  simp only [vcE];split
  ·exact QbH
  ·exact⟨.no,fun h K=>dY⟩
 | buildSlice T n parts=>
  simp only [vcE];split
  ·rename_i e ps hu hp;split
   ·rename_i z hz;rcases dC (Nat.ble 1 (szT P e)&&Nat.beq z.length (szT P e)&&Nat.ble (n*szT P e) 4096) with hc|hc
    ·rw [hc];simp only [cX];split
     ·rename_i cs _;rcases dC (QC cs) with ho|ho
      ·rw [ho];exact⟨.pub (fun b=>.t (.one (.v (.slice (some ⟨b,0,none⟩) n n)))) _,fun h K=>dY⟩
      ·rw [ho];exact⟨.no,fun h K=>dY⟩
     ·exact⟨.no,fun h K=>dY⟩
    ·rw [hc];exact⟨.no,fun h K=>dY⟩
   ·exact⟨.no,fun h K=>dY⟩
  ·exact⟨.no,fun h K=>dY⟩
 | _=>cases hA
theorem Qg2 {o:Oper}{ch:List (Nat × Bool)}{st:St}{h:Hp}{K:SV->List Box->Hp->Prop}(hA:isA o.op=true)(H:vcE P cfg o ch st h K):vcE P cfg o ch st h fun sv b h2=>(h.le h2/\∀(k:Nat)(x:Box),st.b[k]?=some x->b[k]?=some x)/\K sv b h2:=by
 obtain⟨D,hD⟩:=QiO (P:=P) (cfg:=cfg) (ch:=ch) (st:=st) hA;rw [hD] at H ⊢;cases D with
 | no=>exact H
 | pub f ob=>
  intro b hb;refine⟨⟨fun i p hp=>?_,fun _ _ e=>e⟩,H b hb⟩
  have:i≠b:=fun e=>by rw [e,hb] at hp;cases hp
  simp [Hp.set,this,hp]
 | prv sv bx=>
  refine⟨⟨fun _ _ e=>e,fun k x e=>?_⟩,H⟩
  rw [dO (bG.1 e).1]
  exact e
theorem Qko {j e:Oper}{nj:Nat}(A:ZW ops j e)(W:WF st)(he:isE P e.op=true){h:Hp}{fl:List Fg}{X:List Fg->St->St->Hp->Prop}{F:List Fg->St->Hp->Prop}{Z:St->Hp->Prop->Prop}
  (hZ:∀ s h2 {p q:Prop},(p->q)->Z s h2 p->Z s h2 q)
  (hX:∀ gj svj s2 h2,(h.le h2/\(∀(k:Nat)(x:Box),st.b[k]?=some x->s2.b[k]?=some x)\/isA e.op=false/\Qs st.b s2.b)->X (Z1 P j (chG st gj) (GG st gj) st nj svj fl) (Qm st j.dst gj svj) s2 h2->VS P gj j st h svj->(∀(k:Nat)(x:Box),boxR j st (chG st gj)=some k->st.b[k]?=some x->s2.b[k]?=some x) /\
   ((QY P j (chG st gj) st).hr=true->(QY P j (chG st gj) st).again P (GG st gj) h2 svj)/\∀ s,s.b=s2.b->Z s h2 (F (Z1 P j (chG st gj) (GG st gj) st nj svj fl) s2 h2))
  (H:KR P ops nj j st h fl fun fl' s=>QG P cfg ops e s h fun s2 h2=>X fl' s s2 h2) :
  QG P cfg ops e st h fun s h2=>Z s h2 (KR P ops nj j s h2 fl fun fl' s2=>F fl' s2 h2):=by
 obtain⟨gj,hgj,okj,pj,svj,vj,H⟩:=Yt.1 H;obtain⟨ge,hge,oke,H1,H2⟩:=(Vv he).1 H;obtain⟨e1,_,_,e4,e5⟩:=NW (P:=P) A W hge pj (v:=svj) (h:=h);have A':ZW ops e j:=⟨A.yx,A.xy,fun d e' hd he=>(A.ne e' d he hd).symm⟩
 have hbb:(Qm st j.dst gj svj).b=st.b:=Ym;have fin:∀ q b h2 sv,(q=none\/q=ge)->(h.le h2/\(∀(k:Nat)(x:Box),st.b[k]?=some x->b[k]?=some x)\/isA e.op=false/\Qs st.b b)->Yc st e.dst q ->
   X (Z1 P j (chG st gj) (GG st gj) st nj svj fl) (Qm st j.dst gj svj) (Qm ⟨(Qm st j.dst gj svj).n,(Qm st j.dst gj svj).t,(Qm st j.dst gj svj).g,b⟩ e.dst q sv) h2 ->
   Z (Qm ⟨st.n,st.t,st.g,b⟩ e.dst q sv) h2 (KR P ops nj j (Qm ⟨st.n,st.t,st.g,b⟩ e.dst q sv) h2 fl fun fl' s2=>F fl' s2 h2):=by
  intro q b h2 sv hqq hbx hpe hx;have hb2:(Qm ⟨(Qm st j.dst gj svj).n,(Qm st j.dst gj svj).t,(Qm st j.dst gj svj).g,b⟩ e.dst q sv).b=b:=Ym;obtain⟨y1,y2,y3⟩:=hX gj svj _ h2 (by rw [hb2];exact hbx) hx vj
  rw [hb2] at y1;exact hZ _ _ (fun hF=>QnK A' W hgj okj pj vj hge hqq y1 y2 hpe hF) (y3 _ (by rw [hb2];exact Ym))
 refine(Vv he).2 ⟨ge,hge,e1.1 oke,fun hc=>?_,fun hc=>?_⟩
 ·have:=H1 (by rw [e4];exact hc)
  rw [e5] at this;have this2:vcE P cfg e (chG st ge) (Qm st j.dst gj svj) h fun sv b h2=>(h.le h2/\(∀(k:Nat)(x:Box),st.b[k]?=some x->b[k]?=some x)\/isA e.op=false/\Qs st.b b) /\
    (Yc ⟨(Qm st j.dst gj svj).n,(Qm st j.dst gj svj).t,(Qm st j.dst gj svj).g,b⟩ e.dst (pgO e ge)/\X (Z1 P j (chG st gj) (GG st gj) st nj svj fl) (Qm st j.dst gj svj) (Qm ⟨(Qm st j.dst gj svj).n,(Qm st j.dst gj svj).t,(Qm st j.dst gj svj).g,b⟩ e.dst (pgO e ge) sv) h2):=by
   cases hAe:isA e.op with
   | true=>
    refine Wz ?_ (Qg2 hAe this)
    rintro sv b h2 _ ⟨⟨q1,q2⟩,q3⟩;rw [hbb] at q2;exact⟨.inl ⟨q1,q2⟩,q3⟩
   | false=>
    refine Wz ?_ this
    intro sv b h2 hbm q3;rw [hbb] at hbm;exact⟨.inr ⟨rfl,hbm⟩,q3⟩
  have hloc:∀ K,vcE P cfg e (chG st ge) (Qm st j.dst gj svj) h K=vcE P cfg e (chG st ge) st h K:=by
   intro K;rcases Wp (st:=st) (dst:=j.dst) (g:=gj) (x:=svj) with ⟨_,eq⟩|⟨d,hd,AG⟩
   ·rw [eq]
   ·exact AG.vcE (fun z hz hze=>A.xy d hd (Q4 hz hze))
  rw [hloc] at this2;refine Wz ?_ this2
  rintro sv b h2 _ ⟨q0,q1,q2⟩;exact⟨XH (st:=st) (j:=j) (gj:=gj) (svj:=svj) (b:=b) q1,fin _ b h2 sv (Qnu e ge) q0 (XH (st:=st) (j:=j) (gj:=gj) (svj:=svj) (b:=b) q1) q2⟩
 ·obtain⟨q1,q2⟩:=H2 (by rw [e4];exact hc)
  have hpe:=XH (st:=st) (j:=j) (gj:=gj) (svj:=svj) (b:=(Qm st j.dst gj svj).b) q1;refine⟨hpe,fin ge st.b h (dfl (shp P e.type)) (.inr rfl) (.inl ⟨fun _ _ e=>e,fun _ _ e=>e⟩) hpe ?_⟩
  have:(⟨(Qm st j.dst gj svj).n,(Qm st j.dst gj svj).t,(Qm st j.dst gj svj).g,st.b⟩:St)=Qm st j.dst gj svj:=by rw [<-hbb]
  rw [this];exact q2
end
section
variable {P:Program}{cfg:Cfg}{ops:Array Oper}{ms:List Nat}
theorem Qfo {o:Oper}{l:List Oper}{i:Nat}(hi:i ∈ Yr l):i ∈ Yr (o :: l):=by
 simp only [Yr];cases o.dst<;>simp [hi]
theorem JH {o:Oper}{st:St}{h:Hp}{K K':St->Hp->Prop}(hE:isE P o.op=false)(W:WF st)(H:QG P cfg ops o st h K)(hk:∀ s,WF s->K s h->K' s h):QG P cfg ops o st h K':=by
 obtain⟨g,h1,h2,h3,sv,h4,h5⟩:=(XY hE).1 H;exact(XY hE).2 ⟨g,h1,h2,h3,sv,h4,hk _ (U3 W) h5⟩
theorem Qae {o:Oper}{st:St}{h:Hp}{K K':St->Hp->Prop}(hE:isE P o.op=true)(H:QG P cfg ops o st h K)(hk:∀ s h',K s h'->K' s h'):QG P cfg ops o st h K':=by
 obtain⟨g,h1,h2,h3,h4⟩:=(Vv hE).1 H;exact(Vv hE).2 ⟨g,h1,h2,fun c=>Wz (fun sv b h' _ hb=>⟨hb.1,hk _ _ hb.2⟩) (h3 c),fun c=>⟨(h4 c).1,hk _ _ (h4 c).2⟩⟩
theorem ZZ {o:Oper}{st:St}{h:Hp}{K K':St->Hp->Prop}(H:QG P cfg ops o st h K)(hk:∀ s h',K s h'->K' s h'):QG P cfg ops o st h K':=by
 cases hE:isE P o.op with
 | true=>exact Qae hE H hk
 | false=>
  obtain⟨g,h1,h2,h3,sv,h4,h5⟩:=(XY hE).1 H;exact(XY hE).2 ⟨g,h1,h2,h3,sv,h4,hk _ _ h5⟩
def rk (a:Bool)(m:Nat)(b b':List Box)(h':Hp)(fl:List Fg)(K:Prop):Prop:=bif a then K else agn m b b' h' fl K
theorem Qdz {a:Bool}{m:Nat}{b b':List Box}{h':Hp}{fl:List Fg}{K K':Prop}(hk:K->K')(H:rk a m b b' h' fl K):rk a m b b' h' fl K':=by
 cases a with
 | true=>exact hk H
 | false=>exact Yd hk H
theorem QqG {a:Bool}{m:Nat}{b b':List Box}{h':Hp}{fl:List Fg}{K:Prop}(H:rk a m b b' h' fl K):K:=by
 cases a with
 | true=>exact H
 | false=>exact NK H
theorem UM {i:Nat}{o:Oper}(ho:ops[i]?=some o)(hE:isE P o.op=true){l:List Nat}{fl:List Fg}{st:St}{h:Hp}{K:St->Hp->Prop} :
  vcD P cfg ops ms (i :: l) fl st h K↔QG P cfg ops o st h fun s h'=>rk (isA o.op) (ms.getD i 0) st.b s.b h' fl (vcD P cfg ops ms l fl s h' K):=by
 simp only [vcD,ho,hE,cX];cases isA o.op<;>exact dY
theorem UV {i:Nat}{o:Oper}(ho:ops[i]?=some o)(hE:isE P o.op=false){l:List Nat}{fl:List Fg}{st:St}{h:Hp}{K:St->Hp->Prop} :
  vcD P cfg ops ms (i :: l) fl st h K↔KR P ops i o st h fl fun fl' s=>vcD P cfg ops ms l fl' s h K:=by
 simp only [vcD,ho,hE,dM]
theorem Ve {o:Oper}{i:Nat}{st:St}{h:Hp}{fl fl2:List Fg}{K K':List Fg->St->Prop}(W:WF st)(hk:∀ g sv s,WF s->K (Z1 P o (chG st g) (GG st g) st i sv fl) s->K' (Z1 P o (chG st g) (GG st g) st i sv fl2) s)(H:KR P ops i o st h fl K):KR P ops i o st h fl2 K':=by
 obtain⟨g,h1,h2,h3,sv,h4,h5⟩:=Yt.1 H;exact Yt.2 ⟨g,h1,h2,h3,sv,h4,hk g sv _ (U3 W) h5⟩
theorem Qlg {m:Nat}{b b':List Box}{h':Hp}{K:Prop}{fl fl':List Fg}(hs:fl.Sublist fl'):agn m b b' h' fl' K->agn m b b' h' fl K:=by
 induction hs with
 | slnil=>exact fun H=>H
 | cons f hs ih=>
  intro H;unfold agn at H;cases hb:bit m f.j with
  | true=>rw [hb] at H;exact ih H
  | false=>
   rw [hb] at H;simp only [dM] at H;cases hx:WC b b' f.bx with
   | false=>rw [hx] at H;exact H.elim
   | true=>
    rw [hx] at H;simp only [cX] at H;cases hp:f.p with
    | none=>rw [hp] at H;exact ih H
    | some p=>rw [hp] at H;exact ih H.2
 | cons_cons f hs ih=>
  intro H;unfold agn at H ⊢;cases hb:bit m f.j with
  | true=>rw [hb] at H;exact ih H
  | false=>
   rw [hb] at H;simp only [dM] at H ⊢;cases hx:WC b b' f.bx with
   | false=>rw [hx] at H;exact H.elim
   | true=>
    rw [hx] at H;simp only [cX] at H ⊢;cases hp:f.p with
    | none=>rw [hp] at H;exact ih H
    | some p=>rw [hp] at H;exact⟨H.1,ih H.2⟩
theorem Qgu {o:Oper}{ch:List (Nat × Bool)}{G:Prop->Prop}{st:St}{i:Nat}{sv:SV}{fl fl':List Fg}(hs:fl.Sublist fl'):(Z1 P o ch G st i sv fl).Sublist (Z1 P o ch G st i sv fl'):=by
 unfold Z1;split
 ·exact hs
 ·exact hs.cons_cons _
 ·exact hs.cons_cons _
theorem Qfh {o:Oper}{ch:List (Nat × Bool)}{G:Prop->Prop}{st:St}{i:Nat}{sv:SV}{fl:List Fg}:fl.Sublist (Z1 P o ch G st i sv fl):=by
 unfold Z1;split
 ·exact jH _
 ·exact fX _ _
 ·exact fX _ _
theorem Qd4 {o:Oper}{i:Nat}{st:St}{h:Hp}{fl fl2:List Fg}{K K':List Fg->St->Prop}(hk:∀ g sv s,K (Z1 P o (chG st g) (GG st g) st i sv fl) s->K' (Z1 P o (chG st g) (GG st g) st i sv fl2) s)(H:KR P ops i o st h fl K):KR P ops i o st h fl2 K':=by
 obtain⟨g,h1,h2,h3,sv,h4,h5⟩:=Yt.1 H;exact Yt.2 ⟨g,h1,h2,h3,sv,h4,hk g sv _ h5⟩
theorem U2:∀(l:List Nat) {fl fl':List Fg} {st:St} {h:Hp} {K:St->Hp->Prop},fl'.Sublist fl->vcD P cfg ops ms l fl st h K->vcD P cfg ops ms l fl' st h K
 | [],fl,fl',st,h,K,_,H=>H
 | i :: l,fl,fl',st,h,K,hf,H=>by
  cases ho:ops[i]? with
  | none=>simp [vcD,ho] at H
  | some o=>
   cases hE:isE P o.op with
   | true=>
    rw [UM ho hE] at H ⊢;refine ZZ H fun s h' hk=>?_
    cases hA:isA o.op with
    | true=>rw [hA] at hk;exact U2 l hf hk
    | false=>rw [hA] at hk;exact Qlg hf (Yd (U2 l hf) hk)
   | false=>
    rw [UV ho hE] at H ⊢;exact Qd4 (fun g sv s hk=>U2 l (Qgu hf) hk) H
def AC (x y:Oper):Prop:=isA x.op=true/\x.guard=none/\YS y.op=true/\y.guard=none
def AB (cfg:Cfg)(x y:Oper):Prop:=isB cfg x=true/\x.guard=none/\isB cfg y=true/\y.guard=none
theorem QgS {cfg:Cfg}{x:Oper}(h:isB cfg x=true):isA x.op=true:=by
 unfold isB at h;split at h<;>first|(rename_i e;rw [e];rfl)|cases h
structure PR (ops:Array Oper)(ms:List Nat)(j i:Nat):Prop where
 dep:∀ oj,ops[j]?=some oj->∀ e ∈ oj.after,Region.binds .any e=true->e.on≠i
 un:bit (ms.getD i 0) j=false->∀ oj oi,ops[j]?=some oj->ops[i]?=some oi->((isE P oj.op=false\/AC oi oj)\/AB cfg oi oj)/\ZW ops oi oj
inductive CD where
 | no|call (f:FuncId) (vs:List Value)|ext (f:FuncId) (vs:List Value)|sem (m:Sem Value)|inv (fv:Value) (vs:List Value)
def CD.ask (P:Program)(s:Sh)(h:Hp)(K:ShT):CD->Prop
 | .no=>False
 | .call f vs=>Qa P f vs h fun v h'=>res s v fun x=>K x h'
 | .ext f vs=>Qbk P f vs h fun v h'=>res s v fun x=>K x h'
 | .sem m=>Qh P m h fun v h'=>res s v fun x=>K x h'
 | .inv fv vs=>ZC P fv vs h fun v h'=>res s v fun x=>K x h'
theorem QiS {o:Oper}{ch:List (Nat × Bool)}{st:St}(hC:YS o.op=true):∃ D:CD,∀ b h K,vcE P cfg o ch ⟨st.n,st.t,st.g,b⟩ h K↔D.ask P (shp P o.type) h (fun x h'=>K x b h'):=by
 obtain⟨dst,op,ty,pos,af,gd⟩:=o;have hevs:∀ b l,(⟨st.n,st.t,st.g,b⟩:St).evs ch l=st.evs ch l:=by
  intro b l;induction l with
  | nil=>rfl
  | cons q l ih=>simp only [St.evs,ih];rfl
 have hev:∀ b x,(⟨st.n,st.t,st.g,b⟩:St).ev ch x=st.ev ch x:=fun b x=>rfl
 have none':(∀ b h K,vcE P cfg ⟨dst,op,ty,pos,af,gd⟩ ch ⟨st.n,st.t,st.g,b⟩ h K↔False)->∃ D:CD,∀ b h K,vcE P cfg ⟨dst,op,ty,pos,af,gd⟩ ch ⟨st.n,st.t,st.g,b⟩ h K↔D.ask P (shp P ty) h (fun x h'=>K x b h'):=fun h=>⟨.no,h⟩
 cases op with
 | call c=>
  obtain⟨callee,args,ts⟩:=c;cases callee with
  | invoke r m=>exact none' fun b h K=>dY
  | builtin bb=>
   simp only [vcE,hevs];cases hv:st.evs ch args.toList with
   | none=>exact⟨.no,fun b h K=>dY⟩
   | some vs=>
    cases bb with
    | append=>exact⟨.sem _,fun b h K=>dY⟩
    | copy=>exact⟨.sem _,fun b h K=>dY⟩
    | delete=>exact⟨.sem _,fun b h K=>dY⟩
    | clear=>exact⟨.sem _,fun b h K=>dY⟩
    | _=>exact⟨.no,fun b h K=>dY⟩
  | value f=>
   cases f with
   | func g=>
    simp only [vcE,hevs];cases hv:st.evs ch args.toList with
    | none=>exact⟨.no,fun b h K=>dY⟩
    | some vs=>
     simp only;cases hb:(P.funcs[g]?).map (·.body.isSome) with
     | none=>exact⟨.no,fun b h K=>dY⟩
     | some q=>
      cases q with
      | true=>exact⟨.call g vs,fun b h K=>dY⟩
      | false=>exact⟨.ext g vs,fun b h K=>dY⟩
   | tmp t=>
    simp only [vcE,hevs,hev];cases hv:st.evs ch args.toList with
    | none=>exact⟨.no,fun b h K=>dY⟩
    | some vs=>
     cases hf:(st.ev ch (.tmp t)).val? with
     | none=>exact⟨.no,fun b h K=>dY⟩
     | some fv=>exact⟨.inv fv vs,fun b h K=>dY⟩
   | const v=>exact none' fun b h K=>dY
   | global g=>exact none' fun b h K=>dY
 | _=>cases hC
theorem Kc {h:Hp}{b:Nat}{ob:Obj}{w:World}(hb:h b=none)(hs:Sub (h.set b ob) w):Sub h w:=fun i o ho=>hs i o (by
 have:i≠b:=fun e=>by rw [e,hb] at ho;cases ho
 simp [Hp.set,this,ho])
theorem Jt {h h':Hp}{b:Nat}{ob:Obj}{w w':World}(hb:h b=none)(hs:Sub (h.set b ob) w)(hs':Sub h' w')(F:Fr h h' w w'):h' b=none/\Sub (h'.set b ob) w'/\Fr (h.set b ob) (h'.set b ob) w w':=by
 have h1:w.heap[b]?=some ob:=hs b ob (by simp [Hp.set])
 have hlt:b<w.heap.size:=(bV.1 h1).1
 obtain⟨k1,k2⟩:=F.keep b hlt hb;refine⟨k2,fun i o ho=>?_,F.os,F.tape,F.output,F.size,fun i hi hn=>?_⟩
 ·unfold Hp.set at ho;split at ho
  ·rename_i e;rw [e,k1,h1];exact ho
  ·exact hs' i o ho
 ·unfold Hp.set at hn ⊢;split at hn
  ·cases hn
  ·rename_i hne;rw [bE hne];exact F.keep i hi hn
theorem CD.mono {D:CD}{s:Sh}{h:Hp}{K K':ShT}(hk:∀ x h',K x h'->K' x h')(H:D.ask P s h K):D.ask P s h K':=by
 cases D with
 | no=>exact H
 | call f vs=>exact fun w hs=>(H w hs).mono fun e w' ⟨v,h',h1,h2,h3,h4⟩=>⟨v,h',h1,h2,h3,QL (fun x=>hk x h') h4⟩
 | ext f vs=>exact fun w hs=>let ⟨v,w',h',h1,h2,h3,h4⟩:=H w hs;⟨v,w',h',h1,h2,h3,QL (fun x=>hk x h') h4⟩
 | sem m=>exact fun w hs=>let ⟨v,w',h',h1,h2,h3,h4⟩:=H w hs;⟨v,w',h',h1,h2,h3,QL (fun x=>hk x h') h4⟩
 | inv fv vs=>
  obtain⟨f,pre,post,e,hf,H⟩:=H;exact⟨f,pre,post,e,hf,fun w hs=>(H w hs).mono fun e w' ⟨v,h',h1,h2,h3,h4⟩=>⟨v,h',h1,h2,h3,QL (fun x=>hk x h') h4⟩⟩
theorem CD.frame {D:CD}{s:Sh}{h:Hp}{b:Nat}{ob:Obj}{K:ShT}(hb:h b=none)(H:D.ask P s h K):D.ask P s (h.set b ob) fun x h2=>∃ h',h' b=none/\h2=h'.set b ob/\K x h':=by
 have hc:∀ f vs,(Qa P f vs h fun v h'=>res s v fun x=>K x h')->Qa P f vs (h.set b ob) fun v h2=>res s v fun x=>∃ h',h' b=none/\h2=h'.set b ob/\K x h':=by
  intro f vs H w hs;refine(H w (Kc hb hs)).mono fun e w' ⟨v,h',h1,h2,h3,h4⟩=>?_
  obtain⟨k1,k2,k3⟩:=Jt hb hs h2 h3;exact⟨v,_,h1,k2,k3,QL (fun x hx=>⟨h',k1,rfl,hx⟩) h4⟩
 cases D with
 | no=>exact H
 | call f vs=>exact hc f vs H
 | ext f vs=>
  intro w hs;obtain⟨v,w',h',h1,h2,h3,h4⟩:=H w (Kc hb hs);obtain⟨k1,k2,k3⟩:=Jt hb hs h2 h3;exact⟨v,w',_,h1,k2,k3,QL (fun x hx=>⟨h',k1,rfl,hx⟩) h4⟩
 | sem m=>
  intro w hs;obtain⟨v,w',h',h1,h2,h3,h4⟩:=H w (Kc hb hs);obtain⟨k1,k2,k3⟩:=Jt hb hs h2 h3;exact⟨v,w',_,h1,k2,k3,QL (fun x hx=>⟨h',k1,rfl,hx⟩) h4⟩
 | inv fv vs=>
  obtain⟨f,pre,post,e,hf,H⟩:=H;exact⟨f,pre,post,e,hf,hc _ _ H⟩
theorem CD.sub {D:CD}{s:Sh}{h:Hp}{K:ShT}(H:D.ask P s h K):D.ask P s h fun x h'=>(∃ w,Sub h' w)/\K x h':=by
 have hc:∀ f vs,(Qa P f vs h fun v h'=>res s v fun x=>K x h')->Qa P f vs h fun v h'=>res s v fun x=>(∃ w,Sub h' w)/\K x h':=
  fun f vs H w hs=>(H w hs).mono fun e w' ⟨v,h',h1,h2,h3,h4⟩=>⟨v,h',h1,h2,h3,QL (fun x hx=>⟨⟨w',h2⟩,hx⟩) h4⟩
 cases D with
 | no=>exact H
 | call f vs=>exact hc f vs H
 | ext f vs=>exact fun w hs=>let ⟨v,w',h',h1,h2,h3,h4⟩:=H w hs;⟨v,w',h',h1,h2,h3,QL (fun x hx=>⟨⟨w',h2⟩,hx⟩) h4⟩
 | sem m=>exact fun w hs=>let ⟨v,w',h',h1,h2,h3,h4⟩:=H w hs;⟨v,w',h',h1,h2,h3,QL (fun x hx=>⟨⟨w',h2⟩,hx⟩) h4⟩
 | inv fv vs=>
  obtain⟨f,pre,post,e,hf,H⟩:=H;exact⟨f,pre,post,e,hf,hc _ _ H⟩
theorem CD.ex {D:CD}{s:Sh}{h:Hp}{K:ShT}(hw:∃ w,Sub h w)(H:D.ask P s h K):∃ x h',K x h':=by
 obtain⟨w,hs⟩:=hw;have hr:∀ v h',(res s v fun x=>K x h')->∃ x h',K x h':=fun v h' hr=>let ⟨x,hx,_⟩:=XQ hr;⟨x,h',hx.2⟩
 have hc:∀ f vs,(Qa P f vs h fun v h'=>res s v fun x=>K x h')->∃ x h',K x h':=by intro f vs H;obtain⟨e,w',fr,⟨v,h',_,_,_,h4⟩,_⟩:=H w hs [];exact hr _ _ h4
 cases D with
 | no=>exact H.elim
 | call f vs=>exact hc f vs H
 | ext f vs=>obtain⟨v,w',h',h1,h2,h3,h4⟩:=H w hs;exact hr _ _ h4
 | sem m=>obtain⟨v,w',h',h1,h2,h3,h4⟩:=H w hs;exact hr _ _ h4
 | inv fv vs=>
  obtain⟨f,pre,post,e,hf,H⟩:=H;exact hc _ _ H
def FM (fl:List Fg):Prop:=∀ f ∈ fl,∀ p,f.p=some p->∀ h h':Hp,h.le h'->p h->p h'
theorem Rd.le {m:Sem Value}{h h':Hp}{v:Value}(hl:h.le h')(H:Rd P m h v):Rd P m h' v:=fun w hs=>H w fun b o ho=>hs b o (hl b o ho)
theorem QpG {h h':Hp}(hl:h.le h'){b o n:Nat}{xs:List Value}(e:h.row b o n=some xs):h'.row b o n=some xs:=by
 unfold Hp.row at e ⊢;cases hb:h b with
 | none=>rw [hb] at e;cases e
 | some ob=>rw [hb] at e;rw [hl b ob hb];exact e
theorem Qn5 {h h':Hp}(hl:h.le h'){b o:Nat}{x:Value}(e:h.cell b o=some x):h'.cell b o=some x:=by
 unfold Hp.cell at e ⊢;cases hb:h b with
 | none=>rw [hb] at e;cases e
 | some ob=>rw [hb] at e;rw [hl b ob hb];exact e
theorem VD.again_le {G:Prop->Prop}(hG:∀ p q:Prop,(p->q)->G p->G q){h h':Hp}(hl:h.le h'){u:SV}{v:VD}(H:v.again P G h u):v.again P G h' u:=by
 cases v with
 | rd m s=>exact hG _ _ (Rd.le hl) H
 | ldA b o n l=>exact hG _ _ (QpG hl) H
 | ld1 b o s=>exact hG _ _ (Qn5 hl) H
 | _=>exact H
theorem VD.sem_again {G:Prop->Prop}{h:Hp}{u:SV}{v:VD}(H:v.sem P G h fun y=>y=u):v.again P G h u:=by
 cases v with
 | rd m s=>obtain⟨x,hx,_⟩:=XQ H;rw [hx.2] at hx;exact hx.1
 | ldA b o n l=>obtain⟨x,hx,_⟩:=GD H;show G _;rw [<-hx.2];exact hx.1
 | ld1 b o s=>obtain⟨x,hx⟩:=Gu H;show G _;rw [<-hx.2];exact hx.1
 | _=>exact trivial
theorem QdA {o:Oper}{g:Option (Nat × Bool)}{st:St}{i:Nat}{sv:SV}{fl:List Fg}(hf:FM fl):FM (Z1 P o (chG st g) (GG st g) st i sv fl):=by
 unfold Z1;split
 ·exact hf
 ·intro f hm p hp h h' hl;rcases bS.1 hm with rfl|hm
  ·simp only [bH] at hp;subst hp;exact VD.again_le (QhF st g) hl
  ·exact hf f hm p hp h h' hl
 ·intro f hm p hp h h' hl;rcases bS.1 hm with rfl|hm
  ·cases hp
  ·exact hf f hm p hp h h' hl
theorem Qfj {m:Nat}{b b':List Box}{h h':Hp}{K:Prop}(hl:h.le h'):∀{fl:List Fg},FM fl->agn m b b' h fl K->agn m b b' h' fl K
 | [],_,H=>H
 | f :: l,hf,H=>by
  have hf':FM l:=fun x hx=>hf x (bT _ hx)
  unfold agn at H ⊢;cases hb:bit m f.j with
  | true=>rw [hb] at H;exact Qfj hl hf' H
  | false=>
   rw [hb] at H;simp only [dM] at H ⊢;cases hx:WC b b' f.bx with
   | false=>rw [hx] at H;exact H.elim
   | true=>
    rw [hx] at H;simp only [cX] at H ⊢;cases hp:f.p with
    | none=>rw [hp] at H;exact Qfj hl hf' H
    | some p=>rw [hp] at H;exact⟨hf f (by simp) p hp h h' hl H.1,Qfj hl hf' H.2⟩
theorem Qfx {m:Nat}{b:List Box}{x:Box}{h:Hp}{K:Prop}:∀{fl:List Fg},agn m b b h fl K->agn m (b++[x]) (b++[x]) h fl K
 | [],H=>H
 | f :: l,H=>by
  unfold agn at H ⊢;cases hb:bit m f.j with
  | true=>rw [hb] at H;exact Qfx H
  | false=>
   rw [hb] at H;simp only [dM] at H ⊢;cases hx:WC b b f.bx with
   | false=>rw [hx] at H;exact H.elim
   | true=>
    have hx2:WC (b++[x]) (b++[x]) f.bx=true:=by
     cases hk:f.bx with
     | none=>rfl
     | some k=>
      rw [hk] at hx;simp only [WC] at hx ⊢;cases hbk:b[k]? with
      | none=>rw [hbk] at hx;cases hx
      | some y=>
       rw [hbk] at hx;rw [dO (bG.1 hbk).1,hbk]
       exact hx
    rw [hx] at H;rw [hx2];simp only [cX] at H ⊢;cases hp:f.p with
    | none=>rw [hp] at H;exact Qfx H
    | some p=>rw [hp] at H;exact⟨H.1,Qfx H.2⟩
theorem ZK {o:Oper}{st:St}{h:Hp}{K:St->Hp->Prop}(hE:isE P o.op=true)(hg:o.guard=none):QG P cfg ops o st h K↔vcE P cfg o [] st h fun sv b h'=>Yc st o.dst none/\K (Qm ⟨st.n,st.t,st.g,b⟩ o.dst none sv) h':=by
 unfold QG;rw [hg];simp only [hE,cX,Zl];exact dY
theorem QkH {c e:Oper}{st:St}{m:Nat}(A:ZW ops c e)(W:WF st)(hac:AC e c)(hEc:isE P c.op=true)(hEe:isE P e.op=true){h:Hp}{fl:List Fg}{F:St->Hp->Prop}(hf:FM fl)(hw:∃ w,Sub h w)
  (H:QG P cfg ops c st h fun s1 h1=>agn m st.b s1.b h1 fl (QG P cfg ops e s1 h1 fun s2 h2=>F s2 h2)) :
  QG P cfg ops e st h fun s h'=>QG P cfg ops c s h' fun s2 h2=>agn m s.b s2.b h2 fl (F s2 h2):=by
 obtain⟨hA,hge,hC,hgc⟩:=hac;have A':ZW ops e c:=⟨A.yx,A.xy,fun d e hd he=>(A.ne e d he hd).symm⟩
 obtain⟨DC,hDC⟩:=QiS (P:=P) (cfg:=cfg) (o:=c) (ch:=[]) (st:=st) hC;obtain⟨DA,hDA⟩:=QiO (P:=P) (cfg:=cfg) (o:=e) (ch:=[]) (st:=st) hA;rw [ZK hEc hgc,show st=⟨st.n,st.t,st.g,st.b⟩ from rfl,hDC] at H
 have hloc:∀ x h1 K,vcE P cfg e [] (Qm st c.dst none x) h1 K=vcE P cfg e [] st h1 K:=by
  intro x h1 K;rcases Wp (st:=st) (dst:=c.dst) (g:=none) (x:=x) with ⟨_,eq⟩|⟨d,hd,AG⟩
  ·rw [eq]
  ·exact AG.vcE (fun z hz hze=>A.xy d hd (Q4 hz hze))
 have hloc2:∀ x b h1 K,vcE P cfg c [] (Qm ⟨st.n,st.t,st.g,b⟩ e.dst none x) h1 K=vcE P cfg c [] ⟨st.n,st.t,st.g,b⟩ h1 K:=by
  intro x b h1 K;rcases Wp (st:=⟨st.n,st.t,st.g,b⟩) (dst:=e.dst) (g:=none) (x:=x) with ⟨_,eq⟩|⟨d,hd,AG⟩
  ·rw [eq]
  ·exact AG.vcE (fun z hz hze=>A'.xy d hd (Q4 hz hze))
 have H2:DC.ask P (shp P c.type) h fun x h1=>Yc st c.dst none/\agn m st.b st.b h1 fl (DA.sem st.b h1 fun sv b h2=>Yc (Qm st c.dst none x) e.dst none/\F (Qm ⟨(Qm st c.dst none x).n,(Qm st c.dst none x).t,(Qm st c.dst none x).g,b⟩ e.dst none sv) h2):=by
  refine CD.mono (fun x h1 hx=>⟨hx.1,?_⟩) H
  have hx2:=hx.2;rw [Ym] at hx2;refine Yd (fun hv=>?_) hx2
  rw [ZK hEe hge,hloc,hDA] at hv;exact hv
 have pc:Yc st c.dst none:=let ⟨_,_,hx⟩:=CD.ex hw H2;hx.1
 have ne:DA≠.no:=by intro e;obtain⟨x,h1,_,hx⟩:=CD.ex hw H2;rw [e] at hx;exact NK hx
 rw [ZK hEe hge,hDA];cases DA with
 | no=>exact(ne rfl).elim
 | pub f ob=>
  have pe:Yc st e.dst none:=by obtain⟨x,h1,⟨w,hs⟩,_,hx⟩:=CD.ex hw (CD.sub H2);have:=NK hx w.heap.size hs.none;exact XH (st:=st) (j:=c) (gj:=none) (svj:=x) (b:=(Qm st c.dst none x).b) this.1
  intro b hb;refine⟨pe,?_⟩
  rw [ZK hEc hgc,hloc2,hDC];refine CD.mono (fun x h2 hx=>?_) (CD.frame hb H2)
  obtain⟨h1,hb1,rfl,hx1,hx2⟩:=hx;refine⟨?_,?_⟩
  ·exact(YK (st:=st) A' (gx:=none) (gy:=none) (by simp [gdO,hge]) (by simp [gdO,hgc]) pe).2 pc
  ·rw [Ym,Ym];refine Yd (fun hv=>?_) (Qfj (Hp.le_set' hb1 ob) hf hx2)
   have:=(hv b hb1).2;rw [Ms] at this ⊢;rw [Xl A' (gx:=none) (gy:=none)];exact this
 | prv sv bx=>
  have pe:Yc st e.dst none:=by obtain⟨x,h1,_,hx⟩:=CD.ex hw H2;have:=NK hx;exact XH (st:=st) (j:=c) (gj:=none) (svj:=x) (b:=(Qm st c.dst none x).b) this.1
  refine⟨pe,?_⟩
  rw [ZK hEc hgc,hloc2,hDC];refine CD.mono (fun x h1 hx=>?_) H2
  obtain⟨hx1,hx2⟩:=hx;refine⟨?_,?_⟩
  ·exact(YK (st:=⟨st.n,st.t,st.g,st.b++[bx]⟩) A' (gx:=none) (gy:=none) (by simp [gdO,hge]) (by simp [gdO,hgc]) pe).2 pc
  ·rw [Ym,Ym];refine Yd (fun hv=>?_) (Qfx (x:=bx) hx2)
   have:=hv.2;rw [Ms] at this ⊢;rw [Xl A' (gx:=none) (gy:=none)];exact this
theorem Qey {o:Oper}{ch:List (Nat × Bool)}{st:St}(hB:isB cfg o=true):(∀ h K,¬ vcE P cfg o ch st h K)\/∃(f:Nat->SV)(ob:Obj),∀ h K,vcE P cfg o ch st h K↔∀ b,h b=none->K (f b) st.b (h.set b ob):=by
 obtain⟨dst,op,ty,pos,af,gd⟩:=o;have key:∀{o:Oper} {t:TypeId} {cs:List TV},Qbh cfg o.dst=true->(∀(h:Hp)(K:SV->List Box->Hp->Prop),¬ newBox cfg o st h t cs K)\/∃(f:Nat->SV)(ob:Obj),∀ h K,newBox cfg o st h t cs K↔∀ b,h b=none->K (f b) st.b (h.set b ob):=by
  intro o t cs hp;unfold newBox;rw [hp];cases QC cs with
  | false=>exact .inl fun h K q=>q
  | true=>exact .inr ⟨fun b=>.t (.one (.hp b 0)),_,fun h K=>dY⟩
 unfold isB at hB;cases op with
 | alloc T=>
  simp only [vcE];split
  ·exact key hB
  ·exact .inl fun h K q=>q
 | box T x=>
  simp only [vcE];split
  ·exact key hB
  ·exact .inl fun h K q=>q
 | buildSlice T n parts=>
  simp only [vcE];split
  ·rename_i e ps hu hp;split
   ·rename_i z hz;rcases dC (Nat.ble 1 (szT P e)&&Nat.beq z.length (szT P e)&&Nat.ble (n*szT P e) 4096) with hc|hc
    ·rw [hc];simp only [cX];split
     ·rename_i cs _;rcases dC (QC cs) with ho|ho
      ·rw [ho];exact .inr ⟨fun b=>.t (.one (.v (.slice (some ⟨b,0,none⟩) n n))),_,fun h K=>dY⟩
      ·rw [ho];exact .inl fun h K q=>q
     ·exact .inl fun h K q=>q
    ·rw [hc];exact .inl fun h K q=>q
   ·exact .inl fun h K q=>q
  ·exact .inl fun h K q=>q
 | _=>cases hB
theorem Qa8 {h:Hp}(hw:∃ w,Sub h w)(b:Nat):∃ c,h c=none/\c≠b:=by
 obtain⟨w,hs⟩:=hw;refine⟨w.heap.size+b+1,?_,by omega⟩
 cases hq:h (w.heap.size+b+1) with
 | none=>rfl
 | some o=>
  have:=(bV.1 (hs _ _ hq)).1
  omega
theorem Qgl {h:Hp}(hw:∃ w,Sub h w){b:Nat}(hb:h b=none)(ob:Obj):∃ w,Sub (h.set b ob) w:=by
 obtain⟨w,hs⟩:=hw;refine⟨{ w with heap:=Array.ofFn (n:=w.heap.size+b+1) fun i=>if i.val=b then ob else(w.heap[i.val]?).getD ob },fun i o ho=>?_⟩
 show (Array.ofFn (n:=w.heap.size+b+1) fun i=>if i.val=b then ob else(w.heap[i.val]?).getD ob)[i]?=some o
 by_cases hi:i=b
 ·subst hi;have:ob=o:=by simpa [Hp.set] using ho
  rw [bV]
  refine⟨by simp;omega,?_⟩
  simp [this]
 ·have h1:h i=some o:=by simpa [Hp.set,hi] using ho
  have h2:=hs i o h1;have h3:=(bV.1 h2).1
  rw [bV]
  refine⟨by simp;omega,?_⟩
  simp [hi,h2]
theorem QkZ {c e:Oper}{st:St}(A:ZW ops c e)(W:WF st)(hab:AB cfg e c)(hEc:isE P c.op=true)(hEe:isE P e.op=true){h:Hp}{F:St->Hp->Prop}(hw:∃ w,Sub h w)
  (H:QG P cfg ops c st h fun s1 h1=>QG P cfg ops e s1 h1 fun s2 h2=>F s2 h2) :
  QG P cfg ops e st h fun s h'=>QG P cfg ops c s h' fun s2 h2=>F s2 h2:=by
 obtain⟨hBe,hge,hBc,hgc⟩:=hab;have A':ZW ops e c:=⟨A.yx,A.xy,fun d e hd he=>(A.ne e d he hd).symm⟩
 rw [ZK hEc hgc] at H;have hloc:∀ x h1 K,vcE P cfg e [] (Qm st c.dst none x) h1 K=vcE P cfg e [] st h1 K:=by
  intro x h1 K;rcases Wp (st:=st) (dst:=c.dst) (g:=none) (x:=x) with ⟨_,eq⟩|⟨d,hd,AG⟩
  ·rw [eq]
  ·exact AG.vcE (fun z hz hze=>A.xy d hd (Q4 hz hze))
 have hloc2:∀ x h1 K,vcE P cfg c [] (Qm st e.dst none x) h1 K=vcE P cfg c [] st h1 K:=by
  intro x h1 K;rcases Wp (st:=st) (dst:=e.dst) (g:=none) (x:=x) with ⟨_,eq⟩|⟨d,hd,AG⟩
  ·rw [eq]
  ·exact AG.vcE (fun z hz hze=>A'.xy d hd (Q4 hz hze))
 have eb:∀(d:Option Nat)(x:SV),(⟨(Qm st d none x).n,(Qm st d none x).t,(Qm st d none x).g,st.b⟩:St)=Qm st d none x:=by intro d x;have e1:=Ym (st:=st) (dst:=d) (g:=none) (x:=x);generalize Qm st d none x=s at e1;obtain⟨n,t,g,b⟩:=s;simp only at e1;rw [e1]
 rcases Qey (P:=P) (cfg:=cfg) (o:=c) (ch:=[]) (st:=st) hBc with hn|⟨fc,oc,hc⟩
 ·exact(hn _ _ H).elim
 rcases Qey (P:=P) (cfg:=cfg) (o:=e) (ch:=[]) (st:=st) hBe with hn|⟨fe,oe,he⟩
 ·rw [hc] at H;obtain⟨b,hb,_⟩:=Qa8 hw 0;have q2:QG P cfg ops e (Qm st c.dst none (fc b)) (h.set b oc) F:=(H b hb).2;rw [ZK hEe hge,hloc] at q2;exact(hn _ _ q2).elim
 rw [hc] at H;have H2:∀ b,h b=none->Yc st c.dst none/\∀ b2,(h.set b oc) b2=none->Yc (Qm st c.dst none (fc b)) e.dst none/\F (Qm (Qm st c.dst none (fc b)) e.dst none (fe b2)) ((h.set b oc).set b2 oe):=by
  intro b hb;refine⟨(H b hb).1,?_⟩
  have q2:QG P cfg ops e (Qm st c.dst none (fc b)) (h.set b oc) F:=(H b hb).2;rw [ZK hEe hge,hloc,he] at q2;intro b2 hb2;have q3:=q2 b2 hb2;rw [eb] at q3;exact q3
 have sset:∀{b b2:Nat} {o o2:Obj},b≠b2->(h.set b o).set b2 o2=(h.set b2 o2).set b o:=by
  intro b b2 o o2 hne;funext i
  simp only [Hp.set];by_cases h1:i=b2
  ·by_cases h2:i=b
   ·exact(hne (h2.symm.trans h1)).elim
   ·simp [h1];intro q;exact(hne q.symm).elim
  ·simp [h1]
 have nn:∀{b b2:Nat} {o:Obj},(h.set b o) b2=none->b2≠b/\h b2=none:=by
  intro b b2 o hq;unfold Hp.set at hq;split at hq
  ·cases hq
  ·rename_i h1;exact⟨h1,hq⟩
 rw [ZK hEe hge,he];intro b2 hb2;obtain⟨b0,hb0,hne0⟩:=Qa8 hw b2;have pc:=(H2 b0 hb0).1;have pe:Yc st e.dst none:=by
  have:=((H2 b0 hb0).2 b2 (by simp [Hp.set,hne0.symm,hb2])).1
  exact(YK (st:=st) A (gx:=none) (gy:=none) (by simp [gdO,hgc]) (by simp [gdO,hge]) pc).1 this
 refine⟨pe,?_⟩
 show QG P cfg ops c (Qm st e.dst none (fe b2)) (h.set b2 oe) F;rw [ZK hEc hgc,hloc2,hc];intro b hb;obtain⟨hne,hbh⟩:=nn hb;have q:=(H2 b hbh).2 b2 (by simp [Hp.set,hne.symm,hb2])
 refine⟨(YK (st:=st) A' (gx:=none) (gy:=none) (by simp [gdO,hge]) (by simp [gdO,hgc]) pe).2 pc,?_⟩
 rw [eb,Xl A' (gx:=none) (gy:=none),<-sset hne];exact q.2
theorem exV {i:Nat}{oi:Oper}(hi:ops[i]?=some oi)(hEi:isE P oi.op=false):∀(A:List Nat) {B:List Nat} {fl:List Fg} {st:St} {h:Hp} {K:St->Hp->Prop},WF st ->
  (∀ j ∈ A,∀ oj,ops[j]?=some oj->isE P oj.op=false/\ZW ops oi oj)->vcD P cfg ops ms (A++i :: B) fl st h K->QG P cfg ops oi st h fun s _=>vcD P cfg ops ms (A++B) fl s h K
 | [],B,fl,st,h,K,W,hA,H=>by
  rw [dE,UV hi hEi] at H;obtain⟨g,h1,h2,h3,sv,h4,h5⟩:=Yt.1 H;exact(XY hEi).2 ⟨g,h1,h2,h3,sv,h4,U2 B Qfh h5⟩
 | j :: A,B,fl,st,h,K,W,hA,H=>by
  cases hj:ops[j]? with
  | none=>simp [vcD,hj] at H
  | some oj=>
   obtain⟨hEj,hap⟩:=hA j (by simp) oj hj
   rw [dA,UV hj hEj] at H;have H2:KR P ops j oj st h fl fun fl' s=>QG P cfg ops oi s h fun s2 _=>vcD P cfg ops ms (A++B) fl' s2 h K:=
    Ve W (fun g sv s Ws hk=>exV hi hEi A Ws (fun k hk'=>hA k (by simp [hk'])) hk) H
   have hap':ZW ops oj oi:=⟨hap.yx,hap.xy,fun d e hd he=>(hap.ne e d he hd).symm⟩
   have H3:=QkD (F:=fun fl' s2=>vcD P cfg ops ms (A++B) fl' s2 h K) hap' W hEi H2
   refine JH hEi W H3 fun s Ws hk=>?_
   rw [dA,UV hj hEj];exact hk
theorem exE {i:Nat}{oi:Oper}(hi:ops[i]?=some oi)(hEi:isE P oi.op=true):∀(A:List Nat) {B:List Nat} {fl:List Fg} {st:St} {h:Hp} {K:St->Hp->Prop},WF st->FM fl->(∃ w,Sub h w) ->
  (∀ j ∈ A,bit (ms.getD i 0) j=false/\∀ oj,ops[j]?=some oj->((isE P oj.op=false\/AC oi oj)\/AB cfg oi oj)/\ZW ops oi oj)->vcD P cfg ops ms (A++i :: B) fl st h K ->
  QG P cfg ops oi st h fun s h2=>rk (isA oi.op) (ms.getD i 0) st.b s.b h2 fl (vcD P cfg ops ms (A++B) fl s h2 K)
 | [],B,fl,st,h,K,W,hf,hw,hA,H=>by
  rw [dE,UM hi hEi] at H;exact H
 | j :: A,B,fl,st,h,K,W,hf,hw,hA,H=>by
  cases hj:ops[j]? with
  | none=>simp [vcD,hj] at H
  | some oj=>
   obtain⟨hbit,hA1⟩:=hA j (by simp)
   obtain⟨hEj,hap⟩:=hA1 oj hj;have hap':ZW ops oj oi:=⟨hap.yx,hap.xy,fun d e hd he=>(hap.ne e d he hd).symm⟩
   cases hEj':isE P oj.op with
   | false=>
    rw [dA,UV hj hEj'] at H;have H2:KR P ops j oj st h fl fun fl' s=>QG P cfg ops oi s h fun s2 h2=>(FM fl'->rk (isA oi.op) (ms.getD i 0) s.b s2.b h2 fl' (vcD P cfg ops ms (A++B) fl' s2 h2 K)):=by
     refine Ve W (fun g sv s Ws hk=>?_) H
     exact ZZ (exE hi hEi A Ws (QdA hf) hw (fun k hk'=>hA k (by simp [hk'])) hk) fun s2 h2 hq _=>hq
    have H3:=Qko (F:=fun fl' s2 h2=>vcD P cfg ops ms (A++B) fl' s2 h2 K) (X:=fun fl' s s2 h2=>FM fl'->rk (isA oi.op) (ms.getD i 0) s.b s2.b h2 fl' (vcD P cfg ops ms (A++B) fl' s2 h2 K))
     (Z:=fun s h2 p=>rk (isA oi.op) (ms.getD i 0) st.b s.b h2 fl p) hap' W hEi (fun s h2 p q hpq hz=>Qdz hpq hz) ?_ H2
    ·refine ZZ H3 fun s h2 hk=>Qdz (fun hv=>?_) hk
     rw [dA,UV hj hEj'];exact hv
    ·intro gj svj s2 h2 hbx hx vj;have hx:=hx (QdA hf);rw [Ym] at hx;cases hAe:isA oi.op with
     | true=>
      rw [hAe] at hx hbx;rcases hbx with ⟨hl,hb⟩|⟨hb,_⟩
      ·refine⟨fun k x _=>hb k x,fun _=>VD.again_le (QhF st gj) hl (VD.sem_again vj),fun s hs=>hx⟩
      ·cases hb
     | false=>
      rw [hAe] at hx;obtain⟨y1,y2,y3⟩:=Qjx hbit hx;refine⟨fun k x hk hkx=>?_,y2,fun s hs=>by rw [hs];exact y3⟩
      rcases hbx with ⟨_,hb⟩|⟨_,hb⟩
      ·exact hb k x hkx
      ·exact Qdb (y1 k hk) hb hkx
   | true=>
    by_cases hab:AB cfg oi oj
    ·have hAj:=QgS hab.2.2.1;have hAi:=QgS hab.1;rw [dA,UM hj hEj',hAj] at H;rw [hAi];have H2:QG P cfg ops oj st h fun s1 h1=>QG P cfg ops oi s1 h1 fun s2 h2=>vcD P cfg ops ms (A++B) fl s2 h2 K:=by
      rw [ZK hEj' hab.2.2.2] at H ⊢;rcases Qey (P:=P) (cfg:=cfg) (o:=oj) (ch:=[]) (st:=st) hab.2.2.1 with hn|⟨f,ob,hc⟩
      ·exact(hn _ _ H).elim
      rw [hc] at H ⊢;intro b hb;refine⟨(H b hb).1,?_⟩
      have:=exE hi hEi A (st:=Qm st oj.dst none (f b)) (U3 W) hf (Qgl hw hb ob) (fun k hk'=>hA k (by simp [hk'])) (H b hb).2
      rw [hAi] at this;exact this
     have H3:=QkZ (F:=fun s2 h2=>vcD P cfg ops ms (A++B) fl s2 h2 K) hap' W hab hEj' hEi hw H2
     refine ZZ H3 fun s h2 hk=>?_
     show vcD P cfg ops ms (j :: A++B) fl s h2 K;rw [dA,UM hj hEj',hAj];exact hk
    have hac:AC oi oj:=by
     rcases hEj with (h1|h1)|h1
     ·rw [h1] at hEj';cases hEj'
     ·exact h1
     ·exact absurd h1 hab
    have hnA:isA oj.op=false:=by have:=hac.2.2.1;cases ho:oj.op<;>rw [ho] at this<;>first|rfl|cases this
    rw [dA,UM hj hEj',hnA] at H;rw [hac.1];have H2:QG P cfg ops oj st h fun s1 h1=>agn (ms.getD j 0) st.b s1.b h1 fl (QG P cfg ops oi s1 h1 fun s2 h2=>vcD P cfg ops ms (A++B) fl s2 h2 K):=by
     rw [ZK hEj' hac.2.2.2] at H ⊢;obtain⟨DC,hDC⟩:=QiS (P:=P) (cfg:=cfg) (o:=oj) (ch:=[]) (st:=st) hac.2.2.1;rw [show st=⟨st.n,st.t,st.g,st.b⟩ from rfl,hDC] at H ⊢
     refine CD.mono (fun x h1 hx=>?_) (CD.sub H)
     refine⟨hx.2.1,Yd (fun hv=>?_) hx.2.2⟩
     have:=exE hi hEi A (st:=Qm st oj.dst none x) (U3 W) hf hx.1 (fun k hk'=>hA k (by simp [hk'])) hv
     rw [hac.1] at this;exact this
    have H3:=QkH (F:=fun s2 h2=>vcD P cfg ops ms (A++B) fl s2 h2 K) hap' W hac hEj' hEi hf hw H2
    refine ZZ H3 fun s h2 hk=>?_
    show vcD P cfg ops ms (j :: A++B) fl s h2 K;rw [dA,UM hj hEj',hnA];exact hk
def DC (ops:Array Oper)(listed:Array Bool):Prop:=∀(k:Nat)(o:Oper),ops[k]?=some o->listed.getD k false=true->∀ e ∈ o.after,Region.binds .any e=true->listed.getD e.on false=true
theorem Kx (m i:Nat):bit m i=m.testBit i:=by
 unfold bit Nat.testBit;have:Nat.beq (Nat.land (Nat.shiftRight m i) 1) 1=((m >>> i) &&& 1 == 1):=by
  show Nat.beq ((m >>> i) &&& 1) 1=((m >>> i) &&& 1 == 1);cases hq:Nat.beq ((m >>> i) &&& 1) 1 with
  | true=>have:=cT hq;exact(pP.2 this).symm
  | false=>have:=d7 hq;exact(beq_eq_false_iff_ne.2 this).symm
 rw [this,Nat.and_comm];have h2:(1 &&& (m >>> i))=0\/(1 &&& (m >>> i))=1:=by
  rw [Nat.and_comm,Nat.and_one_is_mod];omega
 rcases h2 with h2|h2<;>rw [h2]<;>rfl
theorem Qpt (a b i:Nat):bit (Nat.lor a b) i=(bit a i||bit b i):=by
 rw [Kx,Kx,Kx];exact Nat.testBit_or a b i
theorem QlW (d i:Nat):bit (Nat.shiftLeft 1 d) i=decide (i=d):=by
 rw [Kx];show (1 <<< d).testBit i=_;rw [Nat.testBit_shiftLeft];by_cases h:i=d
 ·subst h;simp
 ·by_cases h2:d<=i
  ·obtain⟨k,hk⟩:∃ k,i-d=k+1:=⟨i-d-1,by omega⟩
   rw [hk,Nat.testBit_succ];simp [h]
  ·simp [h,h2]
theorem GX (i:Nat):bit 0 i=false:=by rw [Kx];simp
theorem QgC {listed:Array Bool}{acc:List Nat}(hacc:∀ d,listed.getD d false=true->∀ j,bit (acc.getD d 0) j=true->listed.getD j false=true):∀(l:List Edge)(s:Nat),
  (∀ e ∈ l,Region.binds .any e=true->listed.getD e.on false=true)->(∀ j,bit s j=true->listed.getD j false=true) ->
  ∀ j,bit (l.foldl (fun s e=>bif Region.binds .any e then Nat.lor s (Nat.lor (Nat.shiftLeft 1 e.on) (acc.getD e.on 0)) else s) s) j=true->listed.getD j false=true
 | [],s,_,hs,j,hj=>hs j hj
 | e :: l,s,hl,hs,j,hj=>by
  refine QgC hacc l _ (fun e' he'=>hl e' (by simp [he'])) ?_ j hj
  intro k hk;dsimp only at hk
  cases hb:Region.binds .any e with
  | false=>rw [hb] at hk;exact hs k hk
  | true=>
   rw [hb] at hk;simp only [cX,Qpt,QlW,pY,jI] at hk;have hd:=hl e (by simp) hb
   rcases hk with hk|rfl|hk
   ·exact hs k hk
   ·exact hd
   ·exact hacc _ hd k hk
theorem Qca {listed:Array Bool}:∀(l:List Oper)(acc:List Nat)(k0:Nat),acc.length=k0->(∀ i o,l[i]?=some o->ops[k0+i]?=some o)->DC ops listed ->
  (∀ d,listed.getD d false=true->∀ j,bit (acc.getD d 0) j=true->listed.getD j false=true) ->
  (∀ k o,k<k0->ops[k]?=some o->(∀ e ∈ o.after,Region.binds .any e=true->listed.getD e.on false=true)->∀ j,bit (acc.getD k 0) j=true->listed.getD j false=true) ->
  ∀(k:Nat)(o:Oper),ops[k]?=some o->(∀ e ∈ o.after,Region.binds .any e=true->listed.getD e.on false=true)->∀ j,bit ((Nn l acc).getD k 0) j=true->listed.getD j false=true
 | [],acc,k0,hlen,hl,hdc,hacc,hacc2,k,o,ho,hall,j,hj=>by
  simp only [Nn] at hj;by_cases hk:k<k0
  ·exact hacc2 k o hk ho hall j hj
  ·have:acc.getD k 0=0:=by simp [List.getD,gI (show acc.length<=k by omega)]
   rw [this,GX] at hj;simp at hj
 | x :: l,acc,k0,hlen,hl,hdc,hacc,hacc2,k,o,ho,hall,j,hj=>by
  simp only [Nn] at hj;have hx:ops[k0]?=some x:=by simpa using hl 0 x rfl
  have hm:(∀ e ∈ x.after,Region.binds .any e=true->listed.getD e.on false=true)->∀ j,bit (x.after.toList.foldl (fun s e=>bif Region.binds .any e then Nat.lor s (Nat.lor (Nat.shiftLeft 1 e.on) (acc.getD e.on 0)) else s) 0) j=true->listed.getD j false=true:=
   fun hall=>QgC hacc _ 0 (fun e he hb=>hall e (by simpa using he) hb) (fun j hj=>by rw [GX] at hj;simp at hj)
  refine Qca l _ (k0+1) (by simp [hlen]) ?_ hdc ?_ ?_ k o ho hall j hj
  ·intro i o hi;have:=hl (i+1) o (by simpa using hi)
   rwa [show k0+(i+1)=k0+1+i by omega] at this
  ·intro d hd j hj;by_cases h1:d<acc.length
   ·rw [List.getD,dO h1] at hj
    exact hacc d hd j hj
   ·by_cases h2:d=acc.length
    ·subst h2;simp [List.getD] at hj;exact hm (hdc acc.length x (by rw [hlen];exact hx) hd) j (by simpa using hj)
    ·rw [List.getD,gI (by simp;omega)] at hj
     simp [GX] at hj
  ·intro k o hk ho hall j hj;by_cases h1:k<acc.length
   ·rw [List.getD,dO h1] at hj
    exact hacc2 k o (by omega) ho hall j hj
   ·have h2:k=acc.length:=by omega
    subst h2;rw [hlen,hx] at ho;obtain rfl:=cU ho;simp [List.getD] at hj;exact hm hall j (by simpa using hj)
theorem QcX {i:Nat}{x:Oper}(hx:ops[i]?=some x):∀{l:List Nat},Qg7 P cfg ops ms i x l=true->∀ j ∈ l,bit (ms.getD i 0) j=false->∀ oj,ops[j]?=some oj->((isE P oj.op=false\/AC x oj)\/AB cfg x oj)/\ZW ops x oj
 | [],_,j,hj,_,_,_=>by simp at hj
 | k :: l,H,j,hj,hb,oj,ho=>by
  simp only [Qg7,cG] at H;rcases bS.1 hj with rfl|hj
  ·rw [ho] at H;simp only [hb,Bool.false_or,cG,gO,pY] at H;obtain⟨⟨h1,h2⟩,_⟩:=H;refine⟨?_,Qjb h1⟩
   rcases h2 with (h2|⟨⟨h2,h3⟩,h4,h5⟩)|⟨⟨h2,h3⟩,h4,h5⟩
   ·exact .inl (.inl h2)
   ·exact .inl (.inr ⟨h2,by simpa using h3,h4,by simpa using h5⟩)
   ·exact .inr ⟨h2,by simpa using h3,h4,by simpa using h5⟩
  ·exact QcX hx H.2 j hj hb oj ho
theorem Gm {x:Oper}{done:List Nat}(h:Qki x done=true):∀ e ∈ x.after,Region.binds .any e=true->e.on ∈ done:=by
 intro e he hb;unfold Qki at h;have:=j0.1 h e (by simpa using he)
 simp only [hb,pH,Bool.false_or] at this;exact Ys.1 this
theorem GN:∀{l done:List Nat},KK P cfg ops ms done l=true->(∀ j ∈ done,∀ oj,ops[j]?=some oj->∀ e ∈ oj.after,Region.binds .any e=true->e.on ∈ done)->done.Nodup->(∀ j ∈ done,j<ops.size) ->
  l.Pairwise (PR (P:=P) (cfg:=cfg) ops ms)/\(∀ i ∈ l,i<ops.size/\i ∉ done)/\l.Nodup/\done.length+l.length=ops.size/\(∀ i ∈ l,∀ o,ops[i]?=some o->∀ e ∈ o.after,Region.binds .any e=true->e.on<ops.size/\e.on≠i)
 | [],done,H,hd,hn,hlt=>by
  simp only [KK] at H;exact⟨List.Pairwise.nil,by simp,j6,by simpa using cT H,by simp⟩
 | i :: l,done,H,hd,hn,hlt=>by
  simp only [KK,cG] at H;obtain⟨H1,H2⟩:=H;cases hi:ops[i]? with
  | none=>rw [hi] at H1;simp at H1
  | some x=>
   rw [hi] at H1;simp only [cG,gO] at H1;obtain⟨⟨h1,h2⟩,h3⟩:=H1;have hnm:i ∉ done:=by intro hm;rw [Ys.2 hm] at h1;simp at h1
   have hlt':i<ops.size:=(bV.1 hi).1
   obtain⟨k1,k2,k3,k4,k5⟩:=GN H2 (by
    intro j hj oj ho e he hb;rcases bS.1 hj with rfl|hj
    ·rw [hi] at ho;obtain rfl:=cU ho;exact bT _ (Gm h2 e he hb)
    ·exact bT _ (hd j hj oj ho e he hb)) (f8.2 ⟨hnm,hn⟩) (by
    intro j hj;rcases bS.1 hj with rfl|hj
    ·exact hlt'
    ·exact hlt j hj)
   refine⟨fA.2 ⟨?_,k1⟩,?_,f8.2 ⟨?_,k3⟩,?_,?_⟩
   ·intro j hj;have hjd:=(k2 j hj).2;simp only [bS,not_or] at hjd;refine⟨?_,?_⟩
    ·intro oj ho e he hb hon;rw [hi] at ho;obtain rfl:=cU ho;exact hjd.2 (hon▸Gm h2 e he hb)
    ·intro hb oj oi hoj hoi;have:∀{l done:List Nat},KK P cfg ops ms done l=true->∀ j ∈ l,∀ oi,ops[j]?=some oi->∀ k ∈ done,bit (ms.getD j 0) k=false->∀ ok,ops[k]?=some ok->((isE P ok.op=false\/AC oi ok)\/AB cfg oi ok)/\ZW ops oi ok:=by
      intro l;induction l with
      | nil=>intro done _ j hj;simp at hj
      | cons y l ih=>
       intro done H j hj oi hoi k hk hb ok hok;simp only [KK,cG] at H;rcases bS.1 hj with rfl|hj
       ·rw [hoi] at H;simp only [cG] at H;exact QcX hoi H.1.2 k hk hb ok hok
       ·exact ih H.2 j hj oi hoi k (bT _ hk) hb ok hok
     exact this H2 j hj oi hoi i (by simp) hb oj hoj
   ·intro j hj;rcases bS.1 hj with rfl|hj
    ·exact⟨hlt',hnm⟩
    ·obtain⟨q1,q2⟩:=k2 j hj;simp only [bS,not_or] at q2;exact⟨q1,q2.2⟩
   ·intro hm;have:=(k2 i hm).2;simp at this
   ·simp at k4 ⊢;omega
   ·intro j hj o ho e he hb;rcases bS.1 hj with rfl|hj
    ·rw [hi] at ho;obtain rfl:=cU ho;have:=Gm h2 e he hb;exact⟨hlt _ this,fun h=>hnm (h▸this)⟩
    ·exact k5 j hj o ho e he hb
theorem Qbo (hP:WZ P){w0:World}{h0:Hp}{K:St->Hp->Prop}{Q:Exit->Act->World->Prop}{st0:St}{D:List Nat}(hD:∀(i:Nat)(o:Oper),ops[i]?=some o->∀ d,o.dst=some d->d ∈ D)
  (hms:∀ listed:Array Bool,DC ops listed->∀(k:Nat)(o:Oper),ops[k]?=some o->(∀ e ∈ o.after,Region.binds .any e=true->listed.getD e.on false=true)->∀ j,bit (ms.getD k 0) j=true->listed.getD j false=true)
  (hQ:∀ st' h' a' w',K st' h'->Rel w0 h0 st' h' a' w'->Ev D st0 st'->Q .normal a' w') :
  ∀(n:Nat) {L:List Nat} {fl:List Fg} {st:St} {h:Hp} {a:Act} {w:World} {listed:Array Bool},FM fl->L.length=n->listed.size=ops.size->(∀ i,i<ops.size->(listed.getD i true=false↔i ∈ L))->(∀ i ∈ L,i<ops.size)->L.Nodup->L.Pairwise (PR (P:=P) (cfg:=cfg) ops ms)->DC ops listed ->
   (∀(i:Nat)(o:Oper),ops[i]?=some o->∀ e ∈ o.after,Region.binds .any e=true->e.on<ops.size/\e.on≠i) ->
   Rel w0 h0 st h a w->Ev D st0 st->vcD P cfg ops ms L fl st h K->wpAny P .any ops Q n listed a w
 | 0,L,fl,st,h,a,w,listed,hfm,hn,hsz,hL,hlt,hnd,hpw,hdc,hin,R,E,H=>by
  obtain rfl:=dR hn;refine⟨?_,hQ st h a w H R E⟩
  cases hr:Region.ready .any ops listed with
  | nil=>rfl
  | cons i l=>
   have:i ∈ Region.ready .any ops listed:=by rw [hr];simp
   obtain⟨h1,o,ho,_⟩:=mem_ready.1 this;have:=(hL i (bV.1 ho).1).1 h1
   simp at this
 | n+1,L,fl,st,h,a,w,listed,hfm,hn,hsz,hL,hlt,hnd,hpw,hdc,hin,R,E,H=>by
  have hlist:∀ i,i<ops.size->i ∉ L->listed.getD i false=true:=by
   intro i hi hm;have hb:listed.getD i true=listed[i]'(by omega):=by simp [show i<listed.size by omega]
   have hb':listed.getD i false=listed[i]'(by omega):=by simp [show i<listed.size by omega]
   rw [hb',<-hb];cases hq:listed.getD i true with
   | true=>rfl
   | false=>exact(hm ((hL i hi).1 hq)).elim
  refine⟨?_,?_⟩
  ·intro hr;match L,hn with
   | x :: L',_=>
    have hx:=hlt x (by simp)
    obtain⟨ox,hox⟩:∃ o,ops[x]?=some o:=⟨ops[x],by simp [hx]⟩
    have:x ∈ Region.ready .any ops listed:=by
     refine mem_ready.2 ⟨(hL x hx).2 (by simp),ox,hox,fun e he hb=>?_⟩
     refine hlist _ (hin x ox hox e he hb).1 ?_
     intro hm;rcases bS.1 hm with hm|hm
     ·exact(hin x ox hox e he hb).2 hm
     ·exact((fA.1 hpw).1 _ hm).dep ox hox e he hb rfl
    rw [hr] at this;simp at this
  ·intro i hi;obtain⟨hl1,oi,hoi,hdeps⟩:=mem_ready.1 hi;have hil:i<ops.size:=(bV.1 hoi).1
   have hiL:=(hL i hil).1 hl1;obtain⟨A,B,rfl⟩:=List.append_of_mem hiL;have hmask:=hms listed hdc i oi hoi hdeps;have hunl:∀ j ∈ A,bit (ms.getD i 0) j=false:=by
    intro j hj;cases hb:bit (ms.getD i 0) j with
    | false=>rfl
    | true=>
     have h1:=hmask j hb;have h2:=(hL j (hlt j (by simp [hj]))).2 (by simp [hj])
     have hjs:j<listed.size:=by rw [hsz];exact hlt j (by simp [hj])
     simp [hjs] at h1 h2;rw [h1] at h2;simp at h2
   have hpr:∀ j ∈ A,PR (P:=P) (cfg:=cfg) ops ms j i:=fun j hj=>(mE.1 hpw).2.2 j hj i (by simp)
   obtain⟨ρ,R0⟩:=R;have W:WF st:=fun i s p x hi=>R0.gd i s p x hi
   have R:Rel w0 h0 st h a w:=⟨ρ,R0⟩;have Hop:QG P cfg ops oi st h fun s h2=>vcD P cfg ops ms (A++B) fl s h2 K:=by
    cases hE:isE P oi.op with
    | true=>
     refine ZZ (exE hoi hE A W hfm ⟨w,R0.sub⟩ (fun j hj=>⟨hunl j hj,fun oj hoj=>(hpr j hj).un (hunl j hj) oj oi hoj hoi⟩) H) fun s h2 hk=>QqG hk
    | false=>
     refine JH hE W (exV hoi hE A W (fun j hj oj hoj=>?_) H) fun s _ hk=>hk
     obtain⟨q1,q2⟩:=(hpr j hj).un (hunl j hj) oj oi hoj hoi;refine⟨?_,q2⟩
     rcases q1 with (q1|q1)|q1
     ·exact q1
     all_goals
      exfalso;have:isA oi.op=true:=by first|exact q1.1|exact QgS q1.1
      cases ho:oi.op<;>rw [ho] at this hE<;>first|(cases hE;done)|(cases this;done)
   unfold wpOp;rw [hoi];refine Jp hP R Hop ?_
   intro st' h' a' w' hk R' E';have hnd':=jV.1 hnd;refine Qbo hP hD hms hQ n hfm (by simp at hn ⊢;omega) (by simp [hsz]) ?_ ?_ ?_ ?_ ?_ hin R' (E.trans (E'.mono ?_)) hk
   ·intro k hk;by_cases hki:i=k
    ·subst hki;have hnm:i ∉ A++B:=by
      rw [jV] at hnd;simp only [bU,not_or];refine⟨fun hm=>hnd.2.2 i hm i (by simp) rfl,?_⟩
      have:=(f8.1 hnd.2.1).1;exact this
     simp only [hnm,iff_false];simp [hsz,hk]
    ·rw [getD_set_ne true hki,hL k hk];simp only [bU,bS];constructor
     ·rintro(h1|h1|h1)
      ·exact .inl h1
      ·exact(hki h1.symm).elim
      ·exact .inr h1
     ·rintro(h1|h1)
      ·exact .inl h1
      ·exact .inr (.inr h1)
   ·intro k hk;exact hlt k (by simp only [bU,bS] at hk ⊢;rcases hk with h1|h1<;>simp [h1])
   ·exact hnd.sublist (kR (jH A) (fX i B))
   ·exact hpw.sublist (kR (jH A) (fX i B))
   ·intro k o ho hlk e he hb;by_cases hki:i=k
    ·subst hki;rw [hoi] at ho;obtain rfl:=cU ho;exact getD_set_true (hdeps e he hb)
    ·rw [getD_set_ne false hki] at hlk;exact getD_set_true (hdc k o ho hlk e he hb)
   ·intro d hd;cases hod:oi.dst with
    | none=>rw [hod] at hd;simp [GE] at hd
    | some x=>rw [hod] at hd;simp [GE] at hd;subst hd;exact hD i oi hoi d hod
theorem QaH:∀{n:Nat} {l:List Nat},Qbe n l=true->∀ i,i<n->i ∈ l
 | 0,l,_,i,hi=>by omega
 | n+1,l,H,i,hi=>by
  simp only [Qbe,cG] at H;by_cases h:i=n
  ·subst h;exact Ys.1 H.1
  ·exact QaH H.2 i (by omega)
theorem QhY (hP:WZ P)(hm:P.follows .mixedOrders=true){id:Nat}{l:List Nat}{w0:World}{h0:Hp}{st:St}{h:Hp}{a:Act}{w:World}{K:St->Hp->Prop}{Q:Exit->Act->World->Prop}
  (hchk:KK P cfg ops (Nn ops.toList []) [] l=true) (hin:Qbe ops.size l=true) (R:Rel w0 h0 st h a w) (H:vcD P cfg ops (Nn ops.toList []) l [] st h K)
  (hQ:∀ st' h' a' w',K st' h'->Rel w0 h0 st' h' a' w'->Ev (Yr ops.toList) st st'->Q .normal a' w'):(Code.region id ops true).wp P Q a w:=by
 obtain⟨k1,k2,k3,k4,k5⟩:=GN (ops:=ops) (ms:=Nn ops.toList []) hchk (by simp) j6 (by simp)
 have hlen:l.length=ops.size:=by simpa using k4
 have hall:∀ i,i<ops.size->i ∈ l:=by intro i hi;exact QaH hin i hi
 obtain⟨ρ,R0⟩:=R;have R1:Rel w0 h0 st h a { w with drawn:=w.drawn+1 }:=
  ⟨ρ,R0.step (h':=h) (w':={ w with drawn:=w.drawn+1 }) R0.sub ⟨rfl,rfl,rfl,cB _,fun b hb hn=>⟨rfl,hn⟩⟩⟩
 refine wp_region_any hm ?_
 refine Qbo hP (D:=Yr ops.toList) (st0:=st) ?_ ?_ hQ ops.size (L:=l) (fl:=[]) (fun f hf=>by simp at hf) hlen (by simp) ?_ (fun i hi=>(k2 i hi).1) k3 k1 ?_ ?_ R1 (qN _ _) H
 ·intro i o ho d hd;have:∀(m:List Oper),o ∈ m->d ∈ Yr m:=by
   intro m;induction m with
   | nil=>simp
   | cons x m ih=>
    intro hm;rcases bS.1 hm with rfl|hm
    ·simp [Yr,hd]
    ·exact Qfo (ih hm)
  exact this _ (by simpa using mB ho)
 ·intro listed hdc k o ho hall' j hj;refine Qca ops.toList [] 0 rfl (fun i o hi=>by simpa using hi) hdc (fun d _ j hj=>?_) (fun k o hk=>by omega) k o ho hall' j hj
  simp [List.getD,GX] at hj
 ·intro i hi;simp [hall i hi,hi]
 ·intro k o ho hlk;exfalso;by_cases hk:k<ops.size<;>simp [hk] at hlk
 ·intro i o ho e he hb;exact k5 i (hall i (bV.1 ho).1) o ho e he hb
end
section
variable {P:Program}{cfg:Cfg}{w0:World}{h0:Hp}
theorem QaY {o:Oper}{l:List Oper}{i:Nat}(hi:i ∈ GE o.dst):i ∈ Yr (o :: l):=by
 simp only [Yr];cases hd:o.dst with
 | none=>rw [hd] at hi;simp [GE] at hi
 | some d=>rw [hd] at hi;simp [GE] at hi;simp [hi]
theorem MW {o:Oper}{l:List Oper}{i:Nat}(hi:i ∈ Yr l):i ∈ Yr (o :: l):=by
 simp only [Yr];cases o.dst<;>simp [hi]
theorem Gf (hP:WZ P){ops:Array Oper}{Q:Exit->Act->World->Prop}:∀(l:List Oper) {st:St} {h:Hp} {a:Act} {w:World} {K:St->Hp->Prop},Rel w0 h0 st h a w->Qbw P cfg ops l st h K ->
  (∀ st' h' a' w',K st' h'->Rel w0 h0 st' h' a' w'->Ev (Yr l) st st'->Q .normal a' w')->wpList P ops Q l a w
 | [],st,h,a,w,K,R,H,hn=>hn st h a w H R (qN _ _)
 | o :: l,st,h,a,w,K,R,H,hn=>by
  refine Qhk hP R (show QG P cfg ops o st h _ from H) ?_
  intro st' h' a' w' hk R' E';refine Gf hP l R' hk ?_
  intro st2 h2 a2 w2 hk2 R2 E2;exact hn st2 h2 a2 w2 hk2 R2 ((E'.mono fun i hi=>QaY hi).trans (E2.mono fun i hi=>MW hi))
theorem QdS {ρ:Nat->Option Nat}{st:St}{h:Hp}{a:Act}{w:World}(R:RelR ρ w0 h0 st h a w)(hg:st.g=(fun _=>false))(i s:Nat)(p:Bool)(x:SV):st.t i≠.gd s p x:=by
 intro e;have:=R.gd i s p x e;rw [hg] at this;simp at this
theorem U8 {st0 st:St}{h:Hp}{a:Act}{w:World}{D:List Nat}(R0:∀ i s p x,st0.t i≠.gd s p x)(R:Rel w0 h0 st h a w)(E:Ev D st0 st):Rel w0 h0 (V0 D st) h a w/\(V0 D st).g=(fun _=>false)/\Ev D st0 (V0 D st):=by
 obtain⟨ρ,R⟩:=R;have hno:∀ i s p x,(V0 D st).t i≠.gd s p x:=by
  intro i s p x e;simp only [V0] at e;split at e
  ·simp at e
  ·rename_i s' p' x' hi;cases hm:JL i D with
   | true=>rw [hm] at e;simp at e
   | false=>
    have:i ∉ D:=by intro hd;rw [Ys.2 hd] at hm;simp at hm
    rw [E.t i this] at hi;exact R0 i _ _ _ hi
 refine⟨⟨ρ,R.n,R.d,fun i=>?_,fun i s p x e=>(hno i s p x e).elim,R.sub,R.F,R.box,R.dom,R.inj⟩,rfl,E.n,fun i hi=>?_,E.b⟩
 ·have hr:=R.fr i;simp only [V0];split
  ·rename_i x hx;rw [hx] at hr;exact hr
  ·rename_i s p x hx;cases hm:JL i D with
   | true=>exact trivial
   | false=>
    have:i ∉ D:=by intro hd;rw [Ys.2 hd] at hm;simp at hm
    rw [E.t i this] at hx;exact(R0 i _ _ _ hx).elim
 ·have e:=E.t i hi;simp only [V0];split
  ·rename_i x hx;rw [<-e,hx]
  ·rename_i s p x hx;rw [e] at hx;exact(R0 i _ _ _ hx).elim
def QQ:Exit->Option Ex
 | .normal=>some .nrm
 | .exit id=>some (.ext id)
 | .ret=>some .ret
 | _=>none
def QmH (w0:World)(h0:Hp)(D:List Nat)(st:St)(Q:Ex->St->Hp->Prop)(e:Exit)(a:Act)(w:World):Prop:=
 ∃ x st' h',QQ e=some x/\Q x st' h'/\Rel w0 h0 st' h' a w/\st'.g=(fun _=>false)/\Ev D st st'
theorem Qgx {c:Code}{Q:Exit->Act->World->Prop}{a:Act}{w:World}(I:Nat->Act->World->Prop)(n:Nat)(h1:I n a w)
  (round:∀ n a w,I n a w->c.wp P (Exit.then (fun a' w'=>∃ m,m<n/\I m a' w') Q) a w):(Code.loop c).wp P Q a w:=by
 intro b k cs;have key:∀ n a w,I n a w->∃ e a' w',Q e a' w'/\Arrives P (lone (b.at a (.code c :: .inLoop c :: k)) cs w) b k cs e a' w':=by
  intro n;induction n using Nat.strongRecOn with
  | _ n ih=>
   intro a w hI;obtain⟨e,a₁,w₁,hq,harr⟩:=round n a w hI b (.inLoop c :: k) cs;cases e with
   | normal=>
    obtain⟨m,hlt,hI₁⟩:=hq;obtain⟨e₂,a₂,w₂,hq₂,harr₂⟩:=ih m hlt a₁ w₁ hI₁;exact⟨e₂,a₂,w₂,hq₂,.of_steps (Steps.trans harr (.one step_inLoop)) harr₂⟩
   | exit id=>exact⟨_,a₁,w₁,hq,.pass (x:=.inLoop c) rfl (fun _ _=>.inl (by simp)) harr⟩
   | goto l=>exact⟨_,a₁,w₁,hq,.pass (x:=.inLoop c) rfl (fun _ _=>.inl (by simp)) harr⟩
   | ret=>exact⟨_,a₁,w₁,hq,.pass (x:=.inLoop c) rfl (fun _ _=>.inl (by simp)) harr⟩
   | panic ch=>exact⟨_,a₁,w₁,hq,.pass (x:=.inLoop c) rfl (fun _ _=>.inl (by simp)) harr⟩
   | outgrown=>exact⟨_,a₁,w₁,hq,.pass (x:=.inLoop c) rfl (fun _ _=>.inl (by simp)) harr⟩
 obtain⟨e,a',w',hq,harr⟩:=key n a w h1;exact⟨e,a',w',hq,.of_steps (.one step_loop) harr⟩
theorem QaT (l:List TW):(Kt l).length=l.length:=by induction l<;>simp_all [Kt]
theorem Vt {st:St}:∀{l:List Nat} {vs:List Value},WL st l=some vs->vs.length=l.length
 | [],vs,H=>by simp [WL] at H;simp [<-H]
 | s :: l,vs,H=>by
  simp only [WL] at H;split at H
  ·rename_i x vs' hx hl;simp only [bH] at H;subst H;simp [Vt hl]
  ·simp at H
theorem Mh {ρ:Nat->Option Nat}{tm:Array Value}{st:St}(hst:∀ i x,st.t i=.s (.t x)->tm.getD i undef=x.val):∀(slots:List Nat)(xs:List TW)(t:Nat->Sl),
  (∀ i,(t i).ok ρ tm (tm.getD i undef))->WL st slots=some (Kt xs)->∀ i,(Yw t slots xs i).ok ρ tm (tm.getD i undef)
 | [],xs,t,ht,_=>by intro i;simpa [Yw] using ht i
 | s :: l,[],t,ht,H=>by intro i;simpa [Yw] using ht i
 | s :: l,x :: xs,t,ht,H=>by
  simp only [WL] at H;split at H
  ·rename_i y vs' hy hl;simp only [bH,Kt,g8] at H;refine Mh hst l xs _ ?_ (by rw [hl,H.2])
   intro i;cases hb:Nat.beq i s with
   | true=>
    have:=cT hb;subst this;have e:=hst i y hy;simp only [cX,Sl.ok,SV.ok];rw [e,H.1]
   | false=>exact ht i
  ·simp at H
theorem GI:∀(slots:List Nat)(xs:List TW)(t:Nat->Sl)(i:Nat),i ∉ slots->Yw t slots xs i=t i
 | [],xs,t,i,_=>by simp [Yw]
 | s :: l,[],t,i,_=>by simp [Yw]
 | s :: l,x :: xs,t,i,hi=>by
  simp only [bS,not_or] at hi;simp only [Yw];rw [GI l xs _ i hi.2];have:Nat.beq i s=false:=by cases hq:Nat.beq i s<;>simp_all
  simp [this]
theorem Ue:∀(slots:List Nat)(xs:List TW)(t:Nat->Sl),(∀ i s p x,t i≠.gd s p x)->∀ i s p x,Yw t slots xs i≠.gd s p x
 | [],xs,t,ht=>by simpa [Yw] using ht
 | s :: l,[],t,ht=>by simpa [Yw] using ht
 | s :: l,x :: xs,t,ht=>by
  simp only [Yw];refine Ue l xs _ ?_
  intro i s' p y;cases hb:Nat.beq i s with
  | true=>simp
  | false=>exact ht i s' p y
theorem QgW {l d:List Nat}(H:QnS l d=true):∀ i,i ∈ l->i ∈ d:=by
 induction l with
 | nil=>simp
 | cons x l ih=>
  simp only [QnS,cG] at H;intro i hi;rcases bS.1 hi with rfl|hi
  ·exact Ys.1 H.1
  ·exact ih H.2 i hi
theorem Uw:∀(bxs:List (Nat × List Sh1))(ys:List (List TV))(b:List Box)(j:Nat),(Zn b bxs ys)[j]?=b[j]?\/(∃ x y,b[j]?=some x/\(Zn b bxs ys)[j]?=some y/\y.ty=x.ty/\x.st<y.st/\(YJ j bxs).isSome=true)
 | [],ys,b,j=>by left;simp [Zn]
 | (i,s) :: l,[],b,j=>by left;simp [Zn]
 | (i,s) :: l,y :: ys,b,j=>by
  simp only [Zn];cases hb:b[i]? with
  | none=>
   simp only;rcases Uw l ys b j with h|⟨u,v,h1,h2,h3,h4,h5⟩
   ·exact .inl h
   ·refine .inr ⟨u,v,h1,h2,h3,h4,?_⟩
    simp only [YJ];cases hq:Nat.beq j i<;>simp [h5]
  | some bx=>
   simp only;rcases Uw l ys (Kq b i ⟨bx.ty,y,bx.st+1⟩) j with h|⟨u,v,h1,h2,h3,h4,h5⟩
   ·rw [Wh] at h;split at h
    ·rename_i e;obtain⟨rfl,_⟩:=e;right;refine⟨bx,_,(by first|exact hb|rfl),h,rfl,by simp,?_⟩
     simp [YJ]
    ·exact .inl h
   ·rw [Wh] at h1;split at h1
    ·rename_i e;obtain⟨rfl,_⟩:=e;simp only [bH] at h1;subst h1;refine .inr ⟨bx,v,(by first|exact hb|rfl),h2,h3,by simp at h4;omega,by simp [YJ]⟩
    ·refine .inr ⟨u,v,h1,h2,h3,h4,?_⟩
     simp only [YJ];cases hq:Nat.beq j i<;>simp [h5]
theorem Xs:∀(bxs:List (Nat × List Sh1))(ys:List (List TV))(b:List Box),(Zn b bxs ys).length=b.length
 | [],ys,b=>by simp [Zn]
 | (i,s) :: l,[],b=>by simp [Zn]
 | (i,s) :: l,y :: ys,b=>by
  simp only [Zn];cases hb:b[i]? with
  | none=>simp only;exact Xs l ys b
  | some bx=>simp only;rw [Xs l ys _,Xu]
theorem QcG:∀{l:List (Nat × List Sh1)} {K:List (List TV)->Prop},Qpd l K->∃ ys,K ys/\ys.length=l.length/\∀(k:Nat)(q:Nat × List Sh1)(y:List TV),l[k]?=some q->ys[k]?=some y->y.length=q.2.length
 | [],K,H=>⟨[],H,rfl,by simp⟩
 | (i,s) :: l,K,H=>by
  obtain⟨x,H,hx⟩:=GD (show exL s _ from H)
  obtain⟨xs,H,e,hl⟩:=QcG H;refine⟨x :: xs,H,by simp [e],fun k q y h1 h2=>?_⟩
  cases k with
  | zero=>simp at h1 h2;subst h1;subst h2;exact hx
  | succ k=>exact hl k q y (by simpa using h1) (by simpa using h2)
theorem QaB:∀{l:List Sh0} {K:List TW->Prop},NY l K->∃ x,K x/\x.length=l.length
 | [],K,H=>⟨[],H,rfl⟩
 | s :: l,K,H=>by
  obtain⟨x,H⟩:=QaQ (show ex0 s _ from H)
  obtain⟨xs,H,e⟩:=QaB H;exact⟨x :: xs,H,by simp [e]⟩
theorem NQ {st st':St}{h:Hp}{a:Act}{w:World}{D slots:List Nat}{bxs:List (Nat × List Sh1)}{xs:List TW}{ys:List (List TV)}
  (hg0:∀ i s p x,st.t i≠.gd s p x) (hbnd:∀ i j o,i ∉ D->st.t i=.s (.bp j o)->j<st.b.length) (hsub:∀ i,i ∈ slots->i ∈ D)
  (R:Rel w0 h0 st' h a w) (hg':st'.g=(fun _=>false)) (hn:st'.n=st.n) (ht:∀ i,i ∉ D->st'.t i=st.t i)
  (hlb:st.b.length<=st'.b.length) (hty:∀(j:Nat)(x y:Box),st.b[j]?=some x->st'.b[j]?=some y->y.ty=x.ty)
  (hsame:∀(j:Nat)(x y:Box),(YJ j bxs).isSome=false->st.b[j]?=some x->st'.b[j]?=some y->Qn y.c=Qn x.c)
  (hbi:∀(k:Nat)(q:Nat × List Sh1),bxs[k]?=some q->q.1<st.b.length)
  (hv:YL st' slots bxs=some (Kt xs++JE ys)) (hxl:xs.length=slots.length) (hyl:ys.length=bxs.length)
  (hylen:∀(k:Nat)(q:Nat × List Sh1)(y:List TV)(x:Box),bxs[k]?=some q->ys[k]?=some y->st'.b[q.1]?=some x->y.length=x.c.length)
  (hg:st.g=(fun _=>false)):Rel w0 h0 (Y7 st D slots bxs xs ys) h a w:=by
 obtain⟨ρ,R⟩:=R;have hsv:WL st' slots=some (Kt xs)/\Ub st' bxs=some (JE ys):=by
  unfold YL at hv;split at hv
  ·rename_i u v hu hv';simp only [bH] at hv;have hl:=Vt hu;obtain⟨e1,e2⟩:=mO hv (by rw [hl,QaT,hxl])
   exact⟨by rw [hu,e1],by rw [hv',e2]⟩
  ·simp at hv
 have key:∀(j:Nat)(x y:Box),(Zn st.b bxs ys)[j]?=some x->st'.b[j]?=some y->Qn x.c=Qn y.c/\x.ty=y.ty:=by
  have:∀(l:List (Nat × List Sh1))(zs:List (List TV))(b:List Box),Ub st' l=some (JE zs)->zs.length=l.length ->
    (∀(k:Nat)(q:Nat × List Sh1)(y:List TV)(x:Box),l[k]?=some q->zs[k]?=some y->st'.b[q.1]?=some x->y.length=x.c.length) ->
    (∀(k:Nat)(q:Nat × List Sh1),l[k]?=some q->q.1<b.length) ->
    (∀(j:Nat)(x y:Box),b[j]?=some x->st'.b[j]?=some y->(Qn x.c=Qn y.c\/(YJ j l).isSome=true)/\x.ty=y.ty) ->
    ∀(j:Nat)(x y:Box),(Zn b l zs)[j]?=some x->st'.b[j]?=some y->Qn x.c=Qn y.c/\x.ty=y.ty:=by
   intro l;induction l with
   | nil=>intro zs b _ _ _ _ hb j x y hx hy;obtain⟨h1,h2⟩:=hb j x y (by simpa [Zn] using hx) hy;exact⟨h1.resolve_right (by simp [YJ]),h2⟩
   | cons q l ih=>
    obtain⟨i,s⟩:=q;intro zs b H hl hlen hbi hb;cases zs with
    | nil=>simp at hl
    | cons z zs=>
     simp only [Ub] at H;split at H
     ·rename_i bx vs hbx hvs;simp only [bH,JE] at H;have hylen:=hlen 0 (i,s) z bx rfl rfl hbx;have hsp:=mO H (by simp [QM,hylen])
      have hib:i<b.length:=hbi 0 (i,s) rfl;obtain⟨b0,hb0⟩:∃ b0,b[i]?=some b0:=⟨b[i],by simp [hib]⟩
      simp only [Zn,hb0];refine ih zs _ (by rw [hvs,hsp.2]) (by simpa using hl) (fun k q y' x h1 h2 h3=>hlen (k+1) q y' x (by simpa using h1) (by simpa using h2) h3)
       (fun k q hq=>by rw [Xu];exact hbi (k+1) q (by simpa using hq)) ?_
      intro j x y hx hy;rw [Wh] at hx;split at hx
      ·rename_i e;obtain⟨rfl,_⟩:=e;rw [hbx] at hy;obtain rfl:=cU hy;simp only [bH] at hx;subst hx;exact⟨.inl hsp.1.symm,(hb j b0 bx hb0 hbx).2⟩
      ·rename_i e;obtain⟨h1,h2⟩:=hb j x y hx hy;refine⟨?_,h2⟩
       rcases h1 with h1|h1
       ·exact .inl h1
       ·simp only [YJ] at h1;cases hq:Nat.beq j i with
        | true=>
         have:=cT hq;subst this;exact(e ⟨rfl,hib⟩).elim
        | false=>rw [hq] at h1;exact .inr h1
     ·simp at H
  refine this bxs ys st.b hsv.2 hyl hylen hbi ?_
  intro j x y hx hy;refine⟨?_,(hty j x y hx hy).symm⟩
  cases hq:(YJ j bxs).isSome with
  | true=>exact .inr rfl
  | false=>exact .inl (hsame j x y hq hx hy).symm
 refine⟨fun i=>if i<st.b.length then ρ i else none,?_,R.d,?_,?_,R.sub,R.F,?_,?_,?_⟩
 ·rw [R.n,hn];rfl
 ·have hst:∀ i x,st'.t i=.s (.t x)->a.tmps.getD i undef=x.val:=by intro i x hx;have:=R.fr i;rw [hx] at this;exact this
  refine Mh (st:=st') hst slots xs _ ?_ hsv.1
  intro i;cases hm:JL i D with
  | true=>exact trivial
  | false=>
   have hi:i ∉ D:=by intro hd;rw [Ys.2 hd] at hm;simp at hm
   have hr:=R.fr i;rw [ht i hi] at hr;simp only [dM];cases hs:st.t i with
   | gd s p x=>exact(hg0 i s p x hs).elim
   | s x=>
    rw [hs] at hr;cases x with
    | bp j o=>
     obtain⟨b,h1,h2⟩:=hr;exact⟨b,by simp [hbnd i j o hi hs,h1],h2⟩
    | _=>exact hr
 ·intro i s p x e;refine(Ue slots xs _ ?_ i s p x e).elim
  intro i s p x;cases hm:JL i D with
  | true=>simp
  | false=>exact hg0 i s p x
 ·intro i bx hbx;have hil:i<st.b.length:=by
   have:=(bG.1 hbx).1
   simpa [Y7,Xs] using this
  obtain⟨by',hby⟩:∃ y,st'.b[i]?=some y:=⟨st'.b[i]'(by omega),by simp [show i<st'.b.length by omega]⟩
  obtain⟨b,h1,h2,h3,h4⟩:=R.box i by' hby;obtain⟨k1,k2⟩:=key i bx by' hbx hby;exact⟨b,by simp [hil,h1],by rw [k1,k2];exact h2,h3,h4⟩
 ·intro i b hi;split at hi
  ·rename_i hl;simpa [Y7,Xs] using hl
  ·simp at hi
 ·intro i j b hi hj;split at hi
  ·split at hj
   ·exact R.inj i j b hi hj
   ·simp at hj
  ·simp at hi
theorem Qai:∀(l m:List Box)(bxs:List (Nat × List Sh1))(k:Nat),NB k l m bxs=true->l.length<=m.length/\∀(j:Nat)(x y:Box),(YJ (k+j) bxs).isSome=false->l[j]?=some x->m[j]?=some y->x.st=y.st
 | [],m,bxs,k,_=>⟨by simp,by simp⟩
 | x :: l,[],bxs,k,H=>by simp [NB] at H
 | x :: l,y :: m,bxs,k,H=>by
  simp only [NB,cG,pY] at H;obtain⟨h1,h2⟩:=Qai l m bxs (k+1) H.2;refine⟨by simp;exact h1,fun j u v hj hu hv=>?_⟩
  cases j with
  | zero=>
   simp at hu hv hj;subst hu;subst hv;rcases H.1 with h|h
   ·rw [hj] at h;simp at h
   ·exact cT h
  | succ j=>exact h2 j u v (by rw [show k+1+j=k+(j+1) by omega];exact hj) (by simpa using hu) (by simpa using hv)
theorem Ww {st:St}:∀{l:List (Nat × List Sh1)},WD st l=true->∀(k:Nat)(q:Nat × List Sh1),l[k]?=some q->∃ bx,st.b[q.1]?=some bx/\bx.c.length=q.2.length
 | [],_,k,q,hq=>by simp at hq
 | (i,s) :: l,H,k,q,hq=>by
  simp only [WD,cG] at H;cases k with
  | zero=>
   simp at hq;subst hq;cases hb:st.b[i]? with
   | none=>rw [hb] at H;simp at H
   | some bx=>rw [hb] at H;exact⟨bx,rfl,cT H.1⟩
  | succ k=>exact Ww H.2 k q (by simpa using hq)
theorem QcN {b b':List Box}(H:Qs b b'):b.length<=b'.length:=by
 rcases kM b'.length b.length with h|h
 ·obtain⟨x,hx⟩:∃ x,b[b'.length]?=some x:=⟨b[b'.length],by simp [h]⟩
  obtain⟨y,hy,_⟩:=H _ _ hx;have:=(bG.1 hy).1
  omega
 ·exact h
theorem Qgy {st:St}{D slots:List Nat}{bxs:List (Nat × List Sh1)}{xs:List TW}{ys:List (List TV)}(hsub:∀ i,i ∈ slots->i ∈ D):Ev D st (Y7 st D slots bxs xs ys):=by
 refine⟨rfl,fun i hi=>?_,?_⟩
 ·simp only [Y7];rw [GI _ _ _ _ (fun h=>hi (hsub i h))]
  have:JL i D=false:=by cases hm:JL i D with|true=>exact(hi (Ys.1 hm)).elim|false=>rfl
  simp [this]
 ·intro i x hx;rcases Uw bxs ys st.b i with h|⟨u,v,h1,h2,h3,h4,h5⟩
  ·exact⟨x,by simp only [Y7];rw [h,hx],rfl,cB _,fun _=>rfl⟩
  ·rw [hx] at h1;obtain rfl:=cU h1;exact⟨v,h2,h3,by omega,fun e=>by omega⟩
theorem Qlb {l n:Nat}{o:Oper}{a:Act}{w:World}{N:Act->World->Prop}{Q:Exit->Act->World->Prop}(hnd:∀ c,o.op≠.defer c)(H:o.wp P a w N (fun _ _ _=>False)):o.wpIn (Fence.wide.inRound l) n P a w N Q:=by
 unfold Oper.wp at H;refine⟨fun _ _=>trivial,?_⟩
 rw [Oper.semAt_eq _ _ _ hnd];cases hr:(execOp a.eval o).run P w with
 | ok v w'=>
  rw [hr] at H;cases v with
  | value v=>exact H
  | skip=>exact H
  | defer d=>exact H
  | enter f args=>
   refine⟨fun h=>(by cases h),CallsIn.inRound l ((callsIn_wide.2 H).mono ?_)⟩
   intro e w' he;cases e with
   | returned v=>exact he
   | panicked ch=>exact he.elim
   | outgrown=>obtain⟨_,_,h⟩:=he;exact h.elim
  | row r args=>
   refine⟨fun h=>(by cases h),fun c cs _=>?_⟩
   obtain⟨v,w2,h1,h2⟩:=H c cs;exact⟨v,w2,h1,stepsIn_wide.2 h2⟩
  | _=>exact H.elim
 | halt q w'=>
  rw [hr] at H;cases q with
  | panic v=>exact H.elim
  | _=>exact H.elim
theorem GW (hP:WZ P){l0 n:Nat}{ops:Array Oper}{Q:Exit->Act->World->Prop}:∀(l:List Oper),QgU l=true->∀{st:St} {h:Hp} {a:Act} {w:World} {K:St->Hp->Prop},Rel w0 h0 st h a w->Qbw P cfg ops l st h K ->
  (∀ st' h' a' w',K st' h'->Rel w0 h0 st' h' a' w'->Ev (Yr l) st st'->Q .normal a' w')->wpListIn (Fence.wide.inRound l0) n P ops Q l a w
 | [],_,st,h,a,w,K,R,H,hn=>hn st h a w H R (qN _ _)
 | o :: l,hf,st,h,a,w,K,R,H,hn=>by
  simp only [QgU,cG] at hf;have hnd:∀ c,o.op≠.defer c:=by
   intro c e;rw [e] at hf;cases hf.1
  have key:=Jp (Q:=fun _ _ _=>False) hP R (show QG P cfg ops o st h _ from H) (N:=wpListIn (Fence.wide.inRound l0) n P ops Q l) ?_
  ·unfold wpListIn;split
   ·rename_i hw;rw [bJ hw] at key;rcases key with h1|⟨_,_,_,h1⟩
    ·exact Qlb hnd h1
    ·exact h1.elim
   ·rename_i hw;rw [bE hw] at key;exact⟨fun _ _=>trivial,key⟩
  ·intro st' h' a' w' hk R' E';refine GW hP l hf.2 R' hk ?_
   intro st2 h2 a2 w2 hk2 R2 E2;exact hn st2 h2 a2 w2 hk2 R2 ((E'.mono fun i hi=>QaY hi).trans (E2.mono fun i hi=>MW hi))
theorem QnH (hP:WZ P){l0 n:Nat}:∀(c:Code),WQ c=true->∀{st:St} {h:Hp} {a:Act} {w:World} {Q:Ex->St->Hp->Prop},vcC P cfg c st h Q->st.g=(fun _=>false)->Rel w0 h0 st h a w->c.wpIn (Fence.wide.inRound l0) n P (QmH w0 h0 (QH c) st Q) a w:=by
 intro c;induction c with
 | skip=>intro _ st h a w Q H hg R;exact wpIn_skip ⟨.nrm,st,h,rfl,H,R,hg,qN _ _⟩
 | region id ops draw=>
  intro hf st h a w Q H hg R;simp only [WQ,cG,gO] at hf;obtain⟨hd,hf⟩:=hf;subst hd;simp only [vcC,dM] at H;refine wpIn_region_list (GW hP ops.toList hf R H ?_)
  intro st' h' a' w' hk R' E';obtain⟨ρ,R0⟩:=R;obtain⟨k1,k2,k3⟩:=U8 (QdS R0 hg) R' E';exact⟨.nrm,_,h',rfl,hk,k1,k2,k3⟩
 | seq x y ihx ihy=>
  intro hf st h a w Q H hg R;simp only [WQ,cG] at hf;refine wpIn_seq (wpIn_mono (ihx hf.1 H hg R) ?_)
  rintro e a' w' ⟨ex,st',h',he,hq,R',hg',E'⟩;have hD:∀ i,i ∈ QH x->i ∈ QH (.seq x y):=fun i hi=>by simp [QH,hi]
  have hD':∀ i,i ∈ QH y->i ∈ QH (.seq x y):=fun i hi=>by simp [QH,hi]
  cases e with
  | normal=>
   simp only [QQ,bH] at he;subst he;refine wpIn_mono (ihy hf.2 hq hg' R') ?_
   rintro e a2 w2 ⟨ex,st2,h2,he,hq,R2,hg2,E2⟩;exact⟨ex,st2,h2,he,hq,R2,hg2,(E'.mono hD).trans (E2.mono hD')⟩
  | exit id=>simp only [QQ,bH] at he;subst he;exact⟨_,st',h',rfl,hq,R',hg',E'.mono hD⟩
  | ret=>simp only [QQ,bH] at he;subst he;exact⟨_,st',h',rfl,hq,R',hg',E'.mono hD⟩
  | goto l=>simp [QQ] at he
  | panic ch=>simp [QQ] at he
  | outgrown=>simp [QQ] at he
 | cond c x y ihx ihy=>
  intro hf st h a w Q H hg R;simp only [WQ,cG] at hf;simp only [vcC] at H;split at H
  ·rename_i t ht;obtain⟨ρ,R0⟩:=R;have hc:a.eval c=.bool t:=We ht (ev_ok R0 (fun _ _ hm=>by simp at hm) c)
   refine wpIn_cond_split hc (fun e=>?_) (fun e=>?_)
   ·refine wpIn_mono (ihx hf.1 (H.1 e) hg ⟨ρ,R0⟩) ?_
    rintro e a2 w2 ⟨ex,st2,h2,he,hq,R2,hg2,E2⟩;exact⟨ex,st2,h2,he,hq,R2,hg2,E2.mono fun i hi=>by simp [QH,hi]⟩
   ·refine wpIn_mono (ihy hf.2 (H.2 e) hg ⟨ρ,R0⟩) ?_
    rintro e a2 w2 ⟨ex,st2,h2,he,hq,R2,hg2,E2⟩;exact⟨ex,st2,h2,he,hq,R2,hg2,E2.mono fun i hi=>by simp [QH,hi]⟩
  ·exact H.elim
 | block id x ihx=>
  intro hf st h a w Q H hg R;simp only [WQ] at hf;refine wpIn_block (wpIn_mono (ihx hf H hg R) ?_)
  rintro e a' w' ⟨ex,st',h',he,hq,R',hg',E'⟩;cases e with
  | normal=>simp only [QQ,bH] at he;subst he;exact⟨_,st',h',rfl,hq,R',hg',E'⟩
  | exit i=>
   simp only [QQ,bH] at he;subst he;simp only at hq;simp only [Exit.inBlock];cases hb:Nat.beq i id with
   | true=>
    rw [hb] at hq;rw [bJ (cT hb)];exact⟨_,st',h',rfl,hq,R',hg',E'⟩
   | false=>
    rw [hb] at hq;rw [bE (d7 hb)];exact⟨_,st',h',rfl,hq,R',hg',E'⟩
  | ret=>simp only [QQ,bH] at he;subst he;exact⟨_,st',h',rfl,hq,R',hg',E'⟩
  | goto l=>simp [QQ] at he
  | panic ch=>simp [QQ] at he
  | outgrown=>simp [QQ] at he
 | exit id=>intro _ st h a w Q H hg R;exact wpIn_exit ⟨_,st,h,rfl,H,R,hg,qN _ _⟩
 | ret=>intro _ st h a w Q H hg R;exact wpIn_ret ⟨_,st,h,rfl,H,R,hg,qN _ _⟩
 | _=>intro hf;cases hf
theorem Qmv {c:Code}{q d:Nat}(h:QoJ c=some (q,d)):∃ id ops o,c=.region id ops false/\ops.toList=[o]/\o.dst=some d/\o.op=.assign (.tmp q)/\o.guard=none:=by
 unfold QoJ at h;split at h
 ·rename_i id ops;split at h
  ·rename_i o ho;split at h
   ·rename_i d' q' h1 h2 h3;cases h;exact⟨id,ops,o,rfl,ho,h1,h2,h3⟩
   ·cases h
  ·cases h
 ·cases h
theorem Uh {h h':Hp}{w W:World}(hs:Sub h w)(hs':Sub h' W)(hn:ZR h h'){b:Nat}{o:Obj}(hb:w.heap.size<=b)(ho:W.heap[b]?=some o)(hc:o.isCells=false):h' b=none:=by
 cases e:h' b with
 | none=>rfl
 | some o'=>
  have h1:=hs' b o' e;rw [ho] at h1;cases h1;have h2:h b=none:=by
   cases e2:h b with
   | none=>rfl
   | some o2=>
    have:=(bV.1 (hs b o2 e2)).1
    omega
  rw [hn b o e h2] at hc;cases hc
theorem QcQ {h h':Hp}{w W W':World}{row:Option Nat}(hs:Sub h w)(hs':Sub h' W)(hn:ZR h h')(hF:Fr h h' w W)(hg:W.grownBy W' row)(hr:∀ r,row=some r->w.heap.size<=r/\∃ o:Obj,W.heap[r]?=some o/\o.isCells=false):Sub h' W'/\Fr h h' w W':=by
 have key:∀ b,b<W.heap.size->(w.heap.size<=b->h' b≠none)->W'.heap[b]?=W.heap[b]?:=by
  intro b hb hk;refine hg.block b hb fun e=>?_
  obtain⟨h1,o,h2,h3⟩:=hr b e.symm;exact hk h1 (Uh hs hs' hn h1 h2 h3)
 refine⟨fun b o ho=>?_,⟨hg.os.trans hF.os,hg.tape.trans hF.tape,hg.output.trans hF.output,dK hF.size hg.size,fun b hb hn2=>?_⟩⟩
 ·have h1:=hs' b o ho;rw [key b (bV.1 h1).1 (fun _=>by rw [ho];simp)]
  exact h1
 ·obtain⟨k1,k2⟩:=hF.keep b hb hn2;exact⟨(key b (mV hb hF.size) (fun h=>by omega)).trans k1,k2⟩
theorem QoV (p:Tmp)(v:Value)(tm:Array Value):(#[p].zip #[v]).foldl (fun t (p,v)=>t.setIfInBounds p v) tm=tm.setIfInBounds p v:=by
 rw [<-Array.foldl_toList,Array.toList_zip];rfl
theorem Qhg (hP:WZ P){g:Operand}{ps:Array Tmp}{asg body:Code}{st:St}{h:Hp}{a:Act}{w:World}{Q:Ex->St->Hp->Prop}{fv:Value}{p d:Nat}{sh:Sh0}(e1:(st.ev [] g).val?=some fv)(e2:ps.toList=[p])(e3:QoJ asg=some (p,d))(hfl:WQ body=true)(hp:p<st.n)(hd:d<st.n)
  (H:∃(hc:Hp)(good:Value->Prop)(xs:List Value)(I:LtT),QiP P fv hc good xs/\I [] h/\(∀ l h',I l h'->hc.le h'/\ZR h h') /\
     (∀ l h' x,good x->l.length<xs.length->I l h'->ex0 sh fun y=>x=y.val/\vcC P cfg body (Vn st p d y) h' fun e _ h2=>match e with
      | .nrm=>I (l++[x]) h2
      | e=>ZR h h2/\(l++[x] <+: xs->Q e st h2)) /\
     ∀ h',I xs h'->Q .nrm st h')
  (hg:st.g=(fun _=>false)) (R:Rel w0 h0 st h a w):(Code.rangeFunc g ps asg body).wp P (QmH w0 h0 (QH (Code.rangeFunc g ps asg body)) st Q) a w:=by
 obtain⟨hcp,good,xs,I,⟨hcells,gf,lb,fn,rfl,hfn,hnm,hbd,hseq⟩,hI0,hIc,hround,hdone⟩:=H;obtain⟨id,ops,o,rfl,ho1,ho2,ho3,ho4⟩:=Qmv e3;obtain⟨ρ,R0⟩:=R;have hgv:a.eval g=.func (.func gf) #[] lb:=val_ok R0 (ch:=[]) (fun _ _ hm=>by simp at hm) e1
 have hent:∀ args w,(callFunc gf args).run P w=.ok (.enter gf args) w:=by
  intro args w;have h1:fn.name≠ "runtime.NumGoroutine":=by simpa using hnm
  cases hb:fn.body with
  | none=>rw [hb] at hbd;cases hbd
  | some c=>simp [callFunc,hfn,h1,hb,mark]
 have hsw:=R0.sub;have hcw:Sub hcp w:=fun b o hb=>hsw b o ((hIc [] h hI0).1 b o hb)
 have hps:ps=#[p]:=by cases ps;simp at e2;subst e2;rfl
 let I':List { v:Value // good v }->World->Prop:=fun pre W=>∃ h',Sub h' W/\Fr h h' w W/\I (pre.map (·.1)) h'
 let Ix:Code->List { v:Value // good v }->World->Prop:=fun c pre W=>∃ h',Sub h' W/\Fr h h' w W/\ZR h h'/\((c=.ret/\(pre.map (·.1) <+: xs->Q .ret st h'))\/∃ i,c=.exit i/\(pre.map (·.1) <+: xs->Q (.ext i) st h'))
 have relOf:∀{W:World} {h':Hp} (D:Nat),w.heap.size<=D->Sub h' W->Fr h h' w W->ZR h h'->W.heap[D]?=some (.deferred (some []))->RelR ρ w0 h0 st h' { a with defers:={ target:=.collected D,args:=#[] } :: a.defers } W:=by
  intro W h' D hD hs hF hn hW;have R1:=R0.step hs hF;refine⟨R1.n,⟨?_,?_⟩,R1.fr,R1.gd,R1.sub,R1.F,R1.box,R1.dom,R1.inj⟩
  ·refine f8.2 ⟨fun hm=>?_,R0.d.1⟩
   obtain⟨D',e,k1,_⟩:=R0.d.2 _ hm;have:D=D':=by simpa using congrArg Deferred.target e
   subst this;have:=(bV.1 k1).1
   omega
  ·intro x hx;rcases bS.1 hx with rfl|hx
   ·exact⟨D,rfl,hW,Uh hsw hs hn hD hW rfl,dK R0.F.size hD⟩
   ·exact R1.d.2 x hx
 refine(wpIn_wide (n:=3)).1 (wpIn_rangeFunc_ownG (w0:=w) rfl (by decide) hgv trivial hent (hseq w hcw) (fun k1 k2 hA=>k2 (k1 hA)) ?_ (RowKit.Below.refl _ _) ?_ I' Ix ?_ ?_ ⟨h,hsw,Fr.refl h w,hI0⟩ (fun x=>Act.put { tmps:=a.tmps.setIfInBounds p x.1,defers:=[] } (some d) x.1) ?_ ?_ ?_ ?_)
 ·intro W l ob ob' _ hl hnc _ hA b o' hb;have h1:=hA b o' hb;by_cases hbl:b=l
  ·subst hbl;rw [hl] at h1;cases h1;rw [hcells b ob hb] at hnc;cases hnc
  ·rw [World.putObj_heap_other hbl];exact h1
 ·intro x;rw [hps];rfl
 ·intro pre W W' row hi hg' hr;obtain⟨h',k1,k2,k3⟩:=hi;obtain⟨m1,m2⟩:=QcQ hsw k1 (hIc _ h' k3).2 k2 hg' hr;exact⟨h',m1,m2,k3⟩
 ·intro c pre W W' row hi hg' hr;obtain⟨h',k1,k2,k3,k4⟩:=hi;obtain⟨m1,m2⟩:=QcQ hsw k1 k3 k2 hg' hr;exact⟨h',m1,m2,k3,k4⟩
 ·intro l x W K hK;rw [hps,QoV];refine wpIn_region_list ?_
  rw [ho1];unfold wpListIn;rw [bJ (Gg ho4 _)];refine⟨fun _ _=>trivial,?_⟩
  have hnd:∀ c,o.op≠.defer c:=by intro c;rw [ho3];simp
  rw [Oper.semAt_eq _ _ _ hnd];have hsz:p<a.tmps.size:=by rw [R0.n];exact hp
  have hev:(⟨a.tmps.setIfInBounds p x.1,[]⟩:Act).eval (.tmp p)=x.1:=by show (a.tmps.setIfInBounds p x.1).getD p undef=x.1;simp [fY,hsz]
  have hrun:(execOp (⟨a.tmps.setIfInBounds p x.1,[]⟩:Act).eval o).run P W=.ok (.value x.1) W:=by unfold execOp;rw [ho3];simp [hev]
  rw [hrun,Oper.uponIn_value,ho2];exact hK
 ·intro l pre x W hi hlt;obtain⟨h',k1,k2,k3⟩:=hi;have hlt':(pre.map (·.1)).length<xs.length:=by rw [bQ];exact hlt
  obtain⟨y,hy,hvc⟩:=QaQ (hround (pre.map (·.1)) h' x.1 x.2 hlt' k3)
  have hsz:a.tmps.size=st.n:=R0.n;have hRel:Rel W h' (Vn st p d y) h' (Act.put { tmps:=a.tmps.setIfInBounds p x.1,defers:=[] } (some d) x.1) W:=by
   refine⟨fun _=>none,?_,⟨j6,fun d hd=>by cases hd⟩,fun i=>?_,fun i s q z e=>?_,k1,Fr.refl h' W,fun i bx hb=>by simp [Vn] at hb,fun i b hb=>by simp at hb,fun i j b hb=>by simp at hb⟩
   ·show ((a.tmps.setIfInBounds p x.1).setIfInBounds d x.1).size=st.n;simp [hsz]
   ·show (Vn st p d y).t i |>.ok _ _ (((a.tmps.setIfInBounds p x.1).setIfInBounds d x.1).getD i undef);simp only [Vn];by_cases hid:i=d
    ·subst hid;have e:Nat.beq i i=true:=Nat.beq_refl i;rw [e];show _=_;rw [<-hy];simp [fY,hsz,hd]
    ·have e:Nat.beq i d=false:=by
      cases e:Nat.beq i d with
      | false=>rfl
      | true=>exact absurd (cT e) hid
     rw [e];simp only [dM];by_cases hip:i=p
     ·subst hip;have e:Nat.beq i i=true:=Nat.beq_refl i;rw [e];show _=_;rw [<-hy];have hdi:d≠i:=fun e=>hid e.symm
      simp [fY,hsz,hp,hdi]
     ·have e:Nat.beq i p=false:=by
       cases e:Nat.beq i p with
       | false=>rfl
       | true=>exact absurd (cT e) hip
      rw [e];simp only [dM];have hr:=R0.fr i;have hdi:d≠i:=fun e=>hid e.symm
      have hpi:p≠i:=fun e=>hip e.symm
      have hv:((a.tmps.setIfInBounds p x.1).setIfInBounds d x.1).getD i undef=a.tmps.getD i undef:=by simp [fY,hdi,hpi]
      rw [hv];cases hs:st.t i with
      | gd s q z=>exact(QdS R0 hg i s q z hs).elim
      | s z=>
       rw [hs] at hr;cases z with
       | bp j ob=>exact trivial
       | _=>exact hr
   ·simp only [Vn] at e;cases c1:Nat.beq i d with
    | true=>rw [c1] at e;cases e
    | false=>
     rw [c1] at e;cases c2:Nat.beq i p with
     | true=>rw [c2] at e;cases e
     | false=>
      rw [c2] at e;simp only [dM] at e;cases hs:st.t i with
      | gd s q z=>exact(QdS R0 hg i s q z hs).elim
      | s z=>
       rw [hs] at e;cases z<;>simp [QqF] at e
  refine wpIn_mono (QnH hP body hfl hvc rfl hRel) ?_
  rintro e a2 W2 ⟨ex,st2,h2,he,hq,⟨ρ2,R2⟩,hg2,E2⟩;have hFF:=k2.trans R2.F;have hnc:=(hIc _ h' k3).2;have hkeep:KeepsFrom w.heap.size W W2:=⟨R2.F.size,fun k ob hk hob hnc'=>by
   have h1:=Uh hsw k1 hnc hk hob hnc';rw [(R2.F.keep k (bV.1 hob).1 h1).1]
   exact hob⟩
  cases e with
  | normal=>
   simp only [QQ,bH] at he;subst he;have hi2:I ((pre++[x]).map (·.1)) h2:=by rw [cJ];exact hq
   exact⟨hkeep,fun _ b ob hb=>R2.sub b ob ((hIc _ h2 hi2).1 b ob hb),h2,R2.sub,hFF,hi2⟩
  | exit i=>simp only [QQ,bH] at he;subst he;exact⟨hkeep,h2,R2.sub,hFF,hq.1,.inr ⟨i,rfl,fun hp=>hq.2 (by rw [cJ] at hp;exact hp)⟩⟩
  | ret=>simp only [QQ,bH] at he;subst he;exact⟨hkeep,h2,R2.sub,hFF,hq.1,.inl ⟨rfl,fun hp=>hq.2 (by rw [cJ] at hp;exact hp)⟩⟩
  | goto l=>simp [QQ] at he
  | panic ch=>simp [QQ] at he
  | outgrown=>simp [QQ] at he
 ·intro D pre W hD hS hi hW;obtain⟨h',k1,k2,k3⟩:=hi;rw [hS] at k3;exact⟨.nrm,st,h',rfl,hdone h' k3,⟨ρ,relOf D hD k1 k2 (hIc _ h' k3).2 hW⟩,hg,qN _ _⟩
 ·intro D c pre W hD hpre hi hW;obtain⟨h',k1,k2,k3,k4⟩:=hi;have hR:=relOf D hD k1 k2 k3 hW;rcases k4 with ⟨rfl,hq⟩|⟨i,rfl,hq⟩
  ·exact wpIn_ret ⟨_,st,h',rfl,hq hpre,⟨ρ,hR⟩,hg,qN _ _⟩
  ·exact wpIn_exit ⟨_,st,h',rfl,hq hpre,⟨ρ,hR⟩,hg,qN _ _⟩
theorem QkM (hP:WZ P)(hm:P.follows .mixedOrders=true):∀(c:Code) {st:St} {h:Hp} {a:Act} {w:World} {Q:Ex->St->Hp->Prop},vcC P cfg c st h Q->st.g=(fun _=>false)->Rel w0 h0 st h a w->c.wp P (QmH w0 h0 (QH c) st Q) a w:=by
 intro c;induction c with
 | skip=>intro st h a w Q H hg R;exact wp_skip ⟨.nrm,st,h,rfl,H,R,hg,qN _ _⟩
 | region id ops draw=>
  intro st h a w Q H hg R;simp only [vcC] at H;cases draw with
  | true=>
   simp only [cX] at H;split at H
   ·rename_i l hl;rcases dC (KK P cfg ops (Nn ops.toList []) [] l&&Qbe ops.size l) with hc|hc
    ·rw [hc] at H;simp only [cX] at H;simp only [cG] at hc;refine QhY hP hm hc.1 hc.2 R H ?_
     intro st' h' a' w' hk R' E';obtain⟨ρ,R0⟩:=R;obtain⟨k1,k2,k3⟩:=U8 (QdS R0 hg) R' E';exact⟨.nrm,_,h',rfl,hk,k1,k2,k3⟩
    ·rw [hc] at H;exact H.elim
   ·exact H.elim
  | false=>
   simp only [dM] at H;refine wp_region_list (Gf hP ops.toList R H ?_)
   intro st' h' a' w' hk R' E';obtain⟨ρ,R0⟩:=R;obtain⟨k1,k2,k3⟩:=U8 (QdS R0 hg) R' E';exact⟨.nrm,_,h',rfl,hk,k1,k2,k3⟩
 | seq x y ihx ihy=>
  intro st h a w Q H hg R;refine wp_seq (wp_mono (ihx H hg R) ?_)
  rintro e a' w' ⟨ex,st',h',he,hq,R',hg',E'⟩;have hD:∀ i,i ∈ QH x->i ∈ QH (.seq x y):=fun i hi=>by simp [QH,hi]
  have hD':∀ i,i ∈ QH y->i ∈ QH (.seq x y):=fun i hi=>by simp [QH,hi]
  cases e with
  | normal=>
   simp only [QQ,bH] at he;subst he;refine wp_mono (ihy hq hg' R') ?_
   rintro e a2 w2 ⟨ex,st2,h2,he,hq,R2,hg2,E2⟩;exact⟨ex,st2,h2,he,hq,R2,hg2,(E'.mono hD).trans (E2.mono hD')⟩
  | exit id=>simp only [QQ,bH] at he;subst he;exact⟨_,st',h',rfl,hq,R',hg',E'.mono hD⟩
  | ret=>simp only [QQ,bH] at he;subst he;exact⟨_,st',h',rfl,hq,R',hg',E'.mono hD⟩
  | goto l=>simp [QQ] at he
  | panic ch=>simp [QQ] at he
  | outgrown=>simp [QQ] at he
 | cond c x y ihx ihy=>
  intro st h a w Q H hg R;simp only [vcC] at H;split at H
  ·rename_i t ht;obtain⟨ρ,R0⟩:=R;have hc:a.eval c=.bool t:=We ht (ev_ok R0 (fun _ _ hm=>by simp at hm) c)
   refine wp_cond_split hc (fun e=>?_) (fun e=>?_)
   ·refine wp_mono (ihx (H.1 e) hg ⟨ρ,R0⟩) ?_
    rintro e a2 w2 ⟨ex,st2,h2,he,hq,R2,hg2,E2⟩;exact⟨ex,st2,h2,he,hq,R2,hg2,E2.mono fun i hi=>by simp [QH,hi]⟩
   ·refine wp_mono (ihy (H.2 e) hg ⟨ρ,R0⟩) ?_
    rintro e a2 w2 ⟨ex,st2,h2,he,hq,R2,hg2,E2⟩;exact⟨ex,st2,h2,he,hq,R2,hg2,E2.mono fun i hi=>by simp [QH,hi]⟩
  ·exact H.elim
 | block id x ihx=>
  intro st h a w Q H hg R;refine wp_block (wp_mono (ihx H hg R) ?_)
  rintro e a' w' ⟨ex,st',h',he,hq,R',hg',E'⟩;cases e with
  | normal=>simp only [QQ,bH] at he;subst he;exact⟨_,st',h',rfl,hq,R',hg',E'⟩
  | exit i=>
   simp only [QQ,bH] at he;subst he;simp only at hq;simp only [Exit.inBlock];cases hb:Nat.beq i id with
   | true=>
    rw [hb] at hq;rw [bJ (cT hb)];exact⟨_,st',h',rfl,hq,R',hg',E'⟩
   | false=>
    rw [hb] at hq;rw [bE (d7 hb)];exact⟨_,st',h',rfl,hq,R',hg',E'⟩
  | ret=>simp only [QQ,bH] at he;subst he;exact⟨_,st',h',rfl,hq,R',hg',E'⟩
  | goto l=>simp [QQ] at he
  | panic ch=>simp [QQ] at he
  | outgrown=>simp [QQ] at he
 | loop x ihx=>
  intro st h a w Q H hg R;simp only [vcC] at H;split at H
  ·exact H.elim
  ·rename_i slots shs bxs hann;split at H
   ·exact H.elim
   ·exact H.elim
   ·rename_i vs0 hv0 hchk;simp only [cG] at hchk;obtain⟨⟨hc1,hc2⟩,hc3⟩:=hchk;have hshs:=cT hc1;have hlens:=Ww hc2;have hsub:=QgW hc3;obtain⟨I,μ,hI0,hround⟩:=H;have hR:=R;obtain⟨ρ,R0⟩:=R;have hg0:=QdS R0 hg;have hbnd:∀ i j o,i ∉ QH x->st.t i=.s (.bp j o)->j<st.b.length:=by
     intro i j o _ hi;have hr:=R0.fr i;rw [hi] at hr;obtain⟨b,h1,_⟩:=hr;exact R0.dom j b h1
    have hbi:∀(k:Nat)(q:Nat × List Sh1),bxs[k]?=some q->q.1<st.b.length:=by intro k q hq;obtain⟨bx,hbx,_⟩:=hlens k q hq;exact(bG.1 hbx).1
    let Inv:Nat->Act->World->Prop:=fun n a w=>∃ vs h' xs ys,n=μ vs h'/\I vs h'/\Rel w0 h0 (Y7 st (QH x) slots bxs xs ys) h' a w /\
     vcC P cfg x (Y7 st (QH x) slots bxs xs ys) h' fun e st' h''=>match e with
      | .nrm=>match YL st' slots bxs with
       | some vs'=>bif (NB 0 st.b st'.b bxs&&WD st' bxs) then(I vs' h''/\μ vs' h'' < μ vs h') else False
       | none=>False
      | e=>Q e st' h''
    have head:∀ st' h' a w vs,Rel w0 h0 st' h' a w->st'.g=(fun _=>false)->st'.n=st.n->(∀ i,i ∉ QH x->st'.t i=st.t i)->st.b.length<=st'.b.length ->
      (∀(j:Nat)(x y:Box),st.b[j]?=some x->st'.b[j]?=some y->y.ty=x.ty)->(∀(j:Nat)(x y:Box),(YJ j bxs).isSome=false->st.b[j]?=some x->st'.b[j]?=some y->Qn y.c=Qn x.c) ->
      (∀(k:Nat)(q:Nat × List Sh1)(y:Box),bxs[k]?=some q->st'.b[q.1]?=some y->y.c.length=q.2.length) ->
      YL st' slots bxs=some vs->I vs h'->Inv (μ vs h') a w:=by
     intro st' h' a w vs R' hg' hn' ht' hlb' hty' hsame' hlen' hv' hI';obtain⟨xs,hx,hxl⟩:=QaB (hround vs h' hI');obtain⟨ys,⟨hvs,hvc⟩,hyl,hylen⟩:=QcG hx;refine⟨vs,h',xs,ys,rfl,hI',?_,hvc⟩
     refine NQ hg0 hbnd hsub R' hg' hn' ht' hlb' hty' hsame' hbi (by rw [hv',hvs]) (by rw [hxl,hshs]) hyl ?_ hg
     intro k q y bx h1 h2 h3;rw [hylen k q y h1 h2,hlen' k q bx h1 h3]
    refine Qgx Inv (μ vs0 h) ?_ ?_
    ·refine head st h a w vs0 hR hg rfl (fun _ _=>rfl) (cB _) (fun j u v h1 h2=>by rw [h1] at h2;obtain rfl:=cU h2;rfl) (fun j u v _ h1 h2=>by rw [h1] at h2;obtain rfl:=cU h2;rfl) ?_ hv0 hI0
     intro k q y h1 h2;obtain⟨bx,hbx,hl⟩:=hlens k q h1;rw [hbx] at h2;obtain rfl:=cU h2;exact hl
    ·rintro n a w ⟨vs,h',xs,ys,rfl,hI',hRl,hvc⟩;refine wp_mono (ihx hvc hg hRl) ?_
     have hE0:Ev (QH x) st (Y7 st (QH x) slots bxs xs ys):=Qgy hsub;rintro e a2 w2 ⟨ex,st2,h2,he,hq,R2,hg2,E2⟩;cases e with
     | normal=>
      simp only [QQ,bH] at he;subst he;simp only at hq;split at hq
      ·rename_i vs' hv';cases hsB':(NB 0 st.b st2.b bxs&&WD st2 bxs) with
       | false=>rw [hsB'] at hq;exact hq.elim
       | true=>
        rw [hsB'] at hq;simp only [cX] at hq;simp only [cG] at hsB';obtain⟨hsB,hcl⟩:=hsB';have hE:=hE0.trans E2;refine⟨μ vs' h2,hq.2,head st2 h2 a2 w2 vs' R2 hg2 hE.n hE.t (QcN hE.b) ?_ ?_ ?_ hv' hq.1⟩
        ·intro j u v h1 h2;obtain⟨y,hy,ht,_⟩:=hE.b j u h1;rw [h2] at hy;obtain rfl:=cU hy;exact ht
        ·intro j u v hl h1 h2;have hs:=(Qai _ _ _ 0 hsB).2 j u v (by rw [dW];exact hl) h1 h2
         obtain⟨y,hy,_,_,hst⟩:=hE.b j u h1;rw [h2] at hy;obtain rfl:=cU hy;rw [hst hs.symm]
        ·intro k q y h1 h2;obtain⟨bx,hbx,hl⟩:=Ww hcl k q h1;rw [hbx] at h2;obtain rfl:=cU h2;exact hl
      ·exact hq.elim
     | exit id=>simp only [QQ,bH] at he;subst he;exact⟨_,st2,h2,rfl,hq,R2,hg2,hE0.trans E2⟩
     | ret=>simp only [QQ,bH] at he;subst he;exact⟨_,st2,h2,rfl,hq,R2,hg2,hE0.trans E2⟩
     | goto l=>simp [QQ] at he
     | panic ch=>simp [QQ] at he
     | outgrown=>simp [QQ] at he
 | exit id=>intro st h a w Q H hg R;exact wp_exit ⟨_,st,h,rfl,H,R,hg,qN _ _⟩
 | ret=>intro st h a w Q H hg R;exact wp_ret ⟨_,st,h,rfl,H,R,hg,qN _ _⟩
 | rangeFunc g ps asg body _ _=>
  intro st h a w Q H hg R;simp only [vcC] at H;split at H
  ·rename_i fv p q d rr sh bb e1 e2 e3 e4;rcases dC (WQ body&&Nat.beq q p&&Nat.blt p st.n&&Nat.blt d st.n) with hc|hc
   ·rw [hc] at H;simp only [cX] at H;simp only [cG] at hc;obtain⟨⟨⟨hfl,hqp⟩,hp⟩,hd⟩:=hc;obtain rfl:=cT hqp;exact Qhg hP e1 e2 e3 hfl (bP hp) (bP hd) H hg R
   ·rw [hc] at H;exact H.elim
  ·exact H.elim
 | _=>intros;rename_i H _ _;exact H.elim
end
section
variable {P:Program}{cfg:Cfg}{w0:World}{h0:Hp}
def WB (tm:Array Value):ResultVar->Sem Value
 | .tmp t=>pure (tm.getD t undef)
 | .cell c t=>do loadVar t (<-asAddr (tm.getD c undef))
def Qo2:List Value->Value
 | [v]=>v
 | vs=>.tuple vs.toArray
theorem resV_ok {ρ:Nat->Option Nat}{st:St}{h:Hp}{a:Act}{w:World}(R:RelR ρ w0 h0 st h a w):∀{l:List ResultVar} {vs:List Value},QjI P st l=some vs ->
  (l.mapM (WB a.tmps)).run P w=.ok vs w
 | [],vs,H=>by simp [QjI] at H;simp [<-H]
 | .tmp t :: l,vs,H=>by
  simp only [QjI] at H;split at H
  ·rename_i v vs' hv hl;simp only [bH] at H;subst H;have e:a.tmps.getD t undef=v:=val_ok R (fun _ _ hm=>by simp at hm) hv
   have ih:=resV_ok R hl;simp only [gT,Sem.run_bind,WB,Sem.run_pure,Result.andThen_ok,e,ih]
  ·simp at H
 | .cell c T :: l,vs,H=>by
  simp only [QjI] at H;split at H
  ·rename_i i vs' hc hl;split at H
   ·rename_i bx hbx;cases hb:Nat.beq bx.c.length (szT P T) with
    | false=>rw [hb] at H;simp at H
    | true=>
     rw [hb] at H;have hlen:=cT hb;obtain⟨b,h1,h2,h3,h4⟩:=R.box i bx hbx;have hr:=R.fr c;rw [hc] at hr;obtain⟨b',k1,k2⟩:=hr;rw [h1] at k1;obtain rfl:=cU k1;have ih:=resV_ok R hl;have e:(asAddr (a.tmps.getD c undef)).run P w=.ok ⟨b,0,none⟩ w:=by rw [k2];rfl
     have hcell:∀ j v,(Qn bx.c)[j]?=some v->w.cell? ((⟨b,0,none⟩:Addr).add j)=some v:=by intro j v hj;rw [Yo];simp [World.cell?,h2,hj]
     cases hA:QW P T with
     | true=>
      rw [hA] at H;simp only [cX,bH] at H;subst H;have hrun:=KI (P:=P) (w:=w) (b:=b) (o:=0) (l:=Qn bx.c) hA (by rw [QM,hlen]) hcell
      simp only [gT,Sem.run_bind,WB,e,Sem.run_pure,Result.andThen_ok,hrun,ih]
     | false=>
      rw [hA] at H;simp only [cX,dM] at H;split at H
      ·rename_i v hv;cases hS:(P.underlying T).isSome with
       | false=>rw [hS] at H;simp at H
       | true=>
       rw [hS] at H;simp only [cX,bH] at H;subst H;obtain⟨d,hd⟩:=fJ.1 hS;have hc0:w.cell? ⟨b,0,none⟩=some v.val:=by
        have:=hcell 0 v.val (by rw [hv];rfl)
        rwa [Yo] at this
       have hrun:=XV (P:=P) (w:=w) hA hd hc0;simp only [gT,Sem.run_bind,WB,e,Sem.run_pure,Result.andThen_ok,hrun,ih]
      ·simp at H
   ·simp at H
  ·simp at H
theorem vcRes_ok {st:St}{h:Hp}:∀{l:List ResultVar} {K:List Value->Prop},Qbs P st h l K->∃ vs,K vs/\∀{ρ:Nat->Option Nat} {a:Act} {w:World},RelR ρ w0 h0 st h a w->(l.mapM (WB a.tmps)).run P w=.ok vs w
 | [],K,H=>⟨[],H,fun _=>by simp⟩
 | r :: l,K,H=>by
  simp only [Qbs] at H;split at H
  ·rename_i v hv;obtain⟨vs,hk,ih⟩:=vcRes_ok H;refine⟨_,hk,fun {ρ a w} R=>?_⟩
   have h1:=resV_ok (P:=P) R hv;have h2:(WB a.tmps r).run P w=.ok v w:=by
    simp only [gT,List.mapM_nil,Sem.run_bind] at h1;cases hr:(WB a.tmps r).run P w with
    | ok v' w'=>
     rw [hr] at h1;simp [Result.andThen_ok] at h1;rw [h1.1,h1.2]
    | halt q w'=>rw [hr] at h1;simp [Result.andThen] at h1
   simp only [gT,Sem.run_bind,h2,Result.andThen_ok,ih R,Sem.run_pure]
  ·split at H
   ·rename_i c T _;split at H
    ·rename_i b o hc;cases hA:QW P T with
     | true=>rw [hA] at H;exact H.elim
     | false=>
      cases hS:(P.underlying T).isSome with
      | false=>rw [hA,hS] at H;exact H.elim
      | true=>
       rw [hA,hS] at H;simp only [Bool.not_false,Bool.and_true,cX] at H;obtain⟨x,hx,H⟩:=Gu H;obtain⟨vs,hk,ih⟩:=vcRes_ok H;refine⟨_,hk,fun {ρ a w} R=>?_⟩
       have hr:=R.fr c;rw [hc] at hr;have e:(asAddr (a.tmps.getD c undef)).run P w=.ok ⟨b,o,none⟩ w:=by rw [show a.tmps.getD c undef=.pointer (some ⟨b,o,none⟩) from hr];rfl
       obtain⟨d,hd⟩:=fJ.1 hS;have hc0:w.cell? ⟨b,o,none⟩=some x.val:=ZA hx R.sub;have hrun:=XV (P:=P) (w:=w) hA hd hc0;simp only [gT,Sem.run_bind,WB,e,Sem.run_pure,Result.andThen_ok,hrun,ih R]
    ·exact H.elim
   ·exact H.elim
theorem QeI {a:Act}{w:World}{fn:Func}{vs:List Value}(h1:(fn.results.toList.mapM (WB a.tmps)).run P w=.ok vs w) :
  (results fn a.tmps).run P w=.ok (Qo2 vs) w:=by
 have h2:results fn a.tmps=(do let vs <-fn.results.mapM (WB a.tmps);pure (if h:vs.size=1 then vs[0] else .tuple vs)):=rfl
 rw [h2,mY];simp only [Sem.run_bind,Sem.run_map,h1,Result.andThen_ok,Sem.run_pure];match vs with
 | []=>rfl
 | [v]=>rfl
 | u :: v :: l=>simp [Qo2]
theorem Wv {ρ:Nat->Option Nat}{st:St}{h:Hp}{fn:Func}{vs:List Value}{n:Nat}{K:Ending->World->Prop}(H:∀{ρ:Nat->Option Nat} {a:Act} {w:World},RelR ρ w0 h0 st h a w->(fn.results.toList.mapM (WB a.tmps)).run P w=.ok vs w)(hK:∀ W,Sub h W->Fr h0 h w0 W->K (.returned (Qo2 vs)) W) :
  ∀(ds:List Deferred) {a:Act} {w:World},RelR ρ w0 h0 st h a w->a.defers=ds->LeavesInM Fence.wide n P fn a.tmps K ds .returning w
 | [],a,w,R,_=>⟨_,QeI (H R),hK w R.sub R.F⟩
 | d :: ds,a,w,R,hd=>by
  have hm:=R.d;rw [hd] at hm;obtain⟨D,e,k1,k2,k3⟩:=hm.2 d bY;refine⟨by simp,.inl ⟨D,w.putObj D (.deferred none),by rw [e],run_takeDeferred k1,?_⟩⟩
  have hsz:(w.putObj D (.deferred none)).heap.size=w.heap.size:=by simp [World.putObj]
  have hoth:∀ b,b≠D->(w.putObj D (.deferred none)).heap[b]?=w.heap[b]?:=fun b hb=>World.putObj_heap_other hb
  have R':RelR ρ w0 h0 st h { a with defers:=ds } (w.putObj D (.deferred none)):=by
   refine⟨R.n,⟨(f8.1 hm.1).2,?_⟩,R.fr,R.gd,?_,⟨R.F.os,R.F.tape,R.F.output,by rw [hsz];exact R.F.size,?_⟩,?_,R.dom,R.inj⟩
   ·intro x hx;obtain⟨D',e',j1,j2,j3⟩:=hm.2 x (bT _ hx);refine⟨D',e',?_,j2,j3⟩
    rw [hoth D' (fun e2=>?_)]
    ·exact j1
    ·subst e2;rw [<-e] at e';subst e';exact(f8.1 hm.1).1 hx
   ·intro b o hb;rw [hoth b (fun e2=>by subst e2;rw [k2] at hb;cases hb)]
    exact R.sub b o hb
   ·intro b hb hn;rw [hoth b (fun e2=>by subst e2;omega)]
    exact R.F.keep b hb hn
   ·intro i bx hb;obtain⟨b,j1,j2,j3,j4⟩:=R.box i bx hb;refine⟨b,j1,?_,j3,j4⟩
    rw [hoth b (fun e2=>by subst e2;rw [k1] at j2;cases j2)]
    exact j2
  exact Wv (a:={ a with defers:=ds }) H hK ds R' rfl
theorem QcK (args:List TW)(n:Nat)(i:Nat):(ZN args i).ok (fun _=>none) ((args.map TW.val).toArray++Array.replicate n undef) (((args.map TW.val).toArray++Array.replicate n undef).getD i undef):=by
 have:∀(args:List TW)(i:Nat),ZN args i=.s .any\/∃ x,args[i]?=some x/\ZN args i=.s (.t x):=by
  intro args;induction args with
  | nil=>intro i;left;simp [ZN]
  | cons x l ih=>
   intro i;cases i with
   | zero=>right;exact⟨x,rfl,rfl⟩
   | succ i=>simpa [ZN] using ih i
 rcases this args i with h|⟨x,h1,h2⟩
 ·rw [h];exact trivial
 ·rw [h2];have hl:=(bG.1 h1).1
  simp only [Sl.ok,SV.ok,fY,Array.getElem?_append,gZ,bQ]
  rw [bJ hl];simp [h1]
theorem Qha (hP:WZ P)(hm:P.follows .mixedOrders=true){f:FuncId}{fn:Func}(hf:P.funcs[f]?=some fn){args:List TW}{h:Hp}{R:RtT}(hn:args.length<=fn.ntmps)(H:Qif P cfg fn args h R):Qa P f (args.map TW.val) h R:=by
 intro w hs;unfold Qif at H;split at H
 ·exact H.elim
 ·rename_i c hb;refine(callsIn_wide (n:=3)).1 (callsIn_of_wp_marks hf hb trivial (wpIn_wide.2 ?_))
  have hR0:Rel w h ⟨fn.ntmps,ZN args,fun _=>false,[]⟩ h { tmps:=(args.map TW.val).toArray++Array.replicate (fn.ntmps-(args.map TW.val).toArray.size) undef,defers:=[] } w:=by
   refine⟨fun _=>none,?_,⟨j6,fun d hd=>by cases hd⟩,QcK args _,?_,hs,Fr.refl h w,?_,?_,?_⟩
   ·simp;omega
   ·intro i s p x e;have:∀(args:List TW)(i:Nat),ZN args i≠.gd s p x:=by
     intro args;induction args with
     | nil=>intro i;simp [ZN]
     | cons y l ih=>intro i;cases i<;>simp [ZN];exact ih _
    exact(this args i e).elim
   ·intro i bx hbx;simp at hbx
   ·intro i b hb;simp at hb
   ·intro i j b hb;simp at hb
  refine wp_mono (QkM hP hm c H rfl hR0) ?_
  rintro e a' w' ⟨ex,st',h',he,hq,⟨ρ,R'⟩,hg',E'⟩;have fin:(Qbs P st' h' fn.results.toList fun vs=>match vs with
    | [v]=>R v h'
    | vs=>R (.tuple vs.toArray) h')->LeavesInM Fence.wide 3 P fn a'.tmps (fun e w'=>∃ v h',e=.returned v/\Sub h' w'/\Fr h h' w w'/\R v h') a'.defers .returning w':=by
   intro hx;obtain⟨vs,hk,hv⟩:=vcRes_ok hx;refine Wv hv (fun W k1 k2=>⟨_,h',rfl,k1,k2,?_⟩) _ R' rfl
   match vs,hk with
   | [],hk=>exact hk
   | [v],hk=>exact hk
   | u :: v :: l,hk=>exact hk
  cases e with
  | normal=>simp only [QQ,bH] at he;subst he;exact fin hq
  | ret=>simp only [QQ,bH] at he;subst he;exact fin hq
  | exit id=>simp only [QQ,bH] at he;subst he;exact hq.elim
  | goto l=>simp [QQ] at he
  | panic ch=>simp [QQ] at he
  | outgrown=>simp [QQ] at he
theorem Ud (hP:WZ P)(hm:P.follows .mixedOrders=true){f:FuncId}{fn:Func}(hf:P.funcs[f]?=some fn)(args:List TW){vs:List Value}{h:Hp}{R:RtT}(hn:Nat.ble args.length fn.ntmps=true)(hv:vs=args.map TW.val){V:Prop}(hV:V=Qif P cfg fn args h R)(H:V):Qa P f vs h R:=by
 subst hv;exact Qha hP hm hf (bP hn) (hV▸H)
theorem Qa.mono {f:FuncId}{vs:List Value}{h:Hp}{R R':RtT}(H:Qa P f vs h R)(hr:∀ v h',R v h'->R' v h'):Qa P f vs h R':=
 fun w hs=>(H w hs).mono fun e w' ⟨v,h',h1,h2,h3,h4⟩=>⟨v,h',h1,h2,h3,hr _ _ h4⟩
end
theorem Hp.le_refl (h:Hp):h.le h:=fun _ _ e=>e
theorem Hp.le_trans {a b c:Hp}(x:a.le b)(y:b.le c):a.le c:=fun i o e=>y i o (x i o e)
theorem Hp.le_set {a b:Hp}(x:a.le b){i:Nat}(hi:b i=none)(o:Obj):a.le (b.set i o):=fun j p e=>by
 have:=x j p e;unfold Hp.set;split
 ·rename_i he;subst he;rw [hi] at this;cases this
 ·exact this
theorem Hp.none_of_le {a b:Hp}(x:a.le b){i:Nat}(hi:b i=none):a i=none:=by
 cases e:a i with
 | none=>rfl
 | some o=>rw [x i o e] at hi;cases hi
def Qe (h:Hp)(a:OaT)(xs:List Value):Prop:=xs=[]\/∃ b o,a=some ⟨b,o,none⟩/\h.row b o xs.length=some xs
theorem Hp.row_le {h h':Hp}(hl:h.le h'){b o n:Nat}{xs:List Value}(e:h.row b o n=some xs):h'.row b o n=some xs:=by
 unfold Hp.row at e ⊢;cases hb:h b with
 | none=>rw [hb] at e;cases e
 | some ob=>rw [hb] at e;rw [hl b ob hb];exact e
theorem Hp.cell_le {h h':Hp}(hl:h.le h'){b o:Nat}{x:Value}(e:h.cell b o=some x):h'.cell b o=some x:=by
 unfold Hp.cell at e ⊢;cases hb:h b with
 | none=>rw [hb] at e;cases e
 | some ob=>rw [hb] at e;rw [hl b ob hb];exact e
theorem Qe.le {h h':Hp}(hl:h.le h'){a:OaT}{xs:List Value}(H:Qe h a xs):Qe h' a xs:=by
 rcases H with rfl|⟨b,o,rfl,e⟩
 ·exact .inl rfl
 ·exact .inr ⟨b,o,rfl,Hp.row_le hl e⟩
theorem Hp.row_spec {h:Hp}{b o n:Nat}{xs:List Value}:h.row b o n=some xs↔∃ c t f,h b=some (.cells c t f)/\o+n<=c.size/\xs=(c.toList.drop o).take n:=by
 unfold Hp.row;cases hb:h b with
 | none=>simp
 | some ob=>
  cases ob with
  | cells c t f=>
   by_cases hle:o+n<=c.size
   ·simp [hle];exact⟨fun e=>e.symm,fun e=>e.symm⟩
   ·simp [hle]
  | _=>simp
theorem Hp.row_cell {h:Hp}{b o n:Nat}{xs:List Value}(e:h.row b o n=some xs){i:Nat}{x:Value}(hx:xs[i]?=some x):h.cell b (o+i)=some x:=by
 obtain⟨c,t,f,hb,hle,rfl⟩:=Hp.row_spec.1 e;unfold Hp.cell;rw [hb];rw [gE] at hx
 split at hx
 ·simpa using hx
 ·cases hx
theorem Hp.row_sub {h:Hp}{b o n:Nat}{xs:List Value}(e:h.row b o n=some xs){i k:Nat}(hi:i+k<=n):h.row b (o+i) k=some ((xs.drop i).take k):=by
 obtain⟨c,t,f,hb,hle,rfl⟩:=Hp.row_spec.1 e;refine Hp.row_spec.2 ⟨c,t,f,hb,by omega,?_⟩
 rw [List.drop_take,jP,gY];congr 1
 omega
theorem Qht (h:Hp)(b:Nat)(xs:List Value)(t:TypeId):(h.set b (Qb xs t)).row b 0 xs.length=some xs:=
 Hp.row_spec.2 ⟨xs.toArray,t,(0,0),by simp [Hp.set],by simp,by simp⟩
theorem Qe.new (h:Hp)(b:Nat)(xs:List Value)(t:TypeId):Qe (h.set b (Qb xs t)) (some ⟨b,0,none⟩) xs:=.inr ⟨b,0,rfl,Qht h b xs t⟩
def QT (h:Hp)(e:TypeId)(sz:Nat)(a:OaT)(n c:Nat)(xs:List Value):Prop:=
 xs.length=n*sz/\((a=none/\n=0/\c=0)\/∃ g cur,a=some ⟨g,0,none⟩/\h g=some (.cells cur e (0,0))/\n<=c/\c<=maxLen/\cur.size=c*sz/\cur.toList.take (n*sz)=xs)
theorem QT.nil (h:Hp)(e:TypeId)(sz:Nat):QT h e sz none 0 0 []:=⟨by simp,.inl ⟨rfl,rfl,rfl⟩⟩
theorem QT.new (h:Hp)(b:Nat)(e:TypeId){sz n:Nat}(xs:List Value)(hl:xs.length=n*sz)(hn:n<=maxLen):QT (h.set b (Qb xs e)) e sz (some ⟨b,0,none⟩) n n xs:=
 ⟨hl,.inr ⟨b,xs.toArray,rfl,by simp [Hp.set],cB _,hn,by simpa using hl,by rw [<-hl];simp⟩⟩
theorem QT.row {h:Hp}{e:TypeId}{sz n c:Nat}{a:OaT}{xs:List Value}(H:QT h e sz a n c xs):Qe h a xs:=by
 rcases H with ⟨hl,⟨rfl,rfl,rfl⟩|⟨g,cur,rfl,hg,hn,hc,hs,ht⟩⟩
 ·exact .inl (dR (by simpa using hl))
 ·refine .inr ⟨g,0,rfl,Hp.row_spec.2 ⟨cur,e,(0,0),hg,?_,?_⟩⟩
  ·rw [hl,hs,dW];exact d9 _ hn
  ·rw [hl];simpa using ht.symm
theorem QT.keep {h h':Hp}{e:TypeId}{sz n c:Nat}{a:OaT}{xs:List Value}(H:QT h e sz a n c xs)(hk:∀ g o,a=some ⟨g,0,none⟩->h g=some o->h' g=some o):QT h' e sz a n c xs:=by
 refine⟨H.1,?_⟩
 rcases H.2 with h1|⟨g,cur,rfl,hg,h2⟩
 ·exact .inl h1
 ·exact .inr ⟨g,cur,rfl,hk g _ rfl hg,h2⟩
theorem QT.le {h h':Hp}(hl:h.le h'){e:TypeId}{sz n c:Nat}{a:OaT}{xs:List Value}(H:QT h e sz a n c xs):QT h' e sz a n c xs:=H.keep fun g o _ hg=>hl g o hg
structure ElT (P:Program)(t e:TypeId)(sz bytes:Nat):Prop where
 sl:P.underlying t=some (.slice e)
 el:∃ i z,P.info? e=some i/\i.zero=some z/\i.size=sz/\i.bytes=bytes/\z.cells.size=sz
 pos:0<sz
def QpR (P:Program)(e:TypeId)(sz bytes:Nat):Bool:=
 match P.info? e with
 | some i=>(match i.zero with|some z=>Nat.beq i.size sz&&(Nat.beq i.bytes bytes&&Nat.beq z.cells.size sz)|none=>false)
 | none=>false
theorem ElT.of {P:Program}{t e:TypeId}{sz bytes:Nat}(h1:P.underlying t=some (.slice e))(h2:QpR P e sz bytes=true)(h3:0<sz):ElT P t e sz bytes:=by
 refine⟨h1,?_,h3⟩
 unfold QpR at h2;split at h2
 ·rename_i i hi;split at h2
  ·rename_i z hz;simp only [cG,pO] at h2;exact⟨i,z,hi,hz,h2.1,h2.2.1,h2.2.2⟩
  ·cases h2
 ·cases h2
section
variable {P:Program}
theorem Qe.cells {h:Hp}{w:World}(hs:Sub h w){a:Addr}{xs:List Value}(H:Qe h (some a) xs):∀ j u,xs[j]?=some u->w.cell? (a.add j)=some u:=by
 intro j u hu;rcases H with rfl|⟨b,o,e,hr⟩
 ·simp at hu
 ·cases e;have:=Hp.row_cell hr hu;have hadd:(⟨b,o,none⟩:Addr).add j=⟨b,o+j,none⟩:=by unfold Addr.add;split<;>simp_all
  rw [hadd];exact ZA this hs
theorem JC {h:Hp}{w:World}(hs:Sub h w){g:Nat}{cs old:Array Value}{t:TypeId}{fz:Nat × Nat}(hg:h g=some (.cells old t fz)):Sub (h.set g (.cells cs t fz)) (w.setRow g cs):=by
 intro b o hb;have hw:=hs g _ hg;unfold Hp.set at hb;split at hb
 ·rename_i he;subst he;simp only [bH] at hb;subst hb;exact setRow_heap w b old cs t fz hw
 ·rename_i hne;rw [setRow_other w g b cs hne];exact hs b o hb
theorem UO {h:Hp}{w:World}{g:Nat}{cs old:Array Value}{t:TypeId}{fz:Nat × Nat}(hg:h g=some (.cells old t fz)):Fr h (h.set g (.cells cs t fz)) w (w.setRow g cs):=by
 refine⟨rfl,rfl,rfl,by simp,fun b hb hn=>?_⟩
 have hne:b≠g:=fun e=>by subst e;rw [hg] at hn;cases hn
 exact⟨setRow_other w g b cs hne,by simp [Hp.set,hne,hn]⟩
theorem Xi {h:Hp}{w:World}(hs:Sub h w)(o:Obj):Sub (h.set w.heap.size o) (w.drew.alloc o):=Sub.pushSet (w:=w.drew) hs o
theorem XT (h:Hp)(w:World)(o:Obj):Fr h (h.set w.heap.size o) w (w.drew.alloc o):=
 let f:=Fr.pushSet h w.drew o;⟨f.os,f.tape,f.output,f.size,f.keep⟩
theorem Qab {h:Hp}{t ty e:TypeId}{sz bytes:Nat}(T:ElT P t e sz bytes){a:OaT}{n c:Nat}{xs:List Value}(H:QT h e sz a n c xs)
  {a2:OaT} {m c2:Nat} {news:List Value} (H2:Qe h a2 news) (hl:news.length=m*sz) (h1:∀ u ∈ news,u.oneCell'=true)
  (hb:(n+m)*bytes<=140737488355328) (hm:n+m<=140737488355328) {K:RtT}
  (hK:∀ a' c' h',QT h' e sz a' (n+m) c' (xs++news)->(∀ b o,h b=some o->a≠some ⟨b,0,none⟩->h' b=some o)->(∀ g,a'=some ⟨g,0,none⟩->a=a'\/h g=none)->(a'=none->a=none)->(∀ b,h b=none->a'≠some ⟨b,0,none⟩->h' b=none)->K (vsl a' (n+m) c') h') :
  Qh P (Builtin.append_ #[t,t] ty #[vsl a n c,vsl a2 m c2]) h K:=by
 intro w hs;obtain⟨i,z,hi,hz,rfl,rfl,hzs⟩:=T.el;have hlen:(xs++news).length=(n+m)*i.size:=by rw [bO,H.1,hl,gH]
 have h63:n+m<=maxLen:=by simp only [maxLen];omega
 by_cases hm0:m=0
 ·subst hm0;have hn:news=[]:=dR (by simpa using hl)
  subst hn;refine⟨vsl a n c,w,h,?_,hs,Fr.refl h w,?_⟩
  ·have hf:(Builtin.firstCells i.size 0 (.slice a2 0 c2)).run P w=.ok #[] w:=by
    cases a2 with
    | none=>exact run_firstCells_none w i.size 0 0 c2
    | some ad=>exact run_firstCells_some w i.size 0 ad 0 c2 [] (by simp) (by simp)
   rcases H.2 with ⟨rfl,rfl,rfl⟩|⟨g,cur,rfl,hg,hnc,hcm,hcs,ht⟩
   ·simp [Builtin.append_,run_underlying T.sl,sizeOf,typeInfo,hi,Builtin.lenOf,hf]
   ·simp [Builtin.append_,run_underlying T.sl,sizeOf,typeInfo,hi,Builtin.lenOf,hf,hnc,storeCells]
  ·have:=hK a c h (by simpa using H) (fun b o hb _=>hb) (fun g _=>.inl rfl) (fun e=>e) (fun b hb _=>hb)
   simpa using this
 ·have hnn:news≠[]:=fun e=>by
   subst e;have h0:m*i.size=0:=by simpa using hl.symm
   rcases pU.1 h0 with h2|h2
   ·exact hm0 h2
   ·have:=T.pos;omega
  obtain⟨b2,o2,rfl,hr2⟩:=(show ∃ b o,a2=some ⟨b,o,none⟩/\h.row b o news.length=some news from H2.resolve_left hnn)
  have hnews:=Qe.cells hs (a:=⟨b2,o2,none⟩) H2;have grown:∀ old,old<n+m->QT (h.set w.heap.size (.cells (xs.toArray++news.toArray++Builtin.zeroCells z.cells (grownCap w (n+m) old e-(n+m))) e (0,0))) e i.size (some ⟨w.heap.size,0,none⟩) (n+m) (grownCap w (n+m) old e) (xs++news):=by
   intro old ho;have hge:=grownCap_ge w (n+m) old e;have hcm:grownCap w (n+m) old e<=maxLen:=grownCap_le_maxLen w (n+m) old e h63;refine⟨hlen,.inr ⟨w.heap.size,_,rfl,qK _ _ _,hge,hcm,?_,?_⟩⟩
   ·simp only [kY,gZ,size_zeroCells,hzs,H.1,hl,<-gH];congr 1
    omega
   ·simp only [kS,bX];rw [<-bX,<-hlen];exact mU
  have hno:h w.heap.size=none:=Sub.none hs;have oldk:∀(O:Obj)(b:Nat)(o:Obj),h b=some o->(h.set w.heap.size O) b=some o:=by
   intro O b o hb;have:b≠w.heap.size:=fun e=>by subst e;rw [hno] at hb;cases hb
   simp [Hp.set,this,hb]
  have newk:∀(O:Obj)(b:Nat),h b=none->some ⟨w.heap.size,0,none⟩≠some (⟨b,0,none⟩:Addr)->(h.set w.heap.size O) b=none:=by
   intro O b hb hne;have:b≠w.heap.size:=fun e=>hne (by rw [e])
   simp [Hp.set,this,hb]
  rcases H.2 with ⟨rfl,rfl,rfl⟩|⟨g,cur,rfl,hg,hnc,hcm,hcs,htake⟩
  ·have hx:xs=[]:=dR (by simpa using H.1)
   subst hx;have hr:=run_append_nil (P:=P) w t ty e i z T.sl hi hz ⟨b2,o2,none⟩ m c2 news hl hnews (by omega) (by omega) (by simp only [dW] at hb;omega)
   have hgr:=grown 0 (by omega)
   simp only [dW,dE,Array.empty_append] at hgr hK ⊢;exact⟨_,_,_,hr,Xi hs _,XT h w _,hK _ _ _ hgr (fun b o hb _=>oldk _ b o hb) (fun g e=>.inr (by simp only [bH,Addr.mk.injEq,mH] at e;rw [<-e];exact hno)) (by simp) (fun b hb hne=>newk _ b hb hne)⟩
  ·have hw:=hs g _ hg;by_cases hroom:n+m<=c
   ·have hfit:n*i.size+news.length<=cur.size:=by rw [hl,hcs,<-gH];exact d9 _ hroom
    have hr:=run_append_room (P:=P) w t ty e i T.sl hi g n c cur hw ⟨b2,o2,none⟩ m c2 news hl hnews h1 hroom hfit;refine⟨_,_,_,hr,JC hs hg,UO hg,hK _ _ _ ⟨hlen,.inr ⟨g,_,rfl,qK _ _ _,hroom,hcm,?_,?_⟩⟩ ?_ (fun g' e=>.inl rfl) (fun e=>e) ?_⟩
    ·simp only [gZ,bO,bZ,d5,fE];omega
    ·simp only;rw [htake,<-hlen];exact mU
    ·intro b o hb hne;have:b≠g:=fun e=>hne (by rw [e])
     simp [Hp.set,this,hb]
    ·intro b hb hne;have:b≠g:=fun e=>hne (by rw [e])
     simp [Hp.set,this,hb]
   ·have holds:∀ j u,xs[j]?=some u->w.cell? ((⟨g,0,none⟩:Addr).add j)=some u:=Qe.cells hs (a:=⟨g,0,none⟩) H.row
    have hr:=run_append_grow (P:=P) w t ty e i z T.sl hi hz ⟨g,0,none⟩ n c xs H.1 holds ⟨b2,o2,none⟩ m c2 news hl hnews (by omega) (by omega) (growslice_fits (by omega) hb)
    have hgr:=grown c (by omega)
    exact⟨_,_,_,hr,Xi hs _,XT h w _,hK _ _ _ hgr (fun b o hb _=>oldk _ b o hb) (fun g e=>.inr (by simp only [bH,Addr.mk.injEq,mH] at e;rw [<-e];exact hno)) (fun e=>by cases e) (fun b hb hne=>newk _ b hb hne)⟩
end
abbrev _root_.qO:=@Hp.le_refl
abbrev _root_.qP:=@Hp.le_trans
abbrev _root_.qQ:=@Hp.le_set
abbrev _root_.qR:=@Hp.none_of_le
abbrev _root_.qS:=@Hp.cell_le
abbrev _root_.qT:=@Hp.row_cell
abbrev _root_.qU:=@Hp.row_sub
abbrev _root_.qW:=@Qe.new
abbrev _root_.qX:=@QT.nil
open Go.ChangeAt Go.ChangeShapes Go.RowKit Go.WideShapes
def G9 (w:World):Hp:=fun b=>w.heap[b]?
structure Qh2 (w w':World):Prop where
 os:w'.os=w.os
 output:w'.output=w.output
 size:w.heap.size<=w'.heap.size
 heap:∀(b:Nat)(o:Obj),w.heap[b]?=some o->w'.heap[b]?=some o
section
variable {P:Program}
theorem Qmn {f:FuncId}{args:List Value}{W:World}(H:Qa P f args (G9 W) fun v h'=>v=vb true/\(G9 W).le h') :
  Calls P f args.toArray W fun e W'=>e=.returned (.bool true)/\Qh2 W W':=by
 refine(H W fun b o hb=>hb).mono ?_
 rintro e W' ⟨v,h',rfl,hs,hF,rfl,hle⟩;exact⟨rfl,hF.os,hF.output,hF.size,fun b o hb=>hs b o (hle b o hb)⟩
theorem Ka {α β:Type}{f g:α->Option β}:∀{l:List α} {ys:List β},l.mapM f=some ys->(∀ x ∈ l,∀ y ∈ ys,f x=some y->g x=some y)->l.mapM g=some ys
 | [],ys,h,hg=>by simpa using h
 | x :: l,ys,h,hg=>by
  rw [gT] at h ⊢;simp only [kQ,dZ,mL,bH] at h ⊢;obtain⟨y,hy,zs,hzs,rfl⟩:=h;exact⟨y,hg x (by simp) y (by simp) hy,zs,Ka hzs (fun x' hx y' hy'=>hg x' (by simp [hx]) y' (by simp [hy'])),rfl⟩
theorem Kv {α β:Type}{f:α->Option β}:∀{l:List α} {ys:List β},l.mapM f=some ys->ys.length=l.length
 | [],ys,h=>by simp at h;subst h;rfl
 | x :: l,ys,h=>by
  rw [gT] at h;simp only [kQ,dZ,mL,bH] at h;obtain⟨y,hy,zs,hzs,rfl⟩:=h;simp [Kv hzs]
theorem Qh2.cell {w w':World}(K:Qh2 w w'){a:Addr}{v:Value}(h:w.cell? a=some v):w'.cell? a=some v:=by
 unfold World.cell? at h ⊢;cases hb:w.heap[a.block]? with
 | none=>rw [hb] at h;cases h
 | some o=>rw [K.heap _ _ hb];rw [hb] at h;exact h
theorem Qh2.cells {w w':World}(K:Qh2 w w'){base:Nat}{a:Addr}{n:Nat}{cs:List Value}(h:w.cells? base a n=some cs):w'.cells? base a n=some cs:=by
 unfold World.cells? at h ⊢;split at h
 ·rename_i hb;rw [bJ hb];exact Ka h fun _ _ _ _ e=>K.cell e
 ·cases h
def Qqe (P:Program)(N:Nat)(t:TypeId):Bool:=
 match P.underlying t with
 | some (.slice e)=>Nat.blt 0 (P.cellsOf e)&&Nat.blt e N
 | some (.pointer e)=>Nat.blt e N
 | some (.array _ e)=>Nat.blt e N
 | some (.map _ e)=>Nat.blt e N
 | some (.struct fs)=>fs.toList.all fun f=>Nat.blt f.type N
 | _=>true
structure Jh (P:Program):Prop where
 ty:∀ t,t<P.types.size->Qqe P P.types.size t=true
 gl:∀(g:Nat)(t:TypeId),(P.globals[g]?).map (·.type)=some t->t<P.types.size
theorem QhJ {P:Program}(h1:((List.range P.types.size).all (Qqe P P.types.size))=true)(h2:(P.globals.toList.all fun g=>Nat.blt g.type P.types.size)=true):Jh P where
 ty t ht:=j0.1 h1 t (mR.2 ht)
 gl g t hg:=by
  cases hb:P.globals[g]? with
  | none=>rw [hb] at hg;cases hg
  | some x=>
   rw [hb] at hg;simp only [fD,bH] at hg;subst hg;have:=j0.1 h2 x (by have:=mB hb;simpa using this)
   exact bP this
theorem Qkw {a:Addr}{n i:Nat}(hi:i<n):MemPlace.cell a.block (a.off+i) ∈ MemPlace.row a n:=by
 unfold MemPlace.row;exact cZ.2 ⟨i,mR.2 hi,rfl⟩
theorem Qgw {H:Type}{enc:TypeId × Value->H}(hS:Jh P){w w':World}(K:Qh2 w w'){base:Nat}{sp:Nat->Bool} :
  ∀{fuel:Nat} {t:TypeId} {cs:List Value} {d:DataW H} {ps:List MemPlace},t<P.types.size->DataW.trod enc P w base (fun _=>true) true fuel t cs=some (d,ps) ->
   (∀ p ∈ ps,sp p.block=true)->DataW.trod enc P w' base sp true fuel t cs=some (d,ps):=by
 intro fuel;induction fuel with
 | zero=>intro t cs d ps ht h;simp [DataW.trod] at h
 | succ fuel ih=>
  intro t cs d ps ht h hp;have htk:=hS.ty t ht;unfold Qqe at htk;unfold DataW.trod at h ⊢;split at h;case h_6=>
   rename_i e a hu;rw [hu] at htk;dsimp only at htk
   simp only [dF,dZ] at h ⊢;obtain⟨x,⟨cs',hc,hx⟩,he⟩:=h;have he2:=he;simp only [fC] at he2;obtain⟨rfl,rfl⟩:=he2;exact⟨x,⟨cs',K.cells hc,ih (bP htk) hx fun p hpx=>hp p (gS _ hpx)⟩,rfl⟩
  case h_8=>
   rename_i e a len cap hu;rw [hu] at htk;simp only [cG] at htk;split at h
   ·rename_i hc;rw [bJ hc];simp only [dZ,dF,qI] at h;obtain⟨elems,he,rest,hr,hx⟩:=h;simp only [fC] at hx;obtain⟨rfl,rfl⟩:=hx;have hel:elems.length=len:=by have:=Kv he;simpa using this
    have hrl:rest.length=cap-len:=by have:=Kv hr;simpa using this
    have one:∀(i:Nat)(y:DataW H × List MemPlace),y ∈ elems++rest->((w.cells? base (a.add (i*P.cellsOf e)) (P.cellsOf e)).bind (DataW.trod enc P w base (fun _=>true) true fuel e))=some y ->
      ((w'.cells? base (a.add (i*P.cellsOf e)) (P.cellsOf e)).bind (DataW.trod enc P w' base sp true fuel e))=some y:=by
     intro i y hy h1;simp only [dZ] at h1 ⊢;obtain⟨cs',h2,h3⟩:=h1;exact⟨cs',K.cells h2,ih (bP htk.2) h3 fun p hpy=>hp p (gS _ (fI.2 ⟨y,hy,hpy⟩))⟩
    simp only [dZ,dF];refine⟨elems,Ka he fun i _ y hy h1=>one i y (fF _ hy) h1,rest,?_,rfl⟩
    by_cases hz:cap=0
    ·have h0:rest=[]:=dR (by omega)
     subst h0;subst hz;split<;>simp
    ·have hsp:sp a.block=true:=by
      have h0:0<(elems.length+rest.length)*P.cellsOf e:=Nat.mul_pos (by omega) (bP htk.1)
      exact hp _ (fF _ (Qkw h0))
     rw [bJ hsp];exact Ka hr fun j _ y hy h1=>one (len+j) y (gS _ hy) h1
   ·cases h
  case h_9=>
   rename_i fs hu;rw [hu] at htk;dsimp only at htk
   split at h
   ·rename_i hc;rw [bJ hc];simp only [dF] at h ⊢;obtain⟨xs,hx,he⟩:=h;have he2:=he;simp only [fC] at he2;obtain⟨rfl,rfl⟩:=he2;exact⟨xs,Ka hx fun f hf y hy h1=>ih (bP (j0.1 htk f hf)) h1 fun p hpy=>hp p (fI.2 ⟨y,hy,hpy⟩),rfl⟩
   ·cases h
  case h_10=>
   rename_i n e hu;rw [hu] at htk;dsimp only at htk
   split at h
   ·rename_i hc;rw [bJ hc];simp only [dF] at h ⊢;obtain⟨xs,hx,he⟩:=h;have he2:=he;simp only [fC] at he2;obtain⟨rfl,rfl⟩:=he2;exact⟨xs,Ka hx fun f _ y hy h1=>ih (bP htk) h1 fun p hpy=>hp p (fI.2 ⟨y,hy,hpy⟩),rfl⟩
   ·cases h
  case h_12=>
   simp only at h ⊢;exact h
  case h_14=>
   rename_i k e b hu;rw [hu] at htk;dsimp only at htk
   split at h
   ·rename_i es clock hb;rw [K.heap _ _ hb];simp only;split at h
    ·rename_i hc;rw [bJ hc];simp only [dZ] at h ⊢;obtain⟨entries,hx,hrest⟩:=h;refine⟨entries,?_,hrest⟩
     split at hrest
     ·simp only [bH,fC] at hrest;obtain⟨rfl,rfl⟩:=hrest;refine Ka hx fun f _ y hy h1=>?_
      simp only [dZ] at h1 ⊢;obtain⟨key,hk,h2⟩:=h1;refine⟨key,hk,?_⟩
      split at h2
      ·rename_i hf;rw [bJ hf];simp only [dF] at h2 ⊢;obtain⟨z,hz,rfl⟩:=h2;exact⟨z,ih (bP htk) hz fun p hpy=>hp p (bT _ (fI.2 ⟨_,hy,hpy⟩)),rfl⟩
      ·cases h2
     ·cases hrest
    ·cases h
   ·cases h
  all_goals first|(cases h;done)|(simp_all;done)
theorem Qa9 {H:Type}{enc:TypeId × Value->H}(hS:Jh P){w w':World}(K:Qh2 w w'){base:Nat}{sp:Nat->Bool} :
  ∀{ts:List TypeId} {vs:List Value} {ds:List (DataW H)} {ps:List MemPlace},(∀ t ∈ ts,t<P.types.size)->DataW.TrodAll enc P w base (fun _=>true) true ts vs ds ps ->
   (∀ p ∈ ps,sp p.block=true)->DataW.TrodAll enc P w' base sp true ts vs ds ps
 | [],[],[],ps,_,h,hp=>h
 | t :: ts,v :: vs,d :: ds,ps,ht,h,hp=>by
  obtain⟨p,q,⟨fuel,h1⟩,h2,rfl⟩:=h;exact⟨p,q,⟨fuel,Qgw hS K (ht t (by simp)) h1 fun x hx=>hp x (fF _ hx)⟩,Qa9 hS K (fun x hx=>ht x (by simp [hx])) h2 (fun x hx=>hp x (gS _ hx)),rfl⟩
 | [],_ :: _,_,_,_,h,_=>by simp [DataW.TrodAll] at h
 | [],[],_ :: _,_,_,h,_=>by simp [DataW.TrodAll] at h
 | _ :: _,[],_,_,_,h,_=>by simp [DataW.TrodAll] at h
 | _ :: _,_ :: _,[],_,_,h,_=>by simp [DataW.TrodAll] at h
theorem NG {H:Type}{enc:TypeId × Value->H}(hS:Jh P){w w':World}(K:Qh2 w w'){sp:Nat->Bool} :
  ∀{ns:List String} {ds:List (DataW H)} {ps:List MemPlace},DataW.TrodVars enc P w (fun _=>true) ns ds ps ->
   (∀ p ∈ ps,sp p.block=true)->DataW.TrodVars enc P w' sp ns ds ps
 | [],[],ps,h,hp=>h
 | n :: ns,d :: ds,ps,h,hp=>by
  obtain⟨g,t,cs,fuel,p,q,hn,ht,hv,h1,h2,rfl⟩:=h;refine⟨g,t,cs,fuel,p,q,hn,ht,?_,Qgw hS K (hS.gl g t ht) h1 fun x hx=>hp x (fF _ (gS _ hx)),NG hS K h2 (fun x hx=>hp x (gS _ hx)),rfl⟩
  unfold World.var? at hv ⊢;rw [hn] at hv ⊢;simp only [gX] at hv ⊢;cases hb:w.heap[g]? with
  | none=>rw [hb] at hv;cases hv
  | some o=>rw [K.heap _ _ hb];rw [hb] at hv;exact hv
 | [],_ :: _,_,h,_=>by simp [DataW.TrodVars] at h
 | _ :: _,[],_,h,_=>by simp [DataW.TrodVars] at h
theorem Qnk {H:Type}{enc:TypeId × Value->H}(hS:Jh P){f:Func}{s:ChangeSpec}{apart fresh handsOn again:Bool}{W W':World}{args:Array Value}{ds gs:List (DataW H)}{before:List MemPlace}
  (hW:DataW.Whole enc P f.params.toList s.vars apart W args.toList ds gs before) (K:Qh2 W W') (hts:(f.params.toList.all fun t=>Nat.blt t P.types.size)=true) {tb:TypeId} (hr:f.resultTypes=#[tb]) (hb:P.underlying tb=some .bool)
  (hs:s.fn H (ds++gs)={ results:=[.lit (.bool true)],args:=ds,vars:=gs }) :
  s.post enc P f apart fresh handsOn again W args (vb true) W':=by
 have hlt:∀ p ∈ before,p.block<W.heap.size:=fun p hp=>hW.lt p hp
 have hW0:=hW;obtain⟨pa,pv,hA,hV,rfl,hz,hn⟩:=hW;have hres:∀(b:Nat)(sp:Nat->Bool)(hd:Bool),DataW.TrodAll enc P W' b sp hd f.resultTypes.toList ((vb true).resultList f.resultTypes.size) [.lit (.bool true)] []:=by intro b sp hd;rw [hr];exact trodAll_cons_mk (shut_bool hb _) trodAll_mk0
 have hargs:∀ sp:Nat->Bool,(∀ p ∈ pa++pv,sp p.block=true)->DataW.TrodAll enc P W' 0 sp true f.params.toList args.toList ds pa:=fun sp hp=>Qa9 hS K (fun t ht=>bP (j0.1 hts t ht)) hA fun p h=>hp p (fF _ h)
 have hvars:∀ sp:Nat->Bool,(∀ p ∈ pa++pv,sp p.block=true)->DataW.TrodVars enc P W' sp s.vars gs pv:=fun sp hp=>NG hS K hV fun p h=>hp p (gS _ h)
 have hold:∀ p ∈ pa++pv,(fun b=>decide (b<W.heap.size)) p.block=true:=fun p hp=>by simpa using hlt p hp
 have hall:∀ p ∈ pa++pv,(fun _:Nat=>true) p.block=true:=fun _ _=>rfl
 refine⟨ds,gs,pa++pv,[],pa,pv,hW0,?_,?_,?_,⟨K.os,K.output,fun i hi=>?_⟩,fun _=>⟨?_,_,gs,([]++pa)++pv,⟨[]++pa,pv,trodAll_append (hargs _ hall) (hres _ _ _),hvars _ hall,rfl,?_,?_⟩,?_⟩⟩
 ·rw [hs];exact hres _ _ _
 ·rw [hs];exact hargs _ hold
 ·rw [hs];exact hvars _ hold
 ·cases hb:W.heap[i]? with
  | none=>simp at hb;omega
  | some o=>rw [K.heap _ _ hb];cases o<;>simp
 ·intro j t r h1 h2;exact ok_one hr rfl (okWide_bool_mk hb _) j t r h1 h2
 ·intro b off hp;have h1:=hz b off (by simpa using hp)
  have h2:=hlt (.cell b off) (by simpa using hp)
  unfold World.frozen? at h1 ⊢;cases hb:W.heap[b]? with
  | none=>simp [MemPlace.block] at hb h2;omega
  | some o=>rw [hb] at h1;rw [K.heap _ _ hb];exact h1
 ·intro ha;simpa using hn ha
 ·intro p hp _;simpa using hp
end
end Go.Vc
namespace Go.Vc
open Go
theorem isW {e:Int}(h:InR e):IsW e e:=(IntWalk.i64_in _ (by unfold InR at h;exact h)).symm
theorem iW {e:Int}(h:InR e:=by unfold InR;omega):IsW e e:=isW h
instance (z:Int):Decidable (InR z):=by unfold InR;infer_instance
structure Qg (h0 h:Hp)(e:TypeId)(sz:Nat)(a:OaT)(n c:Nat)(xs:List Value):Prop where
 le:h0.le h
 own:QT h e sz a n c xs
 new:∀ g,a=some ⟨g,0,none⟩->h0 g=none
theorem Qg.nil {h0 h:Hp}(hl:h0.le h)(e:TypeId)(sz:Nat):Qg h0 h e sz none 0 0 []:=⟨hl,qX h e sz,by simp⟩
theorem Qg.mk_new {h0 h:Hp}(hl:h0.le h){b:Nat}(hb:h b=none)(e:TypeId){sz n:Nat}(xs:List Value)(hx:xs.length=n*sz)(hn:n<=maxLen) :
  Qg h0 (h.set b (Qb xs e)) e sz (some ⟨b,0,none⟩) n n xs:=
 ⟨qQ hl hb _,QT.new h b e xs hx hn,fun g hg=>by simp only [bH,Addr.mk.injEq,mH] at hg;subst hg;exact qR hl hb⟩
theorem Qg.row {h0 h:Hp}{e:TypeId}{sz n c:Nat}{a:OaT}{xs:List Value}(O:Qg h0 h e sz a n c xs):Qe h a xs:=O.own.row
theorem Qg.mono {h0 h h':Hp}(hl:h.le h'){e:TypeId}{sz n c:Nat}{a:OaT}{xs:List Value}(O:Qg h0 h e sz a n c xs):Qg h0 h' e sz a n c xs:=⟨qP O.le hl,O.own.le hl,O.new⟩
theorem Qg.set {h0 h:Hp}{b:Nat}(hb:h b=none)(o:Obj){e:TypeId}{sz n c:Nat}{a:OaT}{xs:List Value}(O:Qg h0 h e sz a n c xs):Qg h0 (h.set b o) e sz a n c xs:=O.mono (qQ (qO h) hb o)
section
variable {P:Program}
theorem Qg.append {h0 h:Hp}{t ty e:TypeId}{sz bytes:Nat}(T:ElT P t e sz bytes){a:OaT}{n c:Nat}{xs:List Value}(O:Qg h0 h e sz a n c xs)
  {a2:OaT} {m c2:Nat} {news:List Value} (H2:Qe h a2 news) (hl:news.length=m*sz) (h1:∀ u ∈ news,u.oneCell'=true)
  (hb:(n+m)*bytes<=140737488355328) (hm:n+m<=140737488355328) {K:RtT}
  (hK:∀ a' c' h',Qg h0 h' e sz a' (n+m) c' (xs++news)->(∀ b o,h b=some o->a≠some ⟨b,0,none⟩->h' b=some o)->(∀ g,a'=some ⟨g,0,none⟩->a=a'\/h g=none)->K (vsl a' (n+m) c') h') :
  Qh P (Builtin.append_ #[t,t] ty #[vsl a n c,vsl a2 m c2]) h K:=by
 refine Qab T O.own H2 hl h1 hb hm fun a' c' h' o1 o2 o3 _ _=>hK a' c' h' ⟨?_,o1,?_⟩ o2 o3
 ·intro b o hb;refine o2 b o (O.le b o hb) fun e=>?_
  rw [O.new b e] at hb;cases hb
 ·intro g hg;rcases o3 g hg with e|e
  ·exact O.new g (e.trans hg)
  ·exact qR O.le e
end
def SlI (h:Hp)(a:OaT)(n:Nat)(l:List Int):Prop:=n=l.length/\Qe h a (l.map vi)
theorem SlI.le {h h':Hp}(hl:h.le h'){a:OaT}{n:Nat}{l:List Int}(H:SlI h a n l):SlI h' a n l:=⟨H.1,H.2.le hl⟩
theorem Qg.sli {h0 h:Hp}{e:TypeId}{n c:Nat}{a:OaT}{l:List Int}(O:Qg h0 h e 1 a n c (l.map vi)):SlI h a n l:=⟨by have:=O.own.1;simpa using this.symm,O.row⟩
theorem Qi8 (l:List Int):∀ u ∈ l.map vi,u.oneCell'=true:=by
 intro u hu;obtain⟨x,_,rfl⟩:=cZ.1 hu;rfl
theorem SlI.get {h:Hp}{a:OaT}{n:Nat}{l:List Int}(H:SlI h a n l){i:Nat}(hi:i<n):∃ b o,a=some ⟨b,o,none⟩/\h.cell b (o+i*1)=some (vi (l.getD i 0)):=by
 obtain⟨rfl,h1|⟨b,o,rfl,hr⟩⟩:=H
 ·have:l.length=0:=by simpa using congrArg List.length h1
  omega
 ·refine⟨b,o,rfl,?_⟩
  rw [fZ];refine qT hr ?_
  rw [cC,bI,bD hi]
  rfl
def Qo (l:List Value)(i:Nat):Int:=match l[i]? with|some (.int _ x)=>x|_=>0
def upto (p:Int->Bool)(lo:Int):Nat->List Int
 | 0=>[]
 | n+1=>upto p lo n++(if p (lo+(n+1:Nat)) then [lo+(n+1:Nat)] else [])
theorem MF (p:Int->Bool)(lo:Int):∀ n,upto p lo (n+1)=(if p (lo+1) then [lo+1] else [])++upto p (lo+1) n
 | 0=>by simp [upto]
 | n+1=>by
  have e:lo+((n+1+1:Nat):Int)=lo+1+((n+1:Nat):Int):=by omega
  show upto p lo (n+1)++(if p (lo+((n+1+1:Nat):Int)) then [lo+((n+1+1:Nat):Int)] else [])=_++(upto p (lo+1) n++(if p (lo+1+((n+1:Nat):Int)) then [lo+1+((n+1:Nat):Int)] else []))
  rw [e,MF p lo n,bX]
theorem MR (p:Int->Bool):∀(k:Nat)(lo:Int)(n:Nat),(∀ x,lo<x->x<=lo+k->p x=false)->upto p lo (k+n)=upto p (lo+k) n
 | 0,lo,n,h=>by simp
 | k+1,lo,n,h=>by
  rw [show k+1+n=(k+n)+1 by omega,MF,h (lo+1) (by omega) (by omega),MR p k (lo+1) n fun x h1 h2=>h x (by omega) (by omega)]
  simp only [jQ,kF,dE];congr 1
  omega
theorem Mn (p:Int->Bool)(lo:Int):∀ n,(upto p lo n).length<=n
 | 0=>cB _
 | n+1=>by
  rw [upto,bO];have:=Mn p lo n;split<;>simp<;>omega
abbrev _root_.qY:=@Qg.nil
abbrev _root_.qZ:=@Qg.mk_new
abbrev _root_.q8:=@Qg.append
def QkJ:TypeDesc->List Value->List Value->Option Bool
 | .int _,[.int k a],[.int k' b]=>bif k == k' then some (decide (a=b)) else none
 | .bool,[.bool a],[.bool b]=>some (a == b)
 | .string,[.string a],[.string b]=>some (a == b)
 | _,_,_=>none
def Qm7:Option Bool->Option Bool->Option Bool
 | some a,some b=>some (a&&b)
 | _,_=>none
section
variable (P:Program)
def Qev (f:Field)(xs:List Value):List Value:=(xs.drop f.offset).take (bif QW P f.type then szT P f.type else 1)
def Md:Nat->TypeId->List Value->List Value->Option Bool
 | 0,_,_,_=>none
 | d+1,t,xs,ys=>
  match P.underlying t with
  | some (.struct fs)=>bif P.stoodInHeld t then none else fs.toList.foldr (fun f acc=>bif f.name == "_" then none else Qm7 (Md d f.type (Qev P f xs) (Qev P f ys)) acc) (some true)
  | some u=>QkJ u xs ys
  | none=>none
end
section
variable {P:Program}
def QeG (P:Program)(t:TypeId)(xs:List Value):Value:=bif QW P t then .agg xs.toArray else xs.headD undef
theorem Qj4 {t:TypeId}{u:TypeDesc}(h:P.underlying t=some u)(w:World):(isAgg t).run P w=.ok (QW P t) w:=by
 simp only [isAgg,Sem.run_bind,run_underlying h,Result.andThen_ok,QW,h];cases u<;>simp
theorem Qgk {t:TypeId}{u:TypeDesc}(h:P.underlying t=some u){xs:List Value}{off:Nat}(hb:QW P t=false->off<xs.length)(w:World) :
  (part t xs.toArray off).run P w=.ok (QeG P t ((xs.drop off).take (bif QW P t then szT P t else 1))) w:=by
 have hi:∃ i,P.info? t=some i:=by unfold Program.underlying at h;split at h<;>first|(rename_i hi;exact⟨_,hi⟩)|cases h
 obtain⟨i,hi⟩:=hi;unfold part;simp only [Sem.run_bind,Qj4 h,Result.andThen_ok];cases hA:QW P t with
 | true=>
  simp [QeG,hA,sizeOf,typeInfo,hi,szT,Program.cellsOf,mZ]
 | false=>
  have:=hb hA;simp only [jQ,kF];have e:xs.toArray[off]?=some xs[off]:=by simp [this]
  rw [e];simp [QeG,hA,List.take_one,this]
theorem Qh1:∀(d:Nat) {t:TypeId} {xs ys:List Value} {b:Bool},Md P d t xs ys=some b->∀(k:Nat)(w:World),(Op.equalIn (d+k) t (QeG P t xs) (QeG P t ys)).run P w=.ok b w
 | 0,t,xs,ys,b,h,k,w=>by simp [Md] at h
 | d+1,t,xs,ys,b,h,k,w=>by
  have IH:=fun {t:TypeId} {xs ys:List Value} {b:Bool} h=>@Qh1 d t xs ys b h
  unfold Md at h;rw [show d+1+k=(d+k)+1 by omega]
  split at h
  ·rename_i fs hu;cases hp:P.stoodInHeld t with
   | true=>rw [hp] at h;cases h
   | false=>
    rw [hp] at h;simp only [dM] at h;have hA:QW P t=true:=by simp [QW,hu]
    have hF:P.underlying t=some (.struct (P.fieldsOf t)):=by simp [Program.fieldsOf,hu]
    have hfs:P.fieldsOf t=fs:=by simp [Program.fieldsOf,hu]
    simp only [QeG,hA,cX];rw [run_equalIn_struct w (d+k) t _ _ hF hp,hfs];generalize fs.toList=l at h;clear hF hfs hu;induction l generalizing b w with
    | nil=>simp only [List.foldr_nil,bH] at h;subst h;simp [Op.eqFields]
    | cons f l ih=>
     simp only [List.foldr_cons] at h;cases hn:(f.name == "_") with
     | true=>rw [hn] at h;cases h
     | false=>
      rw [hn] at h;simp only [dM] at h;have hne:f.name≠ "_":=by simpa using hn
      cases h1:Md P d f.type (Qev P f xs) (Qev P f ys) with
      | none=>rw [h1] at h;simp [Qm7] at h
      | some b1=>
       cases h2:List.foldr (fun f acc=>bif f.name == "_" then none else Qm7 (Md P d f.type (Qev P f xs) (Qev P f ys)) acc) (some true) l with
       | none=>rw [h1,h2] at h;simp [Qm7] at h
       | some b2=>
        rw [h1,h2] at h;simp only [Qm7,bH] at h;subst h;have hu':∃ u,P.underlying f.type=some u:=by
         cases d with
         | zero=>simp [Md] at h1
         | succ d=>
          unfold Md at h1;split at h1
          ·rename_i hu;exact⟨_,hu⟩
          ·rename_i hu;exact⟨_,hu⟩
          ·cases h1
        obtain⟨u,hu'⟩:=hu';have hlen:∀ zs:List Value,(∃ zs',Md P d f.type (Qev P f zs) zs'=some b1)\/(∃ zs',Md P d f.type zs' (Qev P f zs)=some b1)->QW P f.type=false->f.offset<zs.length:=by
         intro zs hz hA';rcases kM f.offset zs.length with hh|hh
         ·exact hh
         ·have hnil:Qev P f zs=[]:=by simp [Qev,gL hh]
          exfalso;have nl:∀ zs',Md P d f.type [] zs'≠some b1/\Md P d f.type zs' []≠some b1:=by
           intro zs';cases d with
           | zero=>simp [Md]
           | succ d=>
            unfold Md;rw [hu'];cases u with
            | struct fs=>simp [QW,hu'] at hA'
            | _=>constructor<;>(cases zs'<;>simp [QkJ])
          rw [hnil] at hz;rcases hz with ⟨z,hz⟩|⟨z,hz⟩
          ·exact(nl z).1 hz
          ·exact(nl z).2 hz
        have p1:=Qgk hu' (xs:=xs) (off:=f.offset) (hlen xs (.inl ⟨_,h1⟩)) w;have p2:=Qgk hu' (xs:=ys) (off:=f.offset) (hlen ys (.inr ⟨_,h1⟩)) w;have e:=IH h1 k w;simp only [Qev] at e;simp only [Op.eqFields,hne,ne_eq,not_false_eq_true,qI,Sem.run_bind,p1,p2,Result.andThen_ok,e];cases b1 with
        | false=>simp
        | true=>
         have:=@ih b2;first|simpa using this w h2|simpa using this h2 w
  ·rename_i u hns hu;unfold QkJ at h;split at h
   ·rename_i kt k1 a k2 b';cases hk:(k1 == k2) with
    | false=>rw [hk] at h;cases h
    | true=>
     rw [hk] at h;simp only [cX,bH] at h;have:k1=k2:=eq_of_beq hk;subst this;subst h;have hA:QW P t=false:=by simp [QW,hu]
     simp only [QeG,hA,dM,pZ];rw [run_equalIn_int w (d+k) t _ _ _ _ hu];rfl
   ·simp only [bH] at h;subst h;have hA:QW P t=false:=by simp [QW,hu]
    simp only [QeG,hA,dM,pZ];rw [run_equalIn_bool' w (d+k) t _ _ hu]
   ·simp only [bH] at h;subst h;have hA:QW P t=false:=by simp [QW,hu]
    simp only [QeG,hA,dM,pZ];rw [run_equalIn_string w (d+k) t _ _ hu,beq_toListBytes]
   ·cases h
  ·cases h
theorem Qqf {h:Hp}{t:TypeId}{x y:Operand}{xs ys:List Value}{b:Bool}(h1:Md P 8 t xs ys=some b)(hA:QW P t=true)(h2:P.eqGuardType P.depth t=false) :
  Rd P (eqGuard .eql t x y (vag xs) (vag ys) >>= fun _=>binOp .eql t (vag xs) (vag ys)) h (vb b):=by
 intro w _;have e:=Qh1 8 h1 9992 w;simp only [QeG,hA,cX] at e;rw [Sem.run_bind,run_eqGuard_agg w .eql t x y _ _ h2,Result.andThen_ok,run_eql_struct,e];rfl
theorem QpY {h:Hp}{t:TypeId}{x y:Operand}{xs ys:List Value}{b:Bool}(h1:Md P 8 t xs ys=some b)(hA:QW P t=true)(h2:P.eqGuardType P.depth t=false) :
  Rd P (eqGuard .neq t x y (vag xs) (vag ys) >>= fun _=>binOp .neq t (vag xs) (vag ys)) h (vb (!b)):=by
 intro w _;have e:=Qh1 8 h1 9992 w;simp only [QeG,hA,cX] at e;rw [Sem.run_bind,run_eqGuard_agg w .neq t x y _ _ h2,Result.andThen_ok,run_neq_struct,e];rfl
end
def SlP {α:Type}(enc:α->List Value)(h:Hp)(a:OaT)(n:Nat)(l:List α):Prop:=n=l.length/\Qe h a (l.flatMap enc)
theorem Qi {α:Type}{enc:α->List Value}{sz:Nat}(he:∀ x,(enc x).length=sz):∀ l:List α,(l.flatMap enc).length=l.length*sz
 | []=>by simp
 | x :: l=>by simp [Qi he l,he x,gH,mQ]
theorem Wo {α:Type}{enc:α->List Value}{sz:Nat}(he:∀ x,(enc x).length=sz):∀(i:Nat)(l:List α),(l.flatMap enc).drop (i*sz)=(l.drop i).flatMap enc
 | 0,l=>by simp
 | i+1,[]=>by simp
 | i+1,x :: l=>by
  have e:(enc x++l.flatMap enc).drop sz=l.flatMap enc:=by have:=List.drop_left (l₁:=enc x) (l₂:=l.flatMap enc);rw [he] at this;exact this
  rw [dI,gH,j7,mQ,<-gY,e,Wo he i l];rfl
theorem Vy {α:Type}{enc:α->List Value}{sz:Nat}(he:∀ x,(enc x).length=sz):∀(i:Nat)(l:List α),(l.flatMap enc).take (i*sz)=(l.take i).flatMap enc
 | 0,l=>by simp
 | i+1,[]=>by simp
 | i+1,x :: l=>by
  rw [dI,List.take_append,cY (by rw [he,gH];omega),he,List.take_succ_cons,dI,show (i+1)*sz-sz=i*sz by rw [gH];omega,Vy he i l]
theorem SlP.le {α:Type}{enc:α->List Value}{h h':Hp}(hl:h.le h'){a:OaT}{n:Nat}{l:List α}(H:SlP enc h a n l):SlP enc h' a n l:=⟨H.1,H.2.le hl⟩
section
variable {α:Type}{enc:α->List Value}{sz:Nat}{h:Hp}{a:OaT}{n:Nat}{l:List α}
theorem SlP.get (he:∀ x,(enc x).length=sz)(hz:0<sz)(H:SlP enc h a n l){i:Nat}{x:α}(hx:l[i]?=some x):∃ b o,a=some ⟨b,o,none⟩/\h.row b (o+i*sz) sz=some (enc x):=by
 have hi:i<l.length:=(bG.1 hx).1
 have hlen:=Qi he l;rcases H.2 with h1|⟨b,o,rfl,hr⟩
 ·rw [h1] at hlen;have h2:1*sz<=l.length*sz:=d9 _ (by omega)
  simp only [fB] at hlen;omega
 ·refine⟨b,o,rfl,?_⟩
  have h3:i*sz+sz<=(l.flatMap enc).length:=by rw [hlen];have:(i+1)*sz<=l.length*sz:=d9 _ hi;rw [gH] at this;omega
  rw [qU hr h3,Wo he];have h4:=Vy he 1 (l.drop i);rw [j7] at h4;rw [h4,show (l.drop i).take 1=[x] by
   rw [dS hi];have:l[i]=x:=by rw [bD hi] at hx;exact cU hx
   simp [this]]
  simp
theorem SlP.cell (he:∀ x,(enc x).length=sz)(hz:0<sz)(H:SlP enc h a n l){i j:Nat}{x:α}{v:Value}(hx:l[i]?=some x)(hv:(enc x)[j]?=some v):∃ b o,a=some ⟨b,o,none⟩/\h.cell b (o+i*sz+j)=some v:=by
 obtain⟨b,o,e,hr⟩:=H.get he hz hx;exact⟨b,o,e,qT hr hv⟩
theorem SlP.take (he:∀ x,(enc x).length=sz)(H:SlP enc h a n l){i:Nat}(hi:i<=n):SlP enc h a i (l.take i):=by
 refine⟨by rw [bZ,<-H.1];omega,?_⟩
 rw [<-Vy he];rcases H.2 with h1|⟨b,o,rfl,hr⟩
 ·rw [h1];exact .inl (by simp)
 ·refine .inr ⟨b,o,rfl,?_⟩
  have hlen:=Qi he l;have h3:i*sz<=(l.flatMap enc).length:=by rw [hlen];exact d9 _ (by rw [<-H.1];exact hi)
  have:=qU hr (i:=0) (k:=i*sz) (by omega)
  rw [bZ,dU h3];simpa using this
def VZ (a:OaT)(i c sz:Nat):OaT:=if c=i then a else a.map (·.add (i*sz))
theorem SlP.drop (he:∀ x,(enc x).length=sz)(H:SlP enc h a n l){i c:Nat}(hi:i<=n)(hc:n<=c):SlP enc h (VZ a i c sz) (n-i) (l.drop i):=by
 refine⟨by rw [d5,<-H.1],?_⟩
 rw [<-Wo he];rcases H.2 with h1|⟨b,o,rfl,hr⟩
 ·rw [h1];exact .inl (by simp)
 ·have hlen:=Qi he l;rcases Nat.eq_or_lt_of_le hi with h2|h2
  ·refine .inl (gL ?_)
   rw [hlen,<-H.1,h2];exact cB _
  ·refine .inr ⟨b,o+i*sz,?_,?_⟩
   ·have:c≠i:=by omega
    simp only [VZ,bE this,fD,Addr.add];split
    ·rename_i h0;rw [h0];rfl
    ·rfl
   ·have h3:i*sz<=(l.flatMap enc).length:=by rw [hlen];exact d9 _ (by rw [<-H.1];exact hi)
    have:=qU hr (i:=i*sz) (k:=(l.flatMap enc).length-i*sz) (by omega)
    rw [d5];rw [this,cY (by rw [d5];exact cB _)]
theorem Qg.slp {h0:Hp}{e:TypeId}{c:Nat}(he:∀ x,(enc x).length=sz)(hz:0<sz)(O:Qg h0 h e sz a n c (l.flatMap enc)):SlP enc h a n l:=by
 refine⟨?_,O.row⟩
 have:=O.own.1;rw [Qi he] at this;exact(Nat.eq_of_mul_eq_mul_right hz this).symm
end
section
variable {P:Program}
theorem X6 {h:Hp}{t e:TypeId}(ht:P.underlying t=some (.slice e))(hi:(P.info? e).isSome=true){a:OaT}{n c:Nat}{x:Int}(h0:0<=x)(h1:x<=c):Rd P (Instr.sliceAt t (vsl a n c) none (some (vi x)) none) h (vsl a x.toNat c):=by
 intro w _;have he:P.elem t=e:=by simp [Program.elem,ht]
 obtain⟨i,hi⟩:=fJ.1 hi;rw [run_sliceAt_slice w t _ _ _ _ (by rw [he];exact ht),run_slice_h w t a n c (by rw [he];exact ht) _ x h0 h1,he]
 simp [sizeOf,typeInfo,hi,sliced];intro _;cases a<;>simp [Addr.add]
theorem YD {h:Hp}{t e:TypeId}(ht:P.underlying t=some (.slice e))(hi:(P.info? e).isSome=true){a:OaT}{n c:Nat}{x:Int}(h0:0<=x)(h1:x<=n) :
  Rd P (Instr.sliceAt t (vsl a n c) (some (vi x)) none none) h (vsl (VZ a x.toNat c (szT P e)) (n-x.toNat) (c-x.toNat)):=by
 intro w _;have he:P.elem t=e:=by simp [Program.elem,ht]
 obtain⟨i,hi⟩:=fJ.1 hi;rw [run_sliceAt_slice w t _ _ _ _ (by rw [he];exact ht),run_slice_l w t a n c (by rw [he];exact ht) _ x h0 h1,he]
 simp [sizeOf,typeInfo,hi,sliced,VZ,szT,Program.cellsOf]
theorem Qi0 {h:Hp}{t e:TypeId}(ht:P.underlying t=some (.slice e))(hi:(P.info? e).isSome=true){a:OaT}{n c:Nat}{x y:Int}(h0:0<=x)(h1:x<=y)(h2:y<=c) :
  Rd P (Instr.sliceAt t (vsl a n c) (some (vi x)) (some (vi y)) none) h (vsl (VZ a x.toNat c (szT P e)) (y.toNat-x.toNat) (c-x.toNat)):=by
 intro w _;have he:P.elem t=e:=by simp [Program.elem,ht]
 obtain⟨i,hi⟩:=fJ.1 hi;rw [run_sliceAt_slice w t _ _ _ _ (by rw [he];exact ht),run_slice_lh w t a n c (by rw [he];exact ht) _ _ x y h0 h1 h2,he]
 simp [sizeOf,typeInfo,hi,sliced,VZ,szT,Program.cellsOf]
end
end Go.Vc
