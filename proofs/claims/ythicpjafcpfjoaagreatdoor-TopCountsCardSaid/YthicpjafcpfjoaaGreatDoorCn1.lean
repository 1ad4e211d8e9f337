/-
  Laws and contracts on which the statement's proof stands, part 1. Conditions: those stated at each.
-/
import Derived.WalkKit
import Derived.WalkLawsBesides
import Derived.RangeFuncNested
import Derived.RangeFuncLeaves
import Derived.Orders
import Derived.Laws.OwnMore
import Derived.RowKit3
import Derived.OpenShut
import Derived.ChangeSame
import Derived.ProofKit
import Derived.JoinedCond
namespace Go.Vc
end Go.Vc
namespace Go.Vd
end Go.Vd
namespace Go.Txt
end Go.Txt
set_option linter.unusedVariables false
set_option maxRecDepth 100000
namespace Go.Vc
open Go
abbrev Hp:=Nat→Option Obj
def Hp.set (h:Hp)(b:Nat)(o:Obj):Hp:=fun i=>if i=b then some o else h i
def Hp.cell (h:Hp)(b o:Nat):Option Value:=match h b with|some (.cells c _ _)=>c[o]?|_=>none
def Hp.row (h:Hp)(b o n:Nat):Option (List Value):=
 match h b with
 | some (.cells c _ _)=>if o+n≤c.size then some ((c.toList.drop o).take n) else none
 | _=>none
def Hp.le (h h':Hp):Prop:=∀ b o,h b=some o→h' b=some o
def Sub (h:Hp)(w:World):Prop:=∀ b o,h b=some o→w.heap[b]?=some o
structure Fr (h h':Hp)(w w':World):Prop where
 os:w'.os=w.os
 tape:w'.tape=w.tape
 output:w'.output=w.output
 size:w.heap.size≤w'.heap.size
 keep:∀ b,b < w.heap.size→h b=none→w'.heap[b]?=w.heap[b]?∧h' b=none
def Qa (P:Program)(f:FuncId)(args:List Value)(h:Hp)(K:Value→Hp→Prop):Prop:=
 ∀ w,Sub h w→Calls P f args.toArray w fun e w'=>∃ v h',e=.returned v∧Sub h' w'∧Fr h h' w w'∧K v h'
def Qm (P:Program)(m:Sem Value)(h:Hp)(K:Value→Hp→Prop):Prop:=
 ∀ w,Sub h w→∃ v w' h',m.run P w=.ok v w'∧Sub h' w'∧Fr h h' w w'∧K v h'
def Uq (P:Program)(m:Sem Unit)(h:Hp)(K:Hp→Prop):Prop:=
 ∀ w,Sub h w→∃ w' h',m.run P w=.ok () w'∧Sub h' w'∧Fr h h' w w'∧K h'
def Qhk (P:Program)(f:FuncId)(args:List Value)(h:Hp)(K:Value→Hp→Prop):Prop:=
 ∀ w,Sub h w→∃ v w' h',(callFunc f args.toArray).run P w=.ok (.value v) w'∧Sub h' w'∧Fr h h' w w'∧K v h'
def ZS (P:Program)(fv:Value)(args:List Value)(h:Hp)(K:Value→Hp→Prop):Prop:=
 ∃ f pre post,fv=.func (.func f) pre post∧(∃ fn,P.funcs[f]?=some fn∧(fn.name == "runtime.NumGoroutine")=false∧fn.body.isNone=false)∧Qa P f (pre.toList++args++post.toList) h K
def Rd (P:Program)(m:Sem Value)(h:Hp)(v:Value):Prop:=∀ w,Sub h w→m.run P w=.ok v w
abbrev vi (x:Int):Value:=.int .i64 x
abbrev vk (k:IntKind)(x:Int):Value:=.int k x
abbrev vb (x:Bool):Value:=.bool x
abbrev vs (x:ByteArray):Value:=.string x
abbrev vsl (a:Option Addr)(n c:Nat):Value:=.slice a n c
abbrev vp (p:Option Addr):Value:=.pointer p
abbrev vhp (b o:Nat):Value:=.pointer (some ⟨b,o,none⟩)
abbrev vag (l:List Value):Value:=.agg l.toArray
abbrev Qg (l:List Value):Value:=.tuple l.toArray
abbrev Qb (l:List Value)(t:TypeId):Obj:=.cells l.toArray t (0,0)
inductive TV where
 | v (x:Value)|hp (b o:Nat)|ifc (e:Option (TypeId × Value))
def ifv:Option (TypeId × Value)→Value
 | some (t,v)=>.iface t v
 | none=>.nilIface
def TV.val:TV→Value
 | .v x=>x
 | .hp b o=>.pointer (some ⟨b,o,none⟩)
 | .ifc e=>ifv e
def Qq:List TV→List Value
 | []=>[]
 | x :: l=>x.val :: Qq l
inductive TW where
 | one (x:TV)|ag (l:List TV)
def TW.val:TW→Value
 | .one x=>x.val
 | .ag l=>.agg (Qq l).toArray
def TW.cells:TW→List TV
 | .one x=>[x]
 | .ag l=>l
def Uj:List TW→List Value
 | []=>[]
 | x :: l=>x.val :: Uj l
inductive SV where
 | t (x:TW)|tup (l:List TW)|bp (i o:Nat)|any
inductive Sl where
 | s (x:SV)|gd (s:Nat) (pol:Bool) (x:SV)
def SV.val:SV→Value
 | .t x=>x.val
 | .tup l=>.tuple (Uj l).toArray
 | _=>undef
def SV.val?:SV→Option Value
 | .t x=>some x.val
 | .tup l=>some (.tuple (Uj l).toArray)
 | _=>none
def SV.tw?:SV→Option TW
 | .t x=>some x
 | _=>none
inductive Sh1 where
 | int (k:IntKind)|bool|str|slice|ptr|ifc|val
inductive Sh0 where
 | one (s:Sh1)|agg (l:List Sh1)
inductive Sh where
 | s (x:Sh0)|tup (l:List Sh0)
def ex1:Sh1→(TV→Prop)→Prop
 | .int k,K=>∃ x:Int,K (.v (.int k x))
 | .bool,K=>∃ x:Bool,K (.v (.bool x))
 | .str,K=>∃ x:ByteArray,K (.v (.string x))
 | .slice,K=>∃(a:Option Addr) (n c:Nat),K (.v (.slice a n c))
 | .ptr,K=>∃ p:Option Addr,K (.v (.pointer p))
 | .ifc,K=>∃ e:Option (TypeId × Value),K (.ifc e)
 | .val,K=>∃ x:Value,K (.v x)
def exL:List Sh1→(List TV→Prop)→Prop
 | [],K=>K []
 | s :: l,K=>ex1 s fun x=>exL l fun xs=>K (x :: xs)
def ex0:Sh0→(TW→Prop)→Prop
 | .one s,K=>ex1 s fun x=>K (.one x)
 | .agg l,K=>exL l fun xs=>K (.ag xs)
def Qbz:List Sh0→(List TW→Prop)→Prop
 | [],K=>K []
 | s :: l,K=>ex0 s fun x=>Qbz l fun xs=>K (x :: xs)
def exS:Sh→(SV→Prop)→Prop
 | .s s,K=>ex0 s fun x=>K (.t x)
 | .tup l,K=>Qbz l fun xs=>K (.tup xs)
def res (s:Sh)(v:Value)(K:SV→Prop):Prop:=exS s fun x=>v=x.val∧K x
section
variable (P:Program)
def sh1 (t:TypeId):Sh1:=
 match P.underlying t with
 | some (.int k)=>.int k
 | some .bool=>.bool
 | some .string=>.str
 | some (.slice _)=>.slice
 | some (.pointer _)=>.ptr
 | some (.interface _)=>.ifc
 | _=>.val
def QpV:Nat→TypeId→List Sh1
 | 0,_=>[]
 | n+1,t=>
  match P.underlying t with
  | some (.struct fs)=>fs.toList.flatMap fun f=>QpV n f.type
  | some (.array k e)=>(List.replicate k (QpV n e)).flatten
  | _=>[sh1 P t]
def QP (t:TypeId):Bool:=
 match P.underlying t with
 | some (.struct _)|some (.array _ _)=>true
 | _=>false
def sh0 (t:TypeId):Sh0:=bif QP P t then .agg (QpV P 8 t) else .one (sh1 P t)
def shp (t:TypeId):Sh:=
 match P.underlying t with
 | some (.tuple ts)=>.tup (ts.toList.map (sh0 P))
 | _=>.s (sh0 P t)
def szT (t:TypeId):Nat:=P.cellsOf t
def Qrr (t:TypeId)(f:Nat):Option Nat:=
 match P.underlying t with
 | some (.struct fs)=>(fs[f]?).bind fun x=>bif Nat.beq (szT P x.type) 0 then none else some x.offset
 | _=>none
end
def Nm (P:Program):List Field→Bool
 | []=>true
 | f :: l=>Nat.ble 1 (szT P f.type)&&Nm P l
structure Box where
 ty:TypeId
 c:List TV
 st:Nat
structure St where
 n:Nat
 t:Nat→Sl
 g:Nat→Bool
 b:List Box
def Gv (x:Nat):List Nat→Bool
 | []=>false
 | y :: l=>bif Nat.beq x y then true else Gv x l
def Qnr (s:Nat)(p:Bool):List (Nat × Bool)→Bool
 | []=>false
 | (y,q) :: l=>bif (Nat.beq s y&&(p == q)) then true else Qnr s p l
def QqS:Value→TV
 | .nilIface=>.ifc none
 | v=>.v v
def St.ev (st:St)(ch:List (Nat × Bool)):Operand→SV
 | .tmp i=>match st.t i with
  | .s x=>x
  | .gd s p x=>bif Qnr s p ch then x else .any
 | .const v=>.t (.one (QqS v))
 | .global g=>.t (.one (.hp g 0))
 | .func f=>.t (.one (.v (.func (.func f) #[] #[])))
def St.evs (st:St)(ch:List (Nat × Bool)):List Operand→Option (List Value)
 | []=>some []
 | x :: l=>match (st.ev ch x).val?,st.evs ch l with
  | some v,some vs=>some (v :: vs)
  | _,_=>none
def St.put (st:St)(dst:Option Nat)(gd:Option (Nat × Bool))(x:SV)(K:St→Prop):Prop:=
 match dst with
 | none=>K st
 | some d=>
  match gd with
  | none=>bif (Nat.blt d st.n&&!(st.g d)) then K { st with t:=fun i=>bif Nat.beq i d then .s x else st.t i } else False
  | some (s,p)=>bif (Nat.blt d st.n&&!(Nat.beq d s||st.g d)) then K { st with t:=fun i=>bif Nat.beq i d then .gd s p x else st.t i,g:=fun k=>bif Nat.beq k s then true else st.g k } else False
def IsW (z e:Int):Prop:=z=IntKind.i64.wrap e
def InR (z:Int):Prop:=-9223372036854775808≤z∧z≤9223372036854775807
def QM {α:Type}(l:List α)(o:Nat)(vs:List α):List α:=l.take o++vs++l.drop (o+vs.length)
def Nf (place:Nat→Option (Nat × Nat)):List TV→List (Nat × TW)→Option (List TV)
 | cells,[]=>some cells
 | cells,(i,v) :: rest=>
  match place i with
  | none=>none
  | some (off,size)=>bif (Nat.beq v.cells.length size&&Nat.ble (off+size) cells.length) then Nf place (QM cells off v.cells) rest else none
def one?:Value→Bool
 | .agg _|.tuple _=>false
 | _=>true
def Qpu:TV→Bool
 | .v x=>one? x
 | .hp _ _=>true
 | .ifc _=>true
def Ze:List TV→Bool
 | []=>true
 | v :: l=>Qpu v&&Ze l
def KC:TW→Bool
 | .one v=>Qpu v
 | .ag _=>true
def partsL (st:St)(ch:List (Nat × Bool)):List (Nat × Operand)→Option (List (Nat × TW))
 | []=>some []
 | (i,x) :: l=>match (st.ev ch x).tw?,partsL st ch l with
  | some v,some vs=>bif KC v then some ((i,v) :: vs) else none
  | _,_=>none
def optV (st:St)(ch:List (Nat × Bool)):Option Operand→Option (Option Value)
 | none=>some none
 | some x=>match (st.ev ch x).val? with
  | some v=>some (some v)
  | none=>none
def Ql4:List Value→List TV
 | []=>[]
 | v :: l=>QqS v :: Ql4 l
def XG (P:Program)(t:TypeId):Option (List TV):=((P.info? t).bind (·.zero)).map fun z=>Ql4 z.cells.toList
inductive VD where
 | pt (x:SV)|no|ob (p:Prop) (x:SV)|wr (e:Int)
 | nilc (p:Option Addr)|idx (a:Option Addr) (n:Nat) (i:Int) (sz:Nat)
 | rd (m:Sem Value) (s:Sh)|ldA (b o n:Nat) (l:List Sh1)|ld1 (b o:Nat) (s:Sh1)
def Qoq (op:BinOp)(a b:Int):VD:=
 match op with
 | .add=>.wr (a+b)
 | .sub=>.wr (a - b)
 | .mul=>.wr (a*b)
 | .quo=>.ob (b≠0∧InR (a.tdiv b)) (.t (.one (.v (.int .i64 (a.tdiv b)))))
 | .rem=>.ob (b≠0) (.t (.one (.v (.int .i64 (a.tmod b)))))
 | .eql=>.pt (.t (.one (.v (.bool (decide (a=b))))))
 | .neq=>.pt (.t (.one (.v (.bool (decide (a≠b))))))
 | .lss=>.pt (.t (.one (.v (.bool (decide (a < b))))))
 | .leq=>.pt (.t (.one (.v (.bool (decide (a≤b))))))
 | .gtr=>.pt (.t (.one (.v (.bool (decide (a > b))))))
 | .geq=>.pt (.t (.one (.v (.bool (decide (a≥b))))))
 | _=>.no
def QlU:BinOp→Bool
 | .add|.sub|.mul|.quo|.rem|.eql|.neq|.lss|.leq|.gtr|.geq=>true
 | _=>false
def QnT (op:BinOp)(a b:Int):VD:=
 match op with
 | .eql=>.pt (.t (.one (.v (.bool (decide (a=b))))))
 | .neq=>.pt (.t (.one (.v (.bool (decide (a≠b))))))
 | .lss=>.pt (.t (.one (.v (.bool (decide (a < b))))))
 | .leq=>.pt (.t (.one (.v (.bool (decide (a≤b))))))
 | .gtr=>.pt (.t (.one (.v (.bool (decide (a > b))))))
 | .geq=>.pt (.t (.one (.v (.bool (decide (a≥b))))))
 | _=>.no
def Ql5:BinOp→Bool
 | .eql|.neq|.lss|.leq|.gtr|.geq=>true
 | _=>false
inductive Two where
 | i64 (a b:Int)|ik (k:IntKind) (a b:Int)|nilR (e:Option (TypeId × Value))|nilL (e:Option (TypeId × Value))|other
def QbM:SV→SV→Two
 | .t (.one (.v (.int .i64 a))),.t (.one (.v (.int .i64 b)))=>.i64 a b
 | .t (.one (.v (.int .u8 a))),.t (.one (.v (.int .u8 b)))=>.ik .u8 a b
 | .t (.one (.v (.int .u64 a))),.t (.one (.v (.int .u64 b)))=>.ik .u64 a b
 | .t (.one (.v (.int .u32 a))),.t (.one (.v (.int .u32 b)))=>.ik .u32 a b
 | .t (.one (.v (.int .i32 a))),.t (.one (.v (.int .i32 b)))=>.ik .i32 a b
 | .t (.one (.ifc e)),.t (.one (.ifc none))=>.nilR e
 | .t (.one (.ifc none)),.t (.one (.ifc e))=>.nilL e
 | _,_=>.other
def Qpv (P:Program)(G:Prop→Prop)(m:Sem Value)(s:Sh)(h:Hp)(K:SV→Prop):Prop:=
 exS s fun x=>G (Rd P m h x.val)∧K x
def QhE (P:Program)(t:TypeId):Bool:=match P.underlying t with|some (.interface _)=>true|_=>false
def Qcx:Operand→Bool
 | .const .nilIface=>true
 | _=>false
def QrC (P:Program)(t:TypeId):Bool:=match P.underlying t with|some (.slice _)=>true|_=>false
def isE (P:Program):Op→Bool
 | .convert _ t _=>QrC P t
 | .alloc _|.box ..|.buildSlice ..|.store ..|.makeMap ..|.makeSlice ..|.mapUpdate ..|.insert ..|.range ..|.next ..=>true
 | .call { callee:=.builtin .len,.. }|.call { callee:=.builtin .cap,.. }|.call { callee:=.builtin .max,.. }|.call { callee:=.builtin .min,.. }=>false
 | .call _=>true
 | _=>false
def QW (P:Program)(o:Oper)(ch:List (Nat × Bool))(st:St):VD:=
 match o.op with
 | .move x=>.pt (st.ev ch x)
 | .assign x=>.pt (st.ev ch x)
 | .pick c a b=>
  match c with
  | .tmp s=>
   match st.ev ch (.tmp s),st.ev ((s,true) :: ch) a,st.ev ((s,false) :: ch) b with
   | .t (.one (.v (.bool c))),.t (.one (.v (.bool x))),.t (.one (.v (.bool y)))=>.pt (.t (.one (.v (.bool (bif c then x else y)))))
   | _,_,_=>.no
  | _=>.no
 | .nilCheck x=>
  match st.ev ch x with
  | .bp i o=>.pt (.bp i o)
  | .t (.one (.hp b o))=>.pt (.t (.one (.hp b o)))
  | .t (.one (.v (.pointer p)))=>.nilc p
  | _=>.no
 | .binOp op T x y _=>
  match QbM (st.ev ch x) (st.ev ch y) with
  | .i64 a b=>bif QlU op then Qoq op a b else .rd (binOp op T (.int .i64 a) (.int .i64 b)) (shp P o.type)
  | .ik k a b=>bif Ql5 op then QnT op a b else .rd (binOp op T (.int k a) (.int k b)) (shp P o.type)
  | .nilR e=>bif (Qcx y&&QhE P T) then(match op with|.eql=>.pt (.t (.one (.v (.bool e.isNone))))|.neq=>.pt (.t (.one (.v (.bool e.isSome))))|_=>.no) else .no
  | .nilL e=>bif (Qcx x&&QhE P T) then(match op with|.eql=>.pt (.t (.one (.v (.bool e.isNone))))|.neq=>.pt (.t (.one (.v (.bool e.isSome))))|_=>.no) else .no
  | .other=>
   match (st.ev ch x).val?,(st.ev ch y).val? with
   | some a,some b=>.rd (eqGuard op T x y a b >>= fun _=>binOp op T a b) (shp P o.type)
   | _,_=>.no
 | .unOp op _ x=>
  match op,st.ev ch x with
  | .not,.t (.one (.v (.bool b)))=>.pt (.t (.one (.v (.bool (!b)))))
  | .neg,.t (.one (.v (.int .i64 a)))=>.wr (-a)
  | op,x=>match x.val? with
   | some a=>.rd (Op.unary op a) (shp P o.type)
   | none=>.no
 | .convert src dst x=>
  match (P.underlying src).isSome,P.underlying dst,st.ev ch x with
  | true,some (.int k),.t (.one (.v (.int _ a)))=>.pt (.t (.one (.v (.int k (k.wrap a)))))
  | _,_,x=>match x.val? with
   | some a=>.rd (convert src dst a) (shp P o.type)
   | none=>.no
 | .makeInterface T x=>
  match P.underlying T,(st.ev ch x).val? with
  | some (.interface _),_=>.no
  | none,_=>.no
  | _,some a=>.pt (.t (.one (.ifc (some (T,a)))))
  | _,none=>.no
 | .fieldAddr T x f=>
  match Qrr P T f,st.ev ch x with
  | some off,.bp i o=>.pt (.bp i (o+off))
  | some off,.t (.one (.hp b o))=>.pt (.t (.one (.hp b (o+off))))
  | _,_=>.no
 | .field T x f=>
  match P.underlying T,st.ev ch x with
  | some (.struct fs),.t (.ag l)=>
   match fs[f]? with
   | some fd=>bif QP P fd.type then .pt (.t (.ag ((l.drop fd.offset).take (szT P fd.type)))) else bif (P.underlying fd.type).isSome then(match l.drop fd.offset with|v :: _=>.pt (.t (.one v))|[]=>.no) else .no
   | none=>.no
  | _,_=>.no
 | .indexAddr T x ix=>
  match P.underlying T,st.ev ch x,st.ev ch ix with
  | some (.slice e),.t (.one (.v (.slice a n _))),.t (.one (.v (.int .i64 i)))=>bif Nat.ble 1 (szT P e) then .idx a n i (szT P e) else .no
  | some (.array n e),.t (.one (.hp b o)),.t (.one (.v (.int .i64 i)))=>bif (Nat.ble 1 (szT P e)&&Nat.ble 2 n) then .ob (0≤i∧i < n) (.t (.one (.hp b (o+i.toNat*szT P e)))) else .no
  | _,_,_=>.no
 | .load T x=>
  match st.ev ch x with
  | .bp i o=>
   match st.b[i]? with
   | some bx=>bif Nat.ble (o+szT P T) bx.c.length then
     (bif QP P T then .pt (.t (.ag ((bx.c.drop o).take (szT P T))))
      else bif (Nat.beq (szT P T) 1&&(P.underlying T).isSome) then(match bx.c.drop o with|v :: _=>.pt (.t (.one v))|[]=>.no) else .no) else .no
   | none=>.no
  | .t (.one (.hp b o))=>
   bif QP P T then .ldA b o (szT P T) (QpV P 8 T)
   else bif (P.underlying T).isSome then .ld1 b o (sh1 P T) else .no
  | _=>.no
 | .extract x i=>
  match st.ev ch x with
  | .tup l=>match l[i]? with|some v=>.pt (.t v)|none=>.no
  | _=>.no
 | .build T parts=>
  match P.underlying T,XG P T,partsL st ch parts.toList with
  | some (.struct fs),some z,some ps=>bif !(Nm P fs.toList) then .no else match Nf (fun i=>(fs[i]?).map fun f=>(f.offset,szT P f.type)) z ps with|some cs=>.pt (.t (.ag cs))|none=>.no
  | some (.array _ e),some z,some ps=>bif Nat.ble 1 (szT P e) then(match Nf (fun i=>some (i*szT P e,szT P e)) z ps with|some cs=>.pt (.t (.ag cs))|none=>.no) else .no
  | _,_,_=>.no
 | .index T x ix=>
  match (st.ev ch x).val?,(st.ev ch ix).val? with
  | some a,some i=>.rd (Instr.index T a i) (shp P o.type)
  | _,_=>.no
 | .lookup T x ix ok=>
  match (st.ev ch x).val?,(st.ev ch ix).val? with
  | some a,some i=>.rd (Instr.lookup T a i ok) (shp P o.type)
  | _,_=>.no
 | .typeAssert x T U ok=>
  match (st.ev ch x).val? with
  | some a=>.rd (Instr.typeAssert a T U ok) (shp P o.type)
  | _=>.no
 | .slice T x lo hi mx=>
  match (st.ev ch x).val?,optV st ch lo,optV st ch hi,optV st ch mx with
  | some a,some l,some u,some m=>.rd (Instr.sliceAt T a l u m) (shp P o.type)
  | _,_,_,_=>.no
 | .makeFunc fn first cap=>
  match st.evs ch first.toList,st.evs ch cap.toList with
  | some a,some b=>.pt (.t (.one (.v (.func fn a.toArray b.toArray))))
  | _,_=>.no
 | .call { callee:=.builtin .len,args:=args,argTypes:=ts }=>
  match args.toList with
  | [x]=>match (ts[0]?).bind P.underlying,st.ev ch x with
   | some (.slice _),.t (.one (.v (.slice _ n _)))=>.pt (.t (.one (.v (.int .i64 n))))
   | some .string,.t (.one (.v (.string s)))=>.pt (.t (.one (.v (.int .i64 s.size))))
   | _,x=>match x.val? with
    | some a=>.rd (Builtin.len_ ts o.type #[a]) (shp P o.type)
    | none=>.no
  | _=>.no
 | .call { callee:=.builtin .cap,args:=args,argTypes:=ts }=>
  match st.evs ch args.toList with
  | some vs=>.rd (Builtin.cap_ ts o.type vs.toArray) (shp P o.type)
  | none=>.no
 | .call { callee:=.builtin .max,args:=args,argTypes:=ts }=>
  match st.evs ch args.toList with
  | some vs=>.rd (Builtin.max_ ts o.type vs.toArray) (shp P o.type)
  | none=>.no
 | .call { callee:=.builtin .min,args:=args,argTypes:=ts }=>
  match st.evs ch args.toList with
  | some vs=>.rd (Builtin.min_ ts o.type vs.toArray) (shp P o.type)
  | none=>.no
 | _=>.no
def VD.sem (P:Program)(G:Prop→Prop)(h:Hp)(K:SV→Prop):VD→Prop
 | .pt x=>K x
 | .no=>False
 | .ob p x=>G p∧K x
 | .wr e=>∃ z:Int,G (IsW z e)∧K (.t (.one (.v (.int .i64 z))))
 | .nilc p=>∃ b o,G (p=some ⟨b,o,none⟩)∧K (.t (.one (.hp b o)))
 | .idx a n i sz=>∃ b o,G (a=some ⟨b,o,none⟩∧0≤i∧i < n)∧K (.t (.one (.hp b (o+i.toNat*sz))))
 | .rd m s=>Qpv P G m s h K
 | .ldA b o n l=>exL l fun xs=>G (h.row b o n=some (Qq xs))∧K (.t (.ag xs))
 | .ld1 b o s=>ex1 s fun x=>G (h.cell b o=some x.val)∧K (.t (.one x))
def VD.hr:VD→Bool
 | .rd ..|.ldA ..|.ld1 ..=>true
 | _=>false
def vcV (P:Program)(o:Oper)(ch:List (Nat × Bool))(G:Prop→Prop)(st:St)(h:Hp)(K:SV→Prop):Prop:=(QW P o ch st).sem P G h K
def Jw {α:Type}:List α→Nat→α→List α
 | [],_,_=>[]
 | _ :: l,0,y=>y :: l
 | x :: l,i+1,y=>x :: Jw l i y
def Hp.store (h:Hp)(b o:Nat)(vs:List Value)(K:Hp→Prop):Prop:=
 ∃ c e,h b=some (.cells c e (0,0))∧o+vs.length≤c.size∧K (h.set b (.cells (QM c.toList o vs).toArray e (0,0)))
structure Cfg where
 pub:List Nat
 ann:List (Nat × (List Nat × List Sh0 × List (Nat × List Sh1)))
 ord:List (Nat × List Nat)
def QfF (cfg:Cfg):Option Nat→Bool
 | some d=>Gv d cfg.pub
 | none=>true
def newBox (cfg:Cfg)(o:Oper)(st:St)(h:Hp)(ty:TypeId)(cs:List TV)(K:SV→List Box→Hp→Prop):Prop:=
 bif Ze cs then
  bif QfF cfg o.dst then ∀ b,h b=none→K (.t (.one (.hp b 0))) st.b (h.set b (.cells (Qq cs).toArray ty (0,0)))
  else K (.bp st.b.length 0) (st.b++[⟨ty,cs,0⟩]) h
 else False
def vcE (P:Program)(cfg:Cfg)(o:Oper)(ch:List (Nat × Bool))(st:St)(h:Hp)(K:SV→List Box→Hp→Prop):Prop:=
 match o.op with
 | .alloc T=>match XG P T with
  | some z=>newBox cfg o st h T z K
  | none=>False
 | .box T x=>match st.ev ch x with
  | .t w=>newBox cfg o st h T w.cells K
  | _=>False
 | .buildSlice T n parts=>
  match P.underlying T,partsL st ch parts.toList with
  | some (.slice e),some ps=>
   match XG P e with
   | some z=>
    bif (Nat.ble 1 (szT P e)&&Nat.beq z.length (szT P e)&&Nat.ble (n*szT P e) 4096) then
     match Nf (fun i=>some (i*szT P e,szT P e)) ((List.replicate n z).flatten) ps with
     | some cs=>bif Ze cs then ∀ b,h b=none→K (.t (.one (.v (.slice (some ⟨b,0,none⟩) n n)))) st.b (h.set b (.cells (Qq cs).toArray e (0,0))) else False
     | none=>False
    else False
   | none=>False
  | _,_=>False
 | .store T x y=>
  match st.ev ch x,st.ev ch y with
  | .bp i o,.t w=>
   match st.b[i]? with
   | some bx=>bif (Nat.ble 1 (szT P T)&&Nat.beq w.cells.length (szT P T)&&Nat.ble (o+w.cells.length) bx.c.length&&Ze w.cells) then K .any (Jw st.b i ⟨bx.ty,QM bx.c o w.cells,bx.st+1⟩) h else False
   | none=>False
  | .t (.one (.hp b o)),.t w=>bif (Nat.ble 1 (szT P T)&&Nat.beq w.cells.length (szT P T)&&Ze w.cells) then h.store b o (Qq w.cells) (fun h'=>K .any st.b h') else False
  | _,_=>False
 | .call { callee:=.value (.func g),args:=args,.. }=>
  match st.evs ch args.toList with
  | some vs=>
   match (P.funcs[g]?).map (·.body.isSome) with
   | some true=>Qa P g vs h fun v h'=>res (shp P o.type) v fun x=>K x st.b h'
   | some false=>Qhk P g vs h fun v h'=>res (shp P o.type) v fun x=>K x st.b h'
   | none=>False
  | none=>False
 | .call { callee:=.value (.tmp t),args:=args,.. }=>
  match st.evs ch args.toList,(st.ev ch (.tmp t)).val? with
  | some vs,some fv=>ZS P fv vs h fun v h'=>res (shp P o.type) v fun x=>K x st.b h'
  | _,_=>False
 | .call { callee:=.builtin b,args:=args,argTypes:=ts }=>
  match st.evs ch args.toList with
  | some vs=>
   let go (m:Sem Value):Prop:=Qm P m h fun v h'=>res (shp P o.type) v fun x=>K x st.b h'
   match b with
   | .append=>go (Builtin.append_ ts o.type vs.toArray)
   | .copy=>go (Builtin.copy_ ts o.type vs.toArray)
   | .delete=>go (Builtin.delete_ ts o.type vs.toArray)
   | .clear=>go (Builtin.clear_ ts o.type vs.toArray)
   | _=>False
  | none=>False
 | .makeMap T none=>Qm P (Instr.makeMap T none) h fun v h'=>res (shp P o.type) v fun x=>K x st.b h'
 | .makeSlice T l c=>match (st.ev ch l).val?,(st.ev ch c).val? with
  | some l,some c=>Qm P (Instr.makeSlice T l c) h fun v h'=>res (shp P o.type) v fun x=>K x st.b h'
  | _,_=>False
 | .convert src dst x=>match (st.ev ch x).val? with
  | some a=>Qm P (convert src dst a) h fun v h'=>res (shp P o.type) v fun x=>K x st.b h'
  | none=>False
 | .mapUpdate T m k x=>match (st.ev ch m).val?,(st.ev ch k).val?,(st.ev ch x).val? with
  | some m,some k,some x=>Uq P (Instr.mapUpdate T m k x) h fun h'=>K .any st.b h'
  | _,_,_=>False
 | .insert T m k x=>match (st.ev ch m).val?,(st.ev ch k).val?,(st.ev ch x).val? with
  | some m,some k,some x=>Uq P (Instr.mapUpdate T m k x) h fun h'=>K .any st.b h'
  | _,_,_=>False
 | .range T x=>match (st.ev ch x).val? with
  | some a=>Qm P (Instr.range T a) h fun v h'=>K (.t (.one (.v v))) st.b h'
  | none=>False
 | .next it s=>match (st.ev ch it).val? with
  | some a=>Qm P (Instr.next a s o.type) h fun v h'=>res (shp P o.type) v fun x=>K x st.b h'
  | none=>False
 | _=>False
def chain (st:St):Nat→Nat→Bool→List (Nat × Bool)
 | 0,_,_=>[]
 | n+1,s,p=>(s,p) :: (match st.t s with|.gd s' p' _=>chain st n s' p'|_=>[])
def condP (st:St):Nat→Nat→Bool→Prop
 | 0,_,_=>False
 | n+1,s,p=>match st.t s with
  | .s (.t (.one (.v (.bool b))))=>b=p
  | .gd s' p' (.t (.one (.v (.bool b))))=>condP st n s' p'∧b=p
  | _=>False
def okGd (st:St):Nat→Nat→Bool
 | 0,_=>false
 | n+1,s=>match st.t s with
  | .s (.t (.one (.v (.bool _))))=>true
  | .gd s' _ (.t (.one (.v (.bool _))))=>okGd st n s'
  | _=>false
def Qrn:Sh1→TV
 | .int k=>.v (.int k 0)
 | .bool=>.v (.bool false)
 | .str=>.v (.string ⟨#[]⟩)
 | .slice=>.v (.slice none 0 0)
 | .ptr=>.v (.pointer none)
 | .ifc=>.ifc none
 | .val=>.v undef
def QqW:List Sh1→List TV
 | []=>[]
 | s :: l=>Qrn s :: QqW l
def Qq1:Sh0→TW
 | .one s=>.one (Qrn s)
 | .agg l=>.ag (QqW l)
def Qn4:List Sh0→List TW
 | []=>[]
 | s :: l=>Qq1 s :: Qn4 l
def dfl:Sh→SV
 | .s s=>.t (Qq1 s)
 | .tup l=>.tup (Qn4 l)
def al1:Sh1→(TV→Prop)→Prop
 | .int k,K=>∀ x:Int,K (.v (.int k x))
 | .bool,K=>∀ x:Bool,K (.v (.bool x))
 | .str,K=>∀ x:ByteArray,K (.v (.string x))
 | .slice,K=>∀(a:Option Addr) (n c:Nat),K (.v (.slice a n c))
 | .ptr,K=>∀ p:Option Addr,K (.v (.pointer p))
 | .ifc,K=>∀ e:Option (TypeId × Value),K (.ifc e)
 | .val,K=>∀ x:Value,K (.v x)
def alL:List Sh1→(List TV→Prop)→Prop
 | [],K=>K []
 | s :: l,K=>al1 s fun x=>alL l fun xs=>K (x :: xs)
def al0:Sh0→(TW→Prop)→Prop
 | .one s,K=>al1 s fun x=>K (.one x)
 | .agg l,K=>alL l fun xs=>K (.ag xs)
def QoI:List Sh0→(List TW→Prop)→Prop
 | [],K=>K []
 | s :: l,K=>al0 s fun x=>QoI l fun xs=>K (x :: xs)
def alS:Sh→(SV→Prop)→Prop
 | .s s,K=>al0 s fun x=>K (.t x)
 | .tup l,K=>QoI l fun xs=>K (.tup xs)
def JR:Op→Bool
 | .call _=>true
 | _=>false
def ZV (P:Program)(cfg:Cfg)(ops:Array Oper)(o:Oper)(st:St)(h:Hp)(K:St→Hp→Prop):Prop:=
 match o.guard with
 | none=>
  bif isE P o.op then vcE P cfg o [] st h fun sv b h'=>St.put ⟨st.n,st.t,st.g,b⟩ o.dst none sv fun st'=>K st' h'
  else vcV P o [] (fun p=>p) st h fun sv=>st.put o.dst none sv fun st'=>K st' h
 | some (j,p)=>
  match (ops[j]?).bind (·.dst) with
  | none=>False
  | some s=>
   bif okGd st 8 s then
    bif isE P o.op then
     (bif JR o.op then
      ∃ J:SV→Hp→Prop,(condP st 8 s p→vcE P cfg o (chain st 8 s p) st h fun sv _ h'=>J sv h')∧(¬ condP st 8 s p→J (dfl (shp P o.type)) h) ∧
       ∀ h':Hp,alS (shp P o.type) fun x=>J x h'→st.put o.dst (some (s,p)) x fun st'=>K st' h'
     else
      (condP st 8 s p→vcE P cfg o (chain st 8 s p) st h fun sv b h'=>St.put ⟨st.n,st.t,st.g,b⟩ o.dst none sv fun st'=>K st' h') ∧
      (¬ condP st 8 s p→st.put o.dst (some (s,p)) (dfl (shp P o.type)) fun st'=>K st' h))
    else vcV P o (chain st 8 s p) (fun q=>condP st 8 s p→q) st h fun sv=>st.put o.dst (some (s,p)) sv fun st'=>K st' h
   else False
def Qmr (P:Program)(cfg:Cfg)(ops:Array Oper):List Oper→St→Hp→(St→Hp→Prop)→Prop
 | [],st,h,K=>K st h
 | o :: l,st,h,K=>ZV P cfg ops o st h fun st' h'=>Qmr P cfg ops l st' h' K
def Kn {α:Type}(k:Nat):List (Nat × α)→Option α
 | []=>none
 | (i,x) :: l=>bif Nat.beq k i then some x else Kn k l
def isA:Op→Bool
 | .alloc _|.box ..|.buildSlice ..=>true
 | _=>false
def Qgj:List Oper→List Nat→List Nat
 | [],acc=>acc
 | o :: l,acc=>Qgj l (acc++[o.after.toList.foldl (fun s e=>bif Region.binds .any e then Nat.lor s (Nat.lor (Nat.shiftLeft 1 e.on) (acc.getD e.on 0)) else s) 0])
def bit (m i:Nat):Bool:=Nat.beq (Nat.land (Nat.shiftRight m i) 1) 1
def MW (ops:Array Oper)(o:Oper):List Nat:=
 (match o.guard with|some (j,_)=>(match (ops[j]?).bind (·.dst) with|some s=>[s]|none=>[])|none=>[])++o.op.operands.toList.filterMap fun x=>match x with|.tmp t=>some t|_=>none
def Qi7 (d:Option Nat)(l:List Nat):Bool:=match d with|some x=>!(Gv x l)|none=>true
def QqE (d e:Option Nat):Bool:=match d,e with|some x,some y=>!(Nat.beq x y)|_,_=>true
def Qk5 (ops:Array Oper)(x y:Oper):Bool:=Qi7 x.dst (MW ops y)&&Qi7 y.dst (MW ops x)&&QqE x.dst y.dst
def isB (cfg:Cfg)(o:Oper):Bool:=
 match o.op with
 | .buildSlice ..=>true
 | .alloc _=>QfF cfg o.dst
 | .box ..=>QfF cfg o.dst
 | _=>false
def Qh1 (P:Program)(cfg:Cfg)(ops:Array Oper)(ms:List Nat)(i:Nat)(x:Oper):List Nat→Bool
 | []=>true
 | j :: l=>(match ops[j]? with
   | some y=>bit (ms.getD i 0) j||(Qk5 ops x y&&((!(isE P y.op)||(isA x.op&&x.guard.isNone&&(JR y.op&&y.guard.isNone)))||(isB cfg x&&x.guard.isNone&&(isB cfg y&&y.guard.isNone))))
   | none=>false)&&Qh1 P cfg ops ms i x l
def Qk7 (x:Oper)(done:List Nat):Bool:=x.after.toList.all fun e=>!(Region.binds .any e)||Gv e.on done
def Vs (P:Program)(cfg:Cfg)(ops:Array Oper)(ms:List Nat):List Nat→List Nat→Bool
 | done,[]=>Nat.beq done.length ops.size
 | done,i :: l=>(match ops[i]? with
   | some x=>!(Gv i done)&&Qk7 x done&&Qh1 P cfg ops ms i x done
   | none=>false)&&Vs P cfg ops ms (i :: done) l
def Qg9:Nat→List Nat→Bool
 | 0,_=>true
 | n+1,l=>Gv n l&&Qg9 n l
structure Fg where
 j:Nat
 bx:Option Nat
 p:Option (Hp→Prop)
def SV.tcells:SV→List TV
 | .t w=>w.cells
 | _=>[]
def VD.again (P:Program)(G:Prop→Prop)(h:Hp)(x:SV):VD→Prop
 | .rd m _=>G (Rd P m h x.val)
 | .ldA b o n _=>G (h.row b o n=some (Qq x.tcells))
 | .ld1 b o _=>G (h.cell b o=some x.val)
 | _=>True
def boxR (o:Oper)(st:St)(ch:List (Nat × Bool)):Option Nat:=
 match o.op with
 | .load _ x=>(match st.ev ch x with|.bp i _=>some i|_=>none)
 | _=>none
def Yn (P:Program)(o:Oper)(ch:List (Nat × Bool))(G:Prop→Prop)(st:St)(i:Nat)(sv:SV)(fl:List Fg):List Fg:=
 match (QW P o ch st).hr,boxR o st ch with
 | false,none=>fl
 | true,b=>⟨i,b,some fun h'=>(QW P o ch st).again P G h' sv⟩ :: fl
 | false,some k=>⟨i,some k,none⟩ :: fl
def XS (b b':List Box):Option Nat→Bool
 | none=>true
 | some k=>match b[k]?,b'[k]? with|some x,some y=>Nat.beq x.st y.st|_,_=>false
def agn (m:Nat)(b b':List Box)(h':Hp):List Fg→Prop→Prop
 | [],K=>K
 | f :: l,K=>bif bit m f.j then agn m b b' h' l K else
   bif XS b b' f.bx then(match f.p with|some p=>p h'∧agn m b b' h' l K|none=>agn m b b' h' l K) else False
def NQ (P:Program)(ops:Array Oper)(i:Nat)(o:Oper)(st:St)(h:Hp)(fl:List Fg)(K:List Fg→St→Prop):Prop:=
 match o.guard with
 | none=>vcV P o [] (fun p=>p) st h fun sv=>st.put o.dst none sv fun st'=>K (Yn P o [] (fun p=>p) st i sv fl) st'
 | some (j,p)=>
  match (ops[j]?).bind (·.dst) with
  | none=>False
  | some s=>bif okGd st 8 s then vcV P o (chain st 8 s p) (fun q=>condP st 8 s p→q) st h fun sv=>st.put o.dst (some (s,p)) sv fun st'=>K (Yn P o (chain st 8 s p) (fun q=>condP st 8 s p→q) st i sv fl) st' else False
def vcD (P:Program)(cfg:Cfg)(ops:Array Oper)(ms:List Nat):List Nat→List Fg→St→Hp→(St→Hp→Prop)→Prop
 | [],_,st,h,K=>K st h
 | i :: l,fl,st,h,K=>
  match ops[i]? with
  | none=>False
  | some o=>
   bif isE P o.op then
    (bif isA o.op then ZV P cfg ops o st h fun st' h'=>vcD P cfg ops ms l fl st' h' K
     else ZV P cfg ops o st h fun st' h'=>agn (ms.getD i 0) st.b st'.b h' fl (vcD P cfg ops ms l fl st' h' K))
   else NQ P ops i o st h fl fun fl' st'=>vcD P cfg ops ms l fl' st' h K
def X7:List Oper→List Nat
 | []=>[]
 | o :: l=>match o.dst with|some d=>d :: X7 l|none=>X7 l
def Zx:Code→List Nat
 | .region _ ops _=>X7 ops.toList
 | .seq a b=>Zx a++Zx b
 | .cond _ a b=>Zx a++Zx b
 | .block _ a=>Zx a
 | .loop a=>Zx a
 | .scope a=>Zx a
 | _=>[]
def VL:Code→Option Nat
 | .region id _ _=>some id
 | .seq a b=>(VL a).or (VL b)
 | .cond _ a b=>(VL a).or (VL b)
 | .block _ a=>VL a
 | .loop a=>VL a
 | .scope a=>VL a
 | _=>none
def QiH (D:List Nat)(st:St):St:=
 { st with g:=fun _=>false,t:=fun i=>match st.t i with|.s x=>.s x|.gd s p x=>bif Gv i D then .s .any else .gd s p x }
inductive Ex where
 | nrm|ext (id:Nat)|ret
def WT (st:St):List Nat→Option (List Value)
 | []=>some []
 | s :: l=>match st.t s,WT st l with
  | .s (.t x),some vs=>some (x.val :: vs)
  | _,_=>none
def Qbp (st:St):List (Nat × List Sh1)→Option (List Value)
 | []=>some []
 | (i,_) :: l=>match st.b[i]?,Qbp st l with
  | some bx,some vs=>some (Qq bx.c++vs)
  | _,_=>none
def UX (st:St)(slots:List Nat)(bxs:List (Nat × List Sh1)):Option (List Value):=
 match WT st slots,Qbp st bxs with
 | some a,some b=>some (a++b)
 | _,_=>none
def Yk:(Nat→Sl)→List Nat→List TW→(Nat→Sl)
 | t,s :: l,x :: xs=>Yk (fun i=>bif Nat.beq i s then .s (.t x) else t i) l xs
 | t,_,_=>t
def ZR:List Box→List (Nat × List Sh1)→List (List TV)→List Box
 | b,(i,_) :: l,x :: xs=>ZR (match b[i]? with|some bx=>Jw b i ⟨bx.ty,x,bx.st+1⟩|none=>b) l xs
 | b,_,_=>b
def UG (st:St)(D:List Nat)(slots:List Nat)(bxs:List (Nat × List Sh1))(xs:List TW)(ys:List (List TV)):St:=
 { st with t:=Yk (fun i=>bif Gv i D then .s .any else st.t i) slots xs,b:=ZR st.b bxs ys }
def Qq9:List (Nat × List Sh1)→(List (List TV)→Prop)→Prop
 | [],K=>K []
 | (_,s) :: l,K=>exL s fun x=>Qq9 l fun xs=>K (x :: xs)
def QcT:List (List TV)→List Value
 | []=>[]
 | x :: l=>Qq x++QcT l
def Qfj:Nat→List Box→List Box→List (Nat × List Sh1)→Bool
 | _,[],_,_=>true
 | k,x :: l,y :: m,bxs=>((Kn k bxs).isSome||Nat.beq x.st y.st)&&Qfj (k+1) l m bxs
 | _,_ :: _,[],_=>false
def VI (st:St):List (Nat × List Sh1)→Bool
 | []=>true
 | (i,s) :: l=>(match st.b[i]? with|some bx=>Nat.beq bx.c.length s.length|none=>false)&&VI st l
def Qqy:List Nat→List Nat→Bool
 | [],_=>true
 | x :: l,d=>Gv x d&&Qqy l d
def QjO (P:Program)(fv:Value)(hc:Hp)(good:Value→Prop)(xs:List Value):Prop:=
 (∀ b o,hc b=some o→o.isCells=true)∧∃ gf lb fn,fv=.func (.func gf) #[] lb∧P.funcs[gf]?=some fn∧(fn.name == "runtime.NumGoroutine")=false∧fn.body.isNone=false ∧
  ∀(w:World),Sub hc w→SeqStopsK (α:={ v:Value // good v }) Fence.wide 2 P gf lb (fun x=>#[x.1]) (fun A B=>Sub hc A→Sub hc B) (fun l=>l.map (·.1)=xs) (fun l=>l.map (·.1) <+: xs) xs.length w
def Qmc:List Oper→Bool
 | []=>true
 | o :: l=>(match o.op with|.defer _=>false|_=>true)&&Qmc l
def U8:Code→Bool
 | .skip=>true
 | .region _ ops draw=>!draw&&Qmc ops.toList
 | .seq a b=>U8 a&&U8 b
 | .cond _ a b=>U8 a&&U8 b
 | .block _ a=>U8 a
 | .exit _=>true
 | .ret=>true
 | _=>false
def Qqs:Code→Option (Nat × Nat)
 | .region _ ops false=>match ops.toList with
  | [o]=>match o.dst,o.op,o.guard with
   | some d,.assign (.tmp q),none=>some (q,d)
   | _,_,_=>none
  | _=>none
 | _=>none
def QrJ:Sl→Sl
 | .s (.bp _ _)=>.s .any
 | x=>x
def Vq (st:St)(p d:Nat)(x:TW):St:=⟨st.n,fun i=>bif Nat.beq i d then .s (.t x) else bif Nat.beq i p then .s (.t x) else QrJ (st.t i),fun _=>false,[]⟩
def ZB (h h':Hp):Prop:=∀ b o,h' b=some o→h b=none→o.isCells=true
def vcC (P:Program)(cfg:Cfg):Code→St→Hp→(Ex→St→Hp→Prop)→Prop
 | .skip,st,h,Q=>Q .nrm st h
 | .region id ops draw,st,h,Q=>bif draw then
   (match Kn id cfg.ord with
    | some l=>bif (Vs P cfg ops (Qgj ops.toList []) [] l&&Qg9 ops.size l) then vcD P cfg ops (Qgj ops.toList []) l [] st h fun st' h'=>Q .nrm (QiH (X7 ops.toList) st') h' else False
    | none=>False)
  else Qmr P cfg ops ops.toList st h fun st' h'=>Q .nrm (QiH (X7 ops.toList) st') h'
 | .seq a b,st,h,Q=>vcC P cfg a st h fun e st' h'=>match e with
  | .nrm=>vcC P cfg b st' h' Q
  | e=>Q e st' h'
 | .cond c a b,st,h,Q=>match st.ev [] c with
  | .t (.one (.v (.bool t)))=>(t=true→vcC P cfg a st h Q)∧(t=false→vcC P cfg b st h Q)
  | _=>False
 | .block id a,st,h,Q=>vcC P cfg a st h fun e st' h'=>match e with
  | .ext i=>bif Nat.beq i id then Q .nrm st' h' else Q (.ext i) st' h'
  | e=>Q e st' h'
 | .loop a,st,h,Q=>
  match (VL a).bind fun r=>Kn r cfg.ann with
  | none=>False
  | some (slots,shs,bxs)=>
   match UX st slots bxs,(Nat.beq shs.length slots.length&&VI st bxs&&Qqy slots (Zx a)) with
   | none,_=>False
   | _,false=>False
   | some vs0,true=>∃(I:List Value→Hp→Prop) (μ:List Value→Hp→Nat),I vs0 h∧∀ vs h',I vs h'→Qbz shs fun xs=>Qq9 bxs fun ys=>vs=Uj xs++QcT ys ∧
     vcC P cfg a (UG st (Zx a) slots bxs xs ys) h' fun e st' h''=>match e with
      | .nrm=>match UX st' slots bxs with
       | some vs'=>bif (Qfj 0 st.b st'.b bxs&&VI st' bxs) then(I vs' h''∧μ vs' h'' < μ vs h') else False
       | none=>False
      | e=>Q e st' h''
 | .exit id,st,h,Q=>Q (.ext id) st h
 | .ret,st,h,Q=>Q .ret st h
 | .rangeFunc g ps asg body,st,h,Q=>
  match (st.ev [] g).val?,ps.toList,Qqs asg,(VL asg).bind fun r=>Kn r cfg.ann with
  | some fv,[p],some (q,d),some (_,[sh],_)=>
   bif (U8 body&&Nat.beq q p&&Nat.blt p st.n&&Nat.blt d st.n) then
    ∃(hc:Hp) (good:Value→Prop) (xs:List Value) (I:List Value→Hp→Prop),QjO P fv hc good xs∧I [] h∧(∀ l h',I l h'→hc.le h'∧ZB h h') ∧
     (∀ l h' x,good x→l.length < xs.length→I l h'→ex0 sh fun y=>x=y.val∧vcC P cfg body (Vq st p d y) h' fun e _ h2=>match e with
      | .nrm=>I (l++[x]) h2
      | e=>ZB h h2∧(l++[x] <+: xs→Q e st h2)) ∧
     ∀ h',I xs h'→Q .nrm st h'
   else False
  | _,_,_,_=>False
 | _,_,_,_=>False
def Qlz (P:Program)(st:St):List ResultVar→Option (List Value)
 | []=>some []
 | .tmp t :: l=>match (st.ev [] (.tmp t)).val?,Qlz P st l with
  | some v,some vs=>some (v :: vs)
  | _,_=>none
 | .cell a T :: l=>match st.t a,Qlz P st l with
  | .s (.bp i 0),some vs=>match st.b[i]? with
   | some bx=>bif Nat.beq bx.c.length (szT P T) then
     (bif QP P T then some (.agg (Qq bx.c).toArray :: vs) else match bx.c with|[v]=>(bif (P.underlying T).isSome then some (v.val :: vs) else none)|_=>none) else none
   | none=>none
  | _,_=>none
def QgY (P:Program)(st:St)(h:Hp):List ResultVar→(List Value→Prop)→Prop
 | [],K=>K []
 | r :: l,K=>match Qlz P st [r] with
  | some [v]=>QgY P st h l fun vs=>K (v :: vs)
  | _=>match r with
   | .cell a T=>match st.t a with
    | .s (.t (.one (.hp b o)))=>bif (!(QP P T)&&(P.underlying T).isSome) then ex1 (sh1 P T) fun x=>h.cell b o=some x.val∧QgY P st h l fun vs=>K (x.val :: vs) else False
    | _=>False
   | .tmp _=>False
def YR:List TW→Nat→Sl
 | [],_=>.s .any
 | x :: l,i=>match i with|0=>.s (.t x)|i+1=>YR l i
def Qrc (P:Program)(cfg:Cfg)(fn:Func)(args:List TW)(h:Hp)(R:Value→Hp→Prop):Prop:=
 match fn.body with
 | none=>False
 | some c=>vcC P cfg c ⟨fn.ntmps,YR args,fun _=>false,[]⟩ h fun e st' h'=>match e with
  | .ext _=>False
  | _=>QgY P st' h' fn.results.toList fun vs=>match vs with
   | [v]=>R v h'
   | vs=>R (.tuple vs.toArray) h'
def SV.ok (ρ:Nat→Option Nat):SV→Value→Prop
 | .t x,y=>y=x.val
 | .tup l,y=>y=.tuple (Uj l).toArray
 | .bp i o,y=>∃ b,ρ i=some b∧y=.pointer (some ⟨b,o,none⟩)
 | .any,_=>True
def Sl.ok (ρ:Nat→Option Nat)(tm:Array Value):Sl→Value→Prop
 | .s x,y=>x.ok ρ y
 | .gd k p x,y=>(tm.getD k undef=.bool p→x.ok ρ y)∧(tm.getD k undef≠.bool p→y=undef)
def Qrs (ds:List Deferred)(w0 w:World)(h:Hp):Prop:=ds.Nodup∧∀ d ∈ ds,∃ D,d={ target:=.collected D,args:=#[] }∧w.heap[D]?=some (.deferred (some []))∧h D=none∧w0.heap.size≤D
structure Xz (ρ:Nat→Option Nat)(w0:World)(h0:Hp)(st:St)(h:Hp)(a:Act)(w:World):Prop where
 n:a.tmps.size=st.n
 d:Qrs a.defers w0 w h
 fr:∀ i,(st.t i).ok ρ a.tmps (a.tmps.getD i undef)
 gd:∀ i s p x,st.t i=.gd s p x→st.g s=true
 sub:Sub h w
 F:Fr h0 h w0 w
 box:∀ i bx,st.b[i]?=some bx→∃ b,ρ i=some b∧w.heap[b]?=some (.cells (Qq bx.c).toArray bx.ty (0,0))∧h b=none∧w0.heap.size≤b
 dom:∀ i b,ρ i=some b→i < st.b.length
 inj:∀ i j b,ρ i=some b→ρ j=some b→i=j
def Rel (w0:World)(h0:Hp)(st:St)(h:Hp)(a:Act)(w:World):Prop:=∃ ρ,Xz ρ w0 h0 st h a w
theorem Qjh (v:Value):(QqS v).val=v:=by cases v<;>rfl
theorem SV.val?_ok {ρ:Nat→Option Nat}{x:SV}{v y:Value}(h:x.val?=some v)(hy:x.ok ρ y):y=v:=by
 cases x<;>simp only [SV.val?,SV.ok,Option.some.injEq,reduceCtorEq] at h hy
 ·rw [hy,h]
 ·rw [hy,h]
theorem Q7 (l:List TV):(Qq l).length=l.length:=by induction l<;>simp_all [Qq]
theorem Qby (l m:List TV):Qq (l++m)=Qq l++Qq m:=by induction l<;>simp_all [Qq]
theorem JD (l:List TV)(n:Nat):Qq (l.drop n)=(Qq l).drop n:=by induction l generalizing n<;>cases n<;>simp_all [Qq]
theorem Qa1 (l:List TV)(n:Nat):Qq (l.take n)=(Qq l).take n:=by induction l generalizing n<;>cases n<;>simp_all [Qq]
theorem Ug (l:List Value):Qq (Ql4 l)=l:=by induction l<;>simp_all [Qq,Ql4,Qjh]
theorem QmU {s:Nat}{p:Bool}{ch:List (Nat × Bool)}(h:Qnr s p ch=true):(s,p) ∈ ch:=by
 induction ch with
 | nil=>simp [Qnr] at h
 | cons x l ih=>
  obtain⟨y,q⟩:=x
  simp only [Qnr] at h
  cases hc:(Nat.beq s y&&(p == q)) with
  | true=>
   simp only [Bool.and_eq_true,beq_iff_eq] at hc
   have:=Nat.eq_of_beq_eq_true hc.1
   simp [this,hc.2]
  | false=>rw [hc] at h;simp only [cond_false] at h;exact List.mem_cons_of_mem _ (ih h)
theorem Xj {s:Nat}{l:List Nat}:Gv s l=true↔s ∈ l:=by
 induction l with
 | nil=>simp [Gv]
 | cons y l ih=>
  simp only [Gv,List.mem_cons]
  cases hc:Nat.beq s y with
  | true=>simp [Nat.eq_of_beq_eq_true hc]
  | false=>have:=Nat.ne_of_beq_eq_false hc;simp [ih,this]
section
variable {ρ:Nat→Option Nat}{w0:World}{h0:Hp}{st:St}{h:Hp}{a:Act}{w:World}
theorem Qda (R:Xz ρ w0 h0 st h a w){ch:List (Nat × Bool)}(hch:∀ s p,(s,p) ∈ ch→a.tmps.getD s undef=.bool p)(x:Operand):(st.ev ch x).ok ρ (a.eval x):=by
 cases x with
 | tmp i=>
  have:=R.fr i
  simp only [St.ev,Act.eval]
  cases hi:st.t i with
  | s x=>simpa [hi,Sl.ok] using this
  | gd s p x=>
   simp only [hi,Sl.ok] at this ⊢
   cases hm:Qnr s p ch with
   | true=>exact this.1 (hch s p (QmU hm))
   | false=>trivial
 | const v=>simp [St.ev,Act.eval,SV.ok,TW.val,Qjh]
 | global g=>simp [St.ev,Act.eval,SV.ok,TW.val,TV.val]
 | func f=>simp [St.ev,Act.eval,SV.ok,TW.val,TV.val]
theorem QcL (R:Xz ρ w0 h0 st h a w){ch:List (Nat × Bool)}(hch:∀ s p,(s,p) ∈ ch→a.tmps.getD s undef=.bool p){x:Operand}{v:Value}(hv:(st.ev ch x).val?=some v):a.eval x=v:=
 SV.val?_ok hv (Qda R hch x)
theorem Qeh (R:Xz ρ w0 h0 st h a w){ch:List (Nat × Bool)}(hch:∀ s p,(s,p) ∈ ch→a.tmps.getD s undef=.bool p):∀{l:List Operand} {vs:List Value},st.evs ch l=some vs→l.map a.eval=vs
 | [],vs,hv=>by simp [St.evs] at hv;simp [hv]
 | x :: l,vs,hv=>by
  simp only [St.evs] at hv
  split at hv
  ·rename_i v vs' hx hl
   simp only [Option.some.injEq] at hv
   subst hv
   simp [QcL R hch hx,Qeh R hch hl]
  ·simp at hv
theorem Qkf {v:TV}(h:Qpu v=true):one? v.val=true:=by
 cases v with
 | v x=>exact h
 | hp b o=>rfl
 | ifc e=>rcases e with _|⟨t,v⟩<;>rfl
theorem one?_cell {v:Value}(h:one? v=true):v.oneCell'=true:=by cases v<;>simp_all [one?,Value.oneCell']
theorem Um:∀{l:List TV},Ze l=true→∀ v ∈ Qq l,v.oneCell'=true
 | [],_,v,hv=>by simp [Qq] at hv
 | x :: l,h,v,hv=>by
  simp only [Ze,Bool.and_eq_true] at h
  simp only [Qq,List.mem_cons] at hv
  rcases hv with rfl|hv
  ·exact one?_cell (Qkf h.1)
  ·exact Um h.2 v hv
theorem Jf {x:TW}(h:KC x=true):Qq x.cells=x.val.cells.toList:=by
 cases x with
 | one v=>
  have:=Qkf (show Qpu v=true from h)
  cases hv:v.val<;>simp_all [TW.cells,TW.val,Qq,Value.cells,one?]
 | ag l=>simp [TW.cells,TW.val,Value.cells]
theorem Ja {st:St}{ch:List (Nat × Bool)}:∀{l:List (Nat × Operand)} {vs:List (Nat × TW)},partsL st ch l=some vs→∀ q ∈ vs,KC q.2=true
 | [],vs,hv,q,hq=>by simp [partsL] at hv;subst hv;simp at hq
 | (i,x) :: l,vs,hv,q,hq=>by
  simp only [partsL] at hv
  split at hv
  ·rename_i v vs' hx hl
   cases hp:KC v with
   | false=>simp [hp] at hv
   | true=>
   simp only [hp,cond_true,Option.some.injEq] at hv
   subst hv
   simp only [List.mem_cons] at hq
   rcases hq with rfl|hq
   ·exact hp
   ·exact Ja hl q hq
  ·simp at hv
theorem Qif (R:Xz ρ w0 h0 st h a w){ch:List (Nat × Bool)}(hch:∀ s p,(s,p) ∈ ch→a.tmps.getD s undef=.bool p){x:Option Operand}{v:Option Value}(hv:optV st ch x=some v):x.map a.eval=v:=by
 cases x with
 | none=>simp [optV] at hv;simp [hv]
 | some x=>
  simp only [optV] at hv
  split at hv
  ·rename_i v' hx;simp only [Option.some.injEq] at hv;subst hv;simp [QcL R hch hx]
  ·simp at hv
theorem Qct (R:Xz ρ w0 h0 st h a w){ch:List (Nat × Bool)}(hch:∀ s p,(s,p) ∈ ch→a.tmps.getD s undef=.bool p):∀{l:List (Nat × Operand)} {vs:List (Nat × TW)},partsL st ch l=some vs→l.map (fun q=>(q.1,a.eval q.2))=vs.map (fun q=>(q.1,q.2.val))
 | [],vs,hv=>by simp [partsL] at hv;simp [←hv]
 | (i,x) :: l,vs,hv=>by
  simp only [partsL] at hv
  split at hv
  ·rename_i v vs' hx hl
   cases hp:KC v with
   | false=>simp [hp] at hv
   | true=>
   simp only [hp,cond_true,Option.some.injEq] at hv
   subst hv
   have e:=Qda R hch x
   have:a.eval x=v.val:=by
    cases hs:st.ev ch x with
    | t y=>rw [hs] at hx e;simp only [SV.tw?,Option.some.injEq] at hx;subst hx;exact e
    | _=>rw [hs] at hx;simp [SV.tw?] at hx
   simp [this,Qct R hch hl]
  ·simp at hv
end
theorem Mm {s:Sh1}{K:TV→Prop}(H:ex1 s K):∃ x,K x:=by
 cases s<;>simp only [ex1] at H
 case slice=>obtain⟨a,n,c,H⟩:=H;exact⟨_,H⟩
 all_goals (obtain⟨x,H⟩:=H;exact⟨_,H⟩)
theorem G9:∀{l:List Sh1} {K:List TV→Prop},exL l K→∃ x,K x∧x.length=l.length
 | [],K,H=>⟨[],H,rfl⟩
 | s :: l,K,H=>by
  obtain⟨x,H⟩:=Mm (show ex1 s _ from H)
  obtain⟨xs,H,e⟩:=G9 H
  exact⟨x :: xs,H,by simp [e]⟩
theorem Qbo {s:Sh0}{K:TW→Prop}(H:ex0 s K):∃ x,K x:=by
 cases s with
 | one s=>obtain⟨x,H⟩:=Mm (show ex1 s _ from H);exact⟨_,H⟩
 | agg l=>obtain⟨x,H,_⟩:=G9 (show exL l _ from H);exact⟨_,H⟩
theorem Qhh:∀{l:List Sh0} {K:List TW→Prop},Qbz l K→∃ x,K x
 | [],K,H=>⟨[],H⟩
 | s :: l,K,H=>by
  obtain⟨x,H⟩:=Qbo (show ex0 s _ from H)
  obtain⟨xs,H⟩:=Qhh H
  exact⟨x :: xs,H⟩
def SV.isVal:SV→Prop
 | .t _|.tup _=>True
 | _=>False
theorem UV {s:Sh}{K:SV→Prop}(H:exS s K):∃ x,K x∧x.isVal:=by
 cases s with
 | s s=>obtain⟨x,H⟩:=Qbo (show ex0 s _ from H);exact⟨_,H,trivial⟩
 | tup l=>obtain⟨x,H⟩:=Qhh (show Qbz l _ from H);exact⟨_,H,trivial⟩
theorem SV.ok_val {ρ:Nat→Option Nat}{x:SV}(h:x.isVal):x.ok ρ x.val:=by
 cases x<;>first|rfl|exact h.elim
theorem Xm {s:Sh1}{K K':TV→Prop}(hk:∀ x,K x→K' x)(H:ex1 s K):ex1 s K':=by
 cases s<;>simp only [ex1] at H ⊢
 case slice=>obtain⟨a,n,c,H⟩:=H;exact⟨a,n,c,hk _ H⟩
 all_goals (obtain⟨x,H⟩:=H;exact⟨x,hk _ H⟩)
theorem Xp:∀{l:List Sh1} {K K':List TV→Prop},(∀ x,K x→K' x)→exL l K→exL l K'
 | [],K,K',hk,H=>hk _ H
 | s :: l,K,K',hk,H=>Xm (fun x hx=>Xp (fun xs hxs=>hk _ hxs) hx) (show ex1 s _ from H)
theorem UK {s:Sh0}{K K':TW→Prop}(hk:∀ x,K x→K' x)(H:ex0 s K):ex0 s K':=by
 cases s with
 | one s=>exact Xm (fun x hx=>hk _ hx) (show ex1 s _ from H)
 | agg l=>exact Xp (fun x hx=>hk _ hx) (show exL l _ from H)
theorem Jl:∀{l:List Sh0} {K K':List TW→Prop},(∀ x,K x→K' x)→Qbz l K→Qbz l K'
 | [],K,K',hk,H=>hk _ H
 | s :: l,K,K',hk,H=>UK (fun x hx=>Jl (fun xs hxs=>hk _ hxs) hx) (show ex0 s _ from H)
theorem GV {s:Sh}{K K':SV→Prop}(hk:∀ x,K x→K' x)(H:exS s K):exS s K':=by
 cases s with
 | s s=>exact UK (fun x hx=>hk _ hx) (show ex0 s _ from H)
 | tup l=>exact Jl (fun x hx=>hk _ hx) (show Qbz l _ from H)
theorem UM {s:Sh1}{K:TV→Prop}(H:ex1 s K):∃ x,ex1 s (fun y=>y=x)∧K x:=by
 cases s<;>simp only [ex1] at H ⊢
 case slice=>obtain⟨a,n,c,h2⟩:=H;exact⟨_,⟨a,n,c,rfl⟩,h2⟩
 all_goals (obtain⟨x,h2⟩:=H;exact⟨_,⟨x,rfl⟩,h2⟩)
theorem Vf:∀{l:List Sh1} {K:List TV→Prop},exL l K→∃ x,exL l (fun y=>y=x)∧K x
 | [],K,H=>⟨[],rfl,H⟩
 | s :: l,K,H=>by
  obtain⟨x,h1,h2⟩:=UM (show ex1 s _ from H)
  obtain⟨xs,h3,h4⟩:=Vf h2
  exact⟨x :: xs,Xm (fun y hy=>Xp (fun ys hys=>by rw [hy,hys]) h3) h1,h4⟩
theorem Nn {s:Sh0}{K:TW→Prop}(H:ex0 s K):∃ x,ex0 s (fun y=>y=x)∧K x:=by
 cases s with
 | one s=>obtain⟨x,h1,h2⟩:=UM (show ex1 s _ from H);exact⟨_,Xm (fun y hy=>by rw [hy]) h1,h2⟩
 | agg l=>obtain⟨x,h1,h2⟩:=Vf (show exL l _ from H);exact⟨_,Xp (fun y hy=>by rw [hy]) h1,h2⟩
theorem VR:∀{l:List Sh0} {K:List TW→Prop},Qbz l K→∃ x,Qbz l (fun y=>y=x)∧K x
 | [],K,H=>⟨[],rfl,H⟩
 | s :: l,K,H=>by
  obtain⟨x,h1,h2⟩:=Nn (show ex0 s _ from H)
  obtain⟨xs,h3,h4⟩:=VR h2
  exact⟨x :: xs,UK (fun y hy=>Jl (fun ys hys=>by rw [hy,hys]) h3) h1,h4⟩
theorem Qg2 {s:Sh}{K:SV→Prop}(H:exS s K):∃ x,exS s (fun y=>y=x)∧K x:=by
 cases s with
 | s s=>obtain⟨x,h1,h2⟩:=Nn (show ex0 s _ from H);exact⟨_,UK (fun y hy=>by rw [hy]) h1,h2⟩
 | tup l=>obtain⟨x,h1,h2⟩:=VR (show Qbz l _ from H);exact⟨_,Jl (fun y hy=>by rw [hy]) h1,h2⟩
theorem Qpb {s:Sh1}{p K:TV→Prop}(H:ex1 s fun x=>p x∧K x):∃ x,ex1 s (fun y=>p y∧y=x)∧K x:=by
 obtain⟨x,h1,h2,h3⟩:=UM H
 exact⟨x,Xm (fun y hy=>⟨by rw [hy];exact h2,hy⟩) h1,h3⟩
theorem Qoi {s:List Sh1}{p K:List TV→Prop}(H:exL s fun x=>p x∧K x):∃ x,exL s (fun y=>p y∧y=x)∧K x:=by
 obtain⟨x,h1,h2,h3⟩:=Vf H
 exact⟨x,Xp (fun y hy=>⟨by rw [hy];exact h2,hy⟩) h1,h3⟩
theorem Qok {s:Sh}{p K:SV→Prop}(H:exS s fun x=>p x∧K x):∃ x,exS s (fun y=>p y∧y=x)∧K x:=by
 obtain⟨x,h1,h2,h3⟩:=Qg2 H
 exact⟨x,GV (fun y hy=>⟨by rw [hy];exact h2,hy⟩) h1,h3⟩
theorem QoA {P:Program}{t:TypeId}(h:1≤szT P t):∃ i,P.info? t=some i∧i.size=szT P t:=by
 unfold szT Program.cellsOf at *
 cases hi:P.info? t with
 | none=>simp [hi] at h
 | some i=>exact⟨i,rfl,by simp⟩
theorem ZQ {P:Program}{t:TypeId}(h:1≤szT P t)(w:World):(sizeOf t).run P w=.ok (szT P t) w:=by
 obtain⟨i,hi,hs⟩:=QoA h
 simp [sizeOf,typeInfo,hi,hs]
theorem Qof {P:Program}{t:TypeId}{d:TypeDesc}(h:P.underlying t=some d):∃ i,P.info? t=some i∧i.size=szT P t:=by
 unfold Program.underlying at h
 unfold szT Program.cellsOf
 cases hi:P.info? t with
 | none=>simp [hi] at h
 | some i=>exact⟨i,rfl,by simp⟩
theorem Mb {P:Program}{t:TypeId}{d:TypeDesc}(h:P.underlying t=some d)(w:World):(sizeOf t).run P w=.ok (szT P t) w:=by
 obtain⟨i,hi,hs⟩:=Qof h
 simp [sizeOf,typeInfo,hi,hs]
theorem QaP {P:Program}{t:TypeId}(h:QP P t=true):∃ d,P.underlying t=some d∧(match d with|.struct _|.array _ _=>true|_=>false)=true:=by
 unfold QP at h
 split at h
 ·rename_i f hf;exact⟨_,hf,rfl⟩
 ·rename_i f hf;exact⟨_,hf,rfl⟩
 ·simp at h
theorem Mv {P:Program}{t:TypeId}(h:QP P t=true)(w:World):(isAgg t).run P w=.ok true w:=by
 obtain⟨d,hd,hm⟩:=QaP h
 unfold isAgg
 rw [Sem.run_bind,run_underlying hd w]
 cases d<;>simp_all
theorem V6 {P:Program}{t:TypeId}{d:TypeDesc}(hd:P.underlying t=some d)(h:QP P t=false)(w:World):(isAgg t).run P w=.ok false w:=by
 unfold QP at h
 rw [hd] at h
 unfold isAgg
 rw [Sem.run_bind,run_underlying hd w]
 cases d<;>simp_all
theorem Yg (b o j:Nat):(⟨b,o,none⟩:Addr).add j=⟨b,o+j,none⟩:=by unfold Addr.add;split<;>simp_all
def QrF (P:Program)(o:Oper)(ρ:Nat→Option Nat)(a:Act)(w:World)(sv:SV):Prop:=∃ v,(execOp a.eval o).run P w=.ok (.value v) w∧sv.ok ρ v
section
variable {P:Program}{ρ:Nat→Option Nat}{w0:World}{h0:Hp}{st:St}{h:Hp}{a:Act}{w:World}{ch:List (Nat × Bool)}{G:Prop→Prop}{K:SV→Prop}{o:Oper}
theorem Y4 (hs:Sub h w)(hG:∀ p,G p→p){m:Sem Value}{s:Sh}(H:Qpv P G m s h K)(hm:(execOp a.eval o).run P w=(m.run P w).andThen fun v w'=>.ok (.value v) w'):∃ sv,K sv∧QrF P o ρ a w sv:=by
 obtain⟨x,⟨hx,hk⟩,hv⟩:=UV H
 refine⟨x,hk,x.val,?_,SV.ok_val hv⟩
 rw [hm,hG _ hx w hs]
 rfl
theorem JJ {x:SV}{y:TW}(h:x=.t y){ρ:Nat→Option Nat}{v:Value}(hv:x.ok ρ v):v=y.val:=by subst h;exact hv
theorem QnL {T:TypeId}(hG:∀ p,G p→p){op:BinOp}{x y:Int}(H:(Qoq op x y).sem P G h K) :
  ∃ v,K (.t (.one v))∧(binOp op T (.int .i64 x) (.int .i64 y)).run P w=.ok v.val w:=by
 have hw:∀ z,InR z→IntKind.i64.wrap z=z:=by
  intro z hz
  unfold InR at hz
  exact IntWalk.i64_in _ hz
 cases op<;>simp only [Qoq,VD.sem] at H
 case add=>obtain⟨z,hz,hk⟩:=H;have e:z=_:=hG _ hz;exact⟨_,hk,by simp [binOp,Op.intArith,e,TV.val]⟩
 case sub=>obtain⟨z,hz,hk⟩:=H;have e:z=_:=hG _ hz;exact⟨_,hk,by simp [binOp,Op.intArith,e,TV.val]⟩
 case mul=>obtain⟨z,hz,hk⟩:=H;have e:z=_:=hG _ hz;exact⟨_,hk,by simp [binOp,Op.intArith,e,TV.val]⟩
 case quo=>exact⟨_,H.2,by simp [binOp,Op.intDiv,hw _ (hG _ H.1).2,(hG _ H.1).1,TV.val]⟩
 case rem=>exact⟨_,H.2,by simp [binOp,Op.intDiv,(hG _ H.1),TV.val]⟩
 case eql=>exact⟨_,H,by simp [binOp,Op.intCmp,TV.val];rfl⟩
 case neq=>exact⟨_,H,by simp [binOp,Op.intCmp,TV.val,bne];rfl⟩
 all_goals exact⟨_,H,by simp [binOp,Op.intCmp,TV.val]⟩
theorem Qn8 {T:TypeId}{op:BinOp}{k:IntKind}{x y:Int}(H:(QnT op x y).sem P G h K) :
  ∃ v,K (.t (.one v))∧(binOp op T (.int k x) (.int k y)).run P w=.ok v.val w:=by
 cases op<;>simp only [QnT,VD.sem] at H
 case eql=>exact⟨_,H,by simp [binOp,Op.intCmp,TV.val];rfl⟩
 case neq=>exact⟨_,H,by simp [binOp,Op.intCmp,TV.val,bne];rfl⟩
 all_goals exact⟨_,H,by simp [binOp,Op.intCmp,TV.val]⟩
theorem Qdh (op:BinOp)(T:TypeId)(x y:Operand)(j k:IntKind)(m n:Int):(eqGuard op T x y (.int j m) (.int k n)).run P w=.ok () w:=by
 unfold eqGuard
 split<;>simp
theorem XU {op:BinOp}{T T':TypeId}{x y:Operand}{d:Option Tmp}{ty:TypeId}{pos:String}{af:Array Edge}{gd:Option (Nat × Bool)}{u v:Value}(hx:a.eval x=u)(hy:a.eval y=v) :
  (execOp a.eval ⟨d,.binOp op T x y T',ty,pos,af,gd⟩).run P w=((eqGuard op T x y u v >>= fun _=>binOp op T u v).run P w).andThen fun v w'=>.ok (.value v) w':=by
 subst hx;subst hy
 simp only [execOp,Sem.run_bind]
 cases (eqGuard op T x y (a.eval x) (a.eval y)).run P w<;>simp [Result.andThen]
theorem Qqh {x y:SV}{m n:Int}(e:QbM x y=.i64 m n):x=.t (.one (.v (.int .i64 m)))∧y=.t (.one (.v (.int .i64 n))):=by
 unfold QbM at e;split at e<;>simp_all
theorem Qrq {x y:SV}{k:IntKind}{m n:Int}(e:QbM x y=.ik k m n):x=.t (.one (.v (.int k m)))∧y=.t (.one (.v (.int k n))):=by
 unfold QbM at e;split at e<;>simp_all
theorem QoG {x y:SV}{m}(e:QbM x y=.nilR m):x=.t (.one (.ifc m))∧y=.t (.one (.ifc none)):=by
 unfold QbM at e;split at e<;>simp_all
theorem Qpa {x y:SV}{m}(e:QbM x y=.nilL m):x=.t (.one (.ifc none))∧y=.t (.one (.ifc m)):=by
 unfold QbM at e;split at e<;>simp_all
theorem Qd8 (e:Option (TypeId × Value)):(∃ T v,ifv e=.iface T v∧e.isNone=false∧e.isSome=true)∨(ifv e=.nilIface∧e.isNone=true∧e.isSome=false):=by
 cases e with
 | none=>right;simp [ifv]
 | some q=>obtain⟨t,v⟩:=q;left;exact⟨t,v,rfl,rfl,rfl⟩
theorem GO (d:Nat){T:TypeId}{ms}(hT:P.underlying T=some (.interface ms))(e:Option (TypeId × Value)):(Op.equalIn (d+1) T .nilIface (ifv e)).run P w=.ok e.isNone w:=by
 rcases Qd8 e with ⟨t,v,h1,h2,_⟩|⟨h1,h2,_⟩<;>rw [h1,h2]<;>simp [Op.equalIn,run_underlying hT]
theorem Gh (d:Nat){T:TypeId}{ms}(hT:P.underlying T=some (.interface ms))(e:Option (TypeId × Value)):(Op.equalIn (d+1) T (ifv e) .nilIface).run P w=.ok e.isNone w:=by
 rcases Qd8 e with ⟨t,v,h1,h2,_⟩|⟨h1,h2,_⟩<;>rw [h1,h2]<;>simp [Op.equalIn,run_underlying hT]
theorem Qa4 {T:TypeId}{ms}(hT:P.underlying T=some (.interface ms))(e:Option (TypeId × Value)):(Op.equal T .nilIface (ifv e)).run P w=.ok e.isNone w:=
 GO 9999 hT e
theorem NT {T:TypeId}{ms}(hT:P.underlying T=some (.interface ms))(e:Option (TypeId × Value)):(Op.equal T (ifv e) .nilIface).run P w=.ok e.isNone w:=
 Gh 9999 hT e
theorem Qg7 {T:TypeId}(h:QhE P T=true):∃ ms,P.underlying T=some (.interface ms):=by
 unfold QhE at h
 split at h
 ·rename_i ms hm;exact⟨ms,hm⟩
 ·simp at h
theorem Qhr {x:Operand}(h:Qcx x=true):x=.const .nilIface:=by
 unfold Qcx at h;split at h<;>simp_all
theorem QdF {op:BinOp}{T:TypeId}{x y:Operand}{u v:Value}(hx:x=.const .nilIface∨y=.const .nilIface)(hu:u=.nilIface∨v=.nilIface):(eqGuard op T x y u v).run P w=.ok () w:=by
 unfold eqGuard
 rcases hx with rfl|rfl<;>rcases hu with rfl|rfl<;>(repeat' split)<;>simp_all
theorem Mz {op:BinOp}{T:TypeId}{ms}(hT:P.underlying T=some (.interface ms))(e:Option (TypeId × Value))(b:Bool)(hop:op=.eql∧b=e.isNone∨op=.neq∧b=e.isSome):(binOp op T .nilIface (ifv e)).run P w=.ok (.bool b) w:=by
 have hE:=Qa4 (P:=P) (w:=w) hT e
 rcases Qd8 e with ⟨t,v,h1,h2,h3⟩|⟨h1,h2,h3⟩<;>rw [h1] at hE ⊢<;>rcases hop with ⟨rfl,rfl⟩|⟨rfl,rfl⟩<;>simp [binOp,hE,h2,h3]
theorem V8 {op:BinOp}{T:TypeId}{ms}(hT:P.underlying T=some (.interface ms))(e:Option (TypeId × Value))(b:Bool)(hop:op=.eql∧b=e.isNone∨op=.neq∧b=e.isSome):(binOp op T (ifv e) .nilIface).run P w=.ok (.bool b) w:=by
 have hE:=NT (P:=P) (w:=w) hT e
 rcases Qd8 e with ⟨t,v,h1,h2,h3⟩|⟨h1,h2,h3⟩<;>rw [h1] at hE ⊢<;>rcases hop with ⟨rfl,rfl⟩|⟨rfl,rfl⟩<;>simp [binOp,hE,h2,h3]
theorem Qnt {b o n:Nat}{l:List Value}(h1:Hp.row h b o n=some l)(hs:Sub h w):l.length=n∧∀ j v,l[j]?=some v→w.cell? ((⟨b,o,none⟩:Addr).add j)=some v:=by
 unfold Hp.row at h1
 split at h1
 ·rename_i c e fz hb
  have hw:=hs _ _ hb
  split at h1
  ·rename_i hle
   simp only [Option.some.injEq] at h1
   subst h1
   refine⟨by simp;omega,fun j v hj=>?_⟩
   rw [Yg]
   simp only [World.cell?,hw]
   simp only [List.getElem?_take,List.getElem?_drop] at hj
   split at hj
   ·simpa using hj
   ·simp at hj
  ·simp at h1
 ·simp at h1
theorem Zl {b o:Nat}{v:Value}(h1:Hp.cell h b o=some v)(hs:Sub h w):w.cell? ⟨b,o,none⟩=some v:=by
 unfold Hp.cell at h1
 split at h1
 ·rename_i c e fz hb
  have hw:=hs _ _ hb
  simp [World.cell?,hw,h1]
 ·simp at h1
theorem KD {T:TypeId}(hT:QP P T=true){b o:Nat}{l:List Value}(hl:l.length=szT P T)(hc:∀ j v,l[j]?=some v→w.cell? ((⟨b,o,none⟩:Addr).add j)=some v) :
  (loadVar T ⟨b,o,none⟩).run P w=.ok (.agg l.toArray) w:=by
 obtain⟨d,hd,_⟩:=QaP hT
 have:=run_loadCells_list (P:=P) w ⟨b,o,none⟩ l hc
 rw [hl] at this
 simp [loadVar,Mv hT,Mb hd,this]
theorem Xx {T:TypeId}(hT:QP P T=false){d:TypeDesc}(hd:P.underlying T=some d){b o:Nat}{v:Value}(hc:w.cell? ⟨b,o,none⟩=some v) :
  (loadVar T ⟨b,o,none⟩).run P w=.ok v w:=by
 simp [loadVar,V6 hd hT,hc]
theorem Qdo (off:Nat):∀(vs:List Value) (k:Nat) (cs:Array Value),off+k+vs.length≤cs.size →
  ((vs.zipIdx k).foldl (fun(cs:Array Value) (q:Value × Nat)=>cs.setIfInBounds (off+q.2) q.1) cs).toList=QM cs.toList (off+k) vs
 | [],k,cs,_=>by simp [QM]
 | v :: vs,k,cs,hl=>by
  simp only [List.length_cons] at hl
  simp only [List.zipIdx_cons,List.foldl_cons]
  rw [Qdo off vs (k+1) _ (by simp;omega)]
  simp only [QM,Array.toList_setIfInBounds]
  have e:off+(k+1)=(off+k)+1:=by omega
  rw [e]
  have hlt:off+k < cs.toList.length:=by simp;omega
  apply List.ext_getElem?
  intro j
  simp only [List.append_assoc,List.getElem?_append,List.length_take,List.length_set,List.getElem?_take,List.getElem?_set,List.getElem?_drop,List.length_cons,List.getElem?_cons]
  have m1:min (off+k+1) cs.toList.length=off+k+1:=by omega
  have m2:min (off+k) cs.toList.length=off+k:=by omega
  rw [m1,m2]
  by_cases h1:j < off+k
  ·simp [h1,show j < off+k+1 by omega,show ¬ off+k=j by omega]
  ·by_cases h2:j=off+k
   ·subst h2;simp;omega
   ·have h3:¬ j < off+k+1:=by omega
    simp only [h1,h3,if_false,show ¬(off+k=j) by omega]
    have h4:¬(j - (off+k)=0):=by omega
    simp only [h4,if_false]
    have e1:j - (off+k) - 1=j - (off+k+1):=by omega
    rw [e1]
    by_cases h5:j - (off+k+1) < vs.length
    ·simp [h5,show j - (off+k) < vs.length+1 by omega]
    ·simp only [h5,if_false,show ¬(j - (off+k) < vs.length+1) by omega]
     have e2:off+k+1+vs.length+(j - (off+k+1) - vs.length)=j:=by omega
     have e3:off+k+(vs.length+1)+(j - (off+k) - (vs.length+1))=j:=by omega
     rw [e2,e3]
     simp [show ¬(off+k=j) by omega]
theorem QeC (cs vs:List TV)(off:Nat):Qq (QM cs off vs)=QM (Qq cs) off (Qq vs):=by
 simp [QM,Qby,Qa1,JD,Q7]
theorem VV {pl:Nat→Option (Nat × Nat)}:∀{ps:List (Nat × TW)} {z cs:List TV},Nf pl z ps=some cs→(∀ q ∈ ps,KC q.2=true) →
  Instr.fill pl (Qq z).toArray (ps.map fun q=>(q.1,q.2.val))=some (Qq cs).toArray
 | [],z,cs,H,_=>by simp [Nf] at H;simp [Instr.fill,H]
 | (i,v) :: ps,z,cs,H,hp=>by
  simp only [Nf] at H
  cases hpl:pl i with
  | none=>simp [hpl] at H
  | some q=>
   obtain⟨off,size⟩:=q
   simp only [hpl] at H
   cases hc:(Nat.beq v.cells.length size&&Nat.ble (off+size) z.length) with
   | false=>simp [hc] at H
   | true=>
    simp only [hc,cond_true] at H
    simp only [Bool.and_eq_true] at hc
    have h1:=Nat.eq_of_beq_eq_true hc.1
    have h2:=Nat.le_of_ble_eq_true hc.2
    have hv:=Jf (hp (i,v) (by simp))
    have hsz:v.val.cells.size=size:=by rw [←Array.length_toList,←hv,Q7,h1]
    have ih:=VV H (fun q hq=>hp q (by simp [hq]))
    simp only [List.map_cons,Instr.fill,hpl]
    rw [if_neg (by simp [hsz,Q7];omega)]
    have e:(v.val.cells.zipIdx.foldl (fun cs x=>cs.setIfInBounds (off+x.2) x.1) (Qq z).toArray)=(Qq (QM z off v.cells)).toArray:=by
     apply Array.ext'
     have:=Qdo off (v.val.cells.toList) 0 (Qq z).toArray (by simp [Q7,hsz];omega)
     simp only [Nat.add_zero] at this
     rw [QeC,hv]
     rw [←Array.foldl_toList,Array.toList_zipIdx]
     simpa using this
    rw [show (fun(cs:Array Value) (x:Value × Nat)=>match x with|(c,j)=>cs.setIfInBounds (off+j) c)=(fun cs x=>cs.setIfInBounds (off+x.2) x.1) from rfl]
    rw [e]
    exact ih
theorem Nq {T:TypeId}{z:List TV}(h1:XG P T=some z):∃ i zv,P.info? T=some i∧i.zero=some zv∧Qq z=zv.cells.toList:=by
 unfold XG at h1
 simp only [Option.map_eq_some_iff,Option.bind_eq_some_iff] at h1
 obtain⟨zv,⟨i,hi,hz⟩,rfl⟩:=h1
 exact⟨i,zv,hi,hz,by rw [Ug]⟩
end
section
variable {P:Program}{ρ:Nat→Option Nat}{w0:World}{h0:Hp}{st:St}{h:Hp}{a:Act}{w:World}{ch:List (Nat × Bool)}{G:Prop→Prop}{K:SV→Prop}
theorem Z8 {d:Option Tmp}{op:Op}{ty:TypeId}{pos:String}{af:Array Edge}{gd:Option (Nat × Bool)}{m:Sem Value}
  (hm:execOp a.eval ⟨d,op,ty,pos,af,gd⟩=(do pure (.value (←m)))):(execOp a.eval ⟨d,op,ty,pos,af,gd⟩).run P w=(m.run P w).andThen fun v w'=>.ok (.value v) w':=by
 rw [hm];simp
theorem Qdr {T:TypeId}{f off:Nat}(hf:Qrr P T f=some off){x:Value}{b o:Nat}(hx:x=.pointer (some ⟨b,o,none⟩)) :
  (Instr.fieldAt T x f).run P w=.ok (.pointer (some ⟨b,o+off,none⟩)) w:=by
 subst hx
 unfold Qrr at hf
 split at hf
 ·rename_i fs hu
  cases hg:fs[f]? with
  | none=>simp [hg] at hf
  | some fd=>
   simp only [hg,Option.bind_some] at hf
   cases hz:Nat.beq (szT P fd.type) 0 with
   | true=>simp [hz] at hf
   | false=>
    simp only [hz,cond_false,Option.some.injEq] at hf
    subst hf
    have h1:1≤szT P fd.type:=by have:=Nat.ne_of_beq_eq_false hz;omega
    have hs:=ZQ (P:=P) h1 w
    simp [Instr.fieldAt,run_underlying hu,hg,Instr.sureAddr,fieldPlace,hs,Yg,show ¬ szT P fd.type=0 by omega]
 ·simp at hf
theorem Qa8 (w:World):∀(fs:List Field),Nm P fs=true→(fs.mapM fun f=>Functor.map (Prod.mk f.offset) (sizeOf f.type)).run P w=.ok (fs.map fun f=>(f.offset,szT P f.type)) w
 | [],_=>by simp
 | f :: fs,h1=>by
  simp only [Nm,Bool.and_eq_true] at h1
  have hs:=ZQ (P:=P) (Nat.le_of_ble_eq_true h1.1) w
  simp [List.mapM_cons,hs,Qa8 w fs h1.2]
theorem QcH {T:TypeId}{fs:Array Field}(hu:P.underlying T=some (.struct fs)){z cs:List TV}(hz:XG P T=some z)(hs:Nm P fs.toList=true){ps:List (Nat × TW)}(hp:∀ q ∈ ps,KC q.2=true)
  (hf:Nf (fun i=>(fs[i]?).map fun f=>(f.offset,szT P f.type)) z ps=some cs) :
  (Instr.build T (ps.map fun q=>(q.1,q.2.val)).toArray).run P w=.ok (.agg (Qq cs).toArray) w:=by
 obtain⟨it,zv,hi,hz1,hz2⟩:=Nq hz
 have hfill:=VV hf hp
 have hzc:zv.cells=(Qq z).toArray:=by rw [hz2]
 have hpl:=Qa8 (P:=P) w fs.toList hs
 have e:(fun(i:Nat)=>(fs.toList.map fun f=>(f.offset,szT P f.type)).toArray[i]?)=fun i=>(fs[i]?).map fun f=>(f.offset,szT P f.type):=by
  funext i;simp
 simp [Instr.build,zeroValue,typeInfo,hi,hz1,run_underlying hu,Array.mapM_eq_mapM_toList,hpl,hzc]
 have e':(fun(i:Nat)=>Option.map (fun f=>(f.offset,szT P f.type)) fs[i]?)=fun i=>(fs[i]?).map fun f=>(f.offset,szT P f.type):=rfl
 rw [show (fun(x:Nat)=>Option.map (fun f=>(f.offset,szT P f.type)) fs[x]?)=fun i=>(fs[i]?).map fun f=>(f.offset,szT P f.type) from rfl,hfill]
 simp
theorem QdT {T e:TypeId}{n:Nat}(hu:P.underlying T=some (.array n e)){z cs:List TV}(hz:XG P T=some z)(hs:1≤szT P e){ps:List (Nat × TW)}(hp:∀ q ∈ ps,KC q.2=true)
  (hf:Nf (fun i=>some (i*szT P e,szT P e)) z ps=some cs) :
  (Instr.build T (ps.map fun q=>(q.1,q.2.val)).toArray).run P w=.ok (.agg (Qq cs).toArray) w:=by
 obtain⟨it,zv,hi,hz1,hz2⟩:=Nq hz
 have hfill:=VV hf hp
 have hzc:zv.cells=(Qq z).toArray:=by rw [hz2]
 have hsz:=ZQ (P:=P) hs w
 simp [Instr.build,zeroValue,typeInfo,hi,hz1,run_underlying hu,hzc,hsz,hfill]
theorem Qoj (R:Xz ρ w0 h0 st h a w)(hch:∀ s p,(s,p) ∈ ch→a.tmps.getD s undef=.bool p)(hG:∀ p,G p→p){o:Oper}(H:vcV P o ch G st h K) :
  ∃ sv,K sv∧QrF P o ρ a w sv:=by
 obtain⟨d,op,ty,pos,af,gd⟩:=o
 have hev:=fun x=>Qda R hch x
 have hval:=fun {x:Operand} {v:Value} (hv:(st.ev ch x).val?=some v)=>QcL R hch hv
 cases op with
 | move x=>exact⟨_,H,_,rfl,hev x⟩
 | assign x=>exact⟨_,H,_,rfl,hev x⟩
 | pick c x y=>
  simp only [vcV,QW] at H
  cases c with
  | tmp s=>
   simp only at H
   split at H
   ·rename_i c' x' y' hc hx hy
    refine⟨_,H,.bool (bif c' then x' else y'),?_,rfl⟩
    have ec:a.eval (.tmp s)=.bool c':=JJ hc (hev _)
    have hs:a.tmps.getD s undef=.bool c':=ec
    cases c' with
    | true=>
     have ex:a.eval x=.bool x':=JJ hx (Qda R (by
      intro s' p' hm
      simp only [List.mem_cons,Prod.mk.injEq] at hm
      rcases hm with ⟨rfl,rfl⟩|hm
      ·exact hs
      ·exact hch _ _ hm) x)
     simp [execOp,ec,ex,asBool]
    | false=>
     have ey:a.eval y=.bool y':=JJ hy (Qda R (by
      intro s' p' hm
      simp only [List.mem_cons,Prod.mk.injEq] at hm
      rcases hm with ⟨rfl,rfl⟩|hm
      ·exact hs
      ·exact hch _ _ hm) y)
     simp [execOp,ec,ey,asBool]
   ·exact H.elim
  | _=>exact H.elim
 | nilCheck x=>
  simp only [vcV,QW] at H
  have hx:=hev x
  split at H
  ·rename_i i o' e;rw [e] at hx;obtain⟨b',hb',hx⟩:=hx;exact⟨_,H,_,by simp [execOp,hx],b',hb',rfl⟩
  ·rename_i b o' e;rw [e] at hx;exact⟨_,H,_,by simp [execOp,show a.eval x=_ from hx,TW.val,TV.val],rfl⟩
  ·rename_i p e
   rw [e] at hx
   obtain⟨b,o',hp,hk⟩:=H
   have hp:=hG _ hp
   subst hp
   exact⟨_,hk,_,by simp [execOp,show a.eval x=_ from hx,TW.val,TV.val],rfl⟩
  ·exact H.elim
 | binOp op T x y T'=>
  simp only [vcV,QW] at H
  have hx:=hev x
  have hy:=hev y
  split at H
  ·rename_i m n e
   obtain⟨e1,e2⟩:=Qqh e
   rw [e1] at hx;rw [e2] at hy
   have hrun:=XU (P:=P) (a:=a) (w:=w) (op:=op) (T:=T) (T':=T') (d:=d) (ty:=ty) (pos:=pos) (af:=af) (gd:=gd) (show a.eval x=.int .i64 m from hx) (show a.eval y=.int .i64 n from hy)
   rw [Sem.run_bind,Qdh,Result.andThen_ok] at hrun
   cases hop:QlU op with
   | true=>
    rw [hop] at H
    obtain⟨v,hk,hr⟩:=QnL (P:=P) (w:=w) (T:=T) hG H
    exact⟨_,hk,v.val,by rw [hrun,hr];rfl,rfl⟩
   | false=>
    rw [hop] at H
    exact Y4 R.sub hG (show Qpv P G _ _ h K from H) hrun
  ·rename_i k m n e
   obtain⟨e1,e2⟩:=Qrq e
   rw [e1] at hx;rw [e2] at hy
   have hrun:=XU (P:=P) (a:=a) (w:=w) (op:=op) (T:=T) (T':=T') (d:=d) (ty:=ty) (pos:=pos) (af:=af) (gd:=gd) (show a.eval x=.int k m from hx) (show a.eval y=.int k n from hy)
   rw [Sem.run_bind,Qdh,Result.andThen_ok] at hrun
   cases hop:Ql5 op with
   | true=>
    rw [hop] at H
    obtain⟨v,hk,hr⟩:=Qn8 (P:=P) (w:=w) (T:=T) (k:=k) H
    exact⟨_,hk,v.val,by rw [hrun,hr];rfl,rfl⟩
   | false=>
    rw [hop] at H
    exact Y4 R.sub hG (show Qpv P G _ _ h K from H) hrun
  ·rename_i m e
   obtain⟨e1,e2⟩:=QoG e
   rw [e1] at hx;rw [e2] at hy
   cases hc:(Qcx y&&QhE P T) with
   | false=>rw [hc] at H;exact H.elim
   | true=>
    rw [hc] at H
    simp only [Bool.and_eq_true] at hc
    obtain⟨ms,hT⟩:=Qg7 hc.2
    have hrun:=XU (P:=P) (a:=a) (w:=w) (op:=op) (T:=T) (T':=T') (d:=d) (ty:=ty) (pos:=pos) (af:=af) (gd:=gd) (show a.eval x=ifv m from hx) (show a.eval y=.nilIface from hy)
    rw [Sem.run_bind,QdF (.inr (Qhr hc.1)) (.inr rfl),Result.andThen_ok] at hrun
    simp only [cond_true] at H
    split at H
    ·exact⟨_,H,_,by rw [hrun,V8 hT m _ (.inl ⟨rfl,rfl⟩)];rfl,rfl⟩
    ·exact⟨_,H,_,by rw [hrun,V8 hT m _ (.inr ⟨rfl,rfl⟩)];rfl,rfl⟩
    ·exact H.elim
  ·rename_i m e
   obtain⟨e1,e2⟩:=Qpa e
   rw [e1] at hx;rw [e2] at hy
   cases hc:(Qcx x&&QhE P T) with
   | false=>rw [hc] at H;exact H.elim
   | true=>
    rw [hc] at H
    simp only [Bool.and_eq_true] at hc
    obtain⟨ms,hT⟩:=Qg7 hc.2
    have hrun:=XU (P:=P) (a:=a) (w:=w) (op:=op) (T:=T) (T':=T') (d:=d) (ty:=ty) (pos:=pos) (af:=af) (gd:=gd) (show a.eval x=.nilIface from hx) (show a.eval y=ifv m from hy)
    rw [Sem.run_bind,QdF (.inl (Qhr hc.1)) (.inl rfl),Result.andThen_ok] at hrun
    simp only [cond_true] at H
    split at H
    ·exact⟨_,H,_,by rw [hrun,Mz hT m _ (.inl ⟨rfl,rfl⟩)];rfl,rfl⟩
    ·exact⟨_,H,_,by rw [hrun,Mz hT m _ (.inr ⟨rfl,rfl⟩)];rfl,rfl⟩
    ·exact H.elim
  ·split at H
   ·rename_i u v e1 e2
    exact Y4 R.sub hG H (XU (hval e1) (hval e2))
   ·exact H.elim
 | unOp op T x=>
  simp only [vcV,QW] at H
  have hx:=hev x
  split at H
  ·rename_i b e;rw [e] at hx;exact⟨_,H,.bool (!b),by simp [execOp,show a.eval x=.bool b from hx,Op.unary],rfl⟩
  ·rename_i m e
   rw [e] at hx
   obtain⟨z,hz,hk⟩:=H
   have hw:IntKind.i64.wrap (0 - m)=z:=by
    have:=hG _ hz
    unfold IsW at this
    rw [Int.zero_sub,this]
   exact⟨_,hk,.int .i64 z,by simp only [execOp,show a.eval x=.int .i64 m from hx,Op.unary,Op.intArith,hw];rfl,rfl⟩
  ·split at H
   ·rename_i u e
    refine Y4 R.sub hG H (Z8 ?_)
    simp [execOp,hval e]
   ·exact H.elim
 | convert src dst x=>
  simp only [vcV,QW] at H
  have hx:=hev x
  split at H
  ·rename_i k k' m hs hu e
   rw [e] at hx
   have hx':a.eval x=.int k' m:=hx
   obtain⟨sd,hsd⟩:=Option.isSome_iff_exists.1 hs
   refine⟨_,H,.int k (k.wrap m),?_,rfl⟩
   simp [execOp,hx',convert,run_underlying hsd,run_underlying hu,Conv.intToInt]
  ·split at H
   ·rename_i u e
    refine Y4 R.sub hG H (Z8 ?_)
    simp [execOp,hval e]
   ·exact H.elim
 | makeInterface T x=>
  simp only [vcV,QW] at H
  cases hd:P.underlying T with
  | none=>rw [hd] at H;exact H.elim
  | some dd=>
   cases hv:(st.ev ch x).val? with
   | none=>rw [hd,hv] at H;cases dd<;>exact H.elim
   | some u=>
    rw [hd,hv] at H
    have hE:(execOp a.eval ⟨d,.makeInterface T x,ty,pos,af,gd⟩).run P w=((Instr.makeInterface T u).run P w).andThen fun v w'=>.ok (.value v) w':=Z8 (by simp [execOp,hval hv])
    cases dd<;>first|exact H.elim|exact⟨_,H,.iface T u,by rw [hE];simp [Instr.makeInterface,run_underlying hd],rfl⟩
 | fieldAddr T x f=>
  simp only [vcV,QW] at H
  have hx:=hev x
  split at H
  ·rename_i off i o' hf e;rw [e] at hx
   obtain⟨b',hb',hx⟩:=hx
   exact⟨_,H,_,by simp only [execOp,Sem.run_bind];rw [Qdr hf hx];rfl,b',hb',rfl⟩
  ·rename_i off b o' hf e;rw [e] at hx
   exact⟨_,H,_,by simp only [execOp,Sem.run_bind];rw [Qdr hf hx];rfl,rfl⟩
  ·exact H.elim
 | field T x f=>
  simp only [vcV,QW] at H
  have hx:=hev x
  split at H
  ·rename_i fs l hu e
   rw [e] at hx
   have hx':a.eval x=.agg (Qq l).toArray:=hx
   split at H
   ·rename_i fd hf
    have hE:(execOp a.eval ⟨d,.field T x f,ty,pos,af,gd⟩).run P w=((part fd.type (Qq l).toArray fd.offset).run P w).andThen fun v w'=>.ok (.value v) w':=by
     rw [Z8 (m:=Instr.field T (a.eval x) f) rfl]
     simp [hx',Instr.field,run_underlying hu,hf,asAgg]
    cases hA:QP P fd.type with
    | true=>
     rw [hA] at H
     obtain⟨dd,hdd,_⟩:=QaP hA
     refine⟨_,H,_,by rw [hE];simp [part,Mv hA,Mb hdd];rfl,?_⟩
     simp [SV.ok,TW.val,Qa1,JD,List.take_drop]
    | false=>
     rw [hA] at H
     cases hS:(P.underlying fd.type).isSome with
     | false=>rw [hS] at H;exact H.elim
     | true=>
      rw [hS] at H
      obtain⟨dd,hdd⟩:=Option.isSome_iff_exists.1 hS
      simp only [cond_true,cond_false] at H
      split at H
      ·rename_i v rest hv
       have hc:(Qq l)[fd.offset]?=some v.val:=by
        have:(Qq l).drop fd.offset=v.val :: Qq rest:=by rw [←JD,hv];rfl
        rw [←List.head?_drop,this];rfl
       exact⟨_,H,_,by rw [hE];simp [part,V6 hdd hA,hc];rfl,rfl⟩
      ·exact H.elim
   ·exact H.elim
  ·exact H.elim
 | indexAddr T x ix=>
  simp only [vcV,QW] at H
  have hx:=hev x
  have hi:=hev ix
  split at H
  ·rename_i e s n c i hu e1 e2
   rw [e1] at hx;rw [e2] at hi
   have hx':a.eval x=.slice s n c:=hx
   have hi':a.eval ix=.int .i64 i:=hi
   cases hz:Nat.ble 1 (szT P e) with
   | false=>rw [hz] at H;exact H.elim
   | true=>
    rw [hz] at H
    obtain⟨b,o',hb,hk⟩:=H
    obtain⟨rfl,h1,h2⟩:=hG _ hb
    have hs:=ZQ (P:=P) (Nat.le_of_ble_eq_true hz) w
    refine⟨_,hk,_,?_,rfl⟩
    rw [Z8 (m:=Instr.indexAt T (a.eval x) (a.eval ix)) rfl]
    simp [hx',hi',Instr.indexAt,asIntOf,run_underlying hu,h1,h2,hs,Yg,TW.val,TV.val]
  ·rename_i n e b o' i hu e1 e2
   rw [e1] at hx;rw [e2] at hi
   have hx':a.eval x=.pointer (some ⟨b,o',none⟩):=hx
   have hi':a.eval ix=.int .i64 i:=hi
   cases hz:(Nat.ble 1 (szT P e)&&Nat.ble 2 n) with
   | false=>rw [hz] at H;exact H.elim
   | true=>
    rw [hz] at H
    simp only [Bool.and_eq_true] at hz
    obtain⟨hb,hk⟩:=H
    obtain⟨h1,h2⟩:=hG _ hb
    have hs:=ZQ (P:=P) (Nat.le_of_ble_eq_true hz.1) w
    refine⟨_,hk,_,?_,rfl⟩
    rw [Z8 (m:=Instr.indexAt T (a.eval x) (a.eval ix)) rfl]
    simp [hx',hi',Instr.indexAt,asIntOf,run_underlying hu,h1,h2,hs,Yg,Instr.sureAddr,TW.val,TV.val]
  ·exact H.elim
 | load T x=>
  simp only [vcV,QW] at H
  have hx:=hev x
  have hE:∀ b o',a.eval x=.pointer (some ⟨b,o',none⟩)→(execOp a.eval ⟨d,.load T x,ty,pos,af,gd⟩).run P w=((loadVar T ⟨b,o',none⟩).run P w).andThen fun v w'=>.ok (.value v) w':=by
   intro b o' hb
   rw [Z8 (m:=Instr.loadAt T (a.eval x)) rfl]
   simp [hb,Instr.loadAt,Instr.sureAddr]
  split at H
  ·rename_i i o' e
   rw [e] at hx
   obtain⟨bb,hbb,hx⟩:=hx
   split at H
   ·rename_i bx hbx
    obtain⟨bb',hbb',hb1,hb2,hb3⟩:=R.box i bx hbx
    obtain rfl:bb=bb':=by rw [hbb] at hbb';exact Option.some.inj hbb'
    cases hl:Nat.ble (o'+szT P T) bx.c.length with
    | false=>rw [hl] at H;exact H.elim
    | true=>
     rw [hl] at H
     have hl':=Nat.le_of_ble_eq_true hl
     have hc:∀ j,w.cell? ((⟨bb,o',none⟩:Addr).add j)=(Qq bx.c)[o'+j]?:=by
      intro j
      rw [Yg]
      simp [World.cell?,hb1]
     cases hA:QP P T with
     | true=>
      rw [hA] at H
      refine⟨_,H,_,?_,rfl⟩
      rw [hE _ _ hx,KD (l:=Qq ((bx.c.drop o').take (szT P T))) hA (by simp [Q7];omega)]
      ·rfl
      ·intro j v hj
       rw [hc,←hj,Qa1,JD]
       have:j < szT P T:=by
        have:=(List.getElem?_eq_some_iff.1 hj).1
        simp [Q7] at this
        omega
       simp [this]
     | false=>
      rw [hA] at H
      simp only [cond_true,cond_false] at H
      cases hS:(Nat.beq (szT P T) 1&&(P.underlying T).isSome) with
      | false=>rw [hS] at H;exact H.elim
      | true=>
       rw [hS] at H
       simp only [Bool.and_eq_true] at hS
       obtain⟨dd,hdd⟩:=Option.isSome_iff_exists.1 hS.2
       simp only [cond_true] at H
       split at H
       ·rename_i v rest hv
        refine⟨_,H,_,?_,rfl⟩
        have hcc:w.cell? ⟨bb,o',none⟩=some v.val:=by
         have:=hc 0
         rw [Yg] at this
         simp only [Nat.add_zero] at this
         rw [this,←List.head?_drop,←JD,hv];rfl
        rw [hE _ _ hx,Xx hA hdd hcc]
        rfl
       ·exact H.elim
   ·exact H.elim
  ·rename_i b o' e
   rw [e] at hx
   cases hA:QP P T with
   | true=>
    rw [hA] at H
    obtain⟨xs,⟨hr,hk⟩,_⟩:=G9 (show exL _ _ from H)
    obtain⟨hl,hc⟩:=Qnt (hG _ hr) R.sub
    exact⟨_,hk,_,by rw [hE _ _ hx,KD hA hl hc];rfl,rfl⟩
   | false=>
    rw [hA] at H
    simp only [cond_false] at H
    cases hS:(P.underlying T).isSome with
    | false=>rw [hS] at H;exact H.elim
    | true=>
     rw [hS] at H
     obtain⟨dd,hdd⟩:=Option.isSome_iff_exists.1 hS
     obtain⟨x',hr,hk⟩:=Mm (show ex1 _ _ from H)
     exact⟨_,hk,_,by rw [hE _ _ hx,Xx hA hdd (Zl (hG _ hr) R.sub)];rfl,rfl⟩
  ·exact H.elim
 | extract x i=>
  simp only [vcV,QW] at H
  have hx:=hev x
  split at H
  ·rename_i l e
   rw [e] at hx
   have hx':a.eval x=.tuple (Uj l).toArray:=hx
   split at H
   ·rename_i v hv
    have:(Uj l)[i]?=some v.val:=by
     clear H hx hx' e
     induction l generalizing i with
     | nil=>simp at hv
     | cons y l ih=>cases i<;>simp_all [Uj]
    exact⟨_,H,_,by rw [Z8 (m:=Instr.extract (a.eval x) i) rfl];simp [hx',Instr.extract,this],rfl⟩
   ·exact H.elim
  ·exact H.elim
 | build T parts=>
  simp only [vcV,QW] at H
  have hE:∀ ps,partsL st ch parts.toList=some ps→(execOp a.eval ⟨d,.build T parts,ty,pos,af,gd⟩).run P w=((Instr.build T (ps.map fun q=>(q.1,q.2.val)).toArray).run P w).andThen fun v w'=>.ok (.value v) w':=by
   intro ps hps
   have e:=Qct R hch hps
   have:parts.map (fun(q:Nat × Operand)=>(q.1,a.eval q.2))=(ps.map fun q=>(q.1,q.2.val)).toArray:=by
    apply Array.ext'
    simpa using e
   rw [←this]
   exact Z8 rfl
  split at H
  ·rename_i fs z ps hu hz hps
   cases hs:Nm P fs.toList with
   | false=>rw [hs] at H;exact H.elim
   | true=>
    rw [hs] at H
    simp only [Bool.not_true,cond_false] at H
    split at H
    ·rename_i cs hf
     exact⟨_,H,_,by rw [hE ps hps,QcH hu hz hs (Ja hps) hf];rfl,rfl⟩
    ·exact H.elim
  ·rename_i n e z ps hu hz hps
   cases hs:Nat.ble 1 (szT P e) with
   | false=>rw [hs] at H;exact H.elim
   | true=>
    rw [hs] at H
    simp only [cond_true] at H
    split at H
    ·rename_i cs hf
     exact⟨_,H,_,by rw [hE ps hps,QdT hu hz (Nat.le_of_ble_eq_true hs) (Ja hps) hf];rfl,rfl⟩
    ·exact H.elim
  ·exact H.elim
 | index T x ix=>
  simp only [vcV,QW] at H
  split at H
  ·rename_i u v e1 e2
   refine Y4 R.sub hG H (Z8 ?_)
   simp [execOp,hval e1,hval e2]
  ·exact H.elim
 | lookup T x ix ok=>
  simp only [vcV,QW] at H
  split at H
  ·rename_i u v e1 e2
   refine Y4 R.sub hG H (Z8 ?_)
   simp [execOp,hval e1,hval e2]
  ·exact H.elim
 | typeAssert x T U ok=>
  simp only [vcV,QW] at H
  split at H
  ·rename_i u e1
   refine Y4 R.sub hG H (Z8 ?_)
   simp [execOp,hval e1]
  ·exact H.elim
 | slice T x lo hi mx=>
  simp only [vcV,QW] at H
  split at H
  ·rename_i u l v m e1 e2 e3 e4
   refine Y4 R.sub hG H (Z8 ?_)
   simp [execOp,hval e1,Qif R hch e2,Qif R hch e3,Qif R hch e4]
  ·exact H.elim
 | makeFunc fn first cap=>
  simp only [vcV,QW] at H
  split at H
  ·rename_i l1 l2 e1 e2
   have k1:first.map a.eval=l1.toArray:=by apply Array.ext';simpa using Qeh R hch e1
   have k2:cap.map a.eval=l2.toArray:=by apply Array.ext';simpa using Qeh R hch e2
   refine⟨_,H,_,?_,rfl⟩
   simp [execOp,Instr.makeFunc,k1,k2]
   rfl
  ·exact H.elim
 | call c=>
  obtain⟨callee,args,ts⟩:=c
  have hE:∀(b:Builtin) (m:Sem Value) (vs:List Value),st.evs ch args.toList=some vs→(∀ cs,builtin b ts ty cs vs.toArray=(do pure (.value (←m)))) →
    (execOp a.eval ⟨d,.call ⟨.builtin b,args,ts⟩,ty,pos,af,gd⟩).run P w=(m.run P w).andThen fun v w'=>.ok (.value v) w':=by
   intro b m vs hvs hm
   have e:=Qeh R hch hvs
   have:args.map a.eval=vs.toArray:=by apply Array.ext';simpa using e
   simp [execOp,resolve,invoke,this,hm]
  cases callee with
  | value f=>exact H.elim
  | invoke r m=>exact H.elim
  | builtin b=>
   cases b with
   | len=>
    simp only [vcV,QW] at H
    split at H
    ·rename_i x hargs
     have hx:=hev x
     split at H
     ·rename_i e s n cp hu hxe
      rw [hxe] at hx
      have hx':a.eval x=.slice s n cp:=hx
      have hvs:st.evs ch args.toList=some [.slice s n cp]:=by rw [hargs];simp [St.evs,hxe,SV.val?,TW.val,TV.val]
      refine⟨_,H,_,?_,rfl⟩
      rw [hE .len (Builtin.len_ ts ty #[.slice s n cp]) _ hvs (fun _=>rfl)]
      obtain⟨t0,ht0,hu0⟩:=Option.bind_eq_some_iff.1 hu
      simp [Builtin.len_,ht0,run_underlying hu0,goInt,TW.val,TV.val]
     ·rename_i s hu hxe
      rw [hxe] at hx
      have hvs:st.evs ch args.toList=some [.string s]:=by rw [hargs];simp [St.evs,hxe,SV.val?,TW.val,TV.val]
      refine⟨_,H,_,?_,rfl⟩
      rw [hE .len (Builtin.len_ ts ty #[.string s]) _ hvs (fun _=>rfl)]
      obtain⟨t0,ht0,hu0⟩:=Option.bind_eq_some_iff.1 hu
      simp [Builtin.len_,ht0,run_underlying hu0,goInt,TW.val,TV.val]
     ·split at H
      ·rename_i u hv
       have hvs:st.evs ch args.toList=some [u]:=by rw [hargs];simp [St.evs,hv]
       exact Y4 R.sub hG H (hE .len (Builtin.len_ ts ty #[u]) _ hvs (fun _=>rfl))
      ·exact H.elim
    ·exact H.elim
   | cap=>
    simp only [vcV,QW] at H
    split at H
    ·rename_i vs hvs;exact Y4 R.sub hG H (hE .cap _ _ hvs (fun _=>rfl))
    ·exact H.elim
   | max=>
    simp only [vcV,QW] at H
    split at H
    ·rename_i vs hvs;exact Y4 R.sub hG H (hE .max _ _ hvs (fun _=>rfl))
    ·exact H.elim
   | min=>
    simp only [vcV,QW] at H
    split at H
    ·rename_i vs hvs;exact Y4 R.sub hG H (hE .min _ _ hvs (fun _=>rfl))
    ·exact H.elim
   | _=>exact H.elim
 | _=>exact H.elim
theorem VD.pick {v:VD}(H:v.sem P G h K):∃ x,v.sem P G h (fun y=>y=x)∧K x:=by
 cases v<;>simp only [VD.sem] at H ⊢
 case pt x=>exact⟨x,rfl,H⟩
 case ob p x=>exact⟨x,⟨H.1,rfl⟩,H.2⟩
 case wr e=>obtain⟨z,h1,h2⟩:=H;exact⟨_,⟨z,h1,rfl⟩,h2⟩
 case nilc p=>obtain⟨b,o,h1,h2⟩:=H;exact⟨_,⟨b,o,h1,rfl⟩,h2⟩
 case idx a n i sz=>obtain⟨b,o,h1,h2⟩:=H;exact⟨_,⟨b,o,h1,rfl⟩,h2⟩
 case rd m s=>exact Qok (p:=fun x=>G (Rd P m h x.val)) H
 case ldA b o n l=>obtain⟨x,e,hk⟩:=Qoi (p:=fun xs=>G (h.row b o n=some (Qq xs))) (K:=fun xs=>K (.t (.ag xs))) H;exact⟨_,Xp (fun xs hx=>⟨hx.1,by rw [hx.2]⟩) e,hk⟩
 case ld1 b o s=>obtain⟨x,e,hk⟩:=Qpb (p:=fun x=>G (h.cell b o=some x.val)) (K:=fun x=>K (.t (.one x))) H;exact⟨_,Xm (fun xs hx=>⟨hx.1,by rw [hx.2]⟩) e,hk⟩
theorem VD.mono {v:VD}{K':SV→Prop}{h':Hp}(hh:v.hr=true→h.le h')(hG:∀ p q:Prop,(p→q)→G p→G q)(hk:∀ x,K x→K' x)(H:v.sem P G h K):v.sem P G h' K':=by
 have hs:v.hr=true→∀ w,Sub h' w→Sub h w:=fun e w hw b o hb=>hw b o (hh e b o hb)
 cases v<;>simp only [VD.sem] at H ⊢
 case pt x=>exact hk _ H
 case ob p x=>exact⟨H.1,hk _ H.2⟩
 case wr e=>obtain⟨z,h1,h2⟩:=H;exact⟨z,h1,hk _ h2⟩
 case nilc p=>obtain⟨b,o,h1,h2⟩:=H;exact⟨b,o,h1,hk _ h2⟩
 case idx a n i sz=>obtain⟨b,o,h1,h2⟩:=H;exact⟨b,o,h1,hk _ h2⟩
 case rd m s=>exact GV (fun x hx=>⟨hG _ _ (fun hr w hw=>hr w (hs rfl w hw)) hx.1,hk _ hx.2⟩) H
 case ldA b o n l=>
  refine Xp (fun x hx=>⟨hG _ _ (fun hr=>?_) hx.1,hk _ hx.2⟩) H
  unfold Hp.row at hr ⊢
  split at hr
  ·rename_i c e fz hb;rw [hh rfl b _ hb];exact hr
  ·simp at hr
 case ld1 b o s=>
  refine Xm (fun x hx=>⟨hG _ _ (fun hr=>?_) hx.1,hk _ hx.2⟩) H
  unfold Hp.cell at hr ⊢
  split at hr
  ·rename_i c e fz hb;rw [hh rfl b _ hb];exact hr
  ·simp at hr
theorem QpT {o:Oper}(H:vcV P o ch G st h K):∃ sv,K sv:=
 let ⟨x,_,hk⟩:=VD.pick H
 ⟨x,hk⟩
end
theorem Hp.set_same (h:Hp)(b:Nat)(o:Obj):h.set b o b=some o:=by simp [Hp.set]
theorem Hp.set_other (h:Hp){b i:Nat}(o:Obj)(hi:i≠b):h.set b o i=h i:=by simp [Hp.set,hi]
theorem Fr.refl (h:Hp)(w:World):Fr h h w w:=⟨rfl,rfl,rfl,Nat.le_refl _,fun _ _ hb=>⟨rfl,hb⟩⟩
theorem Fr.trans {h h' h'':Hp}{w w' w'':World}(x:Fr h h' w w')(y:Fr h' h'' w' w''):Fr h h'' w w'':=
 ⟨y.os.trans x.os,y.tape.trans x.tape,y.output.trans x.output,Nat.le_trans x.size y.size,fun b hb hn=>
  let ⟨e1,n1⟩:=x.keep b hb hn
  let ⟨e2,n2⟩:=y.keep b (Nat.lt_of_lt_of_le hb x.size) n1
  ⟨e2.trans e1,n2⟩⟩
theorem Sub.lt {h:Hp}{w:World}(hs:Sub h w){b:Nat}{o:Obj}(hb:h b=some o):b < w.heap.size:=by
 have:=hs b o hb
 exact(Array.getElem?_eq_some_iff.1 this).1
theorem Sub.none {h:Hp}{w:World}(hs:Sub h w):h w.heap.size=none:=by
 cases hb:h w.heap.size with
 | none=>rfl
 | some o=>exact absurd (hs.lt hb) (by omega)
theorem JQ (w:World)(o:Obj)(b:Nat):(w.alloc o).heap[b]?=if b=w.heap.size then some o else w.heap[b]?:=by
 show (w.heap.push o)[b]?=_
 rw [Array.getElem?_push]
theorem Sub.push {h:Hp}{w:World}(hs:Sub h w)(o:Obj):Sub h (w.alloc o):=by
 intro b o' hb
 rw [JQ,if_neg (by have:=hs.lt hb;omega)]
 exact hs b o' hb
theorem Sub.pushSet {h:Hp}{w:World}(hs:Sub h w)(o:Obj):Sub (h.set w.heap.size o) (w.alloc o):=by
 intro b o' hb
 rw [JQ]
 unfold Hp.set at hb
 split at hb
 ·rename_i e;rw [if_pos e];exact hb
 ·rename_i e;rw [if_neg e];exact hs b o' hb
theorem Fr.push (h:Hp)(w:World)(o:Obj):Fr h h w (w.alloc o):=
 ⟨rfl,rfl,rfl,by show _≤(w.heap.push o).size;simp,fun b hb hn=>⟨by rw [JQ,if_neg (by omega)],hn⟩⟩
theorem Fr.pushSet (h:Hp)(w:World)(o:Obj):Fr h (h.set w.heap.size o) w (w.alloc o):=
 ⟨rfl,rfl,rfl,by show _≤(w.heap.push o).size;simp,fun b hb hn=>⟨by rw [JQ,if_neg (by omega)],by rw [Hp.set_other _ _ (by omega)];exact hn⟩⟩
def QJ (b b':List Box):Prop:=∀(i:Nat) (x:Box),b[i]?=some x→∃ y,b'[i]?=some y∧y.ty=x.ty∧x.st≤y.st∧(y.st=x.st→y=x)
theorem QJ.refl (b:List Box):QJ b b:=fun i x h=>⟨x,h,rfl,Nat.le_refl _,fun _=>rfl⟩
theorem QJ.trans {a b c:List Box}(x:QJ a b)(y:QJ b c):QJ a c:=by
 intro i u hu
 obtain⟨v,hv,t1,s1,e1⟩:=x i u hu
 obtain⟨z,hz,t2,s2,e2⟩:=y i v hv
 refine⟨z,hz,t2.trans t1,Nat.le_trans s1 s2,fun e=>?_⟩
 have:v.st=u.st:=by omega
 rw [e2 (by omega),e1 this]
theorem Jp {α:Type}:∀(l:List α) (i:Nat) (x:α) (j:Nat),(Jw l i x)[j]?=if j=i∧j < l.length then some x else l[j]?
 | [],i,x,j=>by simp [Jw]
 | y :: l,0,x,j=>by cases j<;>simp [Jw]
 | y :: l,i+1,x,j=>by
  cases j with
  | zero=>simp [Jw]
  | succ j=>simp [Jw,Jp l i x j]
theorem Jg {α:Type}:∀(l:List α) (i:Nat) (x:α),(Jw l i x).length=l.length
 | [],i,x=>by simp [Jw]
 | y :: l,0,x=>by simp [Jw]
 | y :: l,i+1,x=>by simp [Jw,Jg l i x]
section
variable {P:Program}{cfg:Cfg}{ρ:Nat→Option Nat}{w0:World}{h0:Hp}{st:St}{h:Hp}{a:Act}{w:World}{ch:List (Nat × Bool)}
theorem Xz.step (R:Xz ρ w0 h0 st h a w){h':Hp}{w':World}(hs:Sub h' w')(hf:Fr h h' w w'):Xz ρ w0 h0 st h' a w' where
 n:=R.n
 d:=by
  refine⟨R.d.1,fun d hd=>?_⟩
  obtain⟨D,e,h1,h2,h3⟩:=R.d.2 d hd
  obtain⟨e1,n1⟩:=hf.keep D (Array.getElem?_eq_some_iff.1 h1).1 h2
  exact⟨D,e,e1.trans h1,n1,h3⟩
 fr:=R.fr
 gd:=R.gd
 sub:=hs
 F:=R.F.trans hf
 box i bx hb:=by
  obtain⟨b,h1,h2,h3,h4⟩:=R.box i bx hb
  have hlt:b < w.heap.size:=(Array.getElem?_eq_some_iff.1 h2).1
  obtain⟨e,n⟩:=hf.keep b hlt h3
  exact⟨b,h1,e.trans h2,n,h4⟩
 dom:=R.dom
 inj:=R.inj
theorem Sl.ok_mono {ρ':Nat→Option Nat}{tm:Array Value}{x:Sl}{y:Value}(hρ:∀ i b,ρ i=some b→ρ' i=some b)(hx:x.ok ρ tm y):x.ok ρ' tm y:=by
 have hsv:∀(x:SV) (y:Value),x.ok ρ y→x.ok ρ' y:=by
  intro x y hx
  cases x with
  | bp i o=>obtain⟨b,h1,h2⟩:=hx;exact⟨b,hρ _ _ h1,h2⟩
  | _=>exact hx
 cases x with
 | s x=>exact hsv _ _ hx
 | gd k p x=>exact⟨fun e=>hsv _ _ (hx.1 e),hx.2⟩
theorem Xz.newBox (R:Xz ρ w0 h0 st h a w)(ty:TypeId)(cs:List TV) :
  Xz (fun i=>if i=st.b.length then some w.heap.size else ρ i) w0 h0 ⟨st.n,st.t,st.g,st.b++[⟨ty,cs,0⟩]⟩ h a (w.alloc (.cells (Qq cs).toArray ty)) where
 n:=R.n
 d:=by
  refine⟨R.d.1,fun d hd=>?_⟩
  obtain⟨D,e,h1,h2,h3⟩:=R.d.2 d hd
  have hlt:=(Array.getElem?_eq_some_iff.1 h1).1
  exact⟨D,e,by rw [JQ,if_neg (by omega)];exact h1,h2,h3⟩
 fr i:=by
  refine Sl.ok_mono (ρ:=ρ) ?_ (R.fr i)
  intro j b hj
  have:=R.dom j b hj
  simp [show ¬ j=st.b.length by omega,hj]
 gd:=R.gd
 sub:=R.sub.push _
 F:=R.F.trans (Fr.push h w _)
 box i bx hb:=by
  by_cases hi:i=st.b.length
  ·subst hi
   simp at hb
   subst hb
   refine⟨w.heap.size,by simp,?_,R.sub.none,R.F.size⟩
   rw [JQ,if_pos rfl]
  ·have hlt:i < st.b.length:=by
    have:=(List.getElem?_eq_some_iff.1 hb).1
    simp at this
    omega
   rw [List.getElem?_append_left hlt] at hb
   obtain⟨b,h1,h2,h3,h4⟩:=R.box i bx hb
   have hb2:b < w.heap.size:=(Array.getElem?_eq_some_iff.1 h2).1
   refine⟨b,by simp [hi,h1],?_,h3,h4⟩
   rw [JQ,if_neg (by omega)]
   exact h2
 dom i b hi:=by
  split at hi
  ·rename_i e;simp;omega
  ·have:=R.dom i b hi;simp;omega
 inj i j b hi hj:=by
  have hbl:∀ k,ρ k=some b→b < w.heap.size:=by
   intro k hk
   have:=R.dom k b hk
   obtain⟨bx,hbx⟩:∃ bx,st.b[k]?=some bx:=⟨st.b[k],by simp [this]⟩
   obtain⟨b',h1,h2,_⟩:=R.box k bx hbx
   rw [hk] at h1
   obtain rfl:=Option.some.inj h1
   exact(Array.getElem?_eq_some_iff.1 h2).1
  split at hi<;>split at hj
  ·omega
  ·have:=hbl _ hj;simp at hi;omega
  ·have:=hbl _ hi;simp at hj;omega
  ·exact R.inj i j b hi hj
theorem Xy (w:World)(g:Nat)(cs:Array Value)(old:Array Value)(t:TypeId)(fz:Nat × Nat)(hg:w.heap[g]?=some (.cells old t fz))(b:Nat) :
  (w.setRow g cs).heap[b]?=if b=g then some (.cells cs t fz) else w.heap[b]?:=by
 by_cases hb:b=g
 ·subst hb;rw [if_pos rfl];exact setRow_heap w b old cs t fz hg
 ·rw [if_neg hb]
  simp only [World.setRow,Array.getElem?_modify]
  rw [if_neg (by omega)]
theorem MN {T:TypeId}{b o:Nat}{v:Value}{vs:List Value}{cur:Array Value}{t:TypeId}(hT:1≤szT P T)(hvs:v.cells.toList=vs)(hl:vs.length=szT P T)(hone:∀ u ∈ vs,u.oneCell'=true)
  (hg:w.heap[b]?=some (.cells cur t (0,0))) (hfit:o+vs.length≤cur.size) :
  (storeVar T ⟨b,o,none⟩ v).run P w=.ok () (w.setRow b (QM cur.toList o vs).toArray):=by
 have hs:=ZQ (P:=P) hT w
 have hst:=run_storeCells_at P b o t vs 0 cur w hg (by simpa using hfit) hone
 have hsz:v.cells.size=szT P T:=by rw [←Array.length_toList,hvs,hl]
 simp only [Nat.add_zero] at hst
 simp [storeVar,hs,hsz,hvs,hst,QM]
theorem Xz.setBox (R:Xz ρ w0 h0 st h a w){i b:Nat}{bx:Box}(hb:st.b[i]?=some bx)(hρ:ρ i=some b)(c:List TV) :
  Xz ρ w0 h0 ⟨st.n,st.t,st.g,Jw st.b i ⟨bx.ty,c,bx.st+1⟩⟩ h a (w.setRow b (Qq c).toArray) where
 n:=R.n
 d:=by
  refine⟨R.d.1,fun d hd=>?_⟩
  obtain⟨D,e,h1,h2,h3⟩:=R.d.2 d hd
  obtain⟨b',k1,k2,k3,k4⟩:=R.box i bx hb
  rw [hρ] at k1;obtain rfl:=Option.some.inj k1
  refine⟨D,e,?_,h2,h3⟩
  rw [Xy w b _ _ _ _ k2,if_neg (by intro e2;subst e2;rw [k2] at h1;cases h1)]
  exact h1
 fr:=R.fr
 gd:=R.gd
 sub:=by
  obtain⟨b',h1,h2,h3,h4⟩:=R.box i bx hb
  rw [hρ] at h1;obtain rfl:=Option.some.inj h1
  intro k o hk
  rw [Xy w b _ _ _ _ h2,if_neg (by intro e;subst e;simp [h3] at hk)]
  exact R.sub k o hk
 F:=by
  obtain⟨b',h1,h2,h3,h4⟩:=R.box i bx hb
  rw [hρ] at h1;obtain rfl:=Option.some.inj h1
  refine⟨R.F.os,R.F.tape,R.F.output,by simpa [World.setRow] using R.F.size,fun k hk hn=>?_⟩
  obtain⟨e,n⟩:=R.F.keep k hk hn
  exact⟨by rw [Xy w b _ _ _ _ h2,if_neg (by omega)];exact e,n⟩
 box j bj hj:=by
  obtain⟨b',h1,h2,h3,h4⟩:=R.box i bx hb
  rw [hρ] at h1;obtain rfl:=Option.some.inj h1
  simp only [Jp] at hj
  split at hj
  ·rename_i e
   obtain⟨rfl,_⟩:=e
   simp only [Option.some.injEq] at hj
   subst hj
   exact⟨b,hρ,by rw [Xy w b _ _ _ _ h2,if_pos rfl],h3,h4⟩
  ·rename_i e
   obtain⟨b2,k1,k2,k3,k4⟩:=R.box j bj hj
   have hjl:j < st.b.length:=(List.getElem?_eq_some_iff.1 hj).1
   have hne:b2≠b:=by
    intro e2
    subst e2
    exact e ⟨R.inj j i b2 k1 hρ,hjl⟩
   exact⟨b2,k1,by rw [Xy w b _ _ _ _ h2,if_neg hne];exact k2,k3,k4⟩
 dom j b' hj:=by simpa [Jg] using R.dom j b' hj
 inj:=R.inj
theorem Qdd {i:Nat}{bx:Box}(hb:st.b[i]?=some bx)(c:List TV):QJ st.b (Jw st.b i ⟨bx.ty,c,bx.st+1⟩):=by
 intro j x hx
 rw [Jp]
 split
 ·rename_i e
  obtain⟨rfl,_⟩:=e
  rw [hb] at hx
  obtain rfl:=Option.some.inj hx
  exact⟨_,rfl,rfl,by simp,fun e=>by simp at e⟩
 ·exact⟨x,hx,rfl,Nat.le_refl _,fun _=>rfl⟩
theorem QdH (x:Box):QJ st.b (st.b++[x]):=by
 intro j y hy
 have hlt:=(List.getElem?_eq_some_iff.1 hy).1
 exact⟨y,by rw [List.getElem?_append_left hlt];exact hy,rfl,Nat.le_refl _,fun _=>rfl⟩
def Nxt (w0:World)(h0:Hp)(st:St)(K:SV→List Box→Hp→Prop)(o:Oper)(a:Act)(next:Act→World→Prop):Prop:=
 ∀ sv b' h' ρ' v w',K sv b' h'→Xz ρ' w0 h0 ⟨st.n,st.t,st.g,b'⟩ h' a w'→sv.ok ρ' v→QJ st.b b'→next (a.put o.dst v) w'
variable {K:SV→List Box→Hp→Prop}{o:Oper}{next:Act→World→Prop}{Q:Exit→Act→World→Prop}
theorem Qdm (R:Xz ρ w0 h0 st h a w){ty:TypeId}{cs:List TV}(H:newBox cfg o st h ty cs K)(hn:Nxt w0 h0 st K o a next)
  (hrun:(execOp a.eval o).run P w=.ok (.value (.pointer (some ⟨w.heap.size,0,none⟩))) (w.alloc (.cells (Qq cs).toArray ty))):o.upon P a next Q ((execOp a.eval o).run P w):=by
 rw [hrun,Oper.upon_value]
 unfold newBox at H
 cases ho:Ze cs with
 | false=>rw [ho] at H;exact H.elim
 | true=>
  rw [ho] at H
  simp only [cond_true] at H
  cases hp:QfF cfg o.dst with
  | true=>
   rw [hp] at H
   simp only [cond_true] at H
   exact hn _ _ _ ρ _ _ (H w.heap.size R.sub.none) (R.step (R.sub.pushSet _) (Fr.pushSet h w _)) rfl (QJ.refl _)
  | false=>
   rw [hp] at H
   simp only [cond_false] at H
   exact hn _ _ _ _ _ _ H (R.newBox ty cs) ⟨w.heap.size,by simp,rfl⟩ (QdH _)
theorem Kj (R:Xz ρ w0 h0 st h a w){m:Sem Value}{sh:Sh}(H:Qm P m h fun v h'=>res sh v fun x=>K x st.b h')(hn:Nxt w0 h0 st K o a next)
  (hrun:(execOp a.eval o).run P w=(m.run P w).andThen fun v w'=>.ok (.value v) w'):o.upon P a next Q ((execOp a.eval o).run P w):=by
 obtain⟨v,w',h',h1,h2,h3,h4⟩:=H w R.sub
 obtain⟨x,⟨rfl,hk⟩,hx⟩:=UV (show exS sh _ from h4)
 rw [hrun,h1,Result.andThen_ok,Oper.upon_value]
 exact hn _ _ _ ρ _ _ hk (R.step h2 h3) (SV.ok_val hx) (QJ.refl _)
theorem Qhl (R:Xz ρ w0 h0 st h a w){f:FuncId}{vs:List Value}{sh:Sh}(H:Qa P f vs h fun v h'=>res sh v fun x=>K x st.b h')(hn:Nxt w0 h0 st K o a next)
  (hrun:(execOp a.eval o).run P w=.ok (.enter f vs.toArray) w):o.upon P a next Q ((execOp a.eval o).run P w):=by
 rw [hrun,Oper.upon_enter]
 refine(H w R.sub).mono ?_
 rintro e w' ⟨v,h',rfl,h2,h3,h4⟩
 obtain⟨x,⟨rfl,hk⟩,hx⟩:=UV (show exS sh _ from h4)
 exact hn _ _ _ ρ _ _ hk (R.step h2 h3) (SV.ok_val hx) (QJ.refl _)
end
theorem Uf {P:Program}{f:FuncId}{fn:Func}(hf:P.funcs[f]?=some fn)(hname:(fn.name == "runtime.NumGoroutine")=false)(hb:fn.body.isSome=true)(args:Array Value)(w:World) :
  (callFunc f args).run P w=.ok (.enter f args) w:=by
 have hb':fn.body.isNone=false:=by cases h:fn.body<;>simp_all
 simp only [callFunc,Sem.run_bind,run_program,Result.andThen_ok,hf,hname,hb',Bool.false_eq_true,if_false];rfl
def Qbe (P:Program):Prop:=∀(f:FuncId) (fn:Func),P.funcs[f]?=some fn→(fn.name == "runtime.NumGoroutine")=false
section
variable {P:Program}{cfg:Cfg}{ρ:Nat→Option Nat}{w0:World}{h0:Hp}{st:St}{h:Hp}{a:Act}{w:World}{ch:List (Nat × Bool)}
variable {K:SV→List Box→Hp→Prop}{next:Act→World→Prop}{Q:Exit→Act→World→Prop}
theorem QjC {T:TypeId}{z:List TV}(hz:XG P T=some z):(Instr.alloc T true (.tuple #[])).run P w=.ok (.pointer (some ⟨w.heap.size,0,none⟩)) (w.alloc (.cells (Qq z).toArray T)):=by
 obtain⟨i,zv,hi,hz1,hz2⟩:=Nq hz
 have:(Qq z).toArray=zv.cells:=by rw [hz2]
 rw [this]
 simp [Instr.alloc,zeroValue,typeInfo,hi,hz1,newVar,newRow]
theorem QmS {T:TypeId}{v:Value}:(Instr.box T v).run P w=.ok (.pointer (some ⟨w.heap.size,0,none⟩)) (w.alloc (.cells v.cells T)):=by
 simp [Instr.box,newVar,newRow]
theorem Nr (z:Array Value)(n:Nat)(hz:0 < z.size):((Array.range (n*z.size)).map fun i=>z[i % z.size]!)=((List.replicate n z.toList).flatten).toArray:=by
 apply Array.ext
 ·simp
 ·intro i h1 h2
  simp at h1
  have hm:i % z.size < z.size:=Nat.mod_lt _ hz
  simp only [Array.getElem_map,Array.getElem_range,List.getElem_toArray]
  rw [getElem!_pos z _ hm]
  have:∀(n i:Nat) (hi:i < n*z.size),((List.replicate n z.toList).flatten)[i]?=z.toList[i % z.size]?:=by
   intro n
   induction n with
   | zero=>intro i hi;omega
   | succ n ih=>
    intro i hi
    simp only [List.replicate_succ,List.flatten_cons,List.getElem?_append,Array.length_toList]
    split
    ·rename_i hlt;rw [Nat.mod_eq_of_lt hlt]
    ·rename_i hge
     rw [ih (i - z.size) (by rw [Nat.succ_mul] at hi;omega)]
     have:i=i - z.size+z.size:=by omega
     conv=>rhs;rw [this,Nat.add_mod_right]
  have e:=this n i h1
  have h3:i < ((List.replicate n z.toList).flatten).length:=by simpa using h2
  rw [List.getElem?_eq_getElem h3] at e
  rw [List.getElem?_eq_getElem (by simpa using hm)] at e
  simpa using e.symm
theorem UT (n:Nat)(z:List TV):Qq ((List.replicate n z).flatten)=(List.replicate n (Qq z)).flatten:=by
 induction n with
 | zero=>simp [Qq]
 | succ n ih=>simp [List.replicate_succ,Qby,ih]
theorem Qc2 {T e:TypeId}{n:Nat}(hu:P.underlying T=some (.slice e)){z cs:List TV}(hz:XG P e=some z)(h1:1≤szT P e)(h2:z.length=szT P e)(h3:n*szT P e≤4096)
  {ps:List (Nat × TW)} (hp:∀ q ∈ ps,KC q.2=true) (hf:Nf (fun i=>some (i*szT P e,szT P e)) ((List.replicate n z).flatten) ps=some cs) :
  (Instr.buildSlice T n (ps.map fun q=>(q.1,q.2.val)).toArray).run P w=.ok (.slice (some ⟨w.heap.size,0,none⟩) n n) (w.alloc (.cells (Qq cs).toArray e)):=by
 obtain⟨i,zv,hi,hz1,hz2⟩:=Nq hz
 have hfill:=VV hf hp
 have hsz:=ZQ (P:=P) h1 w
 have hzs:zv.cells.size=szT P e:=by rw [←Array.length_toList,←hz2,Q7,h2]
 have hcells:((Array.range (n*szT P e)).map fun i=>zv.cells[i % zv.cells.size]!)=(Qq ((List.replicate n z).flatten)).toArray:=by
  rw [UT,hz2,←hzs]
  exact Nr zv.cells n (by omega)
 rw [←hcells] at hfill
 have hle:¬(n*szT P e > 2 ^ 24):=by omega
 by_cases hn:n=0
 ·subst hn
  simp at hfill
  simp [Instr.buildSlice,run_underlying hu,hsz,newRow]
  rw [show (Array.map (fun(_:Nat)=>(default:Value)) (Array.range 0))=Array.map (fun i=>zv.cells[i % zv.cells.size]!) (Array.range 0) from by simp,hfill]
  simp
 ·have hne:¬(n*szT P e=0):=by
   intro h0
   rcases Nat.mul_eq_zero.1 h0 with h0|h0<;>omega
  simp [Instr.buildSlice,run_underlying hu,hsz,newRow,hle,hne,zeroValue,typeInfo,hi,hz1]
  rw [hfill]
  simp
theorem Qll (hP:Qbe P)(R:Xz ρ w0 h0 st h a w)(hch:∀ s p,(s,p) ∈ ch→a.tmps.getD s undef=.bool p){o:Oper}(H:vcE P cfg o ch st h K)(hn:Nxt w0 h0 st K o a next) :
  o.upon P a next Q ((execOp a.eval o).run P w):=by
 obtain⟨d,op,ty,pos,af,gd⟩:=o
 have hev:=fun x=>Qda R hch x
 have hval:=fun {x:Operand} {v:Value} (hv:(st.ev ch x).val?=some v)=>QcL R hch hv
 cases op with
 | alloc T=>
  simp only [vcE] at H
  split at H
  ·rename_i z hz
   exact Qdm R H hn (by rw [Z8 (m:=Instr.alloc T true (.tuple #[])) rfl,QjC hz];rfl)
  ·exact H.elim
 | box T x=>
  simp only [vcE] at H
  have hx:=hev x
  split at H
  ·rename_i y e
   rw [e] at hx
   cases ho:Ze y.cells with
   | false=>unfold newBox at H;rw [ho] at H;exact H.elim
   | true=>
    have hpl:KC y=true:=by
     cases y with
     | one v=>simp [TW.cells,Ze] at ho;exact ho
     | ag l=>rfl
    have hc:=Jf hpl
    refine Qdm R H hn ?_
    rw [Z8 (m:=Instr.box T (a.eval x)) rfl,QmS,show a.eval x=y.val from hx]
    rw [hc]
    rfl
  ·exact H.elim
 | buildSlice T n parts=>
  simp only [vcE] at H
  split at H
  ·rename_i e ps hu hps
   split at H
   ·rename_i z hz
    cases hc:(Nat.ble 1 (szT P e)&&Nat.beq z.length (szT P e)&&Nat.ble (n*szT P e) 4096) with
    | false=>rw [hc] at H;exact H.elim
    | true=>
     rw [hc] at H
     simp only [Bool.and_eq_true] at hc
     simp only [cond_true] at H
     split at H
     ·rename_i cs hf
      cases ho:Ze cs with
      | false=>rw [ho] at H;exact H.elim
      | true=>
       rw [ho] at H
       simp only [cond_true] at H
       have hE:(execOp a.eval ⟨d,.buildSlice T n parts,ty,pos,af,gd⟩).run P w=((Instr.buildSlice T n (ps.map fun q=>(q.1,q.2.val)).toArray).run P w).andThen fun v w'=>.ok (.value v) w':=by
        have e:=Qct R hch hps
        have:parts.map (fun(q:Nat × Operand)=>(q.1,a.eval q.2))=(ps.map fun q=>(q.1,q.2.val)).toArray:=by
         apply Array.ext'
         simpa using e
        rw [←this]
        exact Z8 rfl
       rw [hE,Qc2 hu hz (Nat.le_of_ble_eq_true hc.1.1) (Nat.eq_of_beq_eq_true hc.1.2) (Nat.le_of_ble_eq_true hc.2) (Ja hps) hf,Result.andThen_ok,Oper.upon_value]
       exact hn _ _ _ ρ _ _ (H w.heap.size R.sub.none) (R.step (R.sub.pushSet _) (Fr.pushSet h w _)) rfl (QJ.refl _)
     ·exact H.elim
   ·exact H.elim
  ·exact H.elim
 | store T x y=>
  simp only [vcE] at H
  have hx:=hev x
  have hy:=hev y
  have hE:∀ b o',a.eval x=.pointer (some ⟨b,o',none⟩)→(execOp a.eval ⟨d,.store T x y,ty,pos,af,gd⟩).run P w=((storeVar T ⟨b,o',none⟩ (a.eval y)).run P w).andThen fun _ w'=>.ok .skip w':=by
   intro b o' hb
   simp [execOp,hb,Instr.storeAt,Instr.sureAddr]
  split at H
  ·rename_i i o' y' e1 e2
   rw [e1] at hx;rw [e2] at hy
   obtain⟨b,hb,hx⟩:=hx
   split at H
   ·rename_i bx hbx
    cases hc:(Nat.ble 1 (szT P T)&&Nat.beq y'.cells.length (szT P T)&&Nat.ble (o'+y'.cells.length) bx.c.length&&Ze y'.cells) with
    | false=>rw [hc] at H;exact H.elim
    | true=>
     rw [hc] at H
     simp only [Bool.and_eq_true] at hc
     simp only [cond_true] at H
     have hpl:KC y'=true:=by
      cases y' with
      | one v=>simp [TW.cells,Ze] at hc;exact hc.2
      | ag l=>rfl
     obtain⟨b',k1,k2,k3,k4⟩:=R.box i bx hbx
     rw [hb] at k1;obtain rfl:=Option.some.inj k1
     have hfit:=Nat.le_of_ble_eq_true hc.1.2
     have hrun:=MN (P:=P) (w:=w) (T:=T) (b:=b) (o:=o') (v:=y'.val) (vs:=Qq y'.cells) (Nat.le_of_ble_eq_true hc.1.1.1) (Jf hpl).symm
      (by rw [Q7];exact Nat.eq_of_beq_eq_true hc.1.1.2) (Um hc.2) k2 (by simpa [Q7] using hfit)
     rw [hE _ _ hx,show a.eval y=y'.val from hy,hrun,Result.andThen_ok,Oper.upon_skip]
     have hset:=R.setBox hbx hb (QM bx.c o' y'.cells)
     rw [QeC] at hset
     exact hn .any _ _ ρ undef _ H (by simpa using hset) trivial (Qdd hbx _)
   ·exact H.elim
  ·rename_i b o' y' e1 e2
   rw [e1] at hx;rw [e2] at hy
   have hx':a.eval x=.pointer (some ⟨b,o',none⟩):=hx
   cases hc:(Nat.ble 1 (szT P T)&&Nat.beq y'.cells.length (szT P T)&&Ze y'.cells) with
   | false=>rw [hc] at H;exact H.elim
   | true=>
    rw [hc] at H
    simp only [Bool.and_eq_true] at hc
    simp only [cond_true] at H
    obtain⟨c,t,hb,hfit,hk⟩:=H
    have hpl:KC y'=true:=by
     cases y' with
     | one v=>simp [TW.cells,Ze] at hc;exact hc.2
     | ag l=>rfl
    have hwb:=R.sub b _ hb
    have hrun:=MN (P:=P) (w:=w) (T:=T) (b:=b) (o:=o') (v:=y'.val) (vs:=Qq y'.cells) (Nat.le_of_ble_eq_true hc.1.1) (Jf hpl).symm
     (by rw [Q7];exact Nat.eq_of_beq_eq_true hc.1.2) (Um hc.2) hwb hfit
    rw [hE _ _ hx',show a.eval y=y'.val from hy,hrun,Result.andThen_ok,Oper.upon_skip]
    refine hn .any _ _ ρ undef _ hk (R.step ?_ ?_) trivial (QJ.refl _)
    ·intro k o hk
     rw [Xy w b _ _ _ _ hwb]
     by_cases e:k=b
     ·subst e;rw [Hp.set_same] at hk;rw [if_pos rfl,hk]
     ·rw [Hp.set_other _ _ e] at hk;rw [if_neg e];exact R.sub k o hk
    ·refine⟨rfl,rfl,rfl,by simp [World.setRow],fun k hk hkn=>?_⟩
     have e:k≠b:=by intro e;subst e;simp [hb] at hkn
     exact⟨by rw [Xy w b _ _ _ _ hwb,if_neg e],by rw [Hp.set_other _ _ e];exact hkn⟩
  ·exact H.elim
 | call c=>
  obtain⟨callee,args,ts⟩:=c
  have hargs:∀ vs,st.evs ch args.toList=some vs→args.map a.eval=vs.toArray:=by
   intro vs hvs
   have e:=Qeh R hch hvs
   apply Array.ext';simpa using e
  cases callee with
  | invoke r m=>exact H.elim
  | value f=>
   cases f with
   | func g=>
    simp only [vcE] at H
    split at H
    ·rename_i vs hvs
     have hE:(execOp a.eval ⟨d,.call ⟨.value (.func g),args,ts⟩,ty,pos,af,gd⟩).run P w=(callFunc g vs.toArray).run P w:=by
      simp [execOp,resolve,invoke,Act.eval,Deferred.ofValue,hargs vs hvs]
     split at H
     ·rename_i hb
      obtain⟨fn,hf,hbody⟩:=Option.map_eq_some_iff.1 hb
      exact Qhl R H hn (by rw [hE,Uf hf (hP g fn hf) hbody])
     ·rename_i hb
      obtain⟨v,w',h',k1,k2,k3,k4⟩:=H w R.sub
      obtain⟨x,⟨rfl,hk⟩,hx⟩:=UV (show exS _ _ from k4)
      rw [hE,k1,Oper.upon_value]
      exact hn _ _ _ ρ _ _ hk (R.step k2 k3) (SV.ok_val hx) (QJ.refl _)
     ·exact H.elim
    ·exact H.elim
   | tmp t=>
    simp only [vcE] at H
    split at H
    ·rename_i vs fv hvs hfv
     obtain⟨g,pre,post,rfl,⟨fn,hf,hname,hb⟩,hc⟩:=H
     have hE:(execOp a.eval ⟨d,.call ⟨.value (.tmp t),args,ts⟩,ty,pos,af,gd⟩).run P w=(callFunc g (pre.toList++vs++post.toList).toArray).run P w:=by
      have e:(pre.toList++vs++post.toList).toArray=pre++vs.toArray++post:=by apply Array.ext';simp
      rw [e]
      simp [execOp,resolve,invoke,hval hfv,Deferred.ofValue,hargs vs hvs]
     have hb':fn.body.isSome=true:=by cases hq:fn.body<;>simp_all
     exact Qhl R hc hn (by rw [hE,Uf hf hname hb'])
    ·exact H.elim
   | _=>exact H.elim
  | builtin b=>
   have hE:∀(m:Sem Value) (vs:List Value),st.evs ch args.toList=some vs→(∀ cs,builtin b ts ty cs vs.toArray=(do pure (.value (←m)))) →
     (execOp a.eval ⟨d,.call ⟨.builtin b,args,ts⟩,ty,pos,af,gd⟩).run P w=(m.run P w).andThen fun v w'=>.ok (.value v) w':=by
    intro m vs hvs hm
    simp [execOp,resolve,invoke,hargs vs hvs,hm]
   simp only [vcE] at H
   split at H
   ·rename_i vs hvs
    split at H
    ·exact Kj R H hn (hE _ vs hvs (fun _=>rfl))
    ·exact Kj R H hn (hE _ vs hvs (fun _=>rfl))
    ·exact Kj R H hn (hE _ vs hvs (fun _=>rfl))
    ·exact Kj R H hn (hE _ vs hvs (fun _=>rfl))
    ·exact H.elim
   ·exact H.elim
 | makeMap T r=>
  cases r with
  | some r=>exact H.elim
  | none=>exact Kj R (show Qm P _ h _ from H) hn (Z8 (by simp [execOp]))
 | makeSlice T l c=>
  simp only [vcE] at H
  split at H
  ·rename_i u v e1 e2
   exact Kj R H hn (Z8 (by simp [execOp,hval e1,hval e2]))
  ·exact H.elim
 | convert s t x=>
  simp only [vcE] at H
  split at H
  ·rename_i u e1
   exact Kj R H hn (Z8 (by simp [execOp,hval e1]))
  ·exact H.elim
 | mapUpdate T m k x=>
  simp only [vcE] at H
  split at H
  ·rename_i m' k' x' e1 e2 e3
   obtain⟨w',h',k1,k2,k3,k4⟩:=H w R.sub
   have hE:(execOp a.eval ⟨d,.mapUpdate T m k x,ty,pos,af,gd⟩).run P w=((Instr.mapUpdate T m' k' x').run P w).andThen fun _ w'=>.ok .skip w':=by
    simp [execOp,hval e1,hval e2,hval e3]
   rw [hE,k1,Result.andThen_ok,Oper.upon_skip]
   exact hn .any _ _ ρ undef _ k4 (R.step k2 k3) trivial (QJ.refl _)
  ·exact H.elim
 | insert T m k x=>
  simp only [vcE] at H
  split at H
  ·rename_i m' k' x' e1 e2 e3
   obtain⟨w',h',k1,k2,k3,k4⟩:=H w R.sub
   have hE:(execOp a.eval ⟨d,.insert T m k x,ty,pos,af,gd⟩).run P w=((Instr.mapUpdate T m' k' x').run P w).andThen fun _ w'=>.ok .skip w':=by
    simp [execOp,hval e1,hval e2,hval e3]
   rw [hE,k1,Result.andThen_ok,Oper.upon_skip]
   exact hn .any _ _ ρ undef _ k4 (R.step k2 k3) trivial (QJ.refl _)
  ·exact H.elim
 | range T x=>
  simp only [vcE] at H
  split at H
  ·rename_i u e1
   obtain⟨v,w',h',k1,k2,k3,k4⟩:=H w R.sub
   have hE:(execOp a.eval ⟨d,.range T x,ty,pos,af,gd⟩).run P w=((Instr.range T u).run P w).andThen fun v w'=>.ok (.value v) w':=Z8 (by simp [execOp,hval e1])
   rw [hE,k1,Result.andThen_ok,Oper.upon_value]
   exact hn _ _ _ ρ _ _ k4 (R.step k2 k3) rfl (QJ.refl _)
  ·exact H.elim
 | next it s=>
  simp only [vcE] at H
  split at H
  ·rename_i u e1
   exact Kj R H hn (Z8 (by simp [execOp,hval e1]))
  ·exact H.elim
 | _=>exact H.elim
end
def Qgk:Option Nat→List Nat
 | some d=>[d]
 | none=>[]
structure Ev (D:List Nat)(st st':St):Prop where
 n:st'.n=st.n
 t:∀ i,i ∉ D→st'.t i=st.t i
 b:QJ st.b st'.b
theorem Ev.refl (D:List Nat)(st:St):Ev D st st:=⟨rfl,fun _ _=>rfl,QJ.refl _⟩
theorem Ev.trans {D:List Nat}{a b c:St}(x:Ev D a b)(y:Ev D b c):Ev D a c:=
 ⟨y.n.trans x.n,fun i hi=>(y.t i hi).trans (x.t i hi),x.b.trans y.b⟩
theorem Ev.mono {D D':List Nat}{a b:St}(x:Ev D a b)(h:∀ i,i ∈ D→i ∈ D'):Ev D' a b:=
 ⟨x.n,fun i hi=>x.t i (fun hd=>hi (h i hd)),x.b⟩
section
variable {P:Program}{cfg:Cfg}{ρ:Nat→Option Nat}{w0:World}{h0:Hp}{st:St}{h:Hp}{a:Act}{w:World}
theorem GC (tm:Array Value)(d:Nat)(v:Value)(i:Nat)(hd:d < tm.size):(tm.setIfInBounds d v).getD i undef=if i=d then v else tm.getD i undef:=by
 simp only [Array.getD_eq_getD_getElem?,Array.getElem?_setIfInBounds]
 by_cases h:d=i
 ·subst h;simp [hd]
 ·simp [h,show ¬ i=d from fun e=>h e.symm]
theorem Qau (R:Xz ρ w0 h0 st h a w){dst:Option Nat}{gd:Option (Nat × Bool)}{x:SV}{K:St→Prop}(H:st.put dst gd x K){v:Value}
  (hv:match gd with
   | none=>x.ok ρ v
   | some (s,p)=>(a.tmps.getD s undef=.bool p→x.ok ρ v)∧(a.tmps.getD s undef≠.bool p→v=undef)) :
  ∃ st',K st'∧Xz ρ w0 h0 st' h (a.put dst v) w∧Ev (Qgk dst) st st':=by
 cases dst with
 | none=>exact⟨st,H,R,Ev.refl _ _⟩
 | some d=>
  cases gd with
  | none=>
   simp only [St.put] at H
   cases hc:(Nat.blt d st.n&&!(st.g d)) with
   | false=>rw [hc] at H;exact H.elim
   | true=>
    rw [hc] at H
    simp only [Bool.and_eq_true,Bool.not_eq_true'] at hc
    have hd:d < a.tmps.size:=by rw [R.n];exact of_decide_eq_true (by have:=hc.1;simpa [Nat.blt_eq] using this)
    refine⟨_,H,⟨by simp [Act.put,R.n],R.d,fun i=>?_,?_,R.sub,R.F,R.box,R.dom,R.inj⟩,⟨rfl,fun i hi=>?_,QJ.refl _⟩⟩
    ·simp only [Act.put]
     rw [GC _ _ _ _ hd]
     cases hb:Nat.beq i d with
     | true=>
      have:=Nat.eq_of_beq_eq_true hb
      simp only [cond_true,if_pos this]
      exact hv
     | false=>
      have hne:=Nat.ne_of_beq_eq_false hb
      simp only [cond_false,if_neg hne]
      have hr:=R.fr i
      cases hi:st.t i with
      | s y=>rw [hi] at hr;exact hr
      | gd k p y=>
       rw [hi] at hr
       have hk:=R.gd i k p y hi
       have hkd:k≠d:=by intro e;subst e;rw [hc.2] at hk;simp at hk
       simp only [Sl.ok] at hr ⊢
       rw [GC _ _ _ _ hd,if_neg hkd]
       exact hr
    ·intro i s p y hi
     simp only at hi
     cases hb:Nat.beq i d with
     | true=>rw [hb] at hi;simp at hi
     | false=>rw [hb] at hi;exact R.gd i s p y hi
    ·have hne:i≠d:=by simpa [Qgk] using hi
     have:Nat.beq i d=false:=by cases hq:Nat.beq i d<;>simp_all
     simp [this]
  | some q=>
   obtain⟨s,p⟩:=q
   simp only [St.put] at H
   cases hc:(Nat.blt d st.n&&!(Nat.beq d s||st.g d)) with
   | false=>rw [hc] at H;exact H.elim
   | true=>
    rw [hc] at H
    simp only [Bool.and_eq_true,Bool.not_eq_true'] at hc
    have hd:d < a.tmps.size:=by rw [R.n];exact of_decide_eq_true (by have:=hc.1;simpa [Nat.blt_eq] using this)
    have hnm:¬ d=s∧¬ st.g d=true:=by
     have:=hc.2
     simp only [Bool.or_eq_false_iff] at this
     exact⟨Nat.ne_of_beq_eq_false this.1,by simp [this.2]⟩
    refine⟨_,H,⟨by simp [Act.put,R.n],R.d,fun i=>?_,?_,R.sub,R.F,R.box,R.dom,R.inj⟩,⟨rfl,fun i hi=>?_,QJ.refl _⟩⟩
    ·simp only [Act.put]
     rw [GC _ _ _ _ hd]
     cases hb:Nat.beq i d with
     | true=>
      have:=Nat.eq_of_beq_eq_true hb
      simp only [cond_true,if_pos this,Sl.ok]
      rw [GC _ _ _ _ hd,if_neg (fun e=>hnm.1 e.symm)]
      exact hv
     | false=>
      have hne:=Nat.ne_of_beq_eq_false hb
      simp only [cond_false,if_neg hne]
      have hr:=R.fr i
      cases hi:st.t i with
      | s y=>rw [hi] at hr;exact hr
      | gd k p y=>
       rw [hi] at hr
       have hk:=R.gd i k p y hi
       have hkd:k≠d:=by intro e;subst e;exact hnm.2 hk
       simp only [Sl.ok] at hr ⊢
       rw [GC _ _ _ _ hd,if_neg hkd]
       exact hr
    ·intro i k p' y hi
     simp only at hi
     cases hb:Nat.beq i d with
     | true=>
      rw [hb] at hi
      simp only [cond_true,Sl.gd.injEq] at hi
      simp [hi.1]
     | false=>
      rw [hb] at hi
      have:=R.gd i k p' y hi
      simp only
      cases hq:Nat.beq k s<;>simp [this]
    ·have hne:i≠d:=by simpa [Qgk] using hi
     have:Nat.beq i d=false:=by cases hq:Nat.beq i d<;>simp_all
     simp [this]
theorem QhL (R:Xz ρ w0 h0 st h a w):∀(n s:Nat) (p:Bool),okGd st n s=true →
  (condP st n s p→a.tmps.getD s undef=.bool p∧∀ s' p',(s',p') ∈ chain st n s p→a.tmps.getD s' undef=.bool p') ∧
  (¬ condP st n s p→a.tmps.getD s undef≠.bool p)
 | 0,s,p,hok=>by simp [okGd] at hok
 | n+1,s,p,hok=>by
  have hr:=R.fr s
  cases hs:st.t s with
  | s y=>
   rw [hs] at hr
   simp only [okGd,hs] at hok
   split at hok
   ·rename_i b hb
    simp only [Sl.s.injEq] at hb
    subst hb
    have hr':a.tmps.getD s undef=.bool b:=hr
    simp only [condP,hs,chain,hr',Value.bool.injEq,List.mem_cons,List.not_mem_nil,or_false,Prod.mk.injEq]
    refine⟨fun e=>⟨e,?_⟩,fun e he=>e (by simpa using he)⟩
    rintro s' p' ⟨rfl,rfl⟩
    rw [hr',e]
   ·rename_i hb;simp at hb
   ·simp at hok
  | gd k q y=>
   rw [hs] at hr
   simp only [okGd,hs] at hok
   split at hok
   ·rename_i b hb;simp at hb
   ·rename_i k' q' b hb
    simp only [Sl.gd.injEq] at hb
    obtain⟨rfl,rfl,rfl⟩:=hb
    have ih:=QhL R n k q hok
    have hr':(a.tmps.getD k undef=.bool q→a.tmps.getD s undef=.bool b)∧(a.tmps.getD k undef≠.bool q→a.tmps.getD s undef=undef):=hr
    simp only [condP,hs,chain,List.mem_cons,Prod.mk.injEq]
    constructor
    ·rintro⟨hc,rfl⟩
     obtain⟨h1,h2⟩:=ih.1 hc
     refine⟨hr'.1 h1,?_⟩
     rintro s' p' (⟨rfl,rfl⟩|hm)
     ·exact hr'.1 h1
     ·exact h2 s' p' hm
    ·intro hc e
     by_cases hk:condP st n k q
     ·have h1:=(ih.1 hk).1
      have h2:=hr'.1 h1
      rw [h2] at e
      simp only [Value.bool.injEq] at e
      exact hc ⟨hk,e⟩
     ·have h1:=hr'.2 (ih.2 hk)
      rw [h1] at e
      simp [undef] at e
   ·simp at hok
theorem Qdk {o:Oper}(hg:o.guard=none)(y:Nat→Option Bool):Region.wanted o y=true:=by simp [Region.wanted,hg]
theorem QjK {ops:Array Oper}{o:Oper}{j s:Nat}{p:Bool}(hg:o.guard=some (j,p))(hj:(ops[j]?).bind (·.dst)=some s)(tm:Array Value) :
  Region.wanted o (yielded ops tm)=true↔tm.getD s undef=.bool p:=by
 simp only [Region.wanted,hg,yielded,hj,Option.bind_some,Array.getD_eq_getD_getElem?]
 cases hs:tm[s]? with
 | none=>simp [undef]
 | some v=>cases v<;>simp
end
theorem Qog {s:Sh1}{F:TV→Prop}{x:TV}(H:al1 s F)(hx:ex1 s fun y=>y=x):F x:=by
 cases s with
 | slice=>obtain⟨a,n,c,rfl⟩:=hx;exact H a n c
 | _=>obtain⟨a,rfl⟩:=hx;exact H a
theorem QnK:∀{l:List Sh1} {F:List TV→Prop} {x:List TV},alL l F→(exL l fun y=>y=x)→F x
 | [],F,x,H,hx=>by obtain rfl:[]=x:=hx;exact H
 | s :: l,F,x,H,hx=>by
  obtain⟨u,hu,h2⟩:=UM hx
  obtain⟨v,hv,rfl⟩:=Vf h2
  exact QnK (F:=fun xs=>F (u :: xs)) (Qog (F:=fun u=>alL l fun xs=>F (u :: xs)) H hu) hv
theorem Qo9 {s:Sh0}{F:TW→Prop}{x:TW}(H:al0 s F)(hx:ex0 s fun y=>y=x):F x:=by
 cases s with
 | one s=>obtain⟨u,hu,rfl⟩:=UM hx;exact Qog (F:=fun u=>F (.one u)) H hu
 | agg l=>obtain⟨u,hu,rfl⟩:=Vf hx;exact QnK (F:=fun u=>F (.ag u)) H hu
theorem Qmk:∀{l:List Sh0} {F:List TW→Prop} {x:List TW},QoI l F→(Qbz l fun y=>y=x)→F x
 | [],F,x,H,hx=>by obtain rfl:[]=x:=hx;exact H
 | s :: l,F,x,H,hx=>by
  obtain⟨u,hu,h2⟩:=Nn hx
  obtain⟨v,hv,rfl⟩:=VR h2
  exact Qmk (F:=fun xs=>F (u :: xs)) (Qo9 (F:=fun u=>QoI l fun xs=>F (u :: xs)) H hu) hv
theorem Qja {s:Sh}{F:SV→Prop}{x:SV}(H:alS s F)(hx:exS s fun y=>y=x):F x:=by
 cases s with
 | s s=>obtain⟨u,hu,rfl⟩:=Nn hx;exact Qo9 (F:=fun u=>F (.t u)) H hu
 | tup l=>obtain⟨u,hu,rfl⟩:=VR hx;exact Qmk (F:=fun u=>F (.tup u)) H hu
theorem Qmb {s:Sh1}{F:TV→Prop}(H:∀ x,F x):al1 s F:=by
 cases s<;>(simp only [al1];intros;exact H _)
theorem Qml:∀{l:List Sh1} {F:List TV→Prop},(∀ x,F x)→alL l F
 | [],F,H=>H _
 | s :: l,F,H=>Qmb fun u=>Qml fun xs=>H _
theorem QlP {s:Sh0}{F:TW→Prop}(H:∀ x,F x):al0 s F:=by
 cases s with
 | one s=>exact Qmb fun u=>H _
 | agg l=>exact Qml fun u=>H _
theorem QjW:∀{l:List Sh0} {F:List TW→Prop},(∀ x,F x)→QoI l F
 | [],F,H=>H _
 | s :: l,F,H=>QlP fun u=>QjW fun xs=>H _
theorem QpJ {s:Sh}{F:SV→Prop}(H:∀ x,F x):alS s F:=by
 cases s with
 | s s=>exact QlP fun u=>H _
 | tup l=>exact QjW fun u=>H _
theorem Qms (s:Sh1):ex1 s fun y=>y=Qrn s:=by
 cases s with
 | slice=>exact⟨_,_,_,rfl⟩
 | _=>exact⟨_,rfl⟩
theorem Ql1:∀ l:List Sh1,exL l fun y=>y=QqW l
 | []=>rfl
 | s :: l=>Xm (fun x hx=>Xp (fun y hy=>by rw [hx,hy];rfl) (Ql1 l)) (Qms s)
theorem Qmw (s:Sh0):ex0 s fun y=>y=Qq1 s:=by
 cases s with
 | one s=>exact Xm (fun x hx=>by rw [hx];rfl) (Qms s)
 | agg l=>exact Xp (fun x hx=>by rw [hx];rfl) (Ql1 l)
theorem QkG:∀ l:List Sh0,Qbz l fun y=>y=Qn4 l
 | []=>rfl
 | s :: l=>UK (fun x hx=>Jl (fun y hy=>by rw [hx,hy];rfl) (QkG l)) (Qmw s)
theorem QoU (s:Sh):exS s fun y=>y=dfl s:=by
 cases s with
 | s s=>exact UK (fun x hx=>by rw [hx];rfl) (Qmw s)
 | tup l=>exact Jl (fun x hx=>by rw [hx];rfl) (QkG l)
theorem Qm0 {s:Sh}{v:Value}{J K:SV→Prop}(hk:∀ x,J x→(exS s fun y=>y=x)→K x)(H:res s v J):res s v K:=by
 obtain⟨x,hx,hv,hj⟩:=Qg2 H
 exact GV (fun y hy=>by subst hy;exact⟨hv,hk _ hj hx⟩) hx
theorem QjL {P:Program}{cfg:Cfg}{o:Oper}{ch:List (Nat × Bool)}{st:St}{h:Hp}{J:SV→Hp→Prop}{K:SV→List Box→Hp→Prop}(hc:JR o.op=true)(hk:∀ sv h',J sv h'→(exS (shp P o.type) fun y=>y=sv)→K sv st.b h')(H:vcE P cfg o ch st h fun sv _ h'=>J sv h') :
  vcE P cfg o ch st h K:=by
 obtain⟨dst,op,ty,pos,af,gd⟩:=o
 have hR:∀ v h',(res (shp P ty) v fun x=>J x h')→res (shp P ty) v fun x=>K x st.b h':=fun v h' hr=>Qm0 (fun x=>hk x h') hr
 have hsem:∀ m,(Qm P m h fun v h'=>res (shp P ty) v fun x=>J x h')→Qm P m h fun v h'=>res (shp P ty) v fun x=>K x st.b h':=
  fun m Hm w hs=>let ⟨v,w',h',h1,h2,h3,h4⟩:=Hm w hs;⟨v,w',h',h1,h2,h3,hR _ _ h4⟩
 have hcall:∀ f vs,(Qa P f vs h fun v h'=>res (shp P ty) v fun x=>J x h')→Qa P f vs h fun v h'=>res (shp P ty) v fun x=>K x st.b h':=
  fun f vs Hm w hs=>(Hm w hs).mono fun e w' ⟨v,h',h1,h2,h3,h4⟩=>⟨v,h',h1,h2,h3,hR _ _ h4⟩
 cases op with
 | call c=>
  obtain⟨callee,args,ts⟩:=c
  cases callee with
  | builtin b=>
   simp only [vcE] at H ⊢
   split at H
   ·cases b<;>first|exact H.elim|exact hsem _ H
   ·exact H.elim
  | value f=>
   cases f with
   | func g=>
    simp only [vcE] at H ⊢
    split at H
    ·rename_i vs hvs
     cases hb:(P.funcs[g]?).map (·.body.isSome) with
     | none=>rw [hb] at H;exact H.elim
     | some q=>
      rw [hb] at H
      cases q with
      | true=>exact hcall _ _ H
      | false=>exact fun w hs=>let ⟨v,w',h',h1,h2,h3,h4⟩:=H w hs;⟨v,w',h',h1,h2,h3,hR _ _ h4⟩
    ·exact H.elim
   | tmp t=>
    simp only [vcE] at H ⊢
    split at H
    ·obtain⟨f,pre,post,e,hfn,hcl⟩:=H
     exact⟨f,pre,post,e,hfn,hcall _ _ hcl⟩
    ·exact H.elim
   | _=>exact H.elim
  | invoke r m=>exact H.elim
 | _=>cases hc
theorem QfW {P:Program}{cfg:Cfg}(hP:Qbe P){ops:Array Oper}{o:Oper}{w0:World}{h0:Hp}{st:St}{h:Hp}{a:Act}{w:World}{K:St→Hp→Prop}{Q:Exit→Act→World→Prop}{N:Act→World→Prop}
  (R:Rel w0 h0 st h a w) (H:ZV P cfg ops o st h K)
  (hn:∀ st' h' a' w',K st' h'→Rel w0 h0 st' h' a' w'→Ev (Qgk o.dst) st st'→N a' w'):if Region.wanted o (yielded ops a.tmps) then o.wp P a w N Q∨(o.asks P a w∧LetsOut Q) else N (a.put o.dst undef) w:=by
 obtain⟨ρ,R⟩:=R
 unfold ZV at H
 have hnE:∀{gdr:Option (Nat × Bool)},Nxt w0 h0 st (fun sv b h'=>St.put ⟨st.n,st.t,st.g,b⟩ o.dst none sv fun st'=>K st' h') o a N:=by
  intro _ sv b' h' ρ' v w' hk R' hsv hb
  obtain⟨st',k1,k2,k3⟩:=Qau R' (gd:=none) hk hsv
  exact hn st' h' _ _ k1 ⟨ρ',k2⟩ ⟨k3.n,k3.t,hb.trans k3.b⟩
 cases hg:o.guard with
 | none=>
  rw [hg] at H
  simp only at H
  rw [if_pos (Qdk hg _)]
  left
  unfold Oper.wp
  cases hE:isE P o.op with
  | true=>
   rw [hE] at H
   simp only [cond_true] at H
   exact Qll hP R (ch:=[]) (fun _ _ hm=>by simp at hm) H (hnE (gdr:=none))
  | false=>
   rw [hE] at H
   simp only [cond_false] at H
   obtain⟨sv,hk,v,hr,hsv⟩:=Qoj R (ch:=[]) (fun _ _ hm=>by simp at hm) (G:=fun p=>p) (fun p hp=>hp) H
   rw [hr,Oper.upon_value]
   obtain⟨st',k1,k2,k3⟩:=Qau R (gd:=none) hk hsv
   exact hn st' h _ _ k1 ⟨ρ,k2⟩ k3
 | some q=>
  obtain⟨j,p⟩:=q
  rw [hg] at H
  simp only at H
  split at H
  ·exact H.elim
  ·rename_i s hj
   cases hok:okGd st 8 s with
   | false=>rw [hok] at H;exact H.elim
   | true=>
    rw [hok] at H
    simp only [cond_true] at H
    have hspec:=QhL R 8 s p hok
    have hw:=QjK (ops:=ops) hg hj a.tmps
    cases hE:isE P o.op with
    | true=>
     rw [hE] at H
     simp only [cond_true] at H
     cases hC:JR o.op with
     | true=>
      rw [hC] at H
      simp only [cond_true] at H
      obtain⟨J,H1,H2,H3⟩:=H
      by_cases hc:condP st 8 s p
      ·obtain⟨h1,h2⟩:=hspec.1 hc
       rw [if_pos (hw.2 h1)]
       left
       unfold Oper.wp
       refine Qll hP R h2 (QjL (K:=fun sv b h'=>b=st.b∧J sv h'∧exS (shp P o.type) fun y=>y=sv) hC (fun sv h' q1 q2=>⟨rfl,q1,q2⟩) (H1 hc)) ?_
       rintro sv b' h' ρ' v w' ⟨hk0,hk1,hk2⟩ R' hsv hb
       subst hk0
       obtain⟨st',k1,k2,k3⟩:=Qau R' (gd:=some (s,p)) (Qja (H3 h') hk2 hk1) (v:=v) ⟨fun _=>hsv,fun e=>(e h1).elim⟩
       exact hn st' h' _ _ k1 ⟨ρ',k2⟩ ⟨k3.n,k3.t,hb.trans k3.b⟩
      ·have h1:=hspec.2 hc
       rw [if_neg (fun e=>h1 (hw.1 e))]
       obtain⟨st',k1,k2,k3⟩:=Qau R (gd:=some (s,p)) (v:=undef) (Qja (H3 h) (QoU _) (H2 hc)) ⟨fun e=>(h1 e).elim,fun _=>rfl⟩
       exact hn st' h _ _ k1 ⟨ρ,k2⟩ k3
     | false=>
     rw [hC] at H
     simp only [cond_false] at H
     by_cases hc:condP st 8 s p
     ·obtain⟨h1,h2⟩:=hspec.1 hc
      rw [if_pos (hw.2 h1)]
      left
      unfold Oper.wp
      exact Qll hP R h2 (H.1 hc) (hnE (gdr:=none))
     ·have h1:=hspec.2 hc
      rw [if_neg (fun e=>h1 (hw.1 e))]
      obtain⟨st',k1,k2,k3⟩:=Qau R (gd:=some (s,p)) (v:=undef) (H.2 hc) ⟨fun e=>(h1 e).elim,fun _=>rfl⟩
      exact hn st' h _ _ k1 ⟨ρ,k2⟩ k3
    | false=>
     rw [hE] at H
     simp only [cond_false] at H
     by_cases hc:condP st 8 s p
     ·obtain⟨h1,h2⟩:=hspec.1 hc
      rw [if_pos (hw.2 h1)]
      left
      unfold Oper.wp
      obtain⟨sv,hk,v,hr,hsv⟩:=Qoj R h2 (fun q hq=>hq hc) H
      rw [hr,Oper.upon_value]
      obtain⟨st',k1,k2,k3⟩:=Qau R (gd:=some (s,p)) hk (v:=v) ⟨fun _=>hsv,fun e=>(e h1).elim⟩
      exact hn st' h _ _ k1 ⟨ρ,k2⟩ k3
     ·have h1:=hspec.2 hc
      rw [if_neg (fun e=>h1 (hw.1 e))]
      obtain⟨sv,hk⟩:=QpT H
      obtain⟨st',k1,k2,k3⟩:=Qau R (gd:=some (s,p)) hk (v:=undef) ⟨fun e=>(h1 e).elim,fun _=>rfl⟩
      exact hn st' h _ _ k1 ⟨ρ,k2⟩ k3
theorem Qpt {P:Program}{cfg:Cfg}(hP:Qbe P){ops:Array Oper}{o:Oper}{w0:World}{h0:Hp}{st:St}{h:Hp}{a:Act}{w:World}{K:St→Hp→Prop}{Q:Exit→Act→World→Prop}{rest:List Oper}
  (R:Rel w0 h0 st h a w) (H:ZV P cfg ops o st h K)
  (hn:∀ st' h' a' w',K st' h'→Rel w0 h0 st' h' a' w'→Ev (Qgk o.dst) st st'→wpList P ops Q rest a' w'):wpList P ops Q (o :: rest) a w:=by
 unfold wpList
 exact QfW hP R H hn
structure Agr (d:Nat)(st st1:St):Prop where
 t:∀ i,i≠d→st1.t i=st.t i
 b:st1.b=st.b
 n:st1.n=st.n
section
variable {P:Program}{cfg:Cfg}{st st1:St}{d:Nat}{ch:List (Nat × Bool)}
theorem Agr.ev (A:Agr d st st1){x:Operand}(hx:x≠.tmp d):st1.ev ch x=st.ev ch x:=by
 cases x with
 | tmp i=>simp only [St.ev];rw [A.t i (fun e=>hx (by rw [e]))]
 | _=>rfl
theorem Agr.evs (A:Agr d st st1):∀{l:List Operand},(∀ x ∈ l,x≠.tmp d)→st1.evs ch l=st.evs ch l
 | [],_=>rfl
 | x :: l,h=>by simp only [St.evs];rw [A.ev (h x (by simp)),A.evs (fun y hy=>h y (by simp [hy]))]
theorem Agr.partsL (A:Agr d st st1):∀{l:List (Nat × Operand)},(∀ x ∈ l,x.2≠.tmp d)→Vc.partsL st1 ch l=Vc.partsL st ch l
 | [],_=>rfl
 | (i,x) :: l,h=>by simp only [Vc.partsL];rw [A.ev (h (i,x) (by simp)),A.partsL (fun y hy=>h y (by simp [hy]))]
theorem Agr.optV (A:Agr d st st1):∀{x:Option Operand},(∀ y,x=some y→y≠.tmp d)→Vc.optV st1 ch x=Vc.optV st ch x
 | none,_=>rfl
 | some x,h=>by simp only [Vc.optV];rw [A.ev (h x rfl)]
theorem Agr.vd (A:Agr d st st1){o:Oper}(h:∀ x ∈ o.op.operands.toList,x≠.tmp d):QW P o ch st1=QW P o ch st:=by
 obtain⟨dst,op,ty,pos,af,gd⟩:=o
 cases op with
 | move x=>simp only [QW];rw [A.ev (h x (by simp [Op.operands]))]
 | assign x=>simp only [QW];rw [A.ev (h x (by simp [Op.operands]))]
 | pick c x y=>
  simp only [QW]
  have hx:=h x (by simp [Op.operands])
  have hy:=h y (by simp [Op.operands])
  cases c with
  | tmp s=>simp only;rw [A.ev (h (.tmp s) (by simp [Op.operands])),A.ev hx,A.ev hy]
  | _=>rfl
 | nilCheck x=>simp only [QW];rw [A.ev (h x (by simp [Op.operands]))]
 | binOp op T x y T'=>simp only [QW];rw [A.ev (h x (by simp [Op.operands])),A.ev (h y (by simp [Op.operands]))]
 | unOp op T x=>simp only [QW];rw [A.ev (h x (by simp [Op.operands]))]
 | convert s t x=>simp only [QW];rw [A.ev (h x (by simp [Op.operands]))]
 | makeInterface T x=>simp only [QW];rw [A.ev (h x (by simp [Op.operands]))]
 | makeFunc fn l1 l2=>simp only [QW];rw [A.evs (fun x hx=>h x (by simp [Op.operands,Array.mem_toList_iff.1 hx])),A.evs (fun x hx=>h x (by simp [Op.operands,Array.mem_toList_iff.1 hx]))]
 | fieldAddr T x f=>simp only [QW];rw [A.ev (h x (by simp [Op.operands]))]
 | field T x f=>simp only [QW];rw [A.ev (h x (by simp [Op.operands]))]
 | indexAddr T x y=>simp only [QW];rw [A.ev (h x (by simp [Op.operands])),A.ev (h y (by simp [Op.operands]))]
 | load T x=>simp only [QW];rw [A.ev (h x (by simp [Op.operands])),A.b]
 | extract x i=>simp only [QW];rw [A.ev (h x (by simp [Op.operands]))]
 | build T ps=>
  simp only [QW]
  rw [A.partsL (fun x hx=>h x.2 (by simp only [Op.operands,List.mem_map];exact⟨x,hx,rfl⟩))]
 | index T x y=>simp only [QW];rw [A.ev (h x (by simp [Op.operands])),A.ev (h y (by simp [Op.operands]))]
 | lookup T x y ok=>simp only [QW];rw [A.ev (h x (by simp [Op.operands])),A.ev (h y (by simp [Op.operands]))]
 | typeAssert x T U ok=>simp only [QW];rw [A.ev (h x (by simp [Op.operands]))]
 | slice T x lo hi mx=>
  simp only [QW]
  rw [A.ev (h x (by simp [Op.operands])),A.optV (x:=lo) (fun y hy=>h y (by simp [Op.operands,hy])),A.optV (x:=hi) (fun y hy=>h y (by simp [Op.operands,hy])),A.optV (x:=mx) (fun y hy=>h y (by simp [Op.operands,hy]))]
 | call c=>
  obtain⟨callee,args,ts⟩:=c
  cases callee with
  | builtin b=>
   have ha:∀ x ∈ args.toList,x≠.tmp d:=fun x hx=>h x (by simpa [Op.operands,Call.operands] using hx)
   cases b with
   | len=>
    simp only [QW]
    split
    ·rename_i x hargs;rw [A.ev (ha x (by rw [hargs];simp))]
    ·rfl
   | cap=>simp only [QW];rw [A.evs ha]
   | max=>simp only [QW];rw [A.evs ha]
   | min=>simp only [QW];rw [A.evs ha]
   | _=>rfl
  | _=>rfl
 | _=>rfl
theorem Agr.boxR (A:Agr d st st1){o:Oper}(h:∀ x ∈ o.op.operands.toList,x≠.tmp d):Vc.boxR o st1 ch=Vc.boxR o st ch:=by
 obtain⟨dst,op,ty,pos,af,gd⟩:=o
 cases op with
 | load T x=>simp only [Vc.boxR];rw [A.ev (h x (by simp [Op.operands]))]
 | _=>rfl
theorem Agr.vcE (A:Agr d st st1){o:Oper}(h:∀ x ∈ o.op.operands.toList,x≠.tmp d){hp:Hp}{K:SV→List Box→Hp→Prop}:Vc.vcE P cfg o ch st1 hp K=Vc.vcE P cfg o ch st hp K:=by
 obtain⟨dst,op,ty,pos,af,gd⟩:=o
 have hnb:∀ T cs,Vc.newBox cfg ⟨dst,op,ty,pos,af,gd⟩ st1 hp T cs K=Vc.newBox cfg ⟨dst,op,ty,pos,af,gd⟩ st hp T cs K:=by intro T cs;simp only [Vc.newBox,A.b]
 cases op with
 | alloc T=>simp only [Vc.vcE,hnb]
 | box T x=>simp only [Vc.vcE,hnb];rw [A.ev (h x (by simp [Op.operands]))]
 | buildSlice T n ps=>
  simp only [Vc.vcE,A.b]
  rw [A.partsL (fun x hx=>h x.2 (by simp only [Op.operands,List.mem_map];exact⟨x,hx,rfl⟩))]
 | store T x y=>simp only [Vc.vcE,A.b];rw [A.ev (h x (by simp [Op.operands])),A.ev (h y (by simp [Op.operands]))]
 | call c=>
  obtain⟨callee,args,ts⟩:=c
  have ha:∀ x ∈ args.toList,x≠.tmp d:=fun x hx=>h x (by simp only [Op.operands,Call.operands];cases callee<;>simp_all)
  cases callee with
  | builtin b=>simp only [Vc.vcE,A.b];rw [A.evs ha]
  | value f=>
   cases f with
   | func g=>simp only [Vc.vcE,A.b];rw [A.evs ha]
   | tmp t=>simp only [Vc.vcE,A.b];rw [A.evs ha,A.ev (h (.tmp t) (by simp [Op.operands,Call.operands]))]
   | _=>rfl
  | invoke r m=>rfl
 | makeMap T r=>cases r<;>simp only [Vc.vcE,A.b]
 | convert s t x=>simp only [Vc.vcE,A.b];rw [A.ev (h x (by simp [Op.operands]))]
 | makeSlice T l c=>simp only [Vc.vcE,A.b];rw [A.ev (h l (by simp [Op.operands])),A.ev (h c (by simp [Op.operands]))]
 | mapUpdate T m k x=>simp only [Vc.vcE,A.b];rw [A.ev (h m (by simp [Op.operands])),A.ev (h k (by simp [Op.operands])),A.ev (h x (by simp [Op.operands]))]
 | insert T m k x=>simp only [Vc.vcE,A.b];rw [A.ev (h m (by simp [Op.operands])),A.ev (h k (by simp [Op.operands])),A.ev (h x (by simp [Op.operands]))]
 | range T x=>simp only [Vc.vcE,A.b];rw [A.ev (h x (by simp [Op.operands]))]
 | next it s=>simp only [Vc.vcE,A.b];rw [A.ev (h it (by simp [Op.operands]))]
 | _=>rfl
end
def WF (st:St):Prop:=∀ i s p x,st.t i=.gd s p x→st.g s=true
def XY (st:St)(dst:Option Nat)(gd:Option (Nat × Bool)):Prop:=
 ∀ d,dst=some d→Nat.blt d st.n=true∧st.g d=false∧∀ s p,gd=some (s,p)→d≠s
def Qv (st:St)(dst:Option Nat)(gd:Option (Nat × Bool))(x:SV):St:=
 match dst with
 | none=>st
 | some d=>match gd with
  | none=>{ st with t:=fun i=>bif Nat.beq i d then .s x else st.t i }
  | some (s,p)=>{ st with t:=fun i=>bif Nat.beq i d then .gd s p x else st.t i,g:=fun k=>bif Nat.beq k s then true else st.g k }
theorem YJ {st:St}{dst:Option Nat}{gd:Option (Nat × Bool)}{x:SV}{K:St→Prop}:st.put dst gd x K↔XY st dst gd∧K (Qv st dst gd x):=by
 cases dst with
 | none=>simp [St.put,XY,Qv]
 | some d=>
  cases gd with
  | none=>
   simp only [St.put,XY,Qv,Option.some.injEq,reduceCtorEq,false_implies,implies_true,and_true,forall_eq']
   cases h1:Nat.blt d st.n<;>cases h2:st.g d<;>simp_all
  | some q=>
   obtain⟨s,p⟩:=q
   simp only [St.put,XY,Qv,Option.some.injEq,forall_eq',Prod.mk.injEq]
   rcases Bool.eq_false_or_eq_true (Nat.beq d s) with h3|h3
   ·have:=Nat.eq_of_beq_eq_true h3
    rw [h3]
    simp only [Bool.true_or,Bool.not_true,Bool.and_false,cond_false,false_iff,not_and]
    rintro⟨_,_,h⟩
    exact(h s p ⟨rfl,rfl⟩ this).elim
   ·have hne:=Nat.ne_of_beq_eq_false h3
    rw [h3]
    cases h1:Nat.blt d st.n<;>cases h2:st.g d<;>simp_all
theorem Qfw {i d:Nat}(h:i≠d):Nat.beq i d=false:=by cases hq:Nat.beq i d<;>simp_all
theorem Qn5 {st:St}{d:Nat}{gd:Option (Nat × Bool)}{x:SV}:Agr d st (Qv st (some d) gd x):=by
 cases gd with
 | none=>exact⟨fun i hi=>by simp [Qv,Qfw hi],rfl,rfl⟩
 | some q=>exact⟨fun i hi=>by simp [Qv,Qfw hi],rfl,rfl⟩
theorem Qec {st:St}{dst:Option Nat}{gd:Option (Nat × Bool)}{x:SV}(W:WF st):WF (Qv st dst gd x):=by
 cases dst with
 | none=>exact W
 | some d=>
  intro i s p y hi
  cases gd with
  | none=>
   simp only [Qv] at hi ⊢
   cases hb:Nat.beq i d with
   | true=>rw [hb] at hi;simp at hi
   | false=>rw [hb] at hi;exact W i s p y hi
  | some q=>
   obtain⟨s',p'⟩:=q
   simp only [Qv] at hi ⊢
   cases hb:Nat.beq i d with
   | true=>rw [hb] at hi;simp at hi;simp [hi.1]
   | false=>rw [hb] at hi;have:=W i s p y hi;cases Nat.beq s s'<;>simp [this]
section
variable {P:Program}{cfg:Cfg}{ops:Array Oper}{st st1:St}{d:Nat}
theorem Agr.chain (A:Agr d st st1)(W:WF st)(hg:st.g d=false):∀(n s:Nat) (p:Bool),s≠d→Vc.chain st1 n s p=Vc.chain st n s p
 | 0,_,_,_=>rfl
 | n+1,s,p,hs=>by
  simp only [Vc.chain]
  rw [A.t s hs]
  cases hx:st.t s with
  | s y=>rfl
  | gd s' p' y=>
   have:s'≠d:=by intro e;have:=W s s' p' y hx;rw [e,hg] at this;simp at this
   simp only
   rw [A.chain W hg n s' p' this]
theorem Agr.condP (A:Agr d st st1)(W:WF st)(hg:st.g d=false):∀(n s:Nat) (p:Bool),s≠d→Vc.condP st1 n s p=Vc.condP st n s p
 | 0,_,_,_=>rfl
 | n+1,s,p,hs=>by
  simp only [Vc.condP]
  rw [A.t s hs]
  cases hx:st.t s with
  | s y=>
   cases y with
   | t z=>cases z with
    | one u=>cases u with
     | v v=>cases v<;>rfl
     | _=>rfl
    | _=>rfl
   | _=>rfl
  | gd s' p' y=>
   have:s'≠d:=by intro e;have:=W s s' p' y hx;rw [e,hg] at this;simp at this
   have ih:=A.condP W hg n s' p' this
   cases y with
   | t z=>cases z with
    | one u=>cases u with
     | v v=>cases v<;>simp only [ih]
     | _=>rfl
    | _=>rfl
   | _=>rfl
theorem Agr.okGd (A:Agr d st st1)(W:WF st)(hg:st.g d=false):∀(n s:Nat),s≠d→Vc.okGd st1 n s=Vc.okGd st n s
 | 0,_,_=>rfl
 | n+1,s,hs=>by
  simp only [Vc.okGd]
  rw [A.t s hs]
  cases hx:st.t s with
  | s y=>
   cases y with
   | t z=>cases z with
    | one u=>cases u with
     | v v=>cases v<;>rfl
     | _=>rfl
    | _=>rfl
   | _=>rfl
  | gd s' p' y=>
   have:s'≠d:=by intro e;have:=W s s' p' y hx;rw [e,hg] at this;simp at this
   have ih:=A.okGd W hg n s' this
   cases y with
   | t z=>cases z with
    | one u=>cases u with
     | v v=>cases v<;>simp only [ih]
     | _=>rfl
    | _=>rfl
   | _=>rfl
def gdO (ops:Array Oper)(o:Oper):Option (Option (Nat × Bool)):=
 match o.guard with
 | none=>some none
 | some (j,p)=>((ops[j]?).bind (·.dst)).map fun s=>some (s,p)
def okG (st:St):Option (Nat × Bool)→Prop
 | none=>True
 | some (s,_)=>okGd st 8 s=true
def chG (st:St):Option (Nat × Bool)→List (Nat × Bool)
 | none=>[]
 | some (s,p)=>chain st 8 s p
def coG (st:St):Option (Nat × Bool)→Prop
 | none=>True
 | some (s,p)=>condP st 8 s p
def GG (st:St):Option (Nat × Bool)→Prop→Prop
 | none,p=>p
 | some (s,q),p=>condP st 8 s q→p
theorem QlQ (st:St)(g:Option (Nat × Bool))(p q:Prop)(h:p→q):GG st g p→GG st g q:=by
 cases g with
 | none=>exact h
 | some s=>exact fun f c=>h (f c)
theorem Agr.okG (A:Agr d st st1)(W:WF st)(hg:st.g d=false){g:Option (Nat × Bool)}(hs:∀ s p,g=some (s,p)→s≠d):Vc.okG st1 g=Vc.okG st g:=by
 cases g with
 | none=>rfl
 | some q=>simp only [Vc.okG];rw [A.okGd W hg 8 q.1 (hs q.1 q.2 rfl)]
theorem Agr.chG (A:Agr d st st1)(W:WF st)(hg:st.g d=false){g:Option (Nat × Bool)}(hs:∀ s p,g=some (s,p)→s≠d):Vc.chG st1 g=Vc.chG st g:=by
 cases g with
 | none=>rfl
 | some q=>simp only [Vc.chG];rw [A.chain W hg 8 q.1 q.2 (hs q.1 q.2 rfl)]
theorem Agr.coG (A:Agr d st st1)(W:WF st)(hg:st.g d=false){g:Option (Nat × Bool)}(hs:∀ s p,g=some (s,p)→s≠d):Vc.coG st1 g=Vc.coG st g:=by
 cases g with
 | none=>rfl
 | some q=>simp only [Vc.coG];rw [A.condP W hg 8 q.1 q.2 (hs q.1 q.2 rfl)]
theorem Agr.GG (A:Agr d st st1)(W:WF st)(hg:st.g d=false){g:Option (Nat × Bool)}(hs:∀ s p,g=some (s,p)→s≠d):Vc.GG st1 g=Vc.GG st g:=by
 cases g with
 | none=>rfl
 | some q=>funext p;simp only [Vc.GG];rw [A.condP W hg 8 q.1 q.2 (hs q.1 q.2 rfl)]
def VS (P:Program)(g:Option (Nat × Bool))(o:Oper)(st:St)(h:Hp)(sv:SV):Prop:=(QW P o (chG st g) st).sem P (GG st g) h (fun y=>y=sv)
theorem QaH {o:Oper}{h:Hp}{K:St→Hp→Prop}(hE:isE P o.op=false):ZV P cfg ops o st h K↔∃ g,gdO ops o=some g∧okG st g∧XY st o.dst g∧∃ sv,VS P g o st h sv∧K (Qv st o.dst g sv) h:=by
 unfold ZV gdO
 cases hg:o.guard with
 | none=>
  simp only [hE,cond_false,Option.some.injEq,exists_eq_left',okG,true_and]
  constructor
  ·intro H
   obtain⟨sv,h1,h2⟩:=VD.pick (show (QW P o [] st).sem P (fun p=>p) h _ from H)
   rw [YJ] at h2
   exact⟨h2.1,sv,h1,h2.2⟩
  ·rintro⟨h1,sv,h2,h3⟩
   exact VD.mono (fun _ b o hb=>hb) (fun p q f=>f) (fun x hx=>by rw [hx];exact YJ.2 ⟨h1,h3⟩) h2
 | some q=>
  obtain⟨j,p⟩:=q
  simp only
  cases hj:(ops[j]?).bind (·.dst) with
  | none=>simp
  | some s=>
   simp only [Option.map_some,Option.some.injEq,exists_eq_left',okG,hE,cond_false]
   cases hok:okGd st 8 s with
   | false=>simp
   | true=>
    simp only [cond_true,true_and]
    constructor
    ·intro H
     obtain⟨sv,h1,h2⟩:=VD.pick (show (QW P o (chain st 8 s p) st).sem P (fun q=>condP st 8 s p→q) h _ from H)
     rw [YJ] at h2
     exact⟨h2.1,sv,h1,h2.2⟩
    ·rintro⟨h1,sv,h2,h3⟩
     exact VD.mono (fun _ b o hb=>hb) (fun p q f g c=>f (g c)) (fun x hx=>by rw [hx];exact YJ.2 ⟨h1,h3⟩) h2
theorem Qdx {o:Oper}{st:St}{h:Hp}{ty:TypeId}{cs:List TV}{K K':SV→List Box→Hp→Prop}(hk:∀ sv b h',QJ st.b b→K sv b h'→K' sv b h')(H:newBox cfg o st h ty cs K):newBox cfg o st h ty cs K':=by
 unfold newBox at *
 rcases Bool.eq_false_or_eq_true (Ze cs) with h1|h1
 ·rw [h1] at H ⊢
  simp only [cond_true] at *
  rcases Bool.eq_false_or_eq_true (QfF cfg o.dst) with h2|h2
  ·rw [h2] at H ⊢;simp only [cond_true] at *;exact fun b hb=>hk _ _ _ (QJ.refl _) (H b hb)
  ·rw [h2] at H ⊢
   simp only [cond_false] at *
   exact hk _ _ _ (QdH _) H
 ·rw [h1] at H;exact H.elim
theorem Z3 {s:Sh}{v:Value}{K K':SV→Prop}(hk:∀ x,K x→K' x)(H:res s v K):res s v K':=GV (fun x hx=>⟨hx.1,hk _ hx.2⟩) H
theorem QbS {o:Oper}{st:St}{ch:List (Nat × Bool)}{h:Hp}{K K':SV→List Box→Hp→Prop}(hk:∀ sv b h',QJ st.b b→K sv b h'→K' sv b h')(H:vcE P cfg o ch st h K):vcE P cfg o ch st h K':=by
 obtain⟨dst,op,ty,pos,af,gd⟩:=o
 have same:∀ sv h',K sv st.b h'→K' sv st.b h':=fun sv h'=>hk sv st.b h' (QJ.refl _)
 have hsem:∀ m sh,(Qm P m h fun v h'=>res sh v fun x=>K x st.b h')→Qm P m h fun v h'=>res sh v fun x=>K' x st.b h':=by
  intro m sh H w hs
  obtain⟨v,w',h',h1,h2,h3,h4⟩:=H w hs
  exact⟨v,w',h',h1,h2,h3,Z3 (fun x hx=>same _ _ hx) h4⟩
 have hcall:∀ f vs sh,(Qa P f vs h fun v h'=>res sh v fun x=>K x st.b h')→Qa P f vs h fun v h'=>res sh v fun x=>K' x st.b h':=by
  intro f vs sh H w hs
  exact(H w hs).mono fun e w' ⟨v,h',h1,h2,h3,h4⟩=>⟨v,h',h1,h2,h3,Z3 (fun x hx=>same _ _ hx) h4⟩
 cases op with
 | alloc T=>
  simp only [vcE] at *
  split at H
  ·exact Qdx hk H
  ·exact H.elim
 | box T x=>
  simp only [vcE] at *
  split at H
  ·exact Qdx hk H
  ·exact H.elim
 | buildSlice T n parts=>
  simp only [vcE] at *
  rcases hu:P.underlying T with _|d'
  ·rw [hu] at H;exact H.elim
  ·rcases hp:partsL st ch parts.toList with _|ps
   ·rw [hu,hp] at H;cases d'<;>exact H.elim
   ·rw [hu,hp] at H
    cases d' with
    | slice e=>
     simp only at *
     rcases hz:XG P e with _|z
     ·rw [hz] at H;exact H.elim
     ·rw [hz] at H
      simp only at *
      rcases Bool.eq_false_or_eq_true (Nat.ble 1 (szT P e)&&Nat.beq z.length (szT P e)&&Nat.ble (n*szT P e) 4096) with hc|hc
      ·rw [hc] at H ⊢
       simp only [cond_true] at *
       rcases hf:Nf (fun i=>some (i*szT P e,szT P e)) ((List.replicate n z).flatten) ps with _|cs
       ·rw [hf] at H;exact H.elim
       ·rw [hf] at H
        simp only at *
        rcases Bool.eq_false_or_eq_true (Ze cs) with ho|ho
        ·rw [ho] at H ⊢;exact fun b hb=>same _ _ (H b hb)
        ·rw [ho] at H;exact H.elim
      ·rw [hc] at H;exact H.elim
    | _=>exact H.elim
 | store T x y=>
  simp only [vcE] at *
  split at H
  ·rename_i i o' y' e1 e2
   rcases hb:st.b[i]? with _|bx
   ·rw [hb] at H;exact H.elim
   ·rw [hb] at H
    simp only at *
    rcases Bool.eq_false_or_eq_true (Nat.ble 1 (szT P T)&&Nat.beq y'.cells.length (szT P T)&&Nat.ble (o'+y'.cells.length) bx.c.length&&Ze y'.cells) with hc|hc
    ·rw [hc] at H ⊢;exact hk _ _ _ (Qdd hb _) H
    ·rw [hc] at H;exact H.elim
  ·rename_i b o' y' e1 e2
   rcases Bool.eq_false_or_eq_true (Nat.ble 1 (szT P T)&&Nat.beq y'.cells.length (szT P T)&&Ze y'.cells) with hc|hc
   ·rw [hc] at H ⊢
    simp only [cond_true] at *
    obtain⟨c,e,h1,h2,h3⟩:=H
    exact⟨c,e,h1,h2,same _ _ h3⟩
   ·rw [hc] at H;exact H.elim
  ·exact H.elim
 | call c=>
  obtain⟨callee,args,ts⟩:=c
  cases callee with
  | invoke r m=>exact H.elim
  | value f=>
   cases f with
   | func g=>
    simp only [vcE] at *
    split at H
    ·split at H
     ·exact hcall _ _ _ H
     ·intro w hs
      obtain⟨v,w',h',h1,h2,h3,h4⟩:=H w hs
      exact⟨v,w',h',h1,h2,h3,Z3 (fun x hx=>same _ _ hx) h4⟩
     ·exact H.elim
    ·exact H.elim
   | tmp t=>
    simp only [vcE] at *
    split at H
    ·obtain⟨f,pre,post,h1,h2,h3⟩:=H
     exact⟨f,pre,post,h1,h2,hcall _ _ _ h3⟩
    ·exact H.elim
   | _=>exact H.elim
  | builtin b=>
   simp only [vcE] at *
   split at H
   ·split at H
    ·exact hsem _ _ H
    ·exact hsem _ _ H
    ·exact hsem _ _ H
    ·exact hsem _ _ H
    ·exact H.elim
   ·exact H.elim
 | makeMap T r=>
  cases r with
  | some r=>exact H.elim
  | none=>exact hsem _ _ H
 | convert s t x=>
  simp only [vcE] at *
  split at H
  ·exact hsem _ _ H
  ·exact H.elim
 | makeSlice T l c=>
  simp only [vcE] at *
  split at H
  ·exact hsem _ _ H
  ·exact H.elim
 | mapUpdate T m k x=>
  simp only [vcE] at *
  split at H
  ·intro w hs
   obtain⟨w',h',h1,h2,h3,h4⟩:=H w hs
   exact⟨w',h',h1,h2,h3,same _ _ h4⟩
  ·exact H.elim
 | insert T m k x=>
  simp only [vcE] at *
  split at H
  ·intro w hs
   obtain⟨w',h',h1,h2,h3,h4⟩:=H w hs
   exact⟨w',h',h1,h2,h3,same _ _ h4⟩
  ·exact H.elim
 | range T x=>
  simp only [vcE] at *
  split at H
  ·intro w hs
   obtain⟨v,w',h',h1,h2,h3,h4⟩:=H w hs
   exact⟨v,w',h',h1,h2,h3,same _ _ h4⟩
  ·exact H.elim
 | next it s=>
  simp only [vcE] at *
  split at H
  ·exact hsem _ _ H
  ·exact H.elim
 | _=>exact H.elim
theorem QmT {o:Oper}{st:St}{ch:List (Nat × Bool)}{h:Hp}{K:SV→List Box→Hp→Prop}{J:SV→Hp→Prop}(hc:JR o.op=true)(hk:∀ sv h',K sv st.b h'→J sv h')(H:vcE P cfg o ch st h K):vcE P cfg o ch st h fun sv _ h'=>J sv h':=by
 obtain⟨dst,op,ty,pos,af,gd⟩:=o
 have hR:∀ v h',(res (shp P ty) v fun x=>K x st.b h')→res (shp P ty) v fun x=>J x h':=fun v h' hr=>Z3 (fun x=>hk x h') hr
 have hsem:∀ m,(Qm P m h fun v h'=>res (shp P ty) v fun x=>K x st.b h')→Qm P m h fun v h'=>res (shp P ty) v fun x=>J x h':=
  fun m Hm w hs=>let ⟨v,w',h',h1,h2,h3,h4⟩:=Hm w hs;⟨v,w',h',h1,h2,h3,hR _ _ h4⟩
 have hcall:∀ f vs,(Qa P f vs h fun v h'=>res (shp P ty) v fun x=>K x st.b h')→Qa P f vs h fun v h'=>res (shp P ty) v fun x=>J x h':=
  fun f vs Hm w hs=>(Hm w hs).mono fun e w' ⟨v,h',h1,h2,h3,h4⟩=>⟨v,h',h1,h2,h3,hR _ _ h4⟩
 cases op with
 | call c=>
  obtain⟨callee,args,ts⟩:=c
  cases callee with
  | builtin b=>
   simp only [Vc.vcE] at H ⊢
   split at H
   ·cases b<;>first|exact H.elim|exact hsem _ H
   ·exact H.elim
  | value f=>
   cases f with
   | func g=>
    simp only [Vc.vcE] at H ⊢
    split at H
    ·rename_i vs hvs
     cases hb:(P.funcs[g]?).map (·.body.isSome) with
     | none=>rw [hb] at H;exact H.elim
     | some q=>
      rw [hb] at H
      cases q with
      | true=>exact hcall _ _ H
      | false=>exact fun w hs=>let ⟨v,w',h',h1,h2,h3,h4⟩:=H w hs;⟨v,w',h',h1,h2,h3,hR _ _ h4⟩
    ·exact H.elim
   | tmp t=>
    simp only [Vc.vcE] at H ⊢
    split at H
    ·obtain⟨f,pre,post,e,hfn,hcl⟩:=H
     exact⟨f,pre,post,e,hfn,hcall _ _ hcl⟩
    ·exact H.elim
   | _=>exact H.elim
  | invoke r m=>exact H.elim
 | _=>cases hc
def pgO (o:Oper)(g:Option (Nat × Bool)):Option (Nat × Bool):=bif JR o.op then g else none
theorem Qrj (o:Oper)(g:Option (Nat × Bool)):pgO o g=none∨pgO o g=g:=by unfold pgO;cases JR o.op<;>simp
theorem Qim {o:Oper}{h:Hp}{K:St→Hp→Prop}(hE:isE P o.op=true):ZV P cfg ops o st h K↔∃ g,gdO ops o=some g∧okG st g ∧
  (coG st g→vcE P cfg o (chG st g) st h fun sv b h'=>XY ⟨st.n,st.t,st.g,b⟩ o.dst (pgO o g)∧K (Qv ⟨st.n,st.t,st.g,b⟩ o.dst (pgO o g) sv) h') ∧
  (¬ coG st g→XY st o.dst g∧K (Qv st o.dst g (dfl (shp P o.type))) h):=by
 unfold ZV gdO
 cases hg:o.guard with
 | none=>
  have e0:pgO o none=none:=by unfold pgO;cases JR o.op<;>rfl
  simp only [hE,cond_true,Option.some.injEq,exists_eq_left',okG,coG,chG,true_and,not_true_eq_false,false_implies,true_implies,and_true,YJ,e0]
 | some q=>
  obtain⟨j,p⟩:=q
  simp only
  cases hj:(ops[j]?).bind (·.dst) with
  | none=>simp
  | some s=>
   simp only [Option.map_some,Option.some.injEq,exists_eq_left',okG,coG,chG,hE,cond_true]
   cases hok:okGd st 8 s with
   | false=>simp
   | true=>
    cases hC:JR o.op with
    | false=>
     have e0:pgO o (some (s,p))=none:=by unfold pgO;rw [hC];rfl
     simp only [cond_true,cond_false,true_and,YJ,e0]
    | true=>
     have e0:pgO o (some (s,p))=some (s,p):=by unfold pgO;rw [hC];rfl
     simp only [cond_true,true_and,e0]
     constructor
     ·rintro⟨J,H1,H2,H3⟩
      exact⟨fun hc=>QjL hC (fun sv h' q1 q2=>YJ.1 (Qja (H3 h') q2 q1)) (H1 hc),fun hc=>YJ.1 (Qja (H3 h) (QoU _) (H2 hc))⟩
     ·rintro⟨H1,H2⟩
      exact⟨fun sv h'=>XY st o.dst (some (s,p))∧K (Qv st o.dst (some (s,p)) sv) h',fun hc=>QmT hC (fun sv h' q1=>q1) (H1 hc),fun hc=>H2 hc,fun h'=>QpJ fun x hx=>YJ.2 hx⟩
theorem VJ {o:Oper}{g:Option (Nat × Bool)}(hg:gdO ops o=some g){s:Nat}{p:Bool}(e:g=some (s,p)):s ∈ MW ops o:=by
 subst e
 unfold gdO at hg
 unfold MW
 cases hq:o.guard with
 | none=>rw [hq] at hg;simp at hg
 | some q=>
  rw [hq] at hg
  simp only [Option.map_eq_some_iff] at hg
  obtain⟨s',hs,rfl,rfl⟩:=hg
  simp [hs]
theorem Yj {o:Oper}{x:Operand}{t:Nat}(hx:x ∈ o.op.operands.toList)(e:x=.tmp t):t ∈ MW ops o:=by
 subst e
 unfold MW
 rw [List.mem_append]
 right
 rw [List.mem_filterMap]
 exact⟨_,hx,rfl⟩
structure XL (ops:Array Oper)(x y:Oper):Prop where
 xy:∀ d,x.dst=some d→d ∉ MW ops y
 yx:∀ d,y.dst=some d→d ∉ MW ops x
 ne:∀ d e,x.dst=some d→y.dst=some e→d≠e
theorem QjF {x y:Oper}(h:Qk5 ops x y=true):XL ops x y:=by
 simp only [Qk5,Bool.and_eq_true] at h
 obtain⟨⟨h1,h2⟩,h3⟩:=h
 refine⟨fun d e hm=>?_,fun d e hm=>?_,fun d e hd he=>?_⟩
 ·rw [e] at h1;simp only [Qi7] at h1;rw [Xj.2 hm] at h1;simp at h1
 ·rw [e] at h2;simp only [Qi7] at h2;rw [Xj.2 hm] at h2;simp at h2
 ·rw [hd,he] at h3
  simp only [QqE,Bool.not_eq_true'] at h3
  exact Nat.ne_of_beq_eq_false h3
theorem Nh {st:St}{dst:Option Nat}{g:Option (Nat × Bool)}{x:SV}:dst=none∧Qv st dst g x=st∨∃ d,dst=some d∧Agr d st (Qv st dst g x):=by
 cases dst with
 | none=>exact .inl ⟨rfl,rfl⟩
 | some d=>exact .inr ⟨d,rfl,Qn5⟩
theorem QiW {x y:Oper}(A:XL ops x y)(W:WF st){gx gy:Option (Nat × Bool)}(hy:gdO ops y=some gy)(hc:XY st x.dst gx){v:SV}{h:Hp} :
  (okG (Qv st x.dst gx v) gy↔okG st gy)∧(∀ u,VS P gy y (Qv st x.dst gx v) h u↔VS P gy y st h u)∧(∀ i u fl,Yn P y (chG (Qv st x.dst gx v) gy) (GG (Qv st x.dst gx v) gy) (Qv st x.dst gx v) i u fl=Yn P y (chG st gy) (GG st gy) st i u fl)∧coG (Qv st x.dst gx v) gy=coG st gy∧chG (Qv st x.dst gx v) gy=chG st gy:=by
 rcases Nh (st:=st) (dst:=x.dst) (g:=gx) (x:=v) with ⟨_,e⟩|⟨d,hd,AG⟩
 ·rw [e];exact⟨Iff.rfl,fun _=>Iff.rfl,fun _ _ _=>rfl,rfl,rfl⟩
 ·have hg:=(hc d hd).2.1
  have hs:∀ s p,gy=some (s,p)→s≠d:=fun s p e he=>A.xy d hd (he▸VJ hy e)
  have ho:∀ z ∈ y.op.operands.toList,z≠.tmp d:=fun z hz he=>A.xy d hd (Yj hz he)
  refine⟨by rw [AG.okG W hg hs],fun u=>?_,fun i u fl=>?_,AG.coG W hg hs,AG.chG W hg hs⟩
  ·unfold VS;rw [AG.chG W hg hs,AG.vd ho,AG.GG W hg hs]
  ·unfold Yn;rw [AG.chG W hg hs,AG.vd ho,AG.boxR ho,AG.GG W hg hs]
theorem Vm {x y:Oper}(A:XL ops x y){gx gy:Option (Nat × Bool)}(hx:gdO ops x=some gx)(hy:gdO ops y=some gy){v:SV}(h1:XY st x.dst gx):XY (Qv st x.dst gx v) y.dst gy↔XY st y.dst gy:=by
 constructor
 ·intro h d hd
  obtain⟨a,b,c⟩:=h d hd
  cases hxd:x.dst with
  | none=>rw [hxd] at a b;exact⟨a,b,c⟩
  | some e=>
   rw [hxd] at a b
   cases gx with
   | none=>exact⟨a,b,c⟩
   | some q=>
    obtain⟨s,p⟩:=q
    simp only [Qv] at a b
    refine⟨a,?_,c⟩
    cases hq:Nat.beq d s with
    | true=>rw [hq] at b;simp at b
    | false=>rw [hq] at b;exact b
 ·intro h d hd
  obtain⟨a,b,c⟩:=h d hd
  cases hxd:x.dst with
  | none=>exact⟨a,b,c⟩
  | some e=>
   cases gx with
   | none=>exact⟨a,b,c⟩
   | some q=>
    obtain⟨s,p⟩:=q
    refine⟨a,?_,c⟩
    have:d≠s:=fun he=>A.yx d hd (he▸VJ hx rfl)
    simp only [Qv,Qfw this,cond_false]
    exact b
theorem Vh {x y:Oper}(A:XL ops x y){gx gy:Option (Nat × Bool)}{u v:SV}:Qv (Qv st x.dst gx u) y.dst gy v=Qv (Qv st y.dst gy v) x.dst gx u:=by
 cases hx:x.dst with
 | none=>rfl
 | some d=>
  cases hy:y.dst with
  | none=>rfl
  | some e=>
   have hne:=A.ne d e hx hy
   have ht:∀(a b:Sl) (i:Nat),(bif Nat.beq i e then a else bif Nat.beq i d then b else st.t i)=bif Nat.beq i d then b else bif Nat.beq i e then a else st.t i:=by
    intro a b i
    cases h1:Nat.beq i e with
    | true=>
     have:=Nat.eq_of_beq_eq_true h1
     have h2:Nat.beq i d=false:=Qfw (fun h=>hne (h.symm.trans this))
     simp [h2]
    | false=>simp
   have hgg:∀(s s' k:Nat),(bif Nat.beq k s then true else bif Nat.beq k s' then true else st.g k)=bif Nat.beq k s' then true else bif Nat.beq k s then true else st.g k:=by
    intro s s' k
    cases Nat.beq k s<;>cases Nat.beq k s'<;>rfl
   cases gx with
   | none=>cases gy with
    | none=>simp only [Qv];congr 1;funext i;exact ht _ _ i
    | some q=>simp only [Qv];congr 1;funext i;exact ht _ _ i
   | some q=>cases gy with
    | none=>simp only [Qv];congr 1;funext i;exact ht _ _ i
    | some q'=>simp only [Qv];(congr 1;(funext i;exact ht _ _ i);(funext k;exact hgg _ _ k))
theorem Hp.le_set' {h:Hp}{b:Nat}(hb:h b=none)(ob:Obj):h.le (h.set b ob):=fun i p hp=>by
 have:i≠b:=fun e=>by rw [e,hb] at hp;cases hp
 simp [Hp.set,this,hp]
theorem Us {st:St}{dst:Option Nat}{g:Option (Nat × Bool)}{x:SV}:(Qv st dst g x).b=st.b:=by
 cases dst with
 | none=>rfl
 | some d=>cases g<;>rfl
theorem Qey {st:St}{dst:Option Nat}{g:Option (Nat × Bool)}{x:SV}{b:List Box}:(⟨(Qv st dst g x).n,(Qv st dst g x).t,(Qv st dst g x).g,b⟩:St)=Qv ⟨st.n,st.t,st.g,b⟩ dst g x:=by
 cases dst with
 | none=>rfl
 | some d=>cases g<;>rfl
theorem X8 {o:Oper}{i:Nat}{h:Hp}{fl:List Fg}{K:List Fg→St→Prop}:NQ P ops i o st h fl K↔∃ g,gdO ops o=some g∧okG st g∧XY st o.dst g∧∃ sv,VS P g o st h sv∧K (Yn P o (chG st g) (GG st g) st i sv fl) (Qv st o.dst g sv):=by
 unfold NQ gdO
 cases hg:o.guard with
 | none=>
  simp only [Option.some.injEq,exists_eq_left',okG,true_and]
  constructor
  ·intro H
   obtain⟨sv,h1,h2⟩:=VD.pick (show (QW P o [] st).sem P (fun p=>p) h _ from H)
   rw [YJ] at h2
   exact⟨h2.1,sv,h1,h2.2⟩
  ·rintro⟨h1,sv,h2,h3⟩
   exact VD.mono (fun _ b o hb=>hb) (fun p q f=>f) (fun x hx=>by rw [hx];exact YJ.2 ⟨h1,h3⟩) h2
 | some q=>
  obtain⟨j,p⟩:=q
  simp only
  cases hj:(ops[j]?).bind (·.dst) with
  | none=>simp
  | some s=>
   simp only [Option.map_some,Option.some.injEq,exists_eq_left',okG]
   cases hok:okGd st 8 s with
   | false=>simp
   | true=>
    simp only [cond_true,true_and]
    constructor
    ·intro H
     obtain⟨sv,h1,h2⟩:=VD.pick (show (QW P o (chain st 8 s p) st).sem P (fun q=>condP st 8 s p→q) h _ from H)
     rw [YJ] at h2
     exact⟨h2.1,sv,h1,h2.2⟩
    ·rintro⟨h1,sv,h2,h3⟩
     exact VD.mono (fun _ b o hb=>hb) (fun p q f g c=>f (g c)) (fun x hx=>by rw [hx];exact YJ.2 ⟨h1,h3⟩) h2
theorem Qq6 {j i:Oper}{nj:Nat}(A:XL ops j i)(W:WF st)(hi:isE P i.op=false){h:Hp}{fl:List Fg}{F:List Fg→St→Prop}
  (H:NQ P ops nj j st h fl fun fl' s=>ZV P cfg ops i s h fun s2 _=>F fl' s2):ZV P cfg ops i st h fun s _=>NQ P ops nj j s h fl fun fl' s2=>F fl' s2:=by
 obtain⟨gj,hgj,okj,pj,svj,vj,H⟩:=X8.1 H
 obtain⟨gi,hgi,oki,pi,svi,vi,H⟩:=(QaH hi).1 H
 obtain⟨e1,e2,_,_,_⟩:=QiW (P:=P) A W hgi pj (v:=svj) (h:=h)
 have pi':=(Vm A hgj hgi pj).1 pi
 have A':XL ops i j:=⟨A.yx,A.xy,fun d e hd he=>(A.ne e d he hd).symm⟩
 obtain⟨f1,f2,f3,_,_⟩:=QiW (P:=P) A' W hgj pi' (v:=svi) (h:=h)
 refine(QaH hi).2 ⟨gi,hgi,e1.1 oki,pi',svi,(e2 _).1 vi,?_⟩
 refine X8.2 ⟨gj,hgj,f1.2 okj,(Vm A' hgi hgj pi').2 pj,svj,(f2 _).2 vj,?_⟩
 rw [Vh A',f3]
 exact H
theorem VD.again_sem {G:Prop→Prop}{h h':Hp}{u:SV}{v:VD}(H:v.sem P G h fun y=>y=u)(ha:v.hr=true→v.again P G h' u):v.sem P G h' fun y=>y=u:=by
 cases v with
 | rd m s=>exact GV (fun x hx=>⟨by have:=ha rfl;rw [hx.2];exact this,hx.2⟩) H
 | ldA b o n l=>exact Xp (fun x hx=>⟨by have:=ha rfl;rw [←hx.2] at this;exact this,hx.2⟩) H
 | ld1 b o s=>exact Xm (fun x hx=>⟨by have:=ha rfl;rw [←hx.2] at this;exact this,hx.2⟩) H
 | _=>exact H
theorem Qqg {o:Oper}{g:Option (Nat × Bool)}{h h':Hp}{u:SV}{n:Nat}{t:Nat→Sl}{gg:Nat→Bool}{b b':List Box}
  (hb:∀ k x,boxR o ⟨n,t,gg,b⟩ (chG ⟨n,t,gg,b⟩ g)=some k→b[k]?=some x→b'[k]?=some x)
  (hh:(QW P o (chG ⟨n,t,gg,b⟩ g) ⟨n,t,gg,b⟩).hr=true→(QW P o (chG ⟨n,t,gg,b⟩ g) ⟨n,t,gg,b⟩).again P (GG ⟨n,t,gg,b⟩ g) h' u) (H:VS P g o ⟨n,t,gg,b⟩ h u) :
  VS P g o ⟨n,t,gg,b'⟩ h' u∧∀ i sv fl,Yn P o (chG ⟨n,t,gg,b'⟩ g) (GG ⟨n,t,gg,b'⟩ g) ⟨n,t,gg,b'⟩ i sv fl=Yn P o (chG ⟨n,t,gg,b⟩ g) (GG ⟨n,t,gg,b⟩ g) ⟨n,t,gg,b⟩ i sv fl:=by
 have ec:∀(k s:Nat) (p:Bool),chain ⟨n,t,gg,b'⟩ k s p=chain ⟨n,t,gg,b⟩ k s p:=by
  intro k
  induction k with
  | zero=>intro s p;rfl
  | succ k ih=>intro s p;simp only [chain];cases t s<;>simp [ih]
 have ecG:chG ⟨n,t,gg,b'⟩ g=chG ⟨n,t,gg,b⟩ g:=by cases g<;>simp [chG,ec]
 have eco:∀(k s:Nat) (p:Bool),condP ⟨n,t,gg,b'⟩ k s p=condP ⟨n,t,gg,b⟩ k s p:=by
  intro k
  induction k with
  | zero=>intro s p;rfl
  | succ k ih=>intro s p;simp only [condP];split<;>first|rfl|rw [ih]
 have eGG:GG ⟨n,t,gg,b'⟩ g=GG ⟨n,t,gg,b⟩ g:=by cases g<;>funext p<;>simp [GG,eco]
 have hev:∀ ch x,(⟨n,t,gg,b'⟩:St).ev ch x=(⟨n,t,gg,b⟩:St).ev ch x:=fun ch x=>rfl
 have ebx:∀ ch,boxR o ⟨n,t,gg,b'⟩ ch=boxR o ⟨n,t,gg,b⟩ ch:=fun ch=>rfl
 have evd:QW P o (chG ⟨n,t,gg,b⟩ g) ⟨n,t,gg,b'⟩=QW P o (chG ⟨n,t,gg,b⟩ g) ⟨n,t,gg,b⟩:=by
  have hparts:∀ ch l,partsL ⟨n,t,gg,b'⟩ ch l=partsL ⟨n,t,gg,b⟩ ch l:=by
   intro ch l
   induction l with
   | nil=>rfl
   | cons q l ih=>obtain⟨i,x⟩:=q;simp only [partsL,hev,ih]
  have hevs:∀ ch l,(⟨n,t,gg,b'⟩:St).evs ch l=(⟨n,t,gg,b⟩:St).evs ch l:=by
   intro ch l
   induction l with
   | nil=>rfl
   | cons q l ih=>simp only [St.evs,hev,ih]
  obtain⟨dst,op,ty,pos,af,gd⟩:=o
  cases op with
  | load T x=>
   unfold VS at H
   simp only [boxR] at hb
   simp only [QW] at H ⊢
   rw [hev]
   split
   ·rename_i i o' e1
    rw [e1] at H hb
    simp only at H
    rcases hbi:b[i]? with _|bx
    ·rw [hbi] at H;exact H.elim
    ·rw [hb i bx rfl hbi]
   ·rfl
   ·rfl
  | build T ps=>simp only [QW,hparts]
  | makeFunc fn l1 l2=>simp only [QW,hevs]
  | call c=>
   obtain⟨callee,args,ts⟩:=c
   cases callee with
   | builtin bb=>cases bb<;>first|rfl|simp only [QW,hevs]|simp only [QW,hev]
   | _=>rfl
  | _=>rfl
 refine⟨?_,fun i sv fl=>?_⟩
 ·unfold VS at *
  rw [ecG,eGG,evd]
  exact VD.again_sem H hh
 ·unfold Yn
  rw [ecG,eGG,evd,ebx]
theorem QpE {st:St}{b':List Box}{g:Option (Nat × Bool)}:okG ⟨st.n,st.t,st.g,b'⟩ g↔okG st g:=by
 have:∀ k s,okGd ⟨st.n,st.t,st.g,b'⟩ k s=okGd st k s:=by
  intro k
  induction k with
  | zero=>intro s;rfl
  | succ k ih=>intro s;simp only [okGd];split<;>simp_all
 cases g<;>simp [okG,this]
theorem Wc {m:Nat}{b b':List Box}{h':Hp}{K K':Prop}(hk:K→K'):∀{fl:List Fg},agn m b b' h' fl K→agn m b b' h' fl K'
 | [],H=>hk H
 | f :: l,H=>by
  unfold agn at *
  cases hb:bit m f.j with
  | true=>rw [hb] at H;exact Wc hk H
  | false=>
   rw [hb] at H
   simp only [cond_false] at *
   cases hs:XS b b' f.bx with
   | false=>rw [hs] at H;exact H.elim
   | true=>
    rw [hs] at H
    simp only [cond_true] at *
    cases hp:f.p with
    | none=>rw [hp] at H;exact Wc hk H
    | some p=>rw [hp] at H;exact⟨H.1,Wc hk H.2⟩
theorem QfD {m:Nat}{b b':List Box}{h':Hp}{K:Prop}:∀{fl:List Fg},agn m b b' h' fl K→K
 | [],H=>H
 | f :: l,H=>by
  unfold agn at H
  cases hb:bit m f.j with
  | true=>rw [hb] at H;exact QfD H
  | false=>
   rw [hb] at H
   simp only [cond_false] at H
   cases hs:XS b b' f.bx with
   | false=>rw [hs] at H;exact H.elim
   | true=>
    rw [hs] at H
    simp only [cond_true] at H
    cases hp:f.p with
    | none=>rw [hp] at H;exact QfD H
    | some p=>rw [hp] at H;exact QfD H.2
theorem Qo5 {m i:Nat}{b b':List Box}{h':Hp}{K:Prop}{fl:List Fg}{o:Oper}{ch:List (Nat × Bool)}{G:Prop→Prop}{sv:SV}(hb:bit m i=false)(H:agn m b b' h' (Yn P o ch G st i sv fl) K) :
  (∀ k,boxR o st ch=some k→XS b b' (some k)=true)∧((QW P o ch st).hr=true→(QW P o ch st).again P G h' sv)∧agn m b b' h' fl K:=by
 unfold Yn at H
 cases h1:(QW P o ch st).hr with
 | false=>
  cases h2:boxR o st ch with
  | none=>rw [h1,h2] at H;exact⟨fun k e=>by (cases e),fun e=>by (cases e),H⟩
  | some k=>
   rw [h1,h2] at H
   unfold agn at H
   simp only [hb,cond_false] at H
   cases hs:XS b b' (some k) with
   | false=>rw [hs] at H;exact H.elim
   | true=>rw [hs] at H;exact⟨fun k' e=>by (cases e;exact hs),fun e=>by (cases e),H⟩
 | true=>
  rw [h1] at H
  unfold agn at H
  simp only [hb,cond_false] at H
  cases hs:XS b b' (boxR o st ch) with
  | false=>rw [hs] at H;exact H.elim
  | true=>rw [hs] at H;exact⟨fun k' e=>by rw [←e];exact hs,fun _=>H.1,H.2⟩
theorem Qjp {b b':List Box}{k:Nat}{x:Box}(hs:XS b b' (some k)=true)(hm:QJ b b')(hx:b[k]?=some x):b'[k]?=some x:=by
 obtain⟨y,h1,_,_,h2⟩:=hm k x hx
 simp only [XS,hx,h1] at hs
 have:=Nat.eq_of_beq_eq_true hs
 rw [h1,h2 this.symm]
theorem Qru {j e:Oper}{nj:Nat}(A:XL ops e j)(W:WF st){gj ge:Option (Nat × Bool)}(hgj:gdO ops j=some gj)(okj:okG st gj)(pj:XY st j.dst gj){h h2:Hp}{svj:SV}(vj:VS P gj j st h svj)(hge:gdO ops e=some ge)
  {q:Option (Nat × Bool)} {b:List Box} {sv:SV} (hqq:q=none∨q=ge) (hbx:∀ k x,boxR j st (chG st gj)=some k→st.b[k]?=some x→b[k]?=some x)
  (hag:(QW P j (chG st gj) st).hr=true→(QW P j (chG st gj) st).again P (GG st gj) h2 svj) (hpe:XY st e.dst q) {fl:List Fg} {F:List Fg→St→Prop}
  (hF:F (Yn P j (chG st gj) (GG st gj) st nj svj fl) (Qv ⟨(Qv st j.dst gj svj).n,(Qv st j.dst gj svj).t,(Qv st j.dst gj svj).g,b⟩ e.dst q sv)) :
  NQ P ops nj j (Qv ⟨st.n,st.t,st.g,b⟩ e.dst q sv) h2 fl F:=by
 have hpe':XY ⟨st.n,st.t,st.g,b⟩ e.dst q:=hpe
 obtain⟨m1,m2⟩:=Qqg (P:=P) (g:=gj) (o:=j) (n:=st.n) (t:=st.t) (gg:=st.g) (b:=st.b) (b':=b) (h:=h) (h':=h2) hbx hag vj
 obtain⟨k1,k2,k3,_,_⟩:=QiW (P:=P) (st:=⟨st.n,st.t,st.g,b⟩) A W hgj hpe' (v:=sv) (h:=h2)
 refine X8.2 ⟨gj,hgj,k1.2 (QpE.2 okj),?_,svj,(k2 _).2 m1,?_⟩
 ·intro d hd
  obtain⟨a1,a2,a3⟩:=pj d hd
  refine⟨?_,?_,a3⟩
  ·cases hed:e.dst<;>(try cases q)<;>exact a1
  ·cases hed:e.dst with
   | none=>exact a2
   | some de=>
    cases q with
    | none=>exact a2
    | some sp=>
     obtain⟨s,p⟩:=sp
     have hq2:ge=some (s,p):=by
      rcases hqq with h9|h9
      ·cases h9
      ·exact h9.symm
     have hs:d≠s:=fun he=>A.yx d hd (he▸VJ hge hq2)
     have hb9:Nat.beq d s=false:=Qfw hs
     simp only [Qv]
     rw [hb9]
     exact a2
 ·rw [k3,m2]
  rw [Qey] at hF
  have hc:=Vh (st:=⟨st.n,st.t,st.g,b⟩) A (gx:=q) (gy:=gj) (u:=sv) (v:=svj)
  rw [hc]
  exact hF
theorem GX {j:Oper}{gj:Option (Nat × Bool)}{svj:SV}{e:Oper}{q:Option (Nat × Bool)}{b:List Box}(hp:XY ⟨(Qv st j.dst gj svj).n,(Qv st j.dst gj svj).t,(Qv st j.dst gj svj).g,b⟩ e.dst q):XY st e.dst q:=by
 intro d hd
 obtain⟨a1,a2,a3⟩:=hp d hd
 refine⟨?_,?_,a3⟩
 ·cases hjd:j.dst<;>rw [hjd] at a1<;>(try cases gj)<;>exact a1
 ·cases hjd:j.dst with
  | none=>rw [hjd] at a2;exact a2
  | some dj=>
   rw [hjd] at a2
   cases gj with
   | none=>exact a2
   | some q=>
    obtain⟨s,p⟩:=q
    simp only [Qv] at a2
    cases hq:Nat.beq d s with
    | true=>rw [hq] at a2;simp at a2
    | false=>rw [hq] at a2;exact a2
inductive AD where
 | no|pub (f:Nat→SV) (ob:Obj)|prv (sv:SV) (bx:Box)
def AD.sem (bs:List Box)(h:Hp)(K:SV→List Box→Hp→Prop):AD→Prop
 | .no=>False
 | .pub f ob=>∀ b,h b=none→K (f b) bs (h.set b ob)
 | .prv sv bx=>K sv (bs++[bx]) h
theorem Qkk {o:Oper}{st:St}{ty:TypeId}{cs:List TV}:∃ D:AD,∀ h K,newBox cfg o st h ty cs K↔D.sem st.b h K:=by
 unfold newBox
 cases Ze cs with
 | false=>exact⟨.no,fun h K=>Iff.rfl⟩
 | true=>
  cases QfF cfg o.dst with
  | false=>exact⟨.prv _ _,fun h K=>Iff.rfl⟩
  | true=>exact⟨.pub (fun b=>.t (.one (.hp b 0))) _,fun h K=>Iff.rfl⟩
theorem QqJ {o:Oper}{ch:List (Nat × Bool)}{st:St}(hA:isA o.op=true):∃ D:AD,∀ h K,vcE P cfg o ch st h K↔D.sem st.b h K:=by
 obtain⟨dst,op,ty,pos,af,gd⟩:=o
 cases op with
 | alloc T=>
  simp only [vcE]
  split
  ·exact Qkk
  ·exact⟨.no,fun h K=>Iff.rfl⟩
 | box T x=>
  simp only [vcE]
  split
  ·exact Qkk
  ·exact⟨.no,fun h K=>Iff.rfl⟩
 | buildSlice T n parts=>
  simp only [vcE]
  split
  ·rename_i e ps hu hp
   split
   ·rename_i z hz
    rcases Bool.eq_false_or_eq_true (Nat.ble 1 (szT P e)&&Nat.beq z.length (szT P e)&&Nat.ble (n*szT P e) 4096) with hc|hc
    ·rw [hc]
     simp only [cond_true]
     split
     ·rename_i cs _
      rcases Bool.eq_false_or_eq_true (Ze cs) with ho|ho
      ·rw [ho];exact⟨.pub (fun b=>.t (.one (.v (.slice (some ⟨b,0,none⟩) n n)))) _,fun h K=>Iff.rfl⟩
      ·rw [ho];exact⟨.no,fun h K=>Iff.rfl⟩
     ·exact⟨.no,fun h K=>Iff.rfl⟩
    ·rw [hc];exact⟨.no,fun h K=>Iff.rfl⟩
   ·exact⟨.no,fun h K=>Iff.rfl⟩
  ·exact⟨.no,fun h K=>Iff.rfl⟩
 | _=>cases hA
theorem QpC {o:Oper}{ch:List (Nat × Bool)}{st:St}{h:Hp}{K:SV→List Box→Hp→Prop}(hA:isA o.op=true)(H:vcE P cfg o ch st h K):vcE P cfg o ch st h fun sv b h2=>(h.le h2∧∀(k:Nat) (x:Box),st.b[k]?=some x→b[k]?=some x)∧K sv b h2:=by
 obtain⟨D,hD⟩:=QqJ (P:=P) (cfg:=cfg) (ch:=ch) (st:=st) hA
 rw [hD] at H ⊢
 cases D with
 | no=>exact H
 | pub f ob=>
  intro b hb
  refine⟨⟨fun i p hp=>?_,fun _ _ e=>e⟩,H b hb⟩
  have:i≠b:=fun e=>by rw [e,hb] at hp;cases hp
  simp [Hp.set,this,hp]
 | prv sv bx=>
  refine⟨⟨fun _ _ e=>e,fun k x e=>?_⟩,H⟩
  rw [List.getElem?_append_left (List.getElem?_eq_some_iff.1 e).1]
  exact e
theorem Qrv {j e:Oper}{nj:Nat}(A:XL ops j e)(W:WF st)(he:isE P e.op=true){h:Hp}{fl:List Fg}{X:List Fg→St→St→Hp→Prop}{F:List Fg→St→Hp→Prop}{Z:St→Hp→Prop→Prop}
  (hZ:∀ s h2 {p q:Prop},(p→q)→Z s h2 p→Z s h2 q)
  (hX:∀ gj svj s2 h2,(h.le h2∧(∀(k:Nat) (x:Box),st.b[k]?=some x→s2.b[k]?=some x)∨isA e.op=false∧QJ st.b s2.b)→X (Yn P j (chG st gj) (GG st gj) st nj svj fl) (Qv st j.dst gj svj) s2 h2→VS P gj j st h svj→(∀(k:Nat) (x:Box),boxR j st (chG st gj)=some k→st.b[k]?=some x→s2.b[k]?=some x) ∧
   ((QW P j (chG st gj) st).hr=true→(QW P j (chG st gj) st).again P (GG st gj) h2 svj)∧∀ s,s.b=s2.b→Z s h2 (F (Yn P j (chG st gj) (GG st gj) st nj svj fl) s2 h2))
  (H:NQ P ops nj j st h fl fun fl' s=>ZV P cfg ops e s h fun s2 h2=>X fl' s s2 h2) :
  ZV P cfg ops e st h fun s h2=>Z s h2 (NQ P ops nj j s h2 fl fun fl' s2=>F fl' s2 h2):=by
 obtain⟨gj,hgj,okj,pj,svj,vj,H⟩:=X8.1 H
 obtain⟨ge,hge,oke,H1,H2⟩:=(Qim he).1 H
 obtain⟨e1,_,_,e4,e5⟩:=QiW (P:=P) A W hge pj (v:=svj) (h:=h)
 have A':XL ops e j:=⟨A.yx,A.xy,fun d e' hd he=>(A.ne e' d he hd).symm⟩
 have hbb:(Qv st j.dst gj svj).b=st.b:=Us
 have fin:∀ q b h2 sv,(q=none∨q=ge)→(h.le h2∧(∀(k:Nat) (x:Box),st.b[k]?=some x→b[k]?=some x)∨isA e.op=false∧QJ st.b b)→XY st e.dst q →
   X (Yn P j (chG st gj) (GG st gj) st nj svj fl) (Qv st j.dst gj svj) (Qv ⟨(Qv st j.dst gj svj).n,(Qv st j.dst gj svj).t,(Qv st j.dst gj svj).g,b⟩ e.dst q sv) h2 →
   Z (Qv ⟨st.n,st.t,st.g,b⟩ e.dst q sv) h2 (NQ P ops nj j (Qv ⟨st.n,st.t,st.g,b⟩ e.dst q sv) h2 fl fun fl' s2=>F fl' s2 h2):=by
  intro q b h2 sv hqq hbx hpe hx
  have hb2:(Qv ⟨(Qv st j.dst gj svj).n,(Qv st j.dst gj svj).t,(Qv st j.dst gj svj).g,b⟩ e.dst q sv).b=b:=Us
  obtain⟨y1,y2,y3⟩:=hX gj svj _ h2 (by rw [hb2];exact hbx) hx vj
  rw [hb2] at y1
  exact hZ _ _ (fun hF=>Qru A' W hgj okj pj vj hge hqq y1 y2 hpe hF) (y3 _ (by rw [hb2];exact Us))
 refine(Qim he).2 ⟨ge,hge,e1.1 oke,fun hc=>?_,fun hc=>?_⟩
 ·have:=H1 (by rw [e4];exact hc)
  rw [e5] at this
  have this2:vcE P cfg e (chG st ge) (Qv st j.dst gj svj) h fun sv b h2=>(h.le h2∧(∀(k:Nat) (x:Box),st.b[k]?=some x→b[k]?=some x)∨isA e.op=false∧QJ st.b b) ∧
    (XY ⟨(Qv st j.dst gj svj).n,(Qv st j.dst gj svj).t,(Qv st j.dst gj svj).g,b⟩ e.dst (pgO e ge)∧X (Yn P j (chG st gj) (GG st gj) st nj svj fl) (Qv st j.dst gj svj) (Qv ⟨(Qv st j.dst gj svj).n,(Qv st j.dst gj svj).t,(Qv st j.dst gj svj).g,b⟩ e.dst (pgO e ge) sv) h2):=by
   cases hAe:isA e.op with
   | true=>
    refine QbS ?_ (QpC hAe this)
    rintro sv b h2 _ ⟨⟨q1,q2⟩,q3⟩
    rw [hbb] at q2
    exact⟨.inl ⟨q1,q2⟩,q3⟩
   | false=>
    refine QbS ?_ this
    intro sv b h2 hbm q3
    rw [hbb] at hbm
    exact⟨.inr ⟨rfl,hbm⟩,q3⟩
  have hloc:∀ K,vcE P cfg e (chG st ge) (Qv st j.dst gj svj) h K=vcE P cfg e (chG st ge) st h K:=by
   intro K
   rcases Nh (st:=st) (dst:=j.dst) (g:=gj) (x:=svj) with ⟨_,eq⟩|⟨d,hd,AG⟩
   ·rw [eq]
   ·exact AG.vcE (fun z hz hze=>A.xy d hd (Yj hz hze))
  rw [hloc] at this2
  refine QbS ?_ this2
  rintro sv b h2 _ ⟨q0,q1,q2⟩
  exact⟨GX (st:=st) (j:=j) (gj:=gj) (svj:=svj) (b:=b) q1,fin _ b h2 sv (Qrj e ge) q0 (GX (st:=st) (j:=j) (gj:=gj) (svj:=svj) (b:=b) q1) q2⟩
 ·obtain⟨q1,q2⟩:=H2 (by rw [e4];exact hc)
  have hpe:=GX (st:=st) (j:=j) (gj:=gj) (svj:=svj) (b:=(Qv st j.dst gj svj).b) q1
  refine⟨hpe,fin ge st.b h (dfl (shp P e.type)) (.inr rfl) (.inl ⟨fun _ _ e=>e,fun _ _ e=>e⟩) hpe ?_⟩
  have:(⟨(Qv st j.dst gj svj).n,(Qv st j.dst gj svj).t,(Qv st j.dst gj svj).g,st.b⟩:St)=Qv st j.dst gj svj:=by rw [←hbb]
  rw [this]
  exact q2
end
section
variable {P:Program}{cfg:Cfg}{ops:Array Oper}{ms:List Nat}
theorem Qk2 {o:Oper}{l:List Oper}{i:Nat}(hi:i ∈ X7 l):i ∈ X7 (o :: l):=by
 simp only [X7]
 cases o.dst<;>simp [hi]
theorem Qf2 {o:Oper}{st:St}{h:Hp}{K K':St→Hp→Prop}(hE:isE P o.op=false)(W:WF st)(H:ZV P cfg ops o st h K)(hk:∀ s,WF s→K s h→K' s h):ZV P cfg ops o st h K':=by
 obtain⟨g,h1,h2,h3,sv,h4,h5⟩:=(QaH hE).1 H
 exact(QaH hE).2 ⟨g,h1,h2,h3,sv,h4,hk _ (Qec W) h5⟩
theorem Qlo {o:Oper}{st:St}{h:Hp}{K K':St→Hp→Prop}(hE:isE P o.op=true)(H:ZV P cfg ops o st h K)(hk:∀ s h',K s h'→K' s h'):ZV P cfg ops o st h K':=by
 obtain⟨g,h1,h2,h3,h4⟩:=(Qim hE).1 H
 exact(Qim hE).2 ⟨g,h1,h2,fun c=>QbS (fun sv b h' _ hb=>⟨hb.1,hk _ _ hb.2⟩) (h3 c),fun c=>⟨(h4 c).1,hk _ _ (h4 c).2⟩⟩
theorem Jm {o:Oper}{st:St}{h:Hp}{K K':St→Hp→Prop}(H:ZV P cfg ops o st h K)(hk:∀ s h',K s h'→K' s h'):ZV P cfg ops o st h K':=by
 cases hE:isE P o.op with
 | true=>exact Qlo hE H hk
 | false=>
  obtain⟨g,h1,h2,h3,sv,h4,h5⟩:=(QaH hE).1 H
  exact(QaH hE).2 ⟨g,h1,h2,h3,sv,h4,hk _ _ h5⟩
def rk (a:Bool)(m:Nat)(b b':List Box)(h':Hp)(fl:List Fg)(K:Prop):Prop:=bif a then K else agn m b b' h' fl K
theorem Ql7 {a:Bool}{m:Nat}{b b':List Box}{h':Hp}{fl:List Fg}{K K':Prop}(hk:K→K')(H:rk a m b b' h' fl K):rk a m b b' h' fl K':=by
 cases a with
 | true=>exact hk H
 | false=>exact Wc hk H
theorem QrX {a:Bool}{m:Nat}{b b':List Box}{h':Hp}{fl:List Fg}{K:Prop}(H:rk a m b b' h' fl K):K:=by
 cases a with
 | true=>exact H
 | false=>exact QfD H
theorem QhH {i:Nat}{o:Oper}(ho:ops[i]?=some o)(hE:isE P o.op=true){l:List Nat}{fl:List Fg}{st:St}{h:Hp}{K:St→Hp→Prop} :
  vcD P cfg ops ms (i :: l) fl st h K↔ZV P cfg ops o st h fun s h'=>rk (isA o.op) (ms.getD i 0) st.b s.b h' fl (vcD P cfg ops ms l fl s h' K):=by
 simp only [vcD,ho,hE,cond_true]
 cases isA o.op<;>exact Iff.rfl
theorem Qg1 {i:Nat}{o:Oper}(ho:ops[i]?=some o)(hE:isE P o.op=false){l:List Nat}{fl:List Fg}{st:St}{h:Hp}{K:St→Hp→Prop} :
  vcD P cfg ops ms (i :: l) fl st h K↔NQ P ops i o st h fl fun fl' s=>vcD P cfg ops ms l fl' s h K:=by
 simp only [vcD,ho,hE,cond_false]
theorem Qfq {o:Oper}{i:Nat}{st:St}{h:Hp}{fl fl2:List Fg}{K K':List Fg→St→Prop}(W:WF st)(hk:∀ g sv s,WF s→K (Yn P o (chG st g) (GG st g) st i sv fl) s→K' (Yn P o (chG st g) (GG st g) st i sv fl2) s)(H:NQ P ops i o st h fl K):NQ P ops i o st h fl2 K':=by
 obtain⟨g,h1,h2,h3,sv,h4,h5⟩:=X8.1 H
 exact X8.2 ⟨g,h1,h2,h3,sv,h4,hk g sv _ (Qec W) h5⟩
theorem Qpp {m:Nat}{b b':List Box}{h':Hp}{K:Prop}{fl fl':List Fg}(hs:fl.Sublist fl'):agn m b b' h' fl' K→agn m b b' h' fl K:=by
 induction hs with
 | slnil=>exact fun H=>H
 | cons f hs ih=>
  intro H
  unfold agn at H
  cases hb:bit m f.j with
  | true=>rw [hb] at H;exact ih H
  | false=>
   rw [hb] at H
   simp only [cond_false] at H
   cases hx:XS b b' f.bx with
   | false=>rw [hx] at H;exact H.elim
   | true=>
    rw [hx] at H
    simp only [cond_true] at H
    cases hp:f.p with
    | none=>rw [hp] at H;exact ih H
    | some p=>rw [hp] at H;exact ih H.2
 | cons_cons f hs ih=>
  intro H
  unfold agn at H ⊢
  cases hb:bit m f.j with
  | true=>rw [hb] at H;exact ih H
  | false=>
   rw [hb] at H
   simp only [cond_false] at H ⊢
   cases hx:XS b b' f.bx with
   | false=>rw [hx] at H;exact H.elim
   | true=>
    rw [hx] at H
    simp only [cond_true] at H ⊢
    cases hp:f.p with
    | none=>rw [hp] at H;exact ih H
    | some p=>rw [hp] at H;exact⟨H.1,ih H.2⟩
theorem QnA {o:Oper}{ch:List (Nat × Bool)}{G:Prop→Prop}{st:St}{i:Nat}{sv:SV}{fl fl':List Fg}(hs:fl.Sublist fl'):(Yn P o ch G st i sv fl).Sublist (Yn P o ch G st i sv fl'):=by
 unfold Yn
 split
 ·exact hs
 ·exact hs.cons_cons _
 ·exact hs.cons_cons _
theorem Qlb {o:Oper}{ch:List (Nat × Bool)}{G:Prop→Prop}{st:St}{i:Nat}{sv:SV}{fl:List Fg}:fl.Sublist (Yn P o ch G st i sv fl):=by
 unfold Yn
 split
 ·exact List.Sublist.refl _
 ·exact List.sublist_cons_self _ _
 ·exact List.sublist_cons_self _ _
theorem Qld {o:Oper}{i:Nat}{st:St}{h:Hp}{fl fl2:List Fg}{K K':List Fg→St→Prop}(hk:∀ g sv s,K (Yn P o (chG st g) (GG st g) st i sv fl) s→K' (Yn P o (chG st g) (GG st g) st i sv fl2) s)(H:NQ P ops i o st h fl K):NQ P ops i o st h fl2 K':=by
 obtain⟨g,h1,h2,h3,sv,h4,h5⟩:=X8.1 H
 exact X8.2 ⟨g,h1,h2,h3,sv,h4,hk g sv _ h5⟩
theorem Qi6:∀(l:List Nat) {fl fl':List Fg} {st:St} {h:Hp} {K:St→Hp→Prop},fl'.Sublist fl→vcD P cfg ops ms l fl st h K→vcD P cfg ops ms l fl' st h K
 | [],fl,fl',st,h,K,_,H=>H
 | i :: l,fl,fl',st,h,K,hf,H=>by
  cases ho:ops[i]? with
  | none=>simp [vcD,ho] at H
  | some o=>
   cases hE:isE P o.op with
   | true=>
    rw [QhH ho hE] at H ⊢
    refine Jm H fun s h' hk=>?_
    cases hA:isA o.op with
    | true=>rw [hA] at hk;exact Qi6 l hf hk
    | false=>rw [hA] at hk;exact Qpp hf (Wc (Qi6 l hf) hk)
   | false=>
    rw [Qg1 ho hE] at H ⊢
    exact Qld (fun g sv s hk=>Qi6 l (QnA hf) hk) H
def AC (x y:Oper):Prop:=isA x.op=true∧x.guard=none∧JR y.op=true∧y.guard=none
def AB (cfg:Cfg)(x y:Oper):Prop:=isB cfg x=true∧x.guard=none∧isB cfg y=true∧y.guard=none
theorem QnX {cfg:Cfg}{x:Oper}(h:isB cfg x=true):isA x.op=true:=by
 unfold isB at h
 split at h<;>first|(rename_i e;rw [e];rfl)|cases h
structure PR (ops:Array Oper)(ms:List Nat)(j i:Nat):Prop where
 dep:∀ oj,ops[j]?=some oj→∀ e ∈ oj.after,Region.binds .any e=true→e.on≠i
 un:bit (ms.getD i 0) j=false→∀ oj oi,ops[j]?=some oj→ops[i]?=some oi→((isE P oj.op=false∨AC oi oj)∨AB cfg oi oj)∧XL ops oi oj
inductive CD where
 | no|call (f:FuncId) (vs:List Value)|ext (f:FuncId) (vs:List Value)|sem (m:Sem Value)|inv (fv:Value) (vs:List Value)
def CD.ask (P:Program)(s:Sh)(h:Hp)(K:SV→Hp→Prop):CD→Prop
 | .no=>False
 | .call f vs=>Qa P f vs h fun v h'=>res s v fun x=>K x h'
 | .ext f vs=>Qhk P f vs h fun v h'=>res s v fun x=>K x h'
 | .sem m=>Qm P m h fun v h'=>res s v fun x=>K x h'
 | .inv fv vs=>ZS P fv vs h fun v h'=>res s v fun x=>K x h'
theorem QqC {o:Oper}{ch:List (Nat × Bool)}{st:St}(hC:JR o.op=true):∃ D:CD,∀ b h K,vcE P cfg o ch ⟨st.n,st.t,st.g,b⟩ h K↔D.ask P (shp P o.type) h (fun x h'=>K x b h'):=by
 obtain⟨dst,op,ty,pos,af,gd⟩:=o
 have hevs:∀ b l,(⟨st.n,st.t,st.g,b⟩:St).evs ch l=st.evs ch l:=by
  intro b l
  induction l with
  | nil=>rfl
  | cons q l ih=>simp only [St.evs,ih];rfl
 have hev:∀ b x,(⟨st.n,st.t,st.g,b⟩:St).ev ch x=st.ev ch x:=fun b x=>rfl
 have none':(∀ b h K,vcE P cfg ⟨dst,op,ty,pos,af,gd⟩ ch ⟨st.n,st.t,st.g,b⟩ h K↔False)→∃ D:CD,∀ b h K,vcE P cfg ⟨dst,op,ty,pos,af,gd⟩ ch ⟨st.n,st.t,st.g,b⟩ h K↔D.ask P (shp P ty) h (fun x h'=>K x b h'):=fun h=>⟨.no,h⟩
 cases op with
 | call c=>
  obtain⟨callee,args,ts⟩:=c
  cases callee with
  | invoke r m=>exact none' fun b h K=>Iff.rfl
  | builtin bb=>
   simp only [vcE,hevs]
   cases hv:st.evs ch args.toList with
   | none=>exact⟨.no,fun b h K=>Iff.rfl⟩
   | some vs=>
    cases bb with
    | append=>exact⟨.sem _,fun b h K=>Iff.rfl⟩
    | copy=>exact⟨.sem _,fun b h K=>Iff.rfl⟩
    | delete=>exact⟨.sem _,fun b h K=>Iff.rfl⟩
    | clear=>exact⟨.sem _,fun b h K=>Iff.rfl⟩
    | _=>exact⟨.no,fun b h K=>Iff.rfl⟩
  | value f=>
   cases f with
   | func g=>
    simp only [vcE,hevs]
    cases hv:st.evs ch args.toList with
    | none=>exact⟨.no,fun b h K=>Iff.rfl⟩
    | some vs=>
     simp only
     cases hb:(P.funcs[g]?).map (·.body.isSome) with
     | none=>exact⟨.no,fun b h K=>Iff.rfl⟩
     | some q=>
      cases q with
      | true=>exact⟨.call g vs,fun b h K=>Iff.rfl⟩
      | false=>exact⟨.ext g vs,fun b h K=>Iff.rfl⟩
   | tmp t=>
    simp only [vcE,hevs,hev]
    cases hv:st.evs ch args.toList with
    | none=>exact⟨.no,fun b h K=>Iff.rfl⟩
    | some vs=>
     cases hf:(st.ev ch (.tmp t)).val? with
     | none=>exact⟨.no,fun b h K=>Iff.rfl⟩
     | some fv=>exact⟨.inv fv vs,fun b h K=>Iff.rfl⟩
   | const v=>exact none' fun b h K=>Iff.rfl
   | global g=>exact none' fun b h K=>Iff.rfl
 | _=>cases hC
theorem Qa5 {h:Hp}{b:Nat}{ob:Obj}{w:World}(hb:h b=none)(hs:Sub (h.set b ob) w):Sub h w:=fun i o ho=>hs i o (by
 have:i≠b:=fun e=>by rw [e,hb] at ho;cases ho
 simp [Hp.set,this,ho])
theorem Qfm {h h':Hp}{b:Nat}{ob:Obj}{w w':World}(hb:h b=none)(hs:Sub (h.set b ob) w)(hs':Sub h' w')(F:Fr h h' w w'):h' b=none∧Sub (h'.set b ob) w'∧Fr (h.set b ob) (h'.set b ob) w w':=by
 have h1:w.heap[b]?=some ob:=hs b ob (by simp [Hp.set])
 have hlt:b < w.heap.size:=(Array.getElem?_eq_some_iff.1 h1).1
 obtain⟨k1,k2⟩:=F.keep b hlt hb
 refine⟨k2,fun i o ho=>?_,F.os,F.tape,F.output,F.size,fun i hi hn=>?_⟩
 ·unfold Hp.set at ho
  split at ho
  ·rename_i e;rw [e,k1,h1];exact ho
  ·exact hs' i o ho
 ·unfold Hp.set at hn ⊢
  split at hn
  ·cases hn
  ·rename_i hne
   rw [if_neg hne]
   exact F.keep i hi hn
theorem CD.mono {D:CD}{s:Sh}{h:Hp}{K K':SV→Hp→Prop}(hk:∀ x h',K x h'→K' x h')(H:D.ask P s h K):D.ask P s h K':=by
 cases D with
 | no=>exact H
 | call f vs=>exact fun w hs=>(H w hs).mono fun e w' ⟨v,h',h1,h2,h3,h4⟩=>⟨v,h',h1,h2,h3,Z3 (fun x=>hk x h') h4⟩
 | ext f vs=>exact fun w hs=>let ⟨v,w',h',h1,h2,h3,h4⟩:=H w hs;⟨v,w',h',h1,h2,h3,Z3 (fun x=>hk x h') h4⟩
 | sem m=>exact fun w hs=>let ⟨v,w',h',h1,h2,h3,h4⟩:=H w hs;⟨v,w',h',h1,h2,h3,Z3 (fun x=>hk x h') h4⟩
 | inv fv vs=>
  obtain⟨f,pre,post,e,hf,H⟩:=H
  exact⟨f,pre,post,e,hf,fun w hs=>(H w hs).mono fun e w' ⟨v,h',h1,h2,h3,h4⟩=>⟨v,h',h1,h2,h3,Z3 (fun x=>hk x h') h4⟩⟩
theorem CD.frame {D:CD}{s:Sh}{h:Hp}{b:Nat}{ob:Obj}{K:SV→Hp→Prop}(hb:h b=none)(H:D.ask P s h K):D.ask P s (h.set b ob) fun x h2=>∃ h',h' b=none∧h2=h'.set b ob∧K x h':=by
 have hc:∀ f vs,(Qa P f vs h fun v h'=>res s v fun x=>K x h')→Qa P f vs (h.set b ob) fun v h2=>res s v fun x=>∃ h',h' b=none∧h2=h'.set b ob∧K x h':=by
  intro f vs H w hs
  refine(H w (Qa5 hb hs)).mono fun e w' ⟨v,h',h1,h2,h3,h4⟩=>?_
  obtain⟨k1,k2,k3⟩:=Qfm hb hs h2 h3
  exact⟨v,_,h1,k2,k3,Z3 (fun x hx=>⟨h',k1,rfl,hx⟩) h4⟩
 cases D with
 | no=>exact H
 | call f vs=>exact hc f vs H
 | ext f vs=>
  intro w hs
  obtain⟨v,w',h',h1,h2,h3,h4⟩:=H w (Qa5 hb hs)
  obtain⟨k1,k2,k3⟩:=Qfm hb hs h2 h3
  exact⟨v,w',_,h1,k2,k3,Z3 (fun x hx=>⟨h',k1,rfl,hx⟩) h4⟩
 | sem m=>
  intro w hs
  obtain⟨v,w',h',h1,h2,h3,h4⟩:=H w (Qa5 hb hs)
  obtain⟨k1,k2,k3⟩:=Qfm hb hs h2 h3
  exact⟨v,w',_,h1,k2,k3,Z3 (fun x hx=>⟨h',k1,rfl,hx⟩) h4⟩
 | inv fv vs=>
  obtain⟨f,pre,post,e,hf,H⟩:=H
  exact⟨f,pre,post,e,hf,hc _ _ H⟩
theorem CD.sub {D:CD}{s:Sh}{h:Hp}{K:SV→Hp→Prop}(H:D.ask P s h K):D.ask P s h fun x h'=>(∃ w,Sub h' w)∧K x h':=by
 have hc:∀ f vs,(Qa P f vs h fun v h'=>res s v fun x=>K x h')→Qa P f vs h fun v h'=>res s v fun x=>(∃ w,Sub h' w)∧K x h':=
  fun f vs H w hs=>(H w hs).mono fun e w' ⟨v,h',h1,h2,h3,h4⟩=>⟨v,h',h1,h2,h3,Z3 (fun x hx=>⟨⟨w',h2⟩,hx⟩) h4⟩
 cases D with
 | no=>exact H
 | call f vs=>exact hc f vs H
 | ext f vs=>exact fun w hs=>let ⟨v,w',h',h1,h2,h3,h4⟩:=H w hs;⟨v,w',h',h1,h2,h3,Z3 (fun x hx=>⟨⟨w',h2⟩,hx⟩) h4⟩
 | sem m=>exact fun w hs=>let ⟨v,w',h',h1,h2,h3,h4⟩:=H w hs;⟨v,w',h',h1,h2,h3,Z3 (fun x hx=>⟨⟨w',h2⟩,hx⟩) h4⟩
 | inv fv vs=>
  obtain⟨f,pre,post,e,hf,H⟩:=H
  exact⟨f,pre,post,e,hf,hc _ _ H⟩
theorem CD.ex {D:CD}{s:Sh}{h:Hp}{K:SV→Hp→Prop}(hw:∃ w,Sub h w)(H:D.ask P s h K):∃ x h',K x h':=by
 obtain⟨w,hs⟩:=hw
 have hr:∀ v h',(res s v fun x=>K x h')→∃ x h',K x h':=fun v h' hr=>let ⟨x,hx,_⟩:=UV hr;⟨x,h',hx.2⟩
 have hc:∀ f vs,(Qa P f vs h fun v h'=>res s v fun x=>K x h')→∃ x h',K x h':=by
  intro f vs H
  obtain⟨e,w',fr,⟨v,h',_,_,_,h4⟩,_⟩:=H w hs []
  exact hr _ _ h4
 cases D with
 | no=>exact H.elim
 | call f vs=>exact hc f vs H
 | ext f vs=>obtain⟨v,w',h',h1,h2,h3,h4⟩:=H w hs;exact hr _ _ h4
 | sem m=>obtain⟨v,w',h',h1,h2,h3,h4⟩:=H w hs;exact hr _ _ h4
 | inv fv vs=>
  obtain⟨f,pre,post,e,hf,H⟩:=H
  exact hc _ _ H
def FM (fl:List Fg):Prop:=∀ f ∈ fl,∀ p,f.p=some p→∀ h h':Hp,h.le h'→p h→p h'
theorem Rd.le {m:Sem Value}{h h':Hp}{v:Value}(hl:h.le h')(H:Rd P m h v):Rd P m h' v:=fun w hs=>H w fun b o ho=>hs b o (hl b o ho)
theorem Qqm {h h':Hp}(hl:h.le h'){b o n:Nat}{xs:List Value}(e:h.row b o n=some xs):h'.row b o n=some xs:=by
 unfold Hp.row at e ⊢
 cases hb:h b with
 | none=>rw [hb] at e;cases e
 | some ob=>rw [hb] at e;rw [hl b ob hb];exact e
theorem QoC {h h':Hp}(hl:h.le h'){b o:Nat}{x:Value}(e:h.cell b o=some x):h'.cell b o=some x:=by
 unfold Hp.cell at e ⊢
 cases hb:h b with
 | none=>rw [hb] at e;cases e
 | some ob=>rw [hb] at e;rw [hl b ob hb];exact e
theorem VD.again_le {G:Prop→Prop}(hG:∀ p q:Prop,(p→q)→G p→G q){h h':Hp}(hl:h.le h'){u:SV}{v:VD}(H:v.again P G h u):v.again P G h' u:=by
 cases v with
 | rd m s=>exact hG _ _ (Rd.le hl) H
 | ldA b o n l=>exact hG _ _ (Qqm hl) H
 | ld1 b o s=>exact hG _ _ (QoC hl) H
 | _=>exact H
theorem VD.sem_again {G:Prop→Prop}{h:Hp}{u:SV}{v:VD}(H:v.sem P G h fun y=>y=u):v.again P G h u:=by
 cases v with
 | rd m s=>obtain⟨x,hx,_⟩:=UV H;rw [hx.2] at hx;exact hx.1
 | ldA b o n l=>obtain⟨x,hx,_⟩:=G9 H;show G _;rw [←hx.2];exact hx.1
 | ld1 b o s=>obtain⟨x,hx⟩:=Mm H;show G _;rw [←hx.2];exact hx.1
 | _=>exact trivial
theorem Qmg {o:Oper}{g:Option (Nat × Bool)}{st:St}{i:Nat}{sv:SV}{fl:List Fg}(hf:FM fl):FM (Yn P o (chG st g) (GG st g) st i sv fl):=by
 unfold Yn
 split
 ·exact hf
 ·intro f hm p hp h h' hl
  rcases List.mem_cons.1 hm with rfl|hm
  ·simp only [Option.some.injEq] at hp
   subst hp
   exact VD.again_le (QlQ st g) hl
  ·exact hf f hm p hp h h' hl
 ·intro f hm p hp h h' hl
  rcases List.mem_cons.1 hm with rfl|hm
  ·cases hp
  ·exact hf f hm p hp h h' hl
theorem Qjb {m:Nat}{b b':List Box}{h h':Hp}{K:Prop}(hl:h.le h'):∀{fl:List Fg},FM fl→agn m b b' h fl K→agn m b b' h' fl K
 | [],_,H=>H
 | f :: l,hf,H=>by
  have hf':FM l:=fun x hx=>hf x (List.mem_cons_of_mem _ hx)
  unfold agn at H ⊢
  cases hb:bit m f.j with
  | true=>rw [hb] at H;exact Qjb hl hf' H
  | false=>
   rw [hb] at H
   simp only [cond_false] at H ⊢
   cases hx:XS b b' f.bx with
   | false=>rw [hx] at H;exact H.elim
   | true=>
    rw [hx] at H
    simp only [cond_true] at H ⊢
    cases hp:f.p with
    | none=>rw [hp] at H;exact Qjb hl hf' H
    | some p=>rw [hp] at H;exact⟨hf f (by simp) p hp h h' hl H.1,Qjb hl hf' H.2⟩
theorem QhS {m:Nat}{b:List Box}{x:Box}{h:Hp}{K:Prop}:∀{fl:List Fg},agn m b b h fl K→agn m (b++[x]) (b++[x]) h fl K
 | [],H=>H
 | f :: l,H=>by
  unfold agn at H ⊢
  cases hb:bit m f.j with
  | true=>rw [hb] at H;exact QhS H
  | false=>
   rw [hb] at H
   simp only [cond_false] at H ⊢
   cases hx:XS b b f.bx with
   | false=>rw [hx] at H;exact H.elim
   | true=>
    have hx2:XS (b++[x]) (b++[x]) f.bx=true:=by
     cases hk:f.bx with
     | none=>rfl
     | some k=>
      rw [hk] at hx
      simp only [XS] at hx ⊢
      cases hbk:b[k]? with
      | none=>rw [hbk] at hx;cases hx
      | some y=>
       rw [hbk] at hx
       rw [List.getElem?_append_left (List.getElem?_eq_some_iff.1 hbk).1,hbk]
       exact hx
    rw [hx] at H
    rw [hx2]
    simp only [cond_true] at H ⊢
    cases hp:f.p with
    | none=>rw [hp] at H;exact QhS H
    | some p=>rw [hp] at H;exact⟨H.1,QhS H.2⟩
theorem Kt {o:Oper}{st:St}{h:Hp}{K:St→Hp→Prop}(hE:isE P o.op=true)(hg:o.guard=none):ZV P cfg ops o st h K↔vcE P cfg o [] st h fun sv b h'=>XY st o.dst none∧K (Qv ⟨st.n,st.t,st.g,b⟩ o.dst none sv) h':=by
 unfold ZV
 rw [hg]
 simp only [hE,cond_true,YJ]
 exact Iff.rfl
theorem Qq5 {c e:Oper}{st:St}{m:Nat}(A:XL ops c e)(W:WF st)(hac:AC e c)(hEc:isE P c.op=true)(hEe:isE P e.op=true){h:Hp}{fl:List Fg}{F:St→Hp→Prop}(hf:FM fl)(hw:∃ w,Sub h w)
  (H:ZV P cfg ops c st h fun s1 h1=>agn m st.b s1.b h1 fl (ZV P cfg ops e s1 h1 fun s2 h2=>F s2 h2)) :
  ZV P cfg ops e st h fun s h'=>ZV P cfg ops c s h' fun s2 h2=>agn m s.b s2.b h2 fl (F s2 h2):=by
 obtain⟨hA,hge,hC,hgc⟩:=hac
 have A':XL ops e c:=⟨A.yx,A.xy,fun d e hd he=>(A.ne e d he hd).symm⟩
 obtain⟨DC,hDC⟩:=QqC (P:=P) (cfg:=cfg) (o:=c) (ch:=[]) (st:=st) hC
 obtain⟨DA,hDA⟩:=QqJ (P:=P) (cfg:=cfg) (o:=e) (ch:=[]) (st:=st) hA
 rw [Kt hEc hgc,show st=⟨st.n,st.t,st.g,st.b⟩ from rfl,hDC] at H
 -- the other one behind it
 have hloc:∀ x h1 K,vcE P cfg e [] (Qv st c.dst none x) h1 K=vcE P cfg e [] st h1 K:=by
  intro x h1 K
  rcases Nh (st:=st) (dst:=c.dst) (g:=none) (x:=x) with ⟨_,eq⟩|⟨d,hd,AG⟩
  ·rw [eq]
  ·exact AG.vcE (fun z hz hze=>A.xy d hd (Yj hz hze))
 have hloc2:∀ x b h1 K,vcE P cfg c [] (Qv ⟨st.n,st.t,st.g,b⟩ e.dst none x) h1 K=vcE P cfg c [] ⟨st.n,st.t,st.g,b⟩ h1 K:=by
  intro x b h1 K
  rcases Nh (st:=⟨st.n,st.t,st.g,b⟩) (dst:=e.dst) (g:=none) (x:=x) with ⟨_,eq⟩|⟨d,hd,AG⟩
  ·rw [eq]
  ·exact AG.vcE (fun z hz hze=>A'.xy d hd (Yj hz hze))
 have H2:DC.ask P (shp P c.type) h fun x h1=>XY st c.dst none∧agn m st.b st.b h1 fl (DA.sem st.b h1 fun sv b h2=>XY (Qv st c.dst none x) e.dst none∧F (Qv ⟨(Qv st c.dst none x).n,(Qv st c.dst none x).t,(Qv st c.dst none x).g,b⟩ e.dst none sv) h2):=by
  refine CD.mono (fun x h1 hx=>⟨hx.1,?_⟩) H
  have hx2:=hx.2
  rw [Us] at hx2
  refine Wc (fun hv=>?_) hx2
  rw [Kt hEe hge,hloc,hDA] at hv
  exact hv
 have pc:XY st c.dst none:=let ⟨_,_,hx⟩:=CD.ex hw H2;hx.1
 have ne:DA≠.no:=by
  intro e
  obtain⟨x,h1,_,hx⟩:=CD.ex hw H2
  rw [e] at hx
  exact QfD hx
 rw [Kt hEe hge,hDA]
 cases DA with
 | no=>exact(ne rfl).elim
 | pub f ob=>
  have pe:XY st e.dst none:=by
   obtain⟨x,h1,⟨w,hs⟩,_,hx⟩:=CD.ex hw (CD.sub H2)
   have:=QfD hx w.heap.size hs.none
   exact GX (st:=st) (j:=c) (gj:=none) (svj:=x) (b:=(Qv st c.dst none x).b) this.1
  intro b hb
  refine⟨pe,?_⟩
  rw [Kt hEc hgc,hloc2,hDC]
  refine CD.mono (fun x h2 hx=>?_) (CD.frame hb H2)
  obtain⟨h1,hb1,rfl,hx1,hx2⟩:=hx
  refine⟨?_,?_⟩
  ·exact(Vm (st:=st) A' (gx:=none) (gy:=none) (by simp [gdO,hge]) (by simp [gdO,hgc]) pe).2 pc
  ·rw [Us,Us]
   refine Wc (fun hv=>?_) (Qjb (Hp.le_set' hb1 ob) hf hx2)
   have:=(hv b hb1).2
   rw [Qey] at this ⊢
   rw [Vh A' (gx:=none) (gy:=none)]
   exact this
 | prv sv bx=>
  have pe:XY st e.dst none:=by
   obtain⟨x,h1,_,hx⟩:=CD.ex hw H2
   have:=QfD hx
   exact GX (st:=st) (j:=c) (gj:=none) (svj:=x) (b:=(Qv st c.dst none x).b) this.1
  refine⟨pe,?_⟩
  rw [Kt hEc hgc,hloc2,hDC]
  refine CD.mono (fun x h1 hx=>?_) H2
  obtain⟨hx1,hx2⟩:=hx
  refine⟨?_,?_⟩
  ·exact(Vm (st:=⟨st.n,st.t,st.g,st.b++[bx]⟩) A' (gx:=none) (gy:=none) (by simp [gdO,hge]) (by simp [gdO,hgc]) pe).2 pc
  ·rw [Us,Us]
   refine Wc (fun hv=>?_) (QhS (x:=bx) hx2)
   have:=hv.2
   rw [Qey] at this ⊢
   rw [Vh A' (gx:=none) (gy:=none)]
   exact this
theorem QnI {o:Oper}{ch:List (Nat × Bool)}{st:St}(hB:isB cfg o=true):(∀ h K,¬ vcE P cfg o ch st h K)∨∃(f:Nat→SV) (ob:Obj),∀ h K,vcE P cfg o ch st h K↔∀ b,h b=none→K (f b) st.b (h.set b ob):=by
 obtain⟨dst,op,ty,pos,af,gd⟩:=o
 have key:∀{o:Oper} {t:TypeId} {cs:List TV},QfF cfg o.dst=true→(∀(h:Hp) (K:SV→List Box→Hp→Prop),¬ newBox cfg o st h t cs K)∨∃(f:Nat→SV) (ob:Obj),∀ h K,newBox cfg o st h t cs K↔∀ b,h b=none→K (f b) st.b (h.set b ob):=by
  intro o t cs hp
  unfold newBox
  rw [hp]
  cases Ze cs with
  | false=>exact .inl fun h K q=>q
  | true=>exact .inr ⟨fun b=>.t (.one (.hp b 0)),_,fun h K=>Iff.rfl⟩
 unfold isB at hB
 cases op with
 | alloc T=>
  simp only [vcE]
  split
  ·exact key hB
  ·exact .inl fun h K q=>q
 | box T x=>
  simp only [vcE]
  split
  ·exact key hB
  ·exact .inl fun h K q=>q
 | buildSlice T n parts=>
  simp only [vcE]
  split
  ·rename_i e ps hu hp
   split
   ·rename_i z hz
    rcases Bool.eq_false_or_eq_true (Nat.ble 1 (szT P e)&&Nat.beq z.length (szT P e)&&Nat.ble (n*szT P e) 4096) with hc|hc
    ·rw [hc]
     simp only [cond_true]
     split
     ·rename_i cs _
      rcases Bool.eq_false_or_eq_true (Ze cs) with ho|ho
      ·rw [ho];exact .inr ⟨fun b=>.t (.one (.v (.slice (some ⟨b,0,none⟩) n n))),_,fun h K=>Iff.rfl⟩
      ·rw [ho];exact .inl fun h K q=>q
     ·exact .inl fun h K q=>q
    ·rw [hc];exact .inl fun h K q=>q
   ·exact .inl fun h K q=>q
  ·exact .inl fun h K q=>q
 | _=>cases hB
theorem QjI {h:Hp}(hw:∃ w,Sub h w)(b:Nat):∃ c,h c=none∧c≠b:=by
 obtain⟨w,hs⟩:=hw
 refine⟨w.heap.size+b+1,?_,by omega⟩
 cases hq:h (w.heap.size+b+1) with
 | none=>rfl
 | some o=>
  have:=(Array.getElem?_eq_some_iff.1 (hs _ _ hq)).1
  omega
theorem Qnn {h:Hp}(hw:∃ w,Sub h w){b:Nat}(hb:h b=none)(ob:Obj):∃ w,Sub (h.set b ob) w:=by
 obtain⟨w,hs⟩:=hw
 refine⟨{ w with heap:=Array.ofFn (n:=w.heap.size+b+1) fun i=>if i.val=b then ob else(w.heap[i.val]?).getD ob },fun i o ho=>?_⟩
 show (Array.ofFn (n:=w.heap.size+b+1) fun i=>if i.val=b then ob else(w.heap[i.val]?).getD ob)[i]?=some o
 by_cases hi:i=b
 ·subst hi
  have:ob=o:=by simpa [Hp.set] using ho
  rw [Array.getElem?_eq_some_iff]
  refine⟨by simp;omega,?_⟩
  simp [this]
 ·have h1:h i=some o:=by simpa [Hp.set,hi] using ho
  have h2:=hs i o h1
  have h3:=(Array.getElem?_eq_some_iff.1 h2).1
  rw [Array.getElem?_eq_some_iff]
  refine⟨by simp;omega,?_⟩
  simp [hi,h2]
theorem Qq0 {c e:Oper}{st:St}(A:XL ops c e)(W:WF st)(hab:AB cfg e c)(hEc:isE P c.op=true)(hEe:isE P e.op=true){h:Hp}{F:St→Hp→Prop}(hw:∃ w,Sub h w)
  (H:ZV P cfg ops c st h fun s1 h1=>ZV P cfg ops e s1 h1 fun s2 h2=>F s2 h2) :
  ZV P cfg ops e st h fun s h'=>ZV P cfg ops c s h' fun s2 h2=>F s2 h2:=by
 obtain⟨hBe,hge,hBc,hgc⟩:=hab
 have A':XL ops e c:=⟨A.yx,A.xy,fun d e hd he=>(A.ne e d he hd).symm⟩
 rw [Kt hEc hgc] at H
 have hloc:∀ x h1 K,vcE P cfg e [] (Qv st c.dst none x) h1 K=vcE P cfg e [] st h1 K:=by
  intro x h1 K
  rcases Nh (st:=st) (dst:=c.dst) (g:=none) (x:=x) with ⟨_,eq⟩|⟨d,hd,AG⟩
  ·rw [eq]
  ·exact AG.vcE (fun z hz hze=>A.xy d hd (Yj hz hze))
 have hloc2:∀ x h1 K,vcE P cfg c [] (Qv st e.dst none x) h1 K=vcE P cfg c [] st h1 K:=by
  intro x h1 K
  rcases Nh (st:=st) (dst:=e.dst) (g:=none) (x:=x) with ⟨_,eq⟩|⟨d,hd,AG⟩
  ·rw [eq]
  ·exact AG.vcE (fun z hz hze=>A'.xy d hd (Yj hz hze))
 have eb:∀(d:Option Nat) (x:SV),(⟨(Qv st d none x).n,(Qv st d none x).t,(Qv st d none x).g,st.b⟩:St)=Qv st d none x:=by
  intro d x
  have e1:=Us (st:=st) (dst:=d) (g:=none) (x:=x)
  generalize Qv st d none x=s at e1
  obtain⟨n,t,g,b⟩:=s
  simp only at e1
  rw [e1]
 rcases QnI (P:=P) (cfg:=cfg) (o:=c) (ch:=[]) (st:=st) hBc with hn|⟨fc,oc,hc⟩
 ·exact(hn _ _ H).elim
 rcases QnI (P:=P) (cfg:=cfg) (o:=e) (ch:=[]) (st:=st) hBe with hn|⟨fe,oe,he⟩
 ·rw [hc] at H
  obtain⟨b,hb,_⟩:=QjI hw 0
  have q2:ZV P cfg ops e (Qv st c.dst none (fc b)) (h.set b oc) F:=(H b hb).2
  rw [Kt hEe hge,hloc] at q2
  exact(hn _ _ q2).elim
 rw [hc] at H
 have H2:∀ b,h b=none→XY st c.dst none∧∀ b2,(h.set b oc) b2=none→XY (Qv st c.dst none (fc b)) e.dst none∧F (Qv (Qv st c.dst none (fc b)) e.dst none (fe b2)) ((h.set b oc).set b2 oe):=by
  intro b hb
  refine⟨(H b hb).1,?_⟩
  have q2:ZV P cfg ops e (Qv st c.dst none (fc b)) (h.set b oc) F:=(H b hb).2
  rw [Kt hEe hge,hloc,he] at q2
  intro b2 hb2
  have q3:=q2 b2 hb2
  rw [eb] at q3
  exact q3
 have sset:∀{b b2:Nat} {o o2:Obj},b≠b2→(h.set b o).set b2 o2=(h.set b2 o2).set b o:=by
  intro b b2 o o2 hne
  funext i
  simp only [Hp.set]
  by_cases h1:i=b2
  ·by_cases h2:i=b
   ·exact(hne (h2.symm.trans h1)).elim
   ·simp [h1];intro q;exact(hne q.symm).elim
  ·simp [h1]
 have nn:∀{b b2:Nat} {o:Obj},(h.set b o) b2=none→b2≠b∧h b2=none:=by
  intro b b2 o hq
  unfold Hp.set at hq
  split at hq
  ·cases hq
  ·rename_i h1;exact⟨h1,hq⟩
 rw [Kt hEe hge,he]
 intro b2 hb2
 obtain⟨b0,hb0,hne0⟩:=QjI hw b2
 have pc:=(H2 b0 hb0).1
 have pe:XY st e.dst none:=by
  have:=((H2 b0 hb0).2 b2 (by simp [Hp.set,hne0.symm,hb2])).1
  exact(Vm (st:=st) A (gx:=none) (gy:=none) (by simp [gdO,hgc]) (by simp [gdO,hge]) pc).1 this
 refine⟨pe,?_⟩
 show ZV P cfg ops c (Qv st e.dst none (fe b2)) (h.set b2 oe) F
 rw [Kt hEc hgc,hloc2,hc]
 intro b hb
 obtain⟨hne,hbh⟩:=nn hb
 have q:=(H2 b hbh).2 b2 (by simp [Hp.set,hne.symm,hb2])
 refine⟨(Vm (st:=st) A' (gx:=none) (gy:=none) (by simp [gdO,hge]) (by simp [gdO,hgc]) pe).2 pc,?_⟩
 rw [eb,Vh A' (gx:=none) (gy:=none),←sset hne]
 exact q.2
theorem exV {i:Nat}{oi:Oper}(hi:ops[i]?=some oi)(hEi:isE P oi.op=false):∀(A:List Nat) {B:List Nat} {fl:List Fg} {st:St} {h:Hp} {K:St→Hp→Prop},WF st →
  (∀ j ∈ A,∀ oj,ops[j]?=some oj→isE P oj.op=false∧XL ops oi oj)→vcD P cfg ops ms (A++i :: B) fl st h K→ZV P cfg ops oi st h fun s _=>vcD P cfg ops ms (A++B) fl s h K
 | [],B,fl,st,h,K,W,hA,H=>by
  rw [List.nil_append,Qg1 hi hEi] at H
  obtain⟨g,h1,h2,h3,sv,h4,h5⟩:=X8.1 H
  exact(QaH hEi).2 ⟨g,h1,h2,h3,sv,h4,Qi6 B Qlb h5⟩
 | j :: A,B,fl,st,h,K,W,hA,H=>by
  cases hj:ops[j]? with
  | none=>simp [vcD,hj] at H
  | some oj=>
   obtain⟨hEj,hap⟩:=hA j (by simp) oj hj
   rw [List.cons_append,Qg1 hj hEj] at H
   have H2:NQ P ops j oj st h fl fun fl' s=>ZV P cfg ops oi s h fun s2 _=>vcD P cfg ops ms (A++B) fl' s2 h K:=
    Qfq W (fun g sv s Ws hk=>exV hi hEi A Ws (fun k hk'=>hA k (by simp [hk'])) hk) H
   have hap':XL ops oj oi:=⟨hap.yx,hap.xy,fun d e hd he=>(hap.ne e d he hd).symm⟩
   have H3:=Qq6 (F:=fun fl' s2=>vcD P cfg ops ms (A++B) fl' s2 h K) hap' W hEi H2
   refine Qf2 hEi W H3 fun s Ws hk=>?_
   rw [List.cons_append,Qg1 hj hEj]
   exact hk
theorem exE {i:Nat}{oi:Oper}(hi:ops[i]?=some oi)(hEi:isE P oi.op=true):∀(A:List Nat) {B:List Nat} {fl:List Fg} {st:St} {h:Hp} {K:St→Hp→Prop},WF st→FM fl→(∃ w,Sub h w) →
  (∀ j ∈ A,bit (ms.getD i 0) j=false∧∀ oj,ops[j]?=some oj→((isE P oj.op=false∨AC oi oj)∨AB cfg oi oj)∧XL ops oi oj)→vcD P cfg ops ms (A++i :: B) fl st h K →
  ZV P cfg ops oi st h fun s h2=>rk (isA oi.op) (ms.getD i 0) st.b s.b h2 fl (vcD P cfg ops ms (A++B) fl s h2 K)
 | [],B,fl,st,h,K,W,hf,hw,hA,H=>by
  rw [List.nil_append,QhH hi hEi] at H
  exact H
 | j :: A,B,fl,st,h,K,W,hf,hw,hA,H=>by
  cases hj:ops[j]? with
  | none=>simp [vcD,hj] at H
  | some oj=>
   obtain⟨hbit,hA1⟩:=hA j (by simp)
   obtain⟨hEj,hap⟩:=hA1 oj hj
   have hap':XL ops oj oi:=⟨hap.yx,hap.xy,fun d e hd he=>(hap.ne e d he hd).symm⟩
   cases hEj':isE P oj.op with
   | false=>
    rw [List.cons_append,Qg1 hj hEj'] at H
    have H2:NQ P ops j oj st h fl fun fl' s=>ZV P cfg ops oi s h fun s2 h2=>(FM fl'→rk (isA oi.op) (ms.getD i 0) s.b s2.b h2 fl' (vcD P cfg ops ms (A++B) fl' s2 h2 K)):=by
     refine Qfq W (fun g sv s Ws hk=>?_) H
     exact Jm (exE hi hEi A Ws (Qmg hf) hw (fun k hk'=>hA k (by simp [hk'])) hk) fun s2 h2 hq _=>hq
    have H3:=Qrv (F:=fun fl' s2 h2=>vcD P cfg ops ms (A++B) fl' s2 h2 K) (X:=fun fl' s s2 h2=>FM fl'→rk (isA oi.op) (ms.getD i 0) s.b s2.b h2 fl' (vcD P cfg ops ms (A++B) fl' s2 h2 K))
     (Z:=fun s h2 p=>rk (isA oi.op) (ms.getD i 0) st.b s.b h2 fl p) hap' W hEi (fun s h2 p q hpq hz=>Ql7 hpq hz) ?_ H2
    ·refine Jm H3 fun s h2 hk=>Ql7 (fun hv=>?_) hk
     rw [List.cons_append,Qg1 hj hEj']
     exact hv
    ·intro gj svj s2 h2 hbx hx vj
     have hx:=hx (Qmg hf)
     rw [Us] at hx
     cases hAe:isA oi.op with
     | true=>
      rw [hAe] at hx hbx
      rcases hbx with ⟨hl,hb⟩|⟨hb,_⟩
      ·refine⟨fun k x _=>hb k x,fun _=>VD.again_le (QlQ st gj) hl (VD.sem_again vj),fun s hs=>hx⟩
      ·cases hb
     | false=>
      rw [hAe] at hx
      obtain⟨y1,y2,y3⟩:=Qo5 hbit hx
      refine⟨fun k x hk hkx=>?_,y2,fun s hs=>by rw [hs];exact y3⟩
      rcases hbx with ⟨_,hb⟩|⟨_,hb⟩
      ·exact hb k x hkx
      ·exact Qjp (y1 k hk) hb hkx
   | true=>
    by_cases hab:AB cfg oi oj
    ·have hAj:=QnX hab.2.2.1
     have hAi:=QnX hab.1
     rw [List.cons_append,QhH hj hEj',hAj] at H
     rw [hAi]
     have H2:ZV P cfg ops oj st h fun s1 h1=>ZV P cfg ops oi s1 h1 fun s2 h2=>vcD P cfg ops ms (A++B) fl s2 h2 K:=by
      rw [Kt hEj' hab.2.2.2] at H ⊢
      rcases QnI (P:=P) (cfg:=cfg) (o:=oj) (ch:=[]) (st:=st) hab.2.2.1 with hn|⟨f,ob,hc⟩
      ·exact(hn _ _ H).elim
      rw [hc] at H ⊢
      intro b hb
      refine⟨(H b hb).1,?_⟩
      have:=exE hi hEi A (st:=Qv st oj.dst none (f b)) (Qec W) hf (Qnn hw hb ob) (fun k hk'=>hA k (by simp [hk'])) (H b hb).2
      rw [hAi] at this
      exact this
     have H3:=Qq0 (F:=fun s2 h2=>vcD P cfg ops ms (A++B) fl s2 h2 K) hap' W hab hEj' hEi hw H2
     refine Jm H3 fun s h2 hk=>?_
     show vcD P cfg ops ms (j :: A++B) fl s h2 K
     rw [List.cons_append,QhH hj hEj',hAj]
     exact hk
    have hac:AC oi oj:=by
     rcases hEj with (h1|h1)|h1
     ·rw [h1] at hEj';cases hEj'
     ·exact h1
     ·exact absurd h1 hab
    have hnA:isA oj.op=false:=by
     have:=hac.2.2.1
     cases ho:oj.op<;>rw [ho] at this<;>first|rfl|cases this
    rw [List.cons_append,QhH hj hEj',hnA] at H
    rw [hac.1]
    have H2:ZV P cfg ops oj st h fun s1 h1=>agn (ms.getD j 0) st.b s1.b h1 fl (ZV P cfg ops oi s1 h1 fun s2 h2=>vcD P cfg ops ms (A++B) fl s2 h2 K):=by
     rw [Kt hEj' hac.2.2.2] at H ⊢
     obtain⟨DC,hDC⟩:=QqC (P:=P) (cfg:=cfg) (o:=oj) (ch:=[]) (st:=st) hac.2.2.1
     rw [show st=⟨st.n,st.t,st.g,st.b⟩ from rfl,hDC] at H ⊢
     refine CD.mono (fun x h1 hx=>?_) (CD.sub H)
     refine⟨hx.2.1,Wc (fun hv=>?_) hx.2.2⟩
     have:=exE hi hEi A (st:=Qv st oj.dst none x) (Qec W) hf hx.1 (fun k hk'=>hA k (by simp [hk'])) hv
     rw [hac.1] at this
     exact this
    have H3:=Qq5 (F:=fun s2 h2=>vcD P cfg ops ms (A++B) fl s2 h2 K) hap' W hac hEj' hEi hf hw H2
    refine Jm H3 fun s h2 hk=>?_
    show vcD P cfg ops ms (j :: A++B) fl s h2 K
    rw [List.cons_append,QhH hj hEj',hnA]
    exact hk
def DC (ops:Array Oper)(listed:Array Bool):Prop:=∀(k:Nat) (o:Oper),ops[k]?=some o→listed.getD k false=true→∀ e ∈ o.after,Region.binds .any e=true→listed.getD e.on false=true
theorem WY (m i:Nat):bit m i=m.testBit i:=by
 unfold bit Nat.testBit
 have:Nat.beq (Nat.land (Nat.shiftRight m i) 1) 1=((m >>> i) &&& 1 == 1):=by
  show Nat.beq ((m >>> i) &&& 1) 1=((m >>> i) &&& 1 == 1)
  cases hq:Nat.beq ((m >>> i) &&& 1) 1 with
  | true=>have:=Nat.eq_of_beq_eq_true hq;exact(beq_iff_eq.2 this).symm
  | false=>have:=Nat.ne_of_beq_eq_false hq;exact(beq_eq_false_iff_ne.2 this).symm
 rw [this,Nat.and_comm]
 have h2:(1 &&& (m >>> i))=0∨(1 &&& (m >>> i))=1:=by
  rw [Nat.and_comm,Nat.and_one_is_mod]
  omega
 rcases h2 with h2|h2<;>rw [h2]<;>rfl
theorem QpW (a b i:Nat):bit (Nat.lor a b) i=(bit a i||bit b i):=by
 rw [WY,WY,WY]
 exact Nat.testBit_or a b i
theorem QmD (d i:Nat):bit (Nat.shiftLeft 1 d) i=decide (i=d):=by
 rw [WY]
 show (1 <<< d).testBit i=_
 rw [Nat.testBit_shiftLeft]
 by_cases h:i=d
 ·subst h;simp
 ·by_cases h2:d≤i
  ·obtain⟨k,hk⟩:∃ k,i - d=k+1:=⟨i - d - 1,by omega⟩
   rw [hk,Nat.testBit_succ]
   simp [h]
  ·simp [h,h2]
theorem Qbf (i:Nat):bit 0 i=false:=by rw [WY];simp
theorem QhK {listed:Array Bool}{acc:List Nat}(hacc:∀ d,listed.getD d false=true→∀ j,bit (acc.getD d 0) j=true→listed.getD j false=true):∀(l:List Edge) (s:Nat),
  (∀ e ∈ l,Region.binds .any e=true→listed.getD e.on false=true)→(∀ j,bit s j=true→listed.getD j false=true) →
  ∀ j,bit (l.foldl (fun s e=>bif Region.binds .any e then Nat.lor s (Nat.lor (Nat.shiftLeft 1 e.on) (acc.getD e.on 0)) else s) s) j=true→listed.getD j false=true
 | [],s,_,hs,j,hj=>hs j hj
 | e :: l,s,hl,hs,j,hj=>by
  refine QhK hacc l _ (fun e' he'=>hl e' (by simp [he'])) ?_ j hj
  intro k hk
  dsimp only at hk
  cases hb:Region.binds .any e with
  | false=>rw [hb] at hk;exact hs k hk
  | true=>
   rw [hb] at hk
   simp only [cond_true,QpW,QmD,Bool.or_eq_true,decide_eq_true_eq] at hk
   have hd:=hl e (by simp) hb
   rcases hk with hk|rfl|hk
   ·exact hs k hk
   ·exact hd
   ·exact hacc _ hd k hk
theorem Qg8 {listed:Array Bool}:∀(l:List Oper) (acc:List Nat) (k0:Nat),acc.length=k0→(∀ i o,l[i]?=some o→ops[k0+i]?=some o)→DC ops listed →
  (∀ d,listed.getD d false=true→∀ j,bit (acc.getD d 0) j=true→listed.getD j false=true) →
  (∀ k o,k < k0→ops[k]?=some o→(∀ e ∈ o.after,Region.binds .any e=true→listed.getD e.on false=true)→∀ j,bit (acc.getD k 0) j=true→listed.getD j false=true) →
  ∀(k:Nat) (o:Oper),ops[k]?=some o→(∀ e ∈ o.after,Region.binds .any e=true→listed.getD e.on false=true)→∀ j,bit ((Qgj l acc).getD k 0) j=true→listed.getD j false=true
 | [],acc,k0,hlen,hl,hdc,hacc,hacc2,k,o,ho,hall,j,hj=>by
  simp only [Qgj] at hj
  by_cases hk:k < k0
  ·exact hacc2 k o hk ho hall j hj
  ·have:acc.getD k 0=0:=by simp [List.getD,List.getElem?_eq_none (show acc.length≤k by omega)]
   rw [this,Qbf] at hj
   simp at hj
 | x :: l,acc,k0,hlen,hl,hdc,hacc,hacc2,k,o,ho,hall,j,hj=>by
  simp only [Qgj] at hj
  have hx:ops[k0]?=some x:=by simpa using hl 0 x rfl
  have hm:(∀ e ∈ x.after,Region.binds .any e=true→listed.getD e.on false=true)→∀ j,bit (x.after.toList.foldl (fun s e=>bif Region.binds .any e then Nat.lor s (Nat.lor (Nat.shiftLeft 1 e.on) (acc.getD e.on 0)) else s) 0) j=true→listed.getD j false=true:=
   fun hall=>QhK hacc _ 0 (fun e he hb=>hall e (by simpa using he) hb) (fun j hj=>by rw [Qbf] at hj;simp at hj)
  refine Qg8 l _ (k0+1) (by simp [hlen]) ?_ hdc ?_ ?_ k o ho hall j hj
  ·intro i o hi
   have:=hl (i+1) o (by simpa using hi)
   rwa [show k0+(i+1)=k0+1+i by omega] at this
  ·intro d hd j hj
   by_cases h1:d < acc.length
   ·rw [List.getD,List.getElem?_append_left h1] at hj
    exact hacc d hd j hj
   ·by_cases h2:d=acc.length
    ·subst h2
     simp [List.getD] at hj
     exact hm (hdc acc.length x (by rw [hlen];exact hx) hd) j (by simpa using hj)
    ·rw [List.getD,List.getElem?_eq_none (by simp;omega)] at hj
     simp [Qbf] at hj
  ·intro k o hk ho hall j hj
   by_cases h1:k < acc.length
   ·rw [List.getD,List.getElem?_append_left h1] at hj
    exact hacc2 k o (by omega) ho hall j hj
   ·have h2:k=acc.length:=by omega
    subst h2
    rw [hlen,hx] at ho
    obtain rfl:=Option.some.inj ho
    simp [List.getD] at hj
    exact hm hall j (by simpa using hj)
theorem Qdi {i:Nat}{x:Oper}(hx:ops[i]?=some x):∀{l:List Nat},Qh1 P cfg ops ms i x l=true→∀ j ∈ l,bit (ms.getD i 0) j=false→∀ oj,ops[j]?=some oj→((isE P oj.op=false∨AC x oj)∨AB cfg x oj)∧XL ops x oj
 | [],_,j,hj,_,_,_=>by simp at hj
 | k :: l,H,j,hj,hb,oj,ho=>by
  simp only [Qh1,Bool.and_eq_true] at H
  rcases List.mem_cons.1 hj with rfl|hj
  ·rw [ho] at H
   simp only [hb,Bool.false_or,Bool.and_eq_true,Bool.not_eq_true',Bool.or_eq_true] at H
   obtain⟨⟨h1,h2⟩,_⟩:=H
   refine⟨?_,QjF h1⟩
   rcases h2 with (h2|⟨⟨h2,h3⟩,h4,h5⟩)|⟨⟨h2,h3⟩,h4,h5⟩
   ·exact .inl (.inl h2)
   ·exact .inl (.inr ⟨h2,by simpa using h3,h4,by simpa using h5⟩)
   ·exact .inr ⟨h2,by simpa using h3,h4,by simpa using h5⟩
  ·exact Qdi hx H.2 j hj hb oj ho
theorem MH {x:Oper}{done:List Nat}(h:Qk7 x done=true):∀ e ∈ x.after,Region.binds .any e=true→e.on ∈ done:=by
 intro e he hb
 unfold Qk7 at h
 have:=List.all_eq_true.1 h e (by simpa using he)
 simp only [hb,Bool.not_true,Bool.false_or] at this
 exact Xj.1 this
theorem Qde:∀{l done:List Nat},Vs P cfg ops ms done l=true→(∀ j ∈ done,∀ oj,ops[j]?=some oj→∀ e ∈ oj.after,Region.binds .any e=true→e.on ∈ done)→done.Nodup→(∀ j ∈ done,j < ops.size) →
  l.Pairwise (PR (P:=P) (cfg:=cfg) ops ms)∧(∀ i ∈ l,i < ops.size∧i ∉ done)∧l.Nodup∧done.length+l.length=ops.size∧(∀ i ∈ l,∀ o,ops[i]?=some o→∀ e ∈ o.after,Region.binds .any e=true→e.on < ops.size∧e.on≠i)
 | [],done,H,hd,hn,hlt=>by
  simp only [Vs] at H
  exact⟨List.Pairwise.nil,by simp,List.nodup_nil,by simpa using Nat.eq_of_beq_eq_true H,by simp⟩
 | i :: l,done,H,hd,hn,hlt=>by
  simp only [Vs,Bool.and_eq_true] at H
  obtain⟨H1,H2⟩:=H
  cases hi:ops[i]? with
  | none=>rw [hi] at H1;simp at H1
  | some x=>
   rw [hi] at H1
   simp only [Bool.and_eq_true,Bool.not_eq_true'] at H1
   obtain⟨⟨h1,h2⟩,h3⟩:=H1
   have hnm:i ∉ done:=by intro hm;rw [Xj.2 hm] at h1;simp at h1
   have hlt':i < ops.size:=(Array.getElem?_eq_some_iff.1 hi).1
   obtain⟨k1,k2,k3,k4,k5⟩:=Qde H2 (by
    intro j hj oj ho e he hb
    rcases List.mem_cons.1 hj with rfl|hj
    ·rw [hi] at ho;obtain rfl:=Option.some.inj ho
     exact List.mem_cons_of_mem _ (MH h2 e he hb)
    ·exact List.mem_cons_of_mem _ (hd j hj oj ho e he hb)) (List.nodup_cons.2 ⟨hnm,hn⟩) (by
    intro j hj
    rcases List.mem_cons.1 hj with rfl|hj
    ·exact hlt'
    ·exact hlt j hj)
   refine⟨List.pairwise_cons.2 ⟨?_,k1⟩,?_,List.nodup_cons.2 ⟨?_,k3⟩,?_,?_⟩
   ·intro j hj
    have hjd:=(k2 j hj).2
    simp only [List.mem_cons,not_or] at hjd
    refine⟨?_,?_⟩
    ·intro oj ho e he hb hon
     rw [hi] at ho;obtain rfl:=Option.some.inj ho
     exact hjd.2 (hon▸MH h2 e he hb)
    ·intro hb oj oi hoj hoi
     -- j stands behind i; what is checked at j against all ahead of it
     have:∀{l done:List Nat},Vs P cfg ops ms done l=true→∀ j ∈ l,∀ oi,ops[j]?=some oi→∀ k ∈ done,bit (ms.getD j 0) k=false→∀ ok,ops[k]?=some ok→((isE P ok.op=false∨AC oi ok)∨AB cfg oi ok)∧XL ops oi ok:=by
      intro l
      induction l with
      | nil=>intro done _ j hj;simp at hj
      | cons y l ih=>
       intro done H j hj oi hoi k hk hb ok hok
       simp only [Vs,Bool.and_eq_true] at H
       rcases List.mem_cons.1 hj with rfl|hj
       ·rw [hoi] at H
        simp only [Bool.and_eq_true] at H
        exact Qdi hoi H.1.2 k hk hb ok hok
       ·exact ih H.2 j hj oi hoi k (List.mem_cons_of_mem _ hk) hb ok hok
     exact this H2 j hj oi hoi i (by simp) hb oj hoj
   ·intro j hj
    rcases List.mem_cons.1 hj with rfl|hj
    ·exact⟨hlt',hnm⟩
    ·obtain⟨q1,q2⟩:=k2 j hj
     simp only [List.mem_cons,not_or] at q2
     exact⟨q1,q2.2⟩
   ·intro hm
    have:=(k2 i hm).2
    simp at this
   ·simp at k4 ⊢;omega
   ·intro j hj o ho e he hb
    rcases List.mem_cons.1 hj with rfl|hj
    ·rw [hi] at ho;obtain rfl:=Option.some.inj ho
     have:=MH h2 e he hb
     exact⟨hlt _ this,fun h=>hnm (h▸this)⟩
    ·exact k5 j hj o ho e he hb
theorem QlT (hP:Qbe P){w0:World}{h0:Hp}{K:St→Hp→Prop}{Q:Exit→Act→World→Prop}{st0:St}{D:List Nat}(hD:∀(i:Nat) (o:Oper),ops[i]?=some o→∀ d,o.dst=some d→d ∈ D)
  (hms:∀ listed:Array Bool,DC ops listed→∀(k:Nat) (o:Oper),ops[k]?=some o→(∀ e ∈ o.after,Region.binds .any e=true→listed.getD e.on false=true)→∀ j,bit (ms.getD k 0) j=true→listed.getD j false=true)
  (hQ:∀ st' h' a' w',K st' h'→Rel w0 h0 st' h' a' w'→Ev D st0 st'→Q .normal a' w') :
  ∀(n:Nat) {L:List Nat} {fl:List Fg} {st:St} {h:Hp} {a:Act} {w:World} {listed:Array Bool},FM fl→L.length=n→listed.size=ops.size→(∀ i,i < ops.size→(listed.getD i true=false↔i ∈ L))→(∀ i ∈ L,i < ops.size)→L.Nodup→L.Pairwise (PR (P:=P) (cfg:=cfg) ops ms)→DC ops listed →
   (∀(i:Nat) (o:Oper),ops[i]?=some o→∀ e ∈ o.after,Region.binds .any e=true→e.on < ops.size∧e.on≠i) →
   Rel w0 h0 st h a w→Ev D st0 st→vcD P cfg ops ms L fl st h K→wpAny P .any ops Q n listed a w
 | 0,L,fl,st,h,a,w,listed,hfm,hn,hsz,hL,hlt,hnd,hpw,hdc,hin,R,E,H=>by
  obtain rfl:=List.eq_nil_of_length_eq_zero hn
  refine⟨?_,hQ st h a w H R E⟩
  cases hr:Region.ready .any ops listed with
  | nil=>rfl
  | cons i l=>
   have:i ∈ Region.ready .any ops listed:=by rw [hr];simp
   obtain⟨h1,o,ho,_⟩:=mem_ready.1 this
   have:=(hL i (Array.getElem?_eq_some_iff.1 ho).1).1 h1
   simp at this
 | n+1,L,fl,st,h,a,w,listed,hfm,hn,hsz,hL,hlt,hnd,hpw,hdc,hin,R,E,H=>by
  have hlist:∀ i,i < ops.size→i ∉ L→listed.getD i false=true:=by
   intro i hi hm
   have hb:listed.getD i true=listed[i]'(by omega):=by simp [show i < listed.size by omega]
   have hb':listed.getD i false=listed[i]'(by omega):=by simp [show i < listed.size by omega]
   rw [hb',←hb]
   cases hq:listed.getD i true with
   | true=>rfl
   | false=>exact(hm ((hL i hi).1 hq)).elim
  refine⟨?_,?_⟩
  ·intro hr
   match L,hn with
   | x :: L',_=>
    have hx:=hlt x (by simp)
    obtain⟨ox,hox⟩:∃ o,ops[x]?=some o:=⟨ops[x],by simp [hx]⟩
    have:x ∈ Region.ready .any ops listed:=by
     refine mem_ready.2 ⟨(hL x hx).2 (by simp),ox,hox,fun e he hb=>?_⟩
     refine hlist _ (hin x ox hox e he hb).1 ?_
     intro hm
     rcases List.mem_cons.1 hm with hm|hm
     ·exact(hin x ox hox e he hb).2 hm
     ·exact((List.pairwise_cons.1 hpw).1 _ hm).dep ox hox e he hb rfl
    rw [hr] at this
    simp at this
  ·intro i hi
   obtain⟨hl1,oi,hoi,hdeps⟩:=mem_ready.1 hi
   have hil:i < ops.size:=(Array.getElem?_eq_some_iff.1 hoi).1
   have hiL:=(hL i hil).1 hl1
   obtain⟨A,B,rfl⟩:=List.append_of_mem hiL
   have hmask:=hms listed hdc i oi hoi hdeps
   have hunl:∀ j ∈ A,bit (ms.getD i 0) j=false:=by
    intro j hj
    cases hb:bit (ms.getD i 0) j with
    | false=>rfl
    | true=>
     have h1:=hmask j hb
     have h2:=(hL j (hlt j (by simp [hj]))).2 (by simp [hj])
     have hjs:j < listed.size:=by rw [hsz];exact hlt j (by simp [hj])
     simp [hjs] at h1 h2
     rw [h1] at h2
     simp at h2
   have hpr:∀ j ∈ A,PR (P:=P) (cfg:=cfg) ops ms j i:=fun j hj=>(List.pairwise_append.1 hpw).2.2 j hj i (by simp)
   obtain⟨ρ,R0⟩:=R
   have W:WF st:=fun i s p x hi=>R0.gd i s p x hi
   have R:Rel w0 h0 st h a w:=⟨ρ,R0⟩
   have Hop:ZV P cfg ops oi st h fun s h2=>vcD P cfg ops ms (A++B) fl s h2 K:=by
    cases hE:isE P oi.op with
    | true=>
     refine Jm (exE hoi hE A W hfm ⟨w,R0.sub⟩ (fun j hj=>⟨hunl j hj,fun oj hoj=>(hpr j hj).un (hunl j hj) oj oi hoj hoi⟩) H) fun s h2 hk=>QrX hk
    | false=>
     refine Qf2 hE W (exV hoi hE A W (fun j hj oj hoj=>?_) H) fun s _ hk=>hk
     obtain⟨q1,q2⟩:=(hpr j hj).un (hunl j hj) oj oi hoj hoi
     refine⟨?_,q2⟩
     rcases q1 with (q1|q1)|q1
     ·exact q1
     all_goals
      exfalso
      have:isA oi.op=true:=by first|exact q1.1|exact QnX q1.1
      cases ho:oi.op<;>rw [ho] at this hE<;>first|(cases hE;done)|(cases this;done)
   unfold wpOp
   rw [hoi]
   refine QfW hP R Hop ?_
   intro st' h' a' w' hk R' E'
   have hnd':=List.nodup_append.1 hnd
   refine QlT hP hD hms hQ n hfm (by simp at hn ⊢;omega) (by simp [hsz]) ?_ ?_ ?_ ?_ ?_ hin R' (E.trans (E'.mono ?_)) hk
   ·intro k hk
    by_cases hki:i=k
    ·subst hki
     have hnm:i ∉ A++B:=by
      rw [List.nodup_append] at hnd
      simp only [List.mem_append,not_or]
      refine⟨fun hm=>hnd.2.2 i hm i (by simp) rfl,?_⟩
      have:=(List.nodup_cons.1 hnd.2.1).1
      exact this
     simp only [hnm,iff_false]
     simp [hsz,hk]
    ·rw [getD_set_ne true hki,hL k hk]
     simp only [List.mem_append,List.mem_cons]
     constructor
     ·rintro(h1|h1|h1)
      ·exact .inl h1
      ·exact(hki h1.symm).elim
      ·exact .inr h1
     ·rintro(h1|h1)
      ·exact .inl h1
      ·exact .inr (.inr h1)
   ·intro k hk
    exact hlt k (by simp only [List.mem_append,List.mem_cons] at hk ⊢;rcases hk with h1|h1<;>simp [h1])
   ·exact hnd.sublist (List.Sublist.append (List.Sublist.refl A) (List.sublist_cons_self i B))
   ·exact hpw.sublist (List.Sublist.append (List.Sublist.refl A) (List.sublist_cons_self i B))
   ·intro k o ho hlk e he hb
    by_cases hki:i=k
    ·subst hki
     rw [hoi] at ho;obtain rfl:=Option.some.inj ho
     exact getD_set_true (hdeps e he hb)
    ·rw [getD_set_ne false hki] at hlk
     exact getD_set_true (hdc k o ho hlk e he hb)
   ·intro d hd
    cases hod:oi.dst with
    | none=>rw [hod] at hd;simp [Qgk] at hd
    | some x=>rw [hod] at hd;simp [Qgk] at hd;subst hd;exact hD i oi hoi d hod
theorem QeH:∀{n:Nat} {l:List Nat},Qg9 n l=true→∀ i,i < n→i ∈ l
 | 0,l,_,i,hi=>by omega
 | n+1,l,H,i,hi=>by
  simp only [Qg9,Bool.and_eq_true] at H
  by_cases h:i=n
  ·subst h;exact Xj.1 H.1
  ·exact QeH H.2 i (by omega)
theorem QpK (hP:Qbe P)(hm:P.follows .mixedOrders=true){id:Nat}{l:List Nat}{w0:World}{h0:Hp}{st:St}{h:Hp}{a:Act}{w:World}{K:St→Hp→Prop}{Q:Exit→Act→World→Prop}
  (hchk:Vs P cfg ops (Qgj ops.toList []) [] l=true) (hin:Qg9 ops.size l=true) (R:Rel w0 h0 st h a w) (H:vcD P cfg ops (Qgj ops.toList []) l [] st h K)
  (hQ:∀ st' h' a' w',K st' h'→Rel w0 h0 st' h' a' w'→Ev (X7 ops.toList) st st'→Q .normal a' w'):(Code.region id ops true).wp P Q a w:=by
 obtain⟨k1,k2,k3,k4,k5⟩:=Qde (ops:=ops) (ms:=Qgj ops.toList []) hchk (by simp) List.nodup_nil (by simp)
 have hlen:l.length=ops.size:=by simpa using k4
 have hall:∀ i,i < ops.size→i ∈ l:=by
  intro i hi
  exact QeH hin i hi
 obtain⟨ρ,R0⟩:=R
 have R1:Rel w0 h0 st h a { w with drawn:=w.drawn+1 }:=
  ⟨ρ,R0.step (h':=h) (w':={ w with drawn:=w.drawn+1 }) R0.sub ⟨rfl,rfl,rfl,Nat.le_refl _,fun b hb hn=>⟨rfl,hn⟩⟩⟩
 refine wp_region_any hm ?_
 refine QlT hP (D:=X7 ops.toList) (st0:=st) ?_ ?_ hQ ops.size (L:=l) (fl:=[]) (fun f hf=>by simp at hf) hlen (by simp) ?_ (fun i hi=>(k2 i hi).1) k3 k1 ?_ ?_ R1 (Ev.refl _ _) H
 ·intro i o ho d hd
  have:∀(m:List Oper),o ∈ m→d ∈ X7 m:=by
   intro m
   induction m with
   | nil=>simp
   | cons x m ih=>
    intro hm
    rcases List.mem_cons.1 hm with rfl|hm
    ·simp [X7,hd]
    ·exact Qk2 (ih hm)
  exact this _ (by simpa using Array.mem_of_getElem? ho)
 ·intro listed hdc k o ho hall' j hj
  refine Qg8 ops.toList [] 0 rfl (fun i o hi=>by simpa using hi) hdc (fun d _ j hj=>?_) (fun k o hk=>by omega) k o ho hall' j hj
  simp [List.getD,Qbf] at hj
 ·intro i hi
  simp [hall i hi,hi]
 ·intro k o ho hlk
  exfalso
  by_cases hk:k < ops.size<;>simp [hk] at hlk
 ·intro i o ho e he hb
  exact k5 i (hall i (Array.getElem?_eq_some_iff.1 ho).1) o ho e he hb
end
section
variable {P:Program}{cfg:Cfg}{w0:World}{h0:Hp}
theorem QjA {o:Oper}{l:List Oper}{i:Nat}(hi:i ∈ Qgk o.dst):i ∈ X7 (o :: l):=by
 simp only [X7]
 cases hd:o.dst with
 | none=>rw [hd] at hi;simp [Qgk] at hi
 | some d=>rw [hd] at hi;simp [Qgk] at hi;simp [hi]
theorem Qhp {o:Oper}{l:List Oper}{i:Nat}(hi:i ∈ X7 l):i ∈ X7 (o :: l):=by
 simp only [X7]
 cases o.dst<;>simp [hi]
theorem QjP (hP:Qbe P){ops:Array Oper}{Q:Exit→Act→World→Prop}:∀(l:List Oper) {st:St} {h:Hp} {a:Act} {w:World} {K:St→Hp→Prop},Rel w0 h0 st h a w→Qmr P cfg ops l st h K →
  (∀ st' h' a' w',K st' h'→Rel w0 h0 st' h' a' w'→Ev (X7 l) st st'→Q .normal a' w')→wpList P ops Q l a w
 | [],st,h,a,w,K,R,H,hn=>hn st h a w H R (Ev.refl _ _)
 | o :: l,st,h,a,w,K,R,H,hn=>by
  refine Qpt hP R (show ZV P cfg ops o st h _ from H) ?_
  intro st' h' a' w' hk R' E'
  refine QjP hP l R' hk ?_
  intro st2 h2 a2 w2 hk2 R2 E2
  exact hn st2 h2 a2 w2 hk2 R2 ((E'.mono fun i hi=>QjA hi).trans (E2.mono fun i hi=>Qhp hi))
theorem Qnf {ρ:Nat→Option Nat}{st:St}{h:Hp}{a:Act}{w:World}(R:Xz ρ w0 h0 st h a w)(hg:st.g=(fun _=>false))(i s:Nat)(p:Bool)(x:SV):st.t i≠.gd s p x:=by
 intro e
 have:=R.gd i s p x e
 rw [hg] at this
 simp at this
theorem QiG {st0 st:St}{h:Hp}{a:Act}{w:World}{D:List Nat}(R0:∀ i s p x,st0.t i≠.gd s p x)(R:Rel w0 h0 st h a w)(E:Ev D st0 st):Rel w0 h0 (QiH D st) h a w∧(QiH D st).g=(fun _=>false)∧Ev D st0 (QiH D st):=by
 obtain⟨ρ,R⟩:=R
 have hno:∀ i s p x,(QiH D st).t i≠.gd s p x:=by
  intro i s p x e
  simp only [QiH] at e
  split at e
  ·simp at e
  ·rename_i s' p' x' hi
   cases hm:Gv i D with
   | true=>rw [hm] at e;simp at e
   | false=>
    have:i ∉ D:=by intro hd;rw [Xj.2 hd] at hm;simp at hm
    rw [E.t i this] at hi
    exact R0 i _ _ _ hi
 refine⟨⟨ρ,R.n,R.d,fun i=>?_,fun i s p x e=>(hno i s p x e).elim,R.sub,R.F,R.box,R.dom,R.inj⟩,rfl,E.n,fun i hi=>?_,E.b⟩
 ·have hr:=R.fr i
  simp only [QiH]
  split
  ·rename_i x hx;rw [hx] at hr;exact hr
  ·rename_i s p x hx
   cases hm:Gv i D with
   | true=>exact trivial
   | false=>
    have:i ∉ D:=by intro hd;rw [Xj.2 hd] at hm;simp at hm
    rw [E.t i this] at hx
    exact(R0 i _ _ _ hx).elim
 ·have e:=E.t i hi
  simp only [QiH]
  split
  ·rename_i x hx;rw [←e,hx]
  ·rename_i s p x hx;rw [e] at hx;exact(R0 i _ _ _ hx).elim
def Z7:Exit→Option Ex
 | .normal=>some .nrm
 | .exit id=>some (.ext id)
 | .ret=>some .ret
 | _=>none
def Qrm (w0:World)(h0:Hp)(D:List Nat)(st:St)(Q:Ex→St→Hp→Prop)(e:Exit)(a:Act)(w:World):Prop:=
 ∃ x st' h',Z7 e=some x∧Q x st' h'∧Rel w0 h0 st' h' a w∧st'.g=(fun _=>false)∧Ev D st st'
theorem QmC {c:Code}{Q:Exit→Act→World→Prop}{a:Act}{w:World}(I:Nat→Act→World→Prop)(n:Nat)(h1:I n a w)
  (round:∀ n a w,I n a w→c.wp P (Exit.then (fun a' w'=>∃ m,m < n∧I m a' w') Q) a w):(Code.loop c).wp P Q a w:=by
 intro b k cs
 have key:∀ n a w,I n a w→∃ e a' w',Q e a' w'∧Arrives P (lone (b.at a (.code c :: .inLoop c :: k)) cs w) b k cs e a' w':=by
  intro n
  induction n using Nat.strongRecOn with
  | _ n ih=>
   intro a w hI
   obtain⟨e,a₁,w₁,hq,harr⟩:=round n a w hI b (.inLoop c :: k) cs
   cases e with
   | normal=>
    obtain⟨m,hlt,hI₁⟩:=hq
    obtain⟨e₂,a₂,w₂,hq₂,harr₂⟩:=ih m hlt a₁ w₁ hI₁
    exact⟨e₂,a₂,w₂,hq₂,.of_steps (Steps.trans harr (.one step_inLoop)) harr₂⟩
   | exit id=>exact⟨_,a₁,w₁,hq,.pass (x:=.inLoop c) rfl (fun _ _=>.inl (by simp)) harr⟩
   | goto l=>exact⟨_,a₁,w₁,hq,.pass (x:=.inLoop c) rfl (fun _ _=>.inl (by simp)) harr⟩
   | ret=>exact⟨_,a₁,w₁,hq,.pass (x:=.inLoop c) rfl (fun _ _=>.inl (by simp)) harr⟩
   | panic ch=>exact⟨_,a₁,w₁,hq,.pass (x:=.inLoop c) rfl (fun _ _=>.inl (by simp)) harr⟩
   | outgrown=>exact⟨_,a₁,w₁,hq,.pass (x:=.inLoop c) rfl (fun _ _=>.inl (by simp)) harr⟩
 obtain⟨e,a',w',hq,harr⟩:=key n a w h1
 exact⟨e,a',w',hq,.of_steps (.one step_loop) harr⟩
theorem Qh3 (l:List TW):(Uj l).length=l.length:=by induction l<;>simp_all [Uj]
theorem Qcd {st:St}:∀{l:List Nat} {vs:List Value},WT st l=some vs→vs.length=l.length
 | [],vs,H=>by simp [WT] at H;simp [←H]
 | s :: l,vs,H=>by
  simp only [WT] at H
  split at H
  ·rename_i x vs' hx hl
   simp only [Option.some.injEq] at H
   subst H
   simp [Qcd hl]
  ·simp at H
theorem Qds {ρ:Nat→Option Nat}{tm:Array Value}{st:St}(hst:∀ i x,st.t i=.s (.t x)→tm.getD i undef=x.val):∀(slots:List Nat) (xs:List TW) (t:Nat→Sl),
  (∀ i,(t i).ok ρ tm (tm.getD i undef))→WT st slots=some (Uj xs)→∀ i,(Yk t slots xs i).ok ρ tm (tm.getD i undef)
 | [],xs,t,ht,_=>by intro i;simpa [Yk] using ht i
 | s :: l,[],t,ht,H=>by intro i;simpa [Yk] using ht i
 | s :: l,x :: xs,t,ht,H=>by
  simp only [WT] at H
  split at H
  ·rename_i y vs' hy hl
   simp only [Option.some.injEq,Uj,List.cons.injEq] at H
   refine Qds hst l xs _ ?_ (by rw [hl,H.2])
   intro i
   cases hb:Nat.beq i s with
   | true=>
    have:=Nat.eq_of_beq_eq_true hb
    subst this
    have e:=hst i y hy
    simp only [cond_true,Sl.ok,SV.ok]
    rw [e,H.1]
   | false=>exact ht i
  ·simp at H
theorem Ms:∀(slots:List Nat) (xs:List TW) (t:Nat→Sl) (i:Nat),i ∉ slots→Yk t slots xs i=t i
 | [],xs,t,i,_=>by simp [Yk]
 | s :: l,[],t,i,_=>by simp [Yk]
 | s :: l,x :: xs,t,i,hi=>by
  simp only [List.mem_cons,not_or] at hi
  simp only [Yk]
  rw [Ms l xs _ i hi.2]
  have:Nat.beq i s=false:=by cases hq:Nat.beq i s<;>simp_all
  simp [this]
theorem Qan:∀(slots:List Nat) (xs:List TW) (t:Nat→Sl),(∀ i s p x,t i≠.gd s p x)→∀ i s p x,Yk t slots xs i≠.gd s p x
 | [],xs,t,ht=>by simpa [Yk] using ht
 | s :: l,[],t,ht=>by simpa [Yk] using ht
 | s :: l,x :: xs,t,ht=>by
  simp only [Yk]
  refine Qan l xs _ ?_
  intro i s' p y
  cases hb:Nat.beq i s with
  | true=>simp
  | false=>exact ht i s' p y
theorem QnE {l d:List Nat}(H:Qqy l d=true):∀ i,i ∈ l→i ∈ d:=by
 induction l with
 | nil=>simp
 | cons x l ih=>
  simp only [Qqy,Bool.and_eq_true] at H
  intro i hi
  rcases List.mem_cons.1 hi with rfl|hi
  ·exact Xj.1 H.1
  ·exact ih H.2 i hi
theorem Uw:∀(bxs:List (Nat × List Sh1)) (ys:List (List TV)) (b:List Box) (j:Nat),(ZR b bxs ys)[j]?=b[j]?∨(∃ x y,b[j]?=some x∧(ZR b bxs ys)[j]?=some y∧y.ty=x.ty∧x.st < y.st∧(Kn j bxs).isSome=true)
 | [],ys,b,j=>by left;simp [ZR]
 | (i,s) :: l,[],b,j=>by left;simp [ZR]
 | (i,s) :: l,y :: ys,b,j=>by
  simp only [ZR]
  cases hb:b[i]? with
  | none=>
   simp only
   rcases Uw l ys b j with h|⟨u,v,h1,h2,h3,h4,h5⟩
   ·exact .inl h
   ·refine .inr ⟨u,v,h1,h2,h3,h4,?_⟩
    simp only [Kn]
    cases hq:Nat.beq j i<;>simp [h5]
  | some bx=>
   simp only
   rcases Uw l ys (Jw b i ⟨bx.ty,y,bx.st+1⟩) j with h|⟨u,v,h1,h2,h3,h4,h5⟩
   ·rw [Jp] at h
    split at h
    ·rename_i e
     obtain⟨rfl,_⟩:=e
     right
     refine⟨bx,_,(by first|exact hb|rfl),h,rfl,by simp,?_⟩
     simp [Kn]
    ·exact .inl h
   ·rw [Jp] at h1
    split at h1
    ·rename_i e
     obtain⟨rfl,_⟩:=e
     simp only [Option.some.injEq] at h1
     subst h1
     refine .inr ⟨bx,v,(by first|exact hb|rfl),h2,h3,by simp at h4;omega,by simp [Kn]⟩
    ·refine .inr ⟨u,v,h1,h2,h3,h4,?_⟩
     simp only [Kn]
     cases hq:Nat.beq j i<;>simp [h5]
theorem Jh:∀(bxs:List (Nat × List Sh1)) (ys:List (List TV)) (b:List Box),(ZR b bxs ys).length=b.length
 | [],ys,b=>by simp [ZR]
 | (i,s) :: l,[],b=>by simp [ZR]
 | (i,s) :: l,y :: ys,b=>by
  simp only [ZR]
  cases hb:b[i]? with
  | none=>simp only;exact Jh l ys b
  | some bx=>simp only;rw [Jh l ys _,Jg]
theorem Qg4:∀{l:List (Nat × List Sh1)} {K:List (List TV)→Prop},Qq9 l K→∃ ys,K ys∧ys.length=l.length∧∀(k:Nat) (q:Nat × List Sh1) (y:List TV),l[k]?=some q→ys[k]?=some y→y.length=q.2.length
 | [],K,H=>⟨[],H,rfl,by simp⟩
 | (i,s) :: l,K,H=>by
  obtain⟨x,H,hx⟩:=G9 (show exL s _ from H)
  obtain⟨xs,H,e,hl⟩:=Qg4 H
  refine⟨x :: xs,H,by simp [e],fun k q y h1 h2=>?_⟩
  cases k with
  | zero=>simp at h1 h2;subst h1;subst h2;exact hx
  | succ k=>exact hl k q y (by simpa using h1) (by simpa using h2)
theorem QeP:∀{l:List Sh0} {K:List TW→Prop},Qbz l K→∃ x,K x∧x.length=l.length
 | [],K,H=>⟨[],H,rfl⟩
 | s :: l,K,H=>by
  obtain⟨x,H⟩:=Qbo (show ex0 s _ from H)
  obtain⟨xs,H,e⟩:=QeP H
  exact⟨x :: xs,H,by simp [e]⟩
theorem QkS {st st':St}{h:Hp}{a:Act}{w:World}{D slots:List Nat}{bxs:List (Nat × List Sh1)}{xs:List TW}{ys:List (List TV)}
  (hg0:∀ i s p x,st.t i≠.gd s p x) (hbnd:∀ i j o,i ∉ D→st.t i=.s (.bp j o)→j < st.b.length) (hsub:∀ i,i ∈ slots→i ∈ D)
  (R:Rel w0 h0 st' h a w) (hg':st'.g=(fun _=>false)) (hn:st'.n=st.n) (ht:∀ i,i ∉ D→st'.t i=st.t i)
  (hlb:st.b.length≤st'.b.length) (hty:∀(j:Nat) (x y:Box),st.b[j]?=some x→st'.b[j]?=some y→y.ty=x.ty)
  (hsame:∀(j:Nat) (x y:Box),(Kn j bxs).isSome=false→st.b[j]?=some x→st'.b[j]?=some y→Qq y.c=Qq x.c)
  (hbi:∀(k:Nat) (q:Nat × List Sh1),bxs[k]?=some q→q.1 < st.b.length)
  (hv:UX st' slots bxs=some (Uj xs++QcT ys)) (hxl:xs.length=slots.length) (hyl:ys.length=bxs.length)
  (hylen:∀(k:Nat) (q:Nat × List Sh1) (y:List TV) (x:Box),bxs[k]?=some q→ys[k]?=some y→st'.b[q.1]?=some x→y.length=x.c.length)
  (hg:st.g=(fun _=>false)):Rel w0 h0 (UG st D slots bxs xs ys) h a w:=by
 obtain⟨ρ,R⟩:=R
 have hsv:WT st' slots=some (Uj xs)∧Qbp st' bxs=some (QcT ys):=by
  unfold UX at hv
  split at hv
  ·rename_i u v hu hv'
   simp only [Option.some.injEq] at hv
   have hl:=Qcd hu
   obtain⟨e1,e2⟩:=List.append_inj hv (by rw [hl,Qh3,hxl])
   exact⟨by rw [hu,e1],by rw [hv',e2]⟩
  ·simp at hv
 -- the boxes of the head against the frame's
 have key:∀(j:Nat) (x y:Box),(ZR st.b bxs ys)[j]?=some x→st'.b[j]?=some y→Qq x.c=Qq y.c∧x.ty=y.ty:=by
  have:∀(l:List (Nat × List Sh1)) (zs:List (List TV)) (b:List Box),Qbp st' l=some (QcT zs)→zs.length=l.length →
    (∀(k:Nat) (q:Nat × List Sh1) (y:List TV) (x:Box),l[k]?=some q→zs[k]?=some y→st'.b[q.1]?=some x→y.length=x.c.length) →
    (∀(k:Nat) (q:Nat × List Sh1),l[k]?=some q→q.1 < b.length) →
    (∀(j:Nat) (x y:Box),b[j]?=some x→st'.b[j]?=some y→(Qq x.c=Qq y.c∨(Kn j l).isSome=true)∧x.ty=y.ty) →
    ∀(j:Nat) (x y:Box),(ZR b l zs)[j]?=some x→st'.b[j]?=some y→Qq x.c=Qq y.c∧x.ty=y.ty:=by
   intro l
   induction l with
   | nil=>intro zs b _ _ _ _ hb j x y hx hy;obtain⟨h1,h2⟩:=hb j x y (by simpa [ZR] using hx) hy;exact⟨h1.resolve_right (by simp [Kn]),h2⟩
   | cons q l ih=>
    obtain⟨i,s⟩:=q
    intro zs b H hl hlen hbi hb
    cases zs with
    | nil=>simp at hl
    | cons z zs=>
     simp only [Qbp] at H
     split at H
     ·rename_i bx vs hbx hvs
      simp only [Option.some.injEq,QcT] at H
      have hylen:=hlen 0 (i,s) z bx rfl rfl hbx
      have hsp:=List.append_inj H (by simp [Q7,hylen])
      have hib:i < b.length:=hbi 0 (i,s) rfl
      obtain⟨b0,hb0⟩:∃ b0,b[i]?=some b0:=⟨b[i],by simp [hib]⟩
      simp only [ZR,hb0]
      refine ih zs _ (by rw [hvs,hsp.2]) (by simpa using hl) (fun k q y' x h1 h2 h3=>hlen (k+1) q y' x (by simpa using h1) (by simpa using h2) h3)
       (fun k q hq=>by rw [Jg];exact hbi (k+1) q (by simpa using hq)) ?_
      intro j x y hx hy
      rw [Jp] at hx
      split at hx
      ·rename_i e
       obtain⟨rfl,_⟩:=e
       rw [hbx] at hy
       obtain rfl:=Option.some.inj hy
       simp only [Option.some.injEq] at hx
       subst hx
       exact⟨.inl hsp.1.symm,(hb j b0 bx hb0 hbx).2⟩
      ·rename_i e
       obtain⟨h1,h2⟩:=hb j x y hx hy
       refine⟨?_,h2⟩
       rcases h1 with h1|h1
       ·exact .inl h1
       ·simp only [Kn] at h1
        cases hq:Nat.beq j i with
        | true=>
         have:=Nat.eq_of_beq_eq_true hq
         subst this
         exact(e ⟨rfl,hib⟩).elim
        | false=>rw [hq] at h1;exact .inr h1
     ·simp at H
  refine this bxs ys st.b hsv.2 hyl hylen hbi ?_
  intro j x y hx hy
  refine⟨?_,(hty j x y hx hy).symm⟩
  cases hq:(Kn j bxs).isSome with
  | true=>exact .inr rfl
  | false=>exact .inl (hsame j x y hq hx hy).symm
 refine⟨fun i=>if i < st.b.length then ρ i else none,?_,R.d,?_,?_,R.sub,R.F,?_,?_,?_⟩
 ·rw [R.n,hn];rfl
 ·have hst:∀ i x,st'.t i=.s (.t x)→a.tmps.getD i undef=x.val:=by
   intro i x hx
   have:=R.fr i
   rw [hx] at this
   exact this
  refine Qds (st:=st') hst slots xs _ ?_ hsv.1
  intro i
  cases hm:Gv i D with
  | true=>exact trivial
  | false=>
   have hi:i ∉ D:=by intro hd;rw [Xj.2 hd] at hm;simp at hm
   have hr:=R.fr i
   rw [ht i hi] at hr
   simp only [cond_false]
   cases hs:st.t i with
   | gd s p x=>exact(hg0 i s p x hs).elim
   | s x=>
    rw [hs] at hr
    cases x with
    | bp j o=>
     obtain⟨b,h1,h2⟩:=hr
     exact⟨b,by simp [hbnd i j o hi hs,h1],h2⟩
    | _=>exact hr
 ·intro i s p x e
  refine(Qan slots xs _ ?_ i s p x e).elim
  intro i s p x
  cases hm:Gv i D with
  | true=>simp
  | false=>exact hg0 i s p x
 ·intro i bx hbx
  have hil:i < st.b.length:=by
   have:=(List.getElem?_eq_some_iff.1 hbx).1
   simpa [UG,Jh] using this
  obtain⟨by',hby⟩:∃ y,st'.b[i]?=some y:=⟨st'.b[i]'(by omega),by simp [show i < st'.b.length by omega]⟩
  obtain⟨b,h1,h2,h3,h4⟩:=R.box i by' hby
  obtain⟨k1,k2⟩:=key i bx by' hbx hby
  exact⟨b,by simp [hil,h1],by rw [k1,k2];exact h2,h3,h4⟩
 ·intro i b hi
  split at hi
  ·rename_i hl;simpa [UG,Jh] using hl
  ·simp at hi
 ·intro i j b hi hj
  split at hi
  ·split at hj
   ·exact R.inj i j b hi hj
   ·simp at hj
  ·simp at hi
theorem QeF:∀(l m:List Box) (bxs:List (Nat × List Sh1)) (k:Nat),Qfj k l m bxs=true→l.length≤m.length∧∀(j:Nat) (x y:Box),(Kn (k+j) bxs).isSome=false→l[j]?=some x→m[j]?=some y→x.st=y.st
 | [],m,bxs,k,_=>⟨by simp,by simp⟩
 | x :: l,[],bxs,k,H=>by simp [Qfj] at H
 | x :: l,y :: m,bxs,k,H=>by
  simp only [Qfj,Bool.and_eq_true,Bool.or_eq_true] at H
  obtain⟨h1,h2⟩:=QeF l m bxs (k+1) H.2
  refine⟨by simp;exact h1,fun j u v hj hu hv=>?_⟩
  cases j with
  | zero=>
   simp at hu hv hj
   subst hu;subst hv
   rcases H.1 with h|h
   ·rw [hj] at h;simp at h
   ·exact Nat.eq_of_beq_eq_true h
  | succ j=>exact h2 j u v (by rw [show k+1+j=k+(j+1) by omega];exact hj) (by simpa using hu) (by simpa using hv)
theorem Vw {st:St}:∀{l:List (Nat × List Sh1)},VI st l=true→∀(k:Nat) (q:Nat × List Sh1),l[k]?=some q→∃ bx,st.b[q.1]?=some bx∧bx.c.length=q.2.length
 | [],_,k,q,hq=>by simp at hq
 | (i,s) :: l,H,k,q,hq=>by
  simp only [VI,Bool.and_eq_true] at H
  cases k with
  | zero=>
   simp at hq
   subst hq
   cases hb:st.b[i]? with
   | none=>rw [hb] at H;simp at H
   | some bx=>rw [hb] at H;exact⟨bx,rfl,Nat.eq_of_beq_eq_true H.1⟩
  | succ k=>exact Vw H.2 k q (by simpa using hq)
theorem QjD {b b':List Box}(H:QJ b b'):b.length≤b'.length:=by
 rcases Nat.lt_or_ge b'.length b.length with h|h
 ·obtain⟨x,hx⟩:∃ x,b[b'.length]?=some x:=⟨b[b'.length],by simp [h]⟩
  obtain⟨y,hy,_⟩:=H _ _ hx
  have:=(List.getElem?_eq_some_iff.1 hy).1
  omega
 ·exact h
theorem Qnc {st:St}{D slots:List Nat}{bxs:List (Nat × List Sh1)}{xs:List TW}{ys:List (List TV)}(hsub:∀ i,i ∈ slots→i ∈ D):Ev D st (UG st D slots bxs xs ys):=by
 refine⟨rfl,fun i hi=>?_,?_⟩
 ·simp only [UG]
  rw [Ms _ _ _ _ (fun h=>hi (hsub i h))]
  have:Gv i D=false:=by cases hm:Gv i D with|true=>exact(hi (Xj.1 hm)).elim|false=>rfl
  simp [this]
 ·intro i x hx
  rcases Uw bxs ys st.b i with h|⟨u,v,h1,h2,h3,h4,h5⟩
  ·exact⟨x,by simp only [UG];rw [h,hx],rfl,Nat.le_refl _,fun _=>rfl⟩
  ·rw [hx] at h1
   obtain rfl:=Option.some.inj h1
   exact⟨v,h2,h3,by omega,fun e=>by omega⟩
theorem Qqt {l n:Nat}{o:Oper}{a:Act}{w:World}{N:Act→World→Prop}{Q:Exit→Act→World→Prop}(hnd:∀ c,o.op≠.defer c)(H:o.wp P a w N (fun _ _ _=>False)):o.wpIn (Fence.wide.inRound l) n P a w N Q:=by
 unfold Oper.wp at H
 refine⟨fun _ _=>trivial,?_⟩
 rw [Oper.semAt_eq _ _ _ hnd]
 cases hr:(execOp a.eval o).run P w with
 | ok v w'=>
  rw [hr] at H
  cases v with
  | value v=>exact H
  | skip=>exact H
  | defer d=>exact H
  | enter f args=>
   refine⟨fun h=>(by cases h),CallsIn.inRound l ((callsIn_wide.2 H).mono ?_)⟩
   intro e w' he
   cases e with
   | returned v=>exact he
   | panicked ch=>exact he.elim
   | outgrown=>obtain⟨_,_,h⟩:=he;exact h.elim
  | row r args=>
   refine⟨fun h=>(by cases h),fun c cs _=>?_⟩
   obtain⟨v,w2,h1,h2⟩:=H c cs
   exact⟨v,w2,h1,stepsIn_wide.2 h2⟩
  | _=>exact H.elim
 | halt q w'=>
  rw [hr] at H
  cases q with
  | panic v=>exact H.elim
  | _=>exact H.elim
theorem QkD (hP:Qbe P){l0 n:Nat}{ops:Array Oper}{Q:Exit→Act→World→Prop}:∀(l:List Oper),Qmc l=true→∀{st:St} {h:Hp} {a:Act} {w:World} {K:St→Hp→Prop},Rel w0 h0 st h a w→Qmr P cfg ops l st h K →
  (∀ st' h' a' w',K st' h'→Rel w0 h0 st' h' a' w'→Ev (X7 l) st st'→Q .normal a' w')→wpListIn (Fence.wide.inRound l0) n P ops Q l a w
 | [],_,st,h,a,w,K,R,H,hn=>hn st h a w H R (Ev.refl _ _)
 | o :: l,hf,st,h,a,w,K,R,H,hn=>by
  simp only [Qmc,Bool.and_eq_true] at hf
  have hnd:∀ c,o.op≠.defer c:=by
   intro c e
   rw [e] at hf
   cases hf.1
  have key:=QfW (Q:=fun _ _ _=>False) hP R (show ZV P cfg ops o st h _ from H) (N:=wpListIn (Fence.wide.inRound l0) n P ops Q l) ?_
  ·unfold wpListIn
   split
   ·rename_i hw
    rw [if_pos hw] at key
    rcases key with h1|⟨_,_,_,h1⟩
    ·exact Qqt hnd h1
    ·exact h1.elim
   ·rename_i hw
    rw [if_neg hw] at key
    exact⟨fun _ _=>trivial,key⟩
  ·intro st' h' a' w' hk R' E'
   refine QkD hP l hf.2 R' hk ?_
   intro st2 h2 a2 w2 hk2 R2 E2
   exact hn st2 h2 a2 w2 hk2 R2 ((E'.mono fun i hi=>QjA hi).trans (E2.mono fun i hi=>Qhp hi))
theorem QqV (hP:Qbe P){l0 n:Nat}:∀(c:Code),U8 c=true→∀{st:St} {h:Hp} {a:Act} {w:World} {Q:Ex→St→Hp→Prop},vcC P cfg c st h Q→st.g=(fun _=>false)→Rel w0 h0 st h a w→c.wpIn (Fence.wide.inRound l0) n P (Qrm w0 h0 (Zx c) st Q) a w:=by
 intro c
 induction c with
 | skip=>intro _ st h a w Q H hg R;exact wpIn_skip ⟨.nrm,st,h,rfl,H,R,hg,Ev.refl _ _⟩
 | region id ops draw=>
  intro hf st h a w Q H hg R
  simp only [U8,Bool.and_eq_true,Bool.not_eq_true'] at hf
  obtain⟨hd,hf⟩:=hf
  subst hd
  simp only [vcC,cond_false] at H
  refine wpIn_region_list (QkD hP ops.toList hf R H ?_)
  intro st' h' a' w' hk R' E'
  obtain⟨ρ,R0⟩:=R
  obtain⟨k1,k2,k3⟩:=QiG (Qnf R0 hg) R' E'
  exact⟨.nrm,_,h',rfl,hk,k1,k2,k3⟩
 | seq x y ihx ihy=>
  intro hf st h a w Q H hg R
  simp only [U8,Bool.and_eq_true] at hf
  refine wpIn_seq (wpIn_mono (ihx hf.1 H hg R) ?_)
  rintro e a' w' ⟨ex,st',h',he,hq,R',hg',E'⟩
  have hD:∀ i,i ∈ Zx x→i ∈ Zx (.seq x y):=fun i hi=>by simp [Zx,hi]
  have hD':∀ i,i ∈ Zx y→i ∈ Zx (.seq x y):=fun i hi=>by simp [Zx,hi]
  cases e with
  | normal=>
   simp only [Z7,Option.some.injEq] at he
   subst he
   refine wpIn_mono (ihy hf.2 hq hg' R') ?_
   rintro e a2 w2 ⟨ex,st2,h2,he,hq,R2,hg2,E2⟩
   exact⟨ex,st2,h2,he,hq,R2,hg2,(E'.mono hD).trans (E2.mono hD')⟩
  | exit id=>simp only [Z7,Option.some.injEq] at he;subst he;exact⟨_,st',h',rfl,hq,R',hg',E'.mono hD⟩
  | ret=>simp only [Z7,Option.some.injEq] at he;subst he;exact⟨_,st',h',rfl,hq,R',hg',E'.mono hD⟩
  | goto l=>simp [Z7] at he
  | panic ch=>simp [Z7] at he
  | outgrown=>simp [Z7] at he
 | cond c x y ihx ihy=>
  intro hf st h a w Q H hg R
  simp only [U8,Bool.and_eq_true] at hf
  simp only [vcC] at H
  split at H
  ·rename_i t ht
   obtain⟨ρ,R0⟩:=R
   have hc:a.eval c=.bool t:=JJ ht (Qda R0 (fun _ _ hm=>by simp at hm) c)
   refine wpIn_cond_split hc (fun e=>?_) (fun e=>?_)
   ·refine wpIn_mono (ihx hf.1 (H.1 e) hg ⟨ρ,R0⟩) ?_
    rintro e a2 w2 ⟨ex,st2,h2,he,hq,R2,hg2,E2⟩
    exact⟨ex,st2,h2,he,hq,R2,hg2,E2.mono fun i hi=>by simp [Zx,hi]⟩
   ·refine wpIn_mono (ihy hf.2 (H.2 e) hg ⟨ρ,R0⟩) ?_
    rintro e a2 w2 ⟨ex,st2,h2,he,hq,R2,hg2,E2⟩
    exact⟨ex,st2,h2,he,hq,R2,hg2,E2.mono fun i hi=>by simp [Zx,hi]⟩
  ·exact H.elim
 | block id x ihx=>
  intro hf st h a w Q H hg R
  simp only [U8] at hf
  refine wpIn_block (wpIn_mono (ihx hf H hg R) ?_)
  rintro e a' w' ⟨ex,st',h',he,hq,R',hg',E'⟩
  cases e with
  | normal=>simp only [Z7,Option.some.injEq] at he;subst he;exact⟨_,st',h',rfl,hq,R',hg',E'⟩
  | exit i=>
   simp only [Z7,Option.some.injEq] at he
   subst he
   simp only at hq
   simp only [Exit.inBlock]
   cases hb:Nat.beq i id with
   | true=>
    rw [hb] at hq
    rw [if_pos (Nat.eq_of_beq_eq_true hb)]
    exact⟨_,st',h',rfl,hq,R',hg',E'⟩
   | false=>
    rw [hb] at hq
    rw [if_neg (Nat.ne_of_beq_eq_false hb)]
    exact⟨_,st',h',rfl,hq,R',hg',E'⟩
  | ret=>simp only [Z7,Option.some.injEq] at he;subst he;exact⟨_,st',h',rfl,hq,R',hg',E'⟩
  | goto l=>simp [Z7] at he
  | panic ch=>simp [Z7] at he
  | outgrown=>simp [Z7] at he
 | exit id=>intro _ st h a w Q H hg R;exact wpIn_exit ⟨_,st,h,rfl,H,R,hg,Ev.refl _ _⟩
 | ret=>intro _ st h a w Q H hg R;exact wpIn_ret ⟨_,st,h,rfl,H,R,hg,Ev.refl _ _⟩
 | _=>intro hf;cases hf
theorem Qm1 {c:Code}{q d:Nat}(h:Qqs c=some (q,d)):∃ id ops o,c=.region id ops false∧ops.toList=[o]∧o.dst=some d∧o.op=.assign (.tmp q)∧o.guard=none:=by
 unfold Qqs at h
 split at h
 ·rename_i id ops
  split at h
  ·rename_i o ho
   split at h
   ·rename_i d' q' h1 h2 h3
    cases h
    exact⟨id,ops,o,rfl,ho,h1,h2,h3⟩
   ·cases h
  ·cases h
 ·cases h
theorem UD {h h':Hp}{w W:World}(hs:Sub h w)(hs':Sub h' W)(hn:ZB h h'){b:Nat}{o:Obj}(hb:w.heap.size≤b)(ho:W.heap[b]?=some o)(hc:o.isCells=false):h' b=none:=by
 cases e:h' b with
 | none=>rfl
 | some o'=>
  have h1:=hs' b o' e
  rw [ho] at h1
  cases h1
  have h2:h b=none:=by
   cases e2:h b with
   | none=>rfl
   | some o2=>
    have:=(Array.getElem?_eq_some_iff.1 (hs b o2 e2)).1
    omega
  rw [hn b o e h2] at hc
  cases hc
theorem Qc9 {h h':Hp}{w W W':World}{row:Option Nat}(hs:Sub h w)(hs':Sub h' W)(hn:ZB h h')(hF:Fr h h' w W)(hg:W.grownBy W' row)(hr:∀ r,row=some r→w.heap.size≤r∧∃ o:Obj,W.heap[r]?=some o∧o.isCells=false):Sub h' W'∧Fr h h' w W':=by
 have key:∀ b,b < W.heap.size→(w.heap.size≤b→h' b≠none)→W'.heap[b]?=W.heap[b]?:=by
  intro b hb hk
  refine hg.block b hb fun e=>?_
  obtain⟨h1,o,h2,h3⟩:=hr b e.symm
  exact hk h1 (UD hs hs' hn h1 h2 h3)
 refine⟨fun b o ho=>?_,⟨hg.os.trans hF.os,hg.tape.trans hF.tape,hg.output.trans hF.output,Nat.le_trans hF.size hg.size,fun b hb hn2=>?_⟩⟩
 ·have h1:=hs' b o ho
  rw [key b (Array.getElem?_eq_some_iff.1 h1).1 (fun _=>by rw [ho];simp)]
  exact h1
 ·obtain⟨k1,k2⟩:=hF.keep b hb hn2
  exact⟨(key b (Nat.lt_of_lt_of_le hb hF.size) (fun h=>by omega)).trans k1,k2⟩
theorem Qpw (p:Tmp)(v:Value)(tm:Array Value):(#[p].zip #[v]).foldl (fun t (p,v)=>t.setIfInBounds p v) tm=tm.setIfInBounds p v:=by
 rw [←Array.foldl_toList,Array.toList_zip];rfl
theorem QiB (hP:Qbe P){g:Operand}{ps:Array Tmp}{asg body:Code}{st:St}{h:Hp}{a:Act}{w:World}{Q:Ex→St→Hp→Prop}{fv:Value}{p d:Nat}{sh:Sh0}(e1:(st.ev [] g).val?=some fv)(e2:ps.toList=[p])(e3:Qqs asg=some (p,d))(hfl:U8 body=true)(hp:p < st.n)(hd:d < st.n)
  (H:∃(hc:Hp) (good:Value→Prop) (xs:List Value) (I:List Value→Hp→Prop),QjO P fv hc good xs∧I [] h∧(∀ l h',I l h'→hc.le h'∧ZB h h') ∧
     (∀ l h' x,good x→l.length < xs.length→I l h'→ex0 sh fun y=>x=y.val∧vcC P cfg body (Vq st p d y) h' fun e _ h2=>match e with
      | .nrm=>I (l++[x]) h2
      | e=>ZB h h2∧(l++[x] <+: xs→Q e st h2)) ∧
     ∀ h',I xs h'→Q .nrm st h')
  (hg:st.g=(fun _=>false)) (R:Rel w0 h0 st h a w):(Code.rangeFunc g ps asg body).wp P (Qrm w0 h0 (Zx (Code.rangeFunc g ps asg body)) st Q) a w:=by
 obtain⟨hcp,good,xs,I,⟨hcells,gf,lb,fn,rfl,hfn,hnm,hbd,hseq⟩,hI0,hIc,hround,hdone⟩:=H
 obtain⟨id,ops,o,rfl,ho1,ho2,ho3,ho4⟩:=Qm1 e3
 obtain⟨ρ,R0⟩:=R
 have hgv:a.eval g=.func (.func gf) #[] lb:=QcL R0 (ch:=[]) (fun _ _ hm=>by simp at hm) e1
 have hent:∀ args w,(callFunc gf args).run P w=.ok (.enter gf args) w:=by
  intro args w
  have h1:fn.name≠ "runtime.NumGoroutine":=by simpa using hnm
  cases hb:fn.body with
  | none=>rw [hb] at hbd;cases hbd
  | some c=>simp [callFunc,hfn,h1,hb,mark]
 have hsw:=R0.sub
 have hcw:Sub hcp w:=fun b o hb=>hsw b o ((hIc [] h hI0).1 b o hb)
 have hps:ps=#[p]:=by cases ps;simp at e2;subst e2;rfl
 let I':List { v:Value // good v }→World→Prop:=fun pre W=>∃ h',Sub h' W∧Fr h h' w W∧I (pre.map (·.1)) h'
 let Ix:Code→List { v:Value // good v }→World→Prop:=fun c pre W=>∃ h',Sub h' W∧Fr h h' w W∧ZB h h'∧((c=.ret∧(pre.map (·.1) <+: xs→Q .ret st h'))∨∃ i,c=.exit i∧(pre.map (·.1) <+: xs→Q (.ext i) st h'))
 have relOf:∀{W:World} {h':Hp} (D:Nat),w.heap.size≤D→Sub h' W→Fr h h' w W→ZB h h'→W.heap[D]?=some (.deferred (some []))→Xz ρ w0 h0 st h' { a with defers:={ target:=.collected D,args:=#[] } :: a.defers } W:=by
  intro W h' D hD hs hF hn hW
  have R1:=R0.step hs hF
  refine⟨R1.n,⟨?_,?_⟩,R1.fr,R1.gd,R1.sub,R1.F,R1.box,R1.dom,R1.inj⟩
  ·refine List.nodup_cons.2 ⟨fun hm=>?_,R0.d.1⟩
   obtain⟨D',e,k1,_⟩:=R0.d.2 _ hm
   have:D=D':=by simpa using congrArg Deferred.target e
   subst this
   have:=(Array.getElem?_eq_some_iff.1 k1).1
   omega
  ·intro x hx
   rcases List.mem_cons.1 hx with rfl|hx
   ·exact⟨D,rfl,hW,UD hsw hs hn hD hW rfl,Nat.le_trans R0.F.size hD⟩
   ·exact R1.d.2 x hx
 refine(wpIn_wide (n:=3)).1 (wpIn_rangeFunc_ownG (w0:=w) rfl (by decide) hgv trivial hent (hseq w hcw) (fun k1 k2 hA=>k2 (k1 hA)) ?_ (RowKit.Below.refl _ _) ?_ I' Ix ?_ ?_ ⟨h,hsw,Fr.refl h w,hI0⟩ (fun x=>Act.put { tmps:=a.tmps.setIfInBounds p x.1,defers:=[] } (some d) x.1) ?_ ?_ ?_ ?_)
 ·intro W l ob ob' _ hl hnc _ hA b o' hb
  have h1:=hA b o' hb
  by_cases hbl:b=l
  ·subst hbl
   rw [hl] at h1
   cases h1
   rw [hcells b ob hb] at hnc
   cases hnc
  ·rw [World.putObj_heap_other hbl]
   exact h1
 ·intro x;rw [hps];rfl
 ·intro pre W W' row hi hg' hr
  obtain⟨h',k1,k2,k3⟩:=hi
  obtain⟨m1,m2⟩:=Qc9 hsw k1 (hIc _ h' k3).2 k2 hg' hr
  exact⟨h',m1,m2,k3⟩
 ·intro c pre W W' row hi hg' hr
  obtain⟨h',k1,k2,k3,k4⟩:=hi
  obtain⟨m1,m2⟩:=Qc9 hsw k1 k3 k2 hg' hr
  exact⟨h',m1,m2,k3,k4⟩
 ·intro l x W K hK
  rw [hps,Qpw]
  refine wpIn_region_list ?_
  rw [ho1]
  unfold wpListIn
  rw [if_pos (Qdk ho4 _)]
  refine⟨fun _ _=>trivial,?_⟩
  have hnd:∀ c,o.op≠.defer c:=by intro c;rw [ho3];simp
  rw [Oper.semAt_eq _ _ _ hnd]
  have hsz:p < a.tmps.size:=by rw [R0.n];exact hp
  have hev:(⟨a.tmps.setIfInBounds p x.1,[]⟩:Act).eval (.tmp p)=x.1:=by
   show (a.tmps.setIfInBounds p x.1).getD p undef=x.1
   simp [Array.getD_eq_getD_getElem?,hsz]
  have hrun:(execOp (⟨a.tmps.setIfInBounds p x.1,[]⟩:Act).eval o).run P W=.ok (.value x.1) W:=by
   unfold execOp
   rw [ho3]
   simp [hev]
  rw [hrun,Oper.uponIn_value,ho2]
  exact hK
 ·intro l pre x W hi hlt
  obtain⟨h',k1,k2,k3⟩:=hi
  have hlt':(pre.map (·.1)).length < xs.length:=by rw [List.length_map];exact hlt
  obtain⟨y,hy,hvc⟩:=Qbo (hround (pre.map (·.1)) h' x.1 x.2 hlt' k3)
  have hsz:a.tmps.size=st.n:=R0.n
  have hRel:Rel W h' (Vq st p d y) h' (Act.put { tmps:=a.tmps.setIfInBounds p x.1,defers:=[] } (some d) x.1) W:=by
   refine⟨fun _=>none,?_,⟨List.nodup_nil,fun d hd=>by cases hd⟩,fun i=>?_,fun i s q z e=>?_,k1,Fr.refl h' W,fun i bx hb=>by simp [Vq] at hb,fun i b hb=>by simp at hb,fun i j b hb=>by simp at hb⟩
   ·show ((a.tmps.setIfInBounds p x.1).setIfInBounds d x.1).size=st.n
    simp [hsz]
   ·show (Vq st p d y).t i |>.ok _ _ (((a.tmps.setIfInBounds p x.1).setIfInBounds d x.1).getD i undef)
    simp only [Vq]
    by_cases hid:i=d
    ·subst hid
     have e:Nat.beq i i=true:=Nat.beq_refl i
     rw [e]
     show _=_
     rw [←hy]
     simp [Array.getD_eq_getD_getElem?,hsz,hd]
    ·have e:Nat.beq i d=false:=by
      cases e:Nat.beq i d with
      | false=>rfl
      | true=>exact absurd (Nat.eq_of_beq_eq_true e) hid
     rw [e]
     simp only [cond_false]
     by_cases hip:i=p
     ·subst hip
      have e:Nat.beq i i=true:=Nat.beq_refl i
      rw [e]
      show _=_
      rw [←hy]
      have hdi:d≠i:=fun e=>hid e.symm
      simp [Array.getD_eq_getD_getElem?,hsz,hp,hdi]
     ·have e:Nat.beq i p=false:=by
       cases e:Nat.beq i p with
       | false=>rfl
       | true=>exact absurd (Nat.eq_of_beq_eq_true e) hip
      rw [e]
      simp only [cond_false]
      have hr:=R0.fr i
      have hdi:d≠i:=fun e=>hid e.symm
      have hpi:p≠i:=fun e=>hip e.symm
      have hv:((a.tmps.setIfInBounds p x.1).setIfInBounds d x.1).getD i undef=a.tmps.getD i undef:=by
       simp [Array.getD_eq_getD_getElem?,hdi,hpi]
      rw [hv]
      cases hs:st.t i with
      | gd s q z=>exact(Qnf R0 hg i s q z hs).elim
      | s z=>
       rw [hs] at hr
       cases z with
       | bp j ob=>exact trivial
       | _=>exact hr
   ·simp only [Vq] at e
    cases c1:Nat.beq i d with
    | true=>rw [c1] at e;cases e
    | false=>
     rw [c1] at e
     cases c2:Nat.beq i p with
     | true=>rw [c2] at e;cases e
     | false=>
      rw [c2] at e
      simp only [cond_false] at e
      cases hs:st.t i with
      | gd s q z=>exact(Qnf R0 hg i s q z hs).elim
      | s z=>
       rw [hs] at e
       cases z<;>simp [QrJ] at e
  refine wpIn_mono (QqV hP body hfl hvc rfl hRel) ?_
  rintro e a2 W2 ⟨ex,st2,h2,he,hq,⟨ρ2,R2⟩,hg2,E2⟩
  have hFF:=k2.trans R2.F
  have hnc:=(hIc _ h' k3).2
  have hkeep:KeepsFrom w.heap.size W W2:=⟨R2.F.size,fun k ob hk hob hnc'=>by
   have h1:=UD hsw k1 hnc hk hob hnc'
   rw [(R2.F.keep k (Array.getElem?_eq_some_iff.1 hob).1 h1).1]
   exact hob⟩
  cases e with
  | normal=>
   simp only [Z7,Option.some.injEq] at he
   subst he
   have hi2:I ((pre++[x]).map (·.1)) h2:=by rw [List.map_append];exact hq
   exact⟨hkeep,fun _ b ob hb=>R2.sub b ob ((hIc _ h2 hi2).1 b ob hb),h2,R2.sub,hFF,hi2⟩
  | exit i=>simp only [Z7,Option.some.injEq] at he;subst he;exact⟨hkeep,h2,R2.sub,hFF,hq.1,.inr ⟨i,rfl,fun hp=>hq.2 (by rw [List.map_append] at hp;exact hp)⟩⟩
  | ret=>simp only [Z7,Option.some.injEq] at he;subst he;exact⟨hkeep,h2,R2.sub,hFF,hq.1,.inl ⟨rfl,fun hp=>hq.2 (by rw [List.map_append] at hp;exact hp)⟩⟩
  | goto l=>simp [Z7] at he
  | panic ch=>simp [Z7] at he
  | outgrown=>simp [Z7] at he
 ·intro D pre W hD hS hi hW
  obtain⟨h',k1,k2,k3⟩:=hi
  rw [hS] at k3
  exact⟨.nrm,st,h',rfl,hdone h' k3,⟨ρ,relOf D hD k1 k2 (hIc _ h' k3).2 hW⟩,hg,Ev.refl _ _⟩
 ·intro D c pre W hD hpre hi hW
  obtain⟨h',k1,k2,k3,k4⟩:=hi
  have hR:=relOf D hD k1 k2 k3 hW
  rcases k4 with ⟨rfl,hq⟩|⟨i,rfl,hq⟩
  ·exact wpIn_ret ⟨_,st,h',rfl,hq hpre,⟨ρ,hR⟩,hg,Ev.refl _ _⟩
  ·exact wpIn_exit ⟨_,st,h',rfl,hq hpre,⟨ρ,hR⟩,hg,Ev.refl _ _⟩
theorem Qro (hP:Qbe P)(hm:P.follows .mixedOrders=true):∀(c:Code) {st:St} {h:Hp} {a:Act} {w:World} {Q:Ex→St→Hp→Prop},vcC P cfg c st h Q→st.g=(fun _=>false)→Rel w0 h0 st h a w→c.wp P (Qrm w0 h0 (Zx c) st Q) a w:=by
 intro c
 induction c with
 | skip=>intro st h a w Q H hg R;exact wp_skip ⟨.nrm,st,h,rfl,H,R,hg,Ev.refl _ _⟩
 | region id ops draw=>
  intro st h a w Q H hg R
  simp only [vcC] at H
  cases draw with
  | true=>
   simp only [cond_true] at H
   split at H
   ·rename_i l hl
    rcases Bool.eq_false_or_eq_true (Vs P cfg ops (Qgj ops.toList []) [] l&&Qg9 ops.size l) with hc|hc
    ·rw [hc] at H
     simp only [cond_true] at H
     simp only [Bool.and_eq_true] at hc
     refine QpK hP hm hc.1 hc.2 R H ?_
     intro st' h' a' w' hk R' E'
     obtain⟨ρ,R0⟩:=R
     obtain⟨k1,k2,k3⟩:=QiG (Qnf R0 hg) R' E'
     exact⟨.nrm,_,h',rfl,hk,k1,k2,k3⟩
    ·rw [hc] at H;exact H.elim
   ·exact H.elim
  | false=>
   simp only [cond_false] at H
   refine wp_region_list (QjP hP ops.toList R H ?_)
   intro st' h' a' w' hk R' E'
   obtain⟨ρ,R0⟩:=R
   obtain⟨k1,k2,k3⟩:=QiG (Qnf R0 hg) R' E'
   exact⟨.nrm,_,h',rfl,hk,k1,k2,k3⟩
 | seq x y ihx ihy=>
  intro st h a w Q H hg R
  refine wp_seq (wp_mono (ihx H hg R) ?_)
  rintro e a' w' ⟨ex,st',h',he,hq,R',hg',E'⟩
  have hD:∀ i,i ∈ Zx x→i ∈ Zx (.seq x y):=fun i hi=>by simp [Zx,hi]
  have hD':∀ i,i ∈ Zx y→i ∈ Zx (.seq x y):=fun i hi=>by simp [Zx,hi]
  cases e with
  | normal=>
   simp only [Z7,Option.some.injEq] at he
   subst he
   refine wp_mono (ihy hq hg' R') ?_
   rintro e a2 w2 ⟨ex,st2,h2,he,hq,R2,hg2,E2⟩
   exact⟨ex,st2,h2,he,hq,R2,hg2,(E'.mono hD).trans (E2.mono hD')⟩
  | exit id=>simp only [Z7,Option.some.injEq] at he;subst he;exact⟨_,st',h',rfl,hq,R',hg',E'.mono hD⟩
  | ret=>simp only [Z7,Option.some.injEq] at he;subst he;exact⟨_,st',h',rfl,hq,R',hg',E'.mono hD⟩
  | goto l=>simp [Z7] at he
  | panic ch=>simp [Z7] at he
  | outgrown=>simp [Z7] at he
 | cond c x y ihx ihy=>
  intro st h a w Q H hg R
  simp only [vcC] at H
  split at H
  ·rename_i t ht
   obtain⟨ρ,R0⟩:=R
   have hc:a.eval c=.bool t:=JJ ht (Qda R0 (fun _ _ hm=>by simp at hm) c)
   refine wp_cond_split hc (fun e=>?_) (fun e=>?_)
   ·refine wp_mono (ihx (H.1 e) hg ⟨ρ,R0⟩) ?_
    rintro e a2 w2 ⟨ex,st2,h2,he,hq,R2,hg2,E2⟩
    exact⟨ex,st2,h2,he,hq,R2,hg2,E2.mono fun i hi=>by simp [Zx,hi]⟩
   ·refine wp_mono (ihy (H.2 e) hg ⟨ρ,R0⟩) ?_
    rintro e a2 w2 ⟨ex,st2,h2,he,hq,R2,hg2,E2⟩
    exact⟨ex,st2,h2,he,hq,R2,hg2,E2.mono fun i hi=>by simp [Zx,hi]⟩
  ·exact H.elim
 | block id x ihx=>
  intro st h a w Q H hg R
  refine wp_block (wp_mono (ihx H hg R) ?_)
  rintro e a' w' ⟨ex,st',h',he,hq,R',hg',E'⟩
  cases e with
  | normal=>simp only [Z7,Option.some.injEq] at he;subst he;exact⟨_,st',h',rfl,hq,R',hg',E'⟩
  | exit i=>
   simp only [Z7,Option.some.injEq] at he
   subst he
   simp only at hq
   simp only [Exit.inBlock]
   cases hb:Nat.beq i id with
   | true=>
    rw [hb] at hq
    rw [if_pos (Nat.eq_of_beq_eq_true hb)]
    exact⟨_,st',h',rfl,hq,R',hg',E'⟩
   | false=>
    rw [hb] at hq
    rw [if_neg (Nat.ne_of_beq_eq_false hb)]
    exact⟨_,st',h',rfl,hq,R',hg',E'⟩
  | ret=>simp only [Z7,Option.some.injEq] at he;subst he;exact⟨_,st',h',rfl,hq,R',hg',E'⟩
  | goto l=>simp [Z7] at he
  | panic ch=>simp [Z7] at he
  | outgrown=>simp [Z7] at he
 | loop x ihx=>
  intro st h a w Q H hg R
  simp only [vcC] at H
  split at H
  ·exact H.elim
  ·rename_i slots shs bxs hann
   split at H
   ·exact H.elim
   ·exact H.elim
   ·rename_i vs0 hv0 hchk
    simp only [Bool.and_eq_true] at hchk
    obtain⟨⟨hc1,hc2⟩,hc3⟩:=hchk
    have hshs:=Nat.eq_of_beq_eq_true hc1
    have hlens:=Vw hc2
    have hsub:=QnE hc3
    obtain⟨I,μ,hI0,hround⟩:=H
    have hR:=R
    obtain⟨ρ,R0⟩:=R
    have hg0:=Qnf R0 hg
    have hbnd:∀ i j o,i ∉ Zx x→st.t i=.s (.bp j o)→j < st.b.length:=by
     intro i j o _ hi
     have hr:=R0.fr i
     rw [hi] at hr
     obtain⟨b,h1,_⟩:=hr
     exact R0.dom j b h1
    have hbi:∀(k:Nat) (q:Nat × List Sh1),bxs[k]?=some q→q.1 < st.b.length:=by
     intro k q hq
     obtain⟨bx,hbx,_⟩:=hlens k q hq
     exact(List.getElem?_eq_some_iff.1 hbx).1
    let Inv:Nat→Act→World→Prop:=fun n a w=>∃ vs h' xs ys,n=μ vs h'∧I vs h'∧Rel w0 h0 (UG st (Zx x) slots bxs xs ys) h' a w ∧
     vcC P cfg x (UG st (Zx x) slots bxs xs ys) h' fun e st' h''=>match e with
      | .nrm=>match UX st' slots bxs with
       | some vs'=>bif (Qfj 0 st.b st'.b bxs&&VI st' bxs) then(I vs' h''∧μ vs' h'' < μ vs h') else False
       | none=>False
      | e=>Q e st' h''
    -- from a frame that fits to the head
    have head:∀ st' h' a w vs,Rel w0 h0 st' h' a w→st'.g=(fun _=>false)→st'.n=st.n→(∀ i,i ∉ Zx x→st'.t i=st.t i)→st.b.length≤st'.b.length →
      (∀(j:Nat) (x y:Box),st.b[j]?=some x→st'.b[j]?=some y→y.ty=x.ty)→(∀(j:Nat) (x y:Box),(Kn j bxs).isSome=false→st.b[j]?=some x→st'.b[j]?=some y→Qq y.c=Qq x.c) →
      (∀(k:Nat) (q:Nat × List Sh1) (y:Box),bxs[k]?=some q→st'.b[q.1]?=some y→y.c.length=q.2.length) →
      UX st' slots bxs=some vs→I vs h'→Inv (μ vs h') a w:=by
     intro st' h' a w vs R' hg' hn' ht' hlb' hty' hsame' hlen' hv' hI'
     obtain⟨xs,hx,hxl⟩:=QeP (hround vs h' hI')
     obtain⟨ys,⟨hvs,hvc⟩,hyl,hylen⟩:=Qg4 hx
     refine⟨vs,h',xs,ys,rfl,hI',?_,hvc⟩
     refine QkS hg0 hbnd hsub R' hg' hn' ht' hlb' hty' hsame' hbi (by rw [hv',hvs]) (by rw [hxl,hshs]) hyl ?_ hg
     intro k q y bx h1 h2 h3
     rw [hylen k q y h1 h2,hlen' k q bx h1 h3]
    refine QmC Inv (μ vs0 h) ?_ ?_
    ·refine head st h a w vs0 hR hg rfl (fun _ _=>rfl) (Nat.le_refl _) (fun j u v h1 h2=>by rw [h1] at h2;obtain rfl:=Option.some.inj h2;rfl) (fun j u v _ h1 h2=>by rw [h1] at h2;obtain rfl:=Option.some.inj h2;rfl) ?_ hv0 hI0
     intro k q y h1 h2
     obtain⟨bx,hbx,hl⟩:=hlens k q h1
     rw [hbx] at h2
     obtain rfl:=Option.some.inj h2
     exact hl
    ·rintro n a w ⟨vs,h',xs,ys,rfl,hI',hRl,hvc⟩
     refine wp_mono (ihx hvc hg hRl) ?_
     have hE0:Ev (Zx x) st (UG st (Zx x) slots bxs xs ys):=Qnc hsub
     rintro e a2 w2 ⟨ex,st2,h2,he,hq,R2,hg2,E2⟩
     cases e with
     | normal=>
      simp only [Z7,Option.some.injEq] at he
      subst he
      simp only at hq
      split at hq
      ·rename_i vs' hv'
       cases hsB':(Qfj 0 st.b st2.b bxs&&VI st2 bxs) with
       | false=>rw [hsB'] at hq;exact hq.elim
       | true=>
        rw [hsB'] at hq
        simp only [cond_true] at hq
        simp only [Bool.and_eq_true] at hsB'
        obtain⟨hsB,hcl⟩:=hsB'
        have hE:=hE0.trans E2
        refine⟨μ vs' h2,hq.2,head st2 h2 a2 w2 vs' R2 hg2 hE.n hE.t (QjD hE.b) ?_ ?_ ?_ hv' hq.1⟩
        ·intro j u v h1 h2
         obtain⟨y,hy,ht,_⟩:=hE.b j u h1
         rw [h2] at hy
         obtain rfl:=Option.some.inj hy
         exact ht
        ·intro j u v hl h1 h2
         have hs:=(QeF _ _ _ 0 hsB).2 j u v (by rw [Nat.zero_add];exact hl) h1 h2
         obtain⟨y,hy,_,_,hst⟩:=hE.b j u h1
         rw [h2] at hy
         obtain rfl:=Option.some.inj hy
         rw [hst hs.symm]
        ·intro k q y h1 h2
         obtain⟨bx,hbx,hl⟩:=Vw hcl k q h1
         rw [hbx] at h2
         obtain rfl:=Option.some.inj h2
         exact hl
      ·exact hq.elim
     | exit id=>simp only [Z7,Option.some.injEq] at he;subst he;exact⟨_,st2,h2,rfl,hq,R2,hg2,hE0.trans E2⟩
     | ret=>simp only [Z7,Option.some.injEq] at he;subst he;exact⟨_,st2,h2,rfl,hq,R2,hg2,hE0.trans E2⟩
     | goto l=>simp [Z7] at he
     | panic ch=>simp [Z7] at he
     | outgrown=>simp [Z7] at he
 | exit id=>intro st h a w Q H hg R;exact wp_exit ⟨_,st,h,rfl,H,R,hg,Ev.refl _ _⟩
 | ret=>intro st h a w Q H hg R;exact wp_ret ⟨_,st,h,rfl,H,R,hg,Ev.refl _ _⟩
 | rangeFunc g ps asg body _ _=>
  intro st h a w Q H hg R
  simp only [vcC] at H
  split at H
  ·rename_i fv p q d rr sh bb e1 e2 e3 e4
   rcases Bool.eq_false_or_eq_true (U8 body&&Nat.beq q p&&Nat.blt p st.n&&Nat.blt d st.n) with hc|hc
   ·rw [hc] at H
    simp only [cond_true] at H
    simp only [Bool.and_eq_true] at hc
    obtain⟨⟨⟨hfl,hqp⟩,hp⟩,hd⟩:=hc
    obtain rfl:=Nat.eq_of_beq_eq_true hqp
    exact QiB hP e1 e2 e3 hfl (Nat.le_of_ble_eq_true hp) (Nat.le_of_ble_eq_true hd) H hg R
   ·rw [hc] at H;exact H.elim
  ·exact H.elim
 | _=>intros;rename_i H _ _;exact H.elim
end
section
variable {P:Program}{cfg:Cfg}{w0:World}{h0:Hp}
def Jt (tm:Array Value):ResultVar→Sem Value
 | .tmp t=>pure (tm.getD t undef)
 | .cell c t=>do loadVar t (←asAddr (tm.getD c undef))
def Qrg:List Value→Value
 | [v]=>v
 | vs=>.tuple vs.toArray
theorem Qi0 {ρ:Nat→Option Nat}{st:St}{h:Hp}{a:Act}{w:World}(R:Xz ρ w0 h0 st h a w):∀{l:List ResultVar} {vs:List Value},Qlz P st l=some vs →
  (l.mapM (Jt a.tmps)).run P w=.ok vs w
 | [],vs,H=>by simp [Qlz] at H;simp [←H]
 | .tmp t :: l,vs,H=>by
  simp only [Qlz] at H
  split at H
  ·rename_i v vs' hv hl
   simp only [Option.some.injEq] at H
   subst H
   have e:a.tmps.getD t undef=v:=QcL R (fun _ _ hm=>by simp at hm) hv
   have ih:=Qi0 R hl
   simp only [List.mapM_cons,Sem.run_bind,Jt,Sem.run_pure,Result.andThen_ok,e,ih]
  ·simp at H
 | .cell c T :: l,vs,H=>by
  simp only [Qlz] at H
  split at H
  ·rename_i i vs' hc hl
   split at H
   ·rename_i bx hbx
    cases hb:Nat.beq bx.c.length (szT P T) with
    | false=>rw [hb] at H;simp at H
    | true=>
     rw [hb] at H
     have hlen:=Nat.eq_of_beq_eq_true hb
     obtain⟨b,h1,h2,h3,h4⟩:=R.box i bx hbx
     have hr:=R.fr c
     rw [hc] at hr
     obtain⟨b',k1,k2⟩:=hr
     rw [h1] at k1
     obtain rfl:=Option.some.inj k1
     have ih:=Qi0 R hl
     have e:(asAddr (a.tmps.getD c undef)).run P w=.ok ⟨b,0,none⟩ w:=by rw [k2];rfl
     have hcell:∀ j v,(Qq bx.c)[j]?=some v→w.cell? ((⟨b,0,none⟩:Addr).add j)=some v:=by
      intro j v hj
      rw [Yg]
      simp [World.cell?,h2,hj]
     cases hA:QP P T with
     | true=>
      rw [hA] at H
      simp only [cond_true,Option.some.injEq] at H
      subst H
      have hrun:=KD (P:=P) (w:=w) (b:=b) (o:=0) (l:=Qq bx.c) hA (by rw [Q7,hlen]) hcell
      simp only [List.mapM_cons,Sem.run_bind,Jt,e,Sem.run_pure,Result.andThen_ok,hrun,ih]
     | false=>
      rw [hA] at H
      simp only [cond_true,cond_false] at H
      split at H
      ·rename_i v hv
       cases hS:(P.underlying T).isSome with
       | false=>rw [hS] at H;simp at H
       | true=>
       rw [hS] at H
       simp only [cond_true,Option.some.injEq] at H
       subst H
       obtain⟨d,hd⟩:=Option.isSome_iff_exists.1 hS
       have hc0:w.cell? ⟨b,0,none⟩=some v.val:=by
        have:=hcell 0 v.val (by rw [hv];rfl)
        rwa [Yg] at this
       have hrun:=Xx (P:=P) (w:=w) hA hd hc0
       simp only [List.mapM_cons,Sem.run_bind,Jt,e,Sem.run_pure,Result.andThen_ok,hrun,ih]
      ·simp at H
   ·simp at H
  ·simp at H
theorem QeD {st:St}{h:Hp}:∀{l:List ResultVar} {K:List Value→Prop},QgY P st h l K→∃ vs,K vs∧∀{ρ:Nat→Option Nat} {a:Act} {w:World},Xz ρ w0 h0 st h a w→(l.mapM (Jt a.tmps)).run P w=.ok vs w
 | [],K,H=>⟨[],H,fun _=>by simp⟩
 | r :: l,K,H=>by
  simp only [QgY] at H
  split at H
  ·rename_i v hv
   obtain⟨vs,hk,ih⟩:=QeD H
   refine⟨_,hk,fun {ρ a w} R=>?_⟩
   have h1:=Qi0 (P:=P) R hv
   have h2:(Jt a.tmps r).run P w=.ok v w:=by
    simp only [List.mapM_cons,List.mapM_nil,Sem.run_bind] at h1
    cases hr:(Jt a.tmps r).run P w with
    | ok v' w'=>
     rw [hr] at h1
     simp [Result.andThen_ok] at h1
     rw [h1.1,h1.2]
    | halt q w'=>rw [hr] at h1;simp [Result.andThen] at h1
   simp only [List.mapM_cons,Sem.run_bind,h2,Result.andThen_ok,ih R,Sem.run_pure]
  ·split at H
   ·rename_i c T _
    split at H
    ·rename_i b o hc
     cases hA:QP P T with
     | true=>rw [hA] at H;exact H.elim
     | false=>
      cases hS:(P.underlying T).isSome with
      | false=>rw [hA,hS] at H;exact H.elim
      | true=>
       rw [hA,hS] at H
       simp only [Bool.not_false,Bool.and_true,cond_true] at H
       obtain⟨x,hx,H⟩:=Mm H
       obtain⟨vs,hk,ih⟩:=QeD H
       refine⟨_,hk,fun {ρ a w} R=>?_⟩
       have hr:=R.fr c
       rw [hc] at hr
       have e:(asAddr (a.tmps.getD c undef)).run P w=.ok ⟨b,o,none⟩ w:=by
        rw [show a.tmps.getD c undef=.pointer (some ⟨b,o,none⟩) from hr];rfl
       obtain⟨d,hd⟩:=Option.isSome_iff_exists.1 hS
       have hc0:w.cell? ⟨b,o,none⟩=some x.val:=Zl hx R.sub
       have hrun:=Xx (P:=P) (w:=w) hA hd hc0
       simp only [List.mapM_cons,Sem.run_bind,Jt,e,Sem.run_pure,Result.andThen_ok,hrun,ih R]
    ·exact H.elim
   ·exact H.elim
theorem Qlm {a:Act}{w:World}{fn:Func}{vs:List Value}(h1:(fn.results.toList.mapM (Jt a.tmps)).run P w=.ok vs w) :
  (results fn a.tmps).run P w=.ok (Qrg vs) w:=by
 have h2:results fn a.tmps=(do let vs ←fn.results.mapM (Jt a.tmps);pure (if h:vs.size=1 then vs[0] else .tuple vs)):=rfl
 rw [h2,Array.mapM_eq_mapM_toList]
 simp only [Sem.run_bind,Sem.run_map,h1,Result.andThen_ok,Sem.run_pure]
 match vs with
 | []=>rfl
 | [v]=>rfl
 | u :: v :: l=>simp [Qrg]
theorem Qca {ρ:Nat→Option Nat}{st:St}{h:Hp}{fn:Func}{vs:List Value}{n:Nat}{K:Ending→World→Prop}(H:∀{ρ:Nat→Option Nat} {a:Act} {w:World},Xz ρ w0 h0 st h a w→(fn.results.toList.mapM (Jt a.tmps)).run P w=.ok vs w)(hK:∀ W,Sub h W→Fr h0 h w0 W→K (.returned (Qrg vs)) W) :
  ∀(ds:List Deferred) {a:Act} {w:World},Xz ρ w0 h0 st h a w→a.defers=ds→LeavesInM Fence.wide n P fn a.tmps K ds .returning w
 | [],a,w,R,_=>⟨_,Qlm (H R),hK w R.sub R.F⟩
 | d :: ds,a,w,R,hd=>by
  have hm:=R.d
  rw [hd] at hm
  obtain⟨D,e,k1,k2,k3⟩:=hm.2 d List.mem_cons_self
  refine⟨by simp,.inl ⟨D,w.putObj D (.deferred none),by rw [e],run_takeDeferred k1,?_⟩⟩
  have hsz:(w.putObj D (.deferred none)).heap.size=w.heap.size:=by simp [World.putObj]
  have hoth:∀ b,b≠D→(w.putObj D (.deferred none)).heap[b]?=w.heap[b]?:=fun b hb=>World.putObj_heap_other hb
  have R':Xz ρ w0 h0 st h { a with defers:=ds } (w.putObj D (.deferred none)):=by
   refine⟨R.n,⟨(List.nodup_cons.1 hm.1).2,?_⟩,R.fr,R.gd,?_,⟨R.F.os,R.F.tape,R.F.output,by rw [hsz];exact R.F.size,?_⟩,?_,R.dom,R.inj⟩
   ·intro x hx
    obtain⟨D',e',j1,j2,j3⟩:=hm.2 x (List.mem_cons_of_mem _ hx)
    refine⟨D',e',?_,j2,j3⟩
    rw [hoth D' (fun e2=>?_)]
    ·exact j1
    ·subst e2
     rw [←e] at e'
     subst e'
     exact(List.nodup_cons.1 hm.1).1 hx
   ·intro b o hb
    rw [hoth b (fun e2=>by subst e2;rw [k2] at hb;cases hb)]
    exact R.sub b o hb
   ·intro b hb hn
    rw [hoth b (fun e2=>by subst e2;omega)]
    exact R.F.keep b hb hn
   ·intro i bx hb
    obtain⟨b,j1,j2,j3,j4⟩:=R.box i bx hb
    refine⟨b,j1,?_,j3,j4⟩
    rw [hoth b (fun e2=>by subst e2;rw [k1] at j2;cases j2)]
    exact j2
  exact Qca (a:={ a with defers:=ds }) H hK ds R' rfl
theorem Qju (args:List TW)(n:Nat)(i:Nat):(YR args i).ok (fun _=>none) ((args.map TW.val).toArray++Array.replicate n undef) (((args.map TW.val).toArray++Array.replicate n undef).getD i undef):=by
 have:∀(args:List TW) (i:Nat),YR args i=.s .any∨∃ x,args[i]?=some x∧YR args i=.s (.t x):=by
  intro args
  induction args with
  | nil=>intro i;left;simp [YR]
  | cons x l ih=>
   intro i
   cases i with
   | zero=>right;exact⟨x,rfl,rfl⟩
   | succ i=>simpa [YR] using ih i
 rcases this args i with h|⟨x,h1,h2⟩
 ·rw [h];exact trivial
 ·rw [h2]
  have hl:=(List.getElem?_eq_some_iff.1 h1).1
  simp only [Sl.ok,SV.ok,Array.getD_eq_getD_getElem?,Array.getElem?_append,List.size_toArray,List.length_map]
  rw [if_pos hl]
  simp [h1]
theorem Qp7 (hP:Qbe P)(hm:P.follows .mixedOrders=true){f:FuncId}{fn:Func}(hf:P.funcs[f]?=some fn){args:List TW}{h:Hp}{R:Value→Hp→Prop}(hn:args.length≤fn.ntmps)(H:Qrc P cfg fn args h R):Qa P f (args.map TW.val) h R:=by
 intro w hs
 unfold Qrc at H
 split at H
 ·exact H.elim
 ·rename_i c hb
  refine(callsIn_wide (n:=3)).1 (callsIn_of_wp_marks hf hb trivial (wpIn_wide.2 ?_))
  have hR0:Rel w h ⟨fn.ntmps,YR args,fun _=>false,[]⟩ h { tmps:=(args.map TW.val).toArray++Array.replicate (fn.ntmps - (args.map TW.val).toArray.size) undef,defers:=[] } w:=by
   refine⟨fun _=>none,?_,⟨List.nodup_nil,fun d hd=>by cases hd⟩,Qju args _,?_,hs,Fr.refl h w,?_,?_,?_⟩
   ·simp;omega
   ·intro i s p x e
    have:∀(args:List TW) (i:Nat),YR args i≠.gd s p x:=by
     intro args
     induction args with
     | nil=>intro i;simp [YR]
     | cons y l ih=>intro i;cases i<;>simp [YR];exact ih _
    exact(this args i e).elim
   ·intro i bx hbx;simp at hbx
   ·intro i b hb;simp at hb
   ·intro i j b hb;simp at hb
  refine wp_mono (Qro hP hm c H rfl hR0) ?_
  rintro e a' w' ⟨ex,st',h',he,hq,⟨ρ,R'⟩,hg',E'⟩
  have fin:(QgY P st' h' fn.results.toList fun vs=>match vs with
    | [v]=>R v h'
    | vs=>R (.tuple vs.toArray) h')→LeavesInM Fence.wide 3 P fn a'.tmps (fun e w'=>∃ v h',e=.returned v∧Sub h' w'∧Fr h h' w w'∧R v h') a'.defers .returning w':=by
   intro hx
   obtain⟨vs,hk,hv⟩:=QeD hx
   refine Qca hv (fun W k1 k2=>⟨_,h',rfl,k1,k2,?_⟩) _ R' rfl
   match vs,hk with
   | [],hk=>exact hk
   | [v],hk=>exact hk
   | u :: v :: l,hk=>exact hk
  cases e with
  | normal=>simp only [Z7,Option.some.injEq] at he;subst he;exact fin hq
  | ret=>simp only [Z7,Option.some.injEq] at he;subst he;exact fin hq
  | exit id=>simp only [Z7,Option.some.injEq] at he;subst he;exact hq.elim
  | goto l=>simp [Z7] at he
  | panic ch=>simp [Z7] at he
  | outgrown=>simp [Z7] at he
theorem Qd (hP:Qbe P)(hm:P.follows .mixedOrders=true){f:FuncId}{fn:Func}(hf:P.funcs[f]?=some fn)(args:List TW){vs:List Value}{h:Hp}{R:Value→Hp→Prop}(hn:Nat.ble args.length fn.ntmps=true)(hv:vs=args.map TW.val){V:Prop}(hV:V=Qrc P cfg fn args h R)(H:V):Qa P f vs h R:=by
 subst hv
 exact Qp7 hP hm hf (Nat.le_of_ble_eq_true hn) (hV▸H)
theorem Qa.mono {f:FuncId}{vs:List Value}{h:Hp}{R R':Value→Hp→Prop}(H:Qa P f vs h R)(hr:∀ v h',R v h'→R' v h'):Qa P f vs h R':=
 fun w hs=>(H w hs).mono fun e w' ⟨v,h',h1,h2,h3,h4⟩=>⟨v,h',h1,h2,h3,hr _ _ h4⟩
theorem Qm.mono {m:Sem Value}{h:Hp}{R R':Value→Hp→Prop}(H:Qm P m h R)(hr:∀ v h',R v h'→R' v h'):Qm P m h R':=
 fun w hs=>let ⟨v,w',h',h1,h2,h3,h4⟩:=H w hs;⟨v,w',h',h1,h2,h3,hr _ _ h4⟩
end
theorem Hp.le_refl (h:Hp):h.le h:=fun _ _ e=>e
theorem Hp.le_trans {a b c:Hp}(x:a.le b)(y:b.le c):a.le c:=fun i o e=>y i o (x i o e)
theorem Hp.le_set {a b:Hp}(x:a.le b){i:Nat}(hi:b i=none)(o:Obj):a.le (b.set i o):=fun j p e=>by
 have:=x j p e
 unfold Hp.set
 split
 ·rename_i he;subst he;rw [hi] at this;cases this
 ·exact this
theorem Hp.none_of_le {a b:Hp}(x:a.le b){i:Nat}(hi:b i=none):a i=none:=by
 cases e:a i with
 | none=>rfl
 | some o=>rw [x i o e] at hi;cases hi
def Qf (h:Hp)(a:Option Addr)(xs:List Value):Prop:=xs=[]∨∃ b o,a=some ⟨b,o,none⟩∧h.row b o xs.length=some xs
theorem Hp.row_le {h h':Hp}(hl:h.le h'){b o n:Nat}{xs:List Value}(e:h.row b o n=some xs):h'.row b o n=some xs:=by
 unfold Hp.row at e ⊢
 cases hb:h b with
 | none=>rw [hb] at e;cases e
 | some ob=>rw [hb] at e;rw [hl b ob hb];exact e
theorem Hp.cell_le {h h':Hp}(hl:h.le h'){b o:Nat}{x:Value}(e:h.cell b o=some x):h'.cell b o=some x:=by
 unfold Hp.cell at e ⊢
 cases hb:h b with
 | none=>rw [hb] at e;cases e
 | some ob=>rw [hb] at e;rw [hl b ob hb];exact e
theorem Qf.le {h h':Hp}(hl:h.le h'){a:Option Addr}{xs:List Value}(H:Qf h a xs):Qf h' a xs:=by
 rcases H with rfl|⟨b,o,rfl,e⟩
 ·exact .inl rfl
 ·exact .inr ⟨b,o,rfl,Hp.row_le hl e⟩
theorem Hp.row_spec {h:Hp}{b o n:Nat}{xs:List Value}:h.row b o n=some xs↔∃ c t f,h b=some (.cells c t f)∧o+n≤c.size∧xs=(c.toList.drop o).take n:=by
 unfold Hp.row
 cases hb:h b with
 | none=>simp
 | some ob=>
  cases ob with
  | cells c t f=>
   by_cases hle:o+n≤c.size
   ·simp [hle];exact⟨fun e=>e.symm,fun e=>e.symm⟩
   ·simp [hle]
  | _=>simp
theorem Hp.row_cell {h:Hp}{b o n:Nat}{xs:List Value}(e:h.row b o n=some xs){i:Nat}{x:Value}(hx:xs[i]?=some x):h.cell b (o+i)=some x:=by
 obtain⟨c,t,f,hb,hle,rfl⟩:=Hp.row_spec.1 e
 unfold Hp.cell
 rw [hb]
 rw [List.getElem?_take] at hx
 split at hx
 ·simpa using hx
 ·cases hx
theorem Hp.row_sub {h:Hp}{b o n:Nat}{xs:List Value}(e:h.row b o n=some xs){i k:Nat}(hi:i+k≤n):h.row b (o+i) k=some ((xs.drop i).take k):=by
 obtain⟨c,t,f,hb,hle,rfl⟩:=Hp.row_spec.1 e
 refine Hp.row_spec.2 ⟨c,t,f,hb,by omega,?_⟩
 rw [List.drop_take,List.take_take,List.drop_drop]
 congr 1
 omega
theorem Qi4 (h:Hp)(b:Nat)(xs:List Value)(t:TypeId):(h.set b (Qb xs t)).row b 0 xs.length=some xs:=
 Hp.row_spec.2 ⟨xs.toArray,t,(0,0),by simp [Hp.set],by simp,by simp⟩
theorem Qf.new (h:Hp)(b:Nat)(xs:List Value)(t:TypeId):Qf (h.set b (Qb xs t)) (some ⟨b,0,none⟩) xs:=.inr ⟨b,0,rfl,Qi4 h b xs t⟩
def QN (h:Hp)(e:TypeId)(sz:Nat)(a:Option Addr)(n c:Nat)(xs:List Value):Prop:=
 xs.length=n*sz∧((a=none∧n=0∧c=0)∨∃ g cur,a=some ⟨g,0,none⟩∧h g=some (.cells cur e (0,0))∧n≤c∧c≤maxLen∧cur.size=c*sz∧cur.toList.take (n*sz)=xs)
theorem QN.nil (h:Hp)(e:TypeId)(sz:Nat):QN h e sz none 0 0 []:=⟨by simp,.inl ⟨rfl,rfl,rfl⟩⟩
theorem QN.new (h:Hp)(b:Nat)(e:TypeId){sz n:Nat}(xs:List Value)(hl:xs.length=n*sz)(hn:n≤maxLen):QN (h.set b (Qb xs e)) e sz (some ⟨b,0,none⟩) n n xs:=
 ⟨hl,.inr ⟨b,xs.toArray,rfl,by simp [Hp.set],Nat.le_refl _,hn,by simpa using hl,by rw [←hl];simp⟩⟩
theorem QN.row {h:Hp}{e:TypeId}{sz n c:Nat}{a:Option Addr}{xs:List Value}(H:QN h e sz a n c xs):Qf h a xs:=by
 rcases H with ⟨hl,⟨rfl,rfl,rfl⟩|⟨g,cur,rfl,hg,hn,hc,hs,ht⟩⟩
 ·exact .inl (List.eq_nil_of_length_eq_zero (by simpa using hl))
 ·refine .inr ⟨g,0,rfl,Hp.row_spec.2 ⟨cur,e,(0,0),hg,?_,?_⟩⟩
  ·rw [hl,hs,Nat.zero_add];exact Nat.mul_le_mul_right _ hn
  ·rw [hl];simpa using ht.symm
theorem QN.keep {h h':Hp}{e:TypeId}{sz n c:Nat}{a:Option Addr}{xs:List Value}(H:QN h e sz a n c xs)(hk:∀ g o,a=some ⟨g,0,none⟩→h g=some o→h' g=some o):QN h' e sz a n c xs:=by
 refine⟨H.1,?_⟩
 rcases H.2 with h1|⟨g,cur,rfl,hg,h2⟩
 ·exact .inl h1
 ·exact .inr ⟨g,cur,rfl,hk g _ rfl hg,h2⟩
theorem QN.le {h h':Hp}(hl:h.le h'){e:TypeId}{sz n c:Nat}{a:Option Addr}{xs:List Value}(H:QN h e sz a n c xs):QN h' e sz a n c xs:=H.keep fun g o _ hg=>hl g o hg
structure ElT (P:Program)(t e:TypeId)(sz bytes:Nat):Prop where
 sl:P.underlying t=some (.slice e)
 el:∃ i z,P.info? e=some i∧i.zero=some z∧i.size=sz∧i.bytes=bytes∧z.cells.size=sz
 pos:0 < sz
def QqF (P:Program)(e:TypeId)(sz bytes:Nat):Bool:=
 match P.info? e with
 | some i=>(match i.zero with|some z=>Nat.beq i.size sz&&(Nat.beq i.bytes bytes&&Nat.beq z.cells.size sz)|none=>false)
 | none=>false
theorem ElT.of {P:Program}{t e:TypeId}{sz bytes:Nat}(h1:P.underlying t=some (.slice e))(h2:QqF P e sz bytes=true)(h3:0 < sz):ElT P t e sz bytes:=by
 refine⟨h1,?_,h3⟩
 unfold QqF at h2
 split at h2
 ·rename_i i hi
  split at h2
  ·rename_i z hz
   simp only [Bool.and_eq_true,Nat.beq_eq] at h2
   exact⟨i,z,hi,hz,h2.1,h2.2.1,h2.2.2⟩
  ·cases h2
 ·cases h2
section
variable {P:Program}
theorem Qf.cells {h:Hp}{w:World}(hs:Sub h w){a:Addr}{xs:List Value}(H:Qf h (some a) xs):∀ j u,xs[j]?=some u→w.cell? (a.add j)=some u:=by
 intro j u hu
 rcases H with rfl|⟨b,o,e,hr⟩
 ·simp at hu
 ·cases e
  have:=Hp.row_cell hr hu
  have hadd:(⟨b,o,none⟩:Addr).add j=⟨b,o+j,none⟩:=by unfold Addr.add;split<;>simp_all
  rw [hadd]
  exact Zl this hs
theorem JM {h:Hp}{w:World}(hs:Sub h w){g:Nat}{cs old:Array Value}{t:TypeId}{fz:Nat × Nat}(hg:h g=some (.cells old t fz)):Sub (h.set g (.cells cs t fz)) (w.setRow g cs):=by
 intro b o hb
 have hw:=hs g _ hg
 unfold Hp.set at hb
 split at hb
 ·rename_i he;subst he
  simp only [Option.some.injEq] at hb;subst hb
  exact setRow_heap w b old cs t fz hw
 ·rename_i hne
  rw [setRow_other w g b cs hne]
  exact hs b o hb
theorem Vi {h:Hp}{w:World}{g:Nat}{cs old:Array Value}{t:TypeId}{fz:Nat × Nat}(hg:h g=some (.cells old t fz)):Fr h (h.set g (.cells cs t fz)) w (w.setRow g cs):=by
 refine⟨rfl,rfl,rfl,by simp,fun b hb hn=>?_⟩
 have hne:b≠g:=fun e=>by subst e;rw [hg] at hn;cases hn
 exact⟨setRow_other w g b cs hne,by simp [Hp.set,hne,hn]⟩
theorem YP {h:Hp}{w:World}(hs:Sub h w)(o:Obj):Sub (h.set w.heap.size o) (w.drew.alloc o):=Sub.pushSet (w:=w.drew) hs o
theorem Xt (h:Hp)(w:World)(o:Obj):Fr h (h.set w.heap.size o) w (w.drew.alloc o):=
 let f:=Fr.pushSet h w.drew o;⟨f.os,f.tape,f.output,f.size,f.keep⟩
theorem QaM {h:Hp}{t ty e:TypeId}{sz bytes:Nat}(T:ElT P t e sz bytes){a:Option Addr}{n c:Nat}{xs:List Value}(H:QN h e sz a n c xs)
  {a2:Option Addr} {m c2:Nat} {news:List Value} (H2:Qf h a2 news) (hl:news.length=m*sz) (h1:∀ u ∈ news,u.oneCell'=true)
  (hb:(n+m)*bytes≤140737488355328) (hm:n+m≤140737488355328) {K:Value→Hp→Prop}
  (hK:∀ a' c' h',QN h' e sz a' (n+m) c' (xs++news)→(∀ b o,h b=some o→a≠some ⟨b,0,none⟩→h' b=some o)→(∀ g,a'=some ⟨g,0,none⟩→a=a'∨h g=none)→(a'=none→a=none)→(∀ b,h b=none→a'≠some ⟨b,0,none⟩→h' b=none)→K (vsl a' (n+m) c') h') :
  Qm P (Builtin.append_ #[t,t] ty #[vsl a n c,vsl a2 m c2]) h K:=by
 intro w hs
 obtain⟨i,z,hi,hz,rfl,rfl,hzs⟩:=T.el
 have hlen:(xs++news).length=(n+m)*i.size:=by rw [List.length_append,H.1,hl,Nat.add_mul]
 have h63:n+m≤maxLen:=by simp only [maxLen];omega
 by_cases hm0:m=0
 ·subst hm0
  have hn:news=[]:=List.eq_nil_of_length_eq_zero (by simpa using hl)
  subst hn
  refine⟨vsl a n c,w,h,?_,hs,Fr.refl h w,?_⟩
  ·have hf:(Builtin.firstCells i.size 0 (.slice a2 0 c2)).run P w=.ok #[] w:=by
    cases a2 with
    | none=>exact run_firstCells_none w i.size 0 0 c2
    | some ad=>exact run_firstCells_some w i.size 0 ad 0 c2 [] (by simp) (by simp)
   rcases H.2 with ⟨rfl,rfl,rfl⟩|⟨g,cur,rfl,hg,hnc,hcm,hcs,ht⟩
   ·simp [Builtin.append_,run_underlying T.sl,sizeOf,typeInfo,hi,Builtin.lenOf,hf]
   ·simp [Builtin.append_,run_underlying T.sl,sizeOf,typeInfo,hi,Builtin.lenOf,hf,hnc,storeCells]
  ·have:=hK a c h (by simpa using H) (fun b o hb _=>hb) (fun g _=>.inl rfl) (fun e=>e) (fun b hb _=>hb)
   simpa using this
 ·have hnn:news≠[]:=fun e=>by
   subst e
   have h0:m*i.size=0:=by simpa using hl.symm
   rcases Nat.mul_eq_zero.1 h0 with h2|h2
   ·exact hm0 h2
   ·have:=T.pos;omega
  obtain⟨b2,o2,rfl,hr2⟩:=(show ∃ b o,a2=some ⟨b,o,none⟩∧h.row b o news.length=some news from H2.resolve_left hnn)
  have hnews:=Qf.cells hs (a:=⟨b2,o2,none⟩) H2
  have grown:∀ old,old < n+m→QN (h.set w.heap.size (.cells (xs.toArray++news.toArray++Builtin.zeroCells z.cells (grownCap w (n+m) old e - (n+m))) e (0,0))) e i.size (some ⟨w.heap.size,0,none⟩) (n+m) (grownCap w (n+m) old e) (xs++news):=by
   intro old ho
   have hge:=grownCap_ge w (n+m) old e
   have hcm:grownCap w (n+m) old e≤maxLen:=grownCap_le_maxLen w (n+m) old e h63
   refine⟨hlen,.inr ⟨w.heap.size,_,rfl,Hp.set_same _ _ _,hge,hcm,?_,?_⟩⟩
   ·simp only [Array.size_append,List.size_toArray,size_zeroCells,hzs,H.1,hl,←Nat.add_mul]
    congr 1
    omega
   ·simp only [Array.toList_append,List.append_assoc]
    rw [←List.append_assoc,←hlen]
    exact List.take_left
  have hno:h w.heap.size=none:=Sub.none hs
  have oldk:∀(O:Obj) (b:Nat) (o:Obj),h b=some o→(h.set w.heap.size O) b=some o:=by
   intro O b o hb
   have:b≠w.heap.size:=fun e=>by subst e;rw [hno] at hb;cases hb
   simp [Hp.set,this,hb]
  have newk:∀(O:Obj) (b:Nat),h b=none→some ⟨w.heap.size,0,none⟩≠some (⟨b,0,none⟩:Addr)→(h.set w.heap.size O) b=none:=by
   intro O b hb hne
   have:b≠w.heap.size:=fun e=>hne (by rw [e])
   simp [Hp.set,this,hb]
  rcases H.2 with ⟨rfl,rfl,rfl⟩|⟨g,cur,rfl,hg,hnc,hcm,hcs,htake⟩
  ·have hx:xs=[]:=List.eq_nil_of_length_eq_zero (by simpa using H.1)
   subst hx
   have hr:=run_append_nil (P:=P) w t ty e i z T.sl hi hz ⟨b2,o2,none⟩ m c2 news hl hnews (by omega) (by omega) (by simp only [Nat.zero_add] at hb;omega)
   have hgr:=grown 0 (by omega)
   simp only [Nat.zero_add,List.nil_append,Array.empty_append] at hgr hK ⊢
   exact⟨_,_,_,hr,YP hs _,Xt h w _,hK _ _ _ hgr (fun b o hb _=>oldk _ b o hb) (fun g e=>.inr (by simp only [Option.some.injEq,Addr.mk.injEq,and_true] at e;rw [←e];exact hno)) (by simp) (fun b hb hne=>newk _ b hb hne)⟩
  ·have hw:=hs g _ hg
   by_cases hroom:n+m≤c
   ·have hfit:n*i.size+news.length≤cur.size:=by rw [hl,hcs,←Nat.add_mul];exact Nat.mul_le_mul_right _ hroom
    have hr:=run_append_room (P:=P) w t ty e i T.sl hi g n c cur hw ⟨b2,o2,none⟩ m c2 news hl hnews h1 hroom hfit
    refine⟨_,_,_,hr,JM hs hg,Vi hg,hK _ _ _ ⟨hlen,.inr ⟨g,_,rfl,Hp.set_same _ _ _,hroom,hcm,?_,?_⟩⟩ ?_ (fun g' e=>.inl rfl) (fun e=>e) ?_⟩
    ·simp only [List.size_toArray,List.length_append,List.length_take,List.length_drop,Array.length_toList]
     omega
    ·simp only
     rw [htake,←hlen]
     exact List.take_left
    ·intro b o hb hne
     have:b≠g:=fun e=>hne (by rw [e])
     simp [Hp.set,this,hb]
    ·intro b hb hne
     have:b≠g:=fun e=>hne (by rw [e])
     simp [Hp.set,this,hb]
   ·have holds:∀ j u,xs[j]?=some u→w.cell? ((⟨g,0,none⟩:Addr).add j)=some u:=Qf.cells hs (a:=⟨g,0,none⟩) H.row
    have hr:=run_append_grow (P:=P) w t ty e i z T.sl hi hz ⟨g,0,none⟩ n c xs H.1 holds ⟨b2,o2,none⟩ m c2 news hl hnews (by omega) (by omega) (growslice_fits (by omega) hb)
    have hgr:=grown c (by omega)
    exact⟨_,_,_,hr,YP hs _,Xt h w _,hK _ _ _ hgr (fun b o hb _=>oldk _ b o hb) (fun g e=>.inr (by simp only [Option.some.injEq,Addr.mk.injEq,and_true] at e;rw [←e];exact hno)) (fun e=>by cases e) (fun b hb hne=>newk _ b hb hne)⟩
end
open Go.ChangeAt Go.ChangeShapes Go.RowKit Go.WideShapes
def GK (w:World):Hp:=fun b=>w.heap[b]?
structure QiT (w w':World):Prop where
 os:w'.os=w.os
 output:w'.output=w.output
 size:w.heap.size≤w'.heap.size
 heap:∀(b:Nat) (o:Obj),w.heap[b]?=some o→w'.heap[b]?=some o
section
variable {P:Program}
theorem Qni {f:FuncId}{args:List Value}{W:World}(H:Qa P f args (GK W) fun v h'=>v=vb true∧(GK W).le h') :
  Calls P f args.toArray W fun e W'=>e=.returned (.bool true)∧QiT W W':=by
 refine(H W fun b o hb=>hb).mono ?_
 rintro e W' ⟨v,h',rfl,hs,hF,rfl,hle⟩
 exact⟨rfl,hF.os,hF.output,hF.size,fun b o hb=>hs b o (hle b o hb)⟩
theorem Wv {α β:Type}{f g:α→Option β}:∀{l:List α} {ys:List β},l.mapM f=some ys→(∀ x ∈ l,∀ y ∈ ys,f x=some y→g x=some y)→l.mapM g=some ys
 | [],ys,h,hg=>by simpa using h
 | x :: l,ys,h,hg=>by
  rw [List.mapM_cons] at h ⊢
  simp only [Option.bind_eq_bind,Option.bind_eq_some_iff,Option.pure_def,Option.some.injEq] at h ⊢
  obtain⟨y,hy,zs,hzs,rfl⟩:=h
  exact⟨y,hg x (by simp) y (by simp) hy,zs,Wv hzs (fun x' hx y' hy'=>hg x' (by simp [hx]) y' (by simp [hy'])),rfl⟩
theorem Kp {α β:Type}{f:α→Option β}:∀{l:List α} {ys:List β},l.mapM f=some ys→ys.length=l.length
 | [],ys,h=>by simp at h;subst h;rfl
 | x :: l,ys,h=>by
  rw [List.mapM_cons] at h
  simp only [Option.bind_eq_bind,Option.bind_eq_some_iff,Option.pure_def,Option.some.injEq] at h
  obtain⟨y,hy,zs,hzs,rfl⟩:=h
  simp [Kp hzs]
theorem QiT.cell {w w':World}(K:QiT w w'){a:Addr}{v:Value}(h:w.cell? a=some v):w'.cell? a=some v:=by
 unfold World.cell? at h ⊢
 cases hb:w.heap[a.block]? with
 | none=>rw [hb] at h;cases h
 | some o=>rw [K.heap _ _ hb];rw [hb] at h;exact h
theorem QiT.cells {w w':World}(K:QiT w w'){base:Nat}{a:Addr}{n:Nat}{cs:List Value}(h:w.cells? base a n=some cs):w'.cells? base a n=some cs:=by
 unfold World.cells? at h ⊢
 split at h
 ·rename_i hb
  rw [if_pos hb]
  exact Wv h fun _ _ _ _ e=>K.cell e
 ·cases h
def Qq3 (P:Program)(N:Nat)(t:TypeId):Bool:=
 match P.underlying t with
 | some (.slice e)=>Nat.blt 0 (P.cellsOf e)&&Nat.blt e N
 | some (.pointer e)=>Nat.blt e N
 | some (.array _ e)=>Nat.blt e N
 | some (.map _ e)=>Nat.blt e N
 | some (.struct fs)=>fs.toList.all fun f=>Nat.blt f.type N
 | _=>true
structure Jk (P:Program):Prop where
 ty:∀ t,t < P.types.size→Qq3 P P.types.size t=true
 gl:∀(g:Nat) (t:TypeId),(P.globals[g]?).map (·.type)=some t→t < P.types.size
theorem QhP {P:Program}(h1:((List.range P.types.size).all (Qq3 P P.types.size))=true)(h2:(P.globals.toList.all fun g=>Nat.blt g.type P.types.size)=true):Jk P where
 ty t ht:=List.all_eq_true.1 h1 t (List.mem_range.2 ht)
 gl g t hg:=by
  cases hb:P.globals[g]? with
  | none=>rw [hb] at hg;cases hg
  | some x=>
   rw [hb] at hg
   simp only [Option.map_some,Option.some.injEq] at hg
   subst hg
   have:=List.all_eq_true.1 h2 x (by have:=Array.mem_of_getElem? hb;simpa using this)
   exact Nat.le_of_ble_eq_true this
theorem Qly {a:Addr}{n i:Nat}(hi:i < n):MemPlace.cell a.block (a.off+i) ∈ MemPlace.row a n:=by
 unfold MemPlace.row
 exact List.mem_map.2 ⟨i,List.mem_range.2 hi,rfl⟩
theorem QhA {H:Type}{enc:TypeId × Value→H}(hS:Jk P){w w':World}(K:QiT w w'){base:Nat}{sp:Nat→Bool} :
  ∀{fuel:Nat} {t:TypeId} {cs:List Value} {d:DataW H} {ps:List MemPlace},t < P.types.size→DataW.trod enc P w base (fun _=>true) true fuel t cs=some (d,ps) →
   (∀ p ∈ ps,sp p.block=true)→DataW.trod enc P w' base sp true fuel t cs=some (d,ps):=by
 intro fuel
 induction fuel with
 | zero=>intro t cs d ps ht h;simp [DataW.trod] at h
 | succ fuel ih=>
  intro t cs d ps ht h hp
  have htk:=hS.ty t ht
  unfold Qq3 at htk
  unfold DataW.trod at h ⊢
  split at h
  case h_6=> -- pointer
   rename_i e a hu
   rw [hu] at htk
   dsimp only at htk
   simp only [Option.map_eq_some_iff,Option.bind_eq_some_iff] at h ⊢
   obtain⟨x,⟨cs',hc,hx⟩,he⟩:=h
   have he2:=he
   simp only [Prod.mk.injEq] at he2
   obtain⟨rfl,rfl⟩:=he2
   exact⟨x,⟨cs',K.cells hc,ih (Nat.le_of_ble_eq_true htk) hx fun p hpx=>hp p (List.mem_append_right _ hpx)⟩,rfl⟩
  case h_8=> -- slice
   rename_i e a len cap hu
   rw [hu] at htk
   simp only [Bool.and_eq_true] at htk
   split at h
   ·rename_i hc
    rw [if_pos hc]
    simp only [Option.bind_eq_some_iff,Option.map_eq_some_iff,if_true] at h
    obtain⟨elems,he,rest,hr,hx⟩:=h
    simp only [Prod.mk.injEq] at hx
    obtain⟨rfl,rfl⟩:=hx
    have hel:elems.length=len:=by have:=Kp he;simpa using this
    have hrl:rest.length=cap - len:=by have:=Kp hr;simpa using this
    have one:∀(i:Nat) (y:DataW H × List MemPlace),y ∈ elems++rest→((w.cells? base (a.add (i*P.cellsOf e)) (P.cellsOf e)).bind (DataW.trod enc P w base (fun _=>true) true fuel e))=some y →
      ((w'.cells? base (a.add (i*P.cellsOf e)) (P.cellsOf e)).bind (DataW.trod enc P w' base sp true fuel e))=some y:=by
     intro i y hy h1
     simp only [Option.bind_eq_some_iff] at h1 ⊢
     obtain⟨cs',h2,h3⟩:=h1
     exact⟨cs',K.cells h2,ih (Nat.le_of_ble_eq_true htk.2) h3 fun p hpy=>hp p (List.mem_append_right _ (List.mem_flatMap.2 ⟨y,hy,hpy⟩))⟩
    simp only [Option.bind_eq_some_iff,Option.map_eq_some_iff]
    refine⟨elems,Wv he fun i _ y hy h1=>one i y (List.mem_append_left _ hy) h1,rest,?_,rfl⟩
    by_cases hz:cap=0
    ·have h0:rest=[]:=List.eq_nil_of_length_eq_zero (by omega)
     subst h0
     subst hz
     split<;>simp
    ·have hsp:sp a.block=true:=by
      have h0:0 < (elems.length+rest.length)*P.cellsOf e:=Nat.mul_pos (by omega) (Nat.le_of_ble_eq_true htk.1)
      exact hp _ (List.mem_append_left _ (Qly h0))
     rw [if_pos hsp]
     exact Wv hr fun j _ y hy h1=>one (len+j) y (List.mem_append_right _ hy) h1
   ·cases h
  case h_9=> -- struct
   rename_i fs hu
   rw [hu] at htk
   dsimp only at htk
   split at h
   ·rename_i hc
    rw [if_pos hc]
    simp only [Option.map_eq_some_iff] at h ⊢
    obtain⟨xs,hx,he⟩:=h
    have he2:=he
    simp only [Prod.mk.injEq] at he2
    obtain⟨rfl,rfl⟩:=he2
    exact⟨xs,Wv hx fun f hf y hy h1=>ih (Nat.le_of_ble_eq_true (List.all_eq_true.1 htk f hf)) h1 fun p hpy=>hp p (List.mem_flatMap.2 ⟨y,hy,hpy⟩),rfl⟩
   ·cases h
  case h_10=> -- array
   rename_i n e hu
   rw [hu] at htk
   dsimp only at htk
   split at h
   ·rename_i hc
    rw [if_pos hc]
    simp only [Option.map_eq_some_iff] at h ⊢
    obtain⟨xs,hx,he⟩:=h
    have he2:=he
    simp only [Prod.mk.injEq] at he2
    obtain⟨rfl,rfl⟩:=he2
    exact⟨xs,Wv hx fun f _ y hy h1=>ih (Nat.le_of_ble_eq_true htk) h1 fun p hpy=>hp p (List.mem_flatMap.2 ⟨y,hy,hpy⟩),rfl⟩
   ·cases h
  case h_12=> -- interface
   simp only at h ⊢
   exact h
  case h_14=> -- map
   rename_i k e b hu
   rw [hu] at htk
   dsimp only at htk
   split at h
   ·rename_i es clock hb
    rw [K.heap _ _ hb]
    simp only
    split at h
    ·rename_i hc
     rw [if_pos hc]
     simp only [Option.bind_eq_some_iff] at h ⊢
     obtain⟨entries,hx,hrest⟩:=h
     refine⟨entries,?_,hrest⟩
     split at hrest
     ·simp only [Option.some.injEq,Prod.mk.injEq] at hrest
      obtain⟨rfl,rfl⟩:=hrest
      refine Wv hx fun f _ y hy h1=>?_
      simp only [Option.bind_eq_some_iff] at h1 ⊢
      obtain⟨key,hk,h2⟩:=h1
      refine⟨key,hk,?_⟩
      split at h2
      ·rename_i hf
       rw [if_pos hf]
       simp only [Option.map_eq_some_iff] at h2 ⊢
       obtain⟨z,hz,rfl⟩:=h2
       exact⟨z,ih (Nat.le_of_ble_eq_true htk) hz fun p hpy=>hp p (List.mem_cons_of_mem _ (List.mem_flatMap.2 ⟨_,hy,hpy⟩)),rfl⟩
      ·cases h2
     ·cases hrest
    ·cases h
   ·cases h
  all_goals first|(cases h;done)|(simp_all;done)
theorem QbU {H:Type}{enc:TypeId × Value→H}(hS:Jk P){w w':World}(K:QiT w w'){base:Nat}{sp:Nat→Bool} :
  ∀{ts:List TypeId} {vs:List Value} {ds:List (DataW H)} {ps:List MemPlace},(∀ t ∈ ts,t < P.types.size)→DataW.TrodAll enc P w base (fun _=>true) true ts vs ds ps →
   (∀ p ∈ ps,sp p.block=true)→DataW.TrodAll enc P w' base sp true ts vs ds ps
 | [],[],[],ps,_,h,hp=>h
 | t :: ts,v :: vs,d :: ds,ps,ht,h,hp=>by
  obtain⟨p,q,⟨fuel,h1⟩,h2,rfl⟩:=h
  exact⟨p,q,⟨fuel,QhA hS K (ht t (by simp)) h1 fun x hx=>hp x (List.mem_append_left _ hx)⟩,QbU hS K (fun x hx=>ht x (by simp [hx])) h2 (fun x hx=>hp x (List.mem_append_right _ hx)),rfl⟩
 | [],_ :: _,_,_,_,h,_=>by simp [DataW.TrodAll] at h
 | [],[],_ :: _,_,_,h,_=>by simp [DataW.TrodAll] at h
 | _ :: _,[],_,_,_,h,_=>by simp [DataW.TrodAll] at h
 | _ :: _,_ :: _,[],_,_,h,_=>by simp [DataW.TrodAll] at h
theorem Qai {H:Type}{enc:TypeId × Value→H}(hS:Jk P){w w':World}(K:QiT w w'){sp:Nat→Bool} :
  ∀{ns:List String} {ds:List (DataW H)} {ps:List MemPlace},DataW.TrodVars enc P w (fun _=>true) ns ds ps →
   (∀ p ∈ ps,sp p.block=true)→DataW.TrodVars enc P w' sp ns ds ps
 | [],[],ps,h,hp=>h
 | n :: ns,d :: ds,ps,h,hp=>by
  obtain⟨g,t,cs,fuel,p,q,hn,ht,hv,h1,h2,rfl⟩:=h
  refine⟨g,t,cs,fuel,p,q,hn,ht,?_,QhA hS K (hS.gl g t ht) h1 fun x hx=>hp x (List.mem_append_left _ (List.mem_append_right _ hx)),Qai hS K h2 (fun x hx=>hp x (List.mem_append_right _ hx)),rfl⟩
  unfold World.var? at hv ⊢
  rw [hn] at hv ⊢
  simp only [Option.bind_some] at hv ⊢
  cases hb:w.heap[g]? with
  | none=>rw [hb] at hv;cases hv
  | some o=>rw [K.heap _ _ hb];rw [hb] at hv;exact hv
 | [],_ :: _,_,h,_=>by simp [DataW.TrodVars] at h
 | _ :: _,[],_,h,_=>by simp [DataW.TrodVars] at h
theorem Qo7 {H:Type}{enc:TypeId × Value→H}(hS:Jk P){f:Func}{s:ChangeSpec}{apart fresh handsOn again:Bool}{W W':World}{args:Array Value}{ds gs:List (DataW H)}{before:List MemPlace}
  (hW:DataW.Whole enc P f.params.toList s.vars apart W args.toList ds gs before) (K:QiT W W') (hts:(f.params.toList.all fun t=>Nat.blt t P.types.size)=true) {tb:TypeId} (hr:f.resultTypes=#[tb]) (hb:P.underlying tb=some .bool)
  (hs:s.fn H (ds++gs)={ results:=[.lit (.bool true)],args:=ds,vars:=gs }) :
  s.post enc P f apart fresh handsOn again W args (vb true) W':=by
 have hlt:∀ p ∈ before,p.block < W.heap.size:=fun p hp=>hW.lt p hp
 have hW0:=hW
 obtain⟨pa,pv,hA,hV,rfl,hz,hn⟩:=hW
 have hres:∀(b:Nat) (sp:Nat→Bool) (hd:Bool),DataW.TrodAll enc P W' b sp hd f.resultTypes.toList ((vb true).resultList f.resultTypes.size) [.lit (.bool true)] []:=by
  intro b sp hd
  rw [hr]
  exact trodAll_cons_mk (shut_bool hb _) trodAll_mk0
 have hargs:∀ sp:Nat→Bool,(∀ p ∈ pa++pv,sp p.block=true)→DataW.TrodAll enc P W' 0 sp true f.params.toList args.toList ds pa:=fun sp hp=>QbU hS K (fun t ht=>Nat.le_of_ble_eq_true (List.all_eq_true.1 hts t ht)) hA fun p h=>hp p (List.mem_append_left _ h)
 have hvars:∀ sp:Nat→Bool,(∀ p ∈ pa++pv,sp p.block=true)→DataW.TrodVars enc P W' sp s.vars gs pv:=fun sp hp=>Qai hS K hV fun p h=>hp p (List.mem_append_right _ h)
 have hold:∀ p ∈ pa++pv,(fun b=>decide (b < W.heap.size)) p.block=true:=fun p hp=>by simpa using hlt p hp
 have hall:∀ p ∈ pa++pv,(fun _:Nat=>true) p.block=true:=fun _ _=>rfl
 refine⟨ds,gs,pa++pv,[],pa,pv,hW0,?_,?_,?_,⟨K.os,K.output,fun i hi=>?_⟩,fun _=>⟨?_,_,gs,([]++pa)++pv,⟨[]++pa,pv,trodAll_append (hargs _ hall) (hres _ _ _),hvars _ hall,rfl,?_,?_⟩,?_⟩⟩
 ·rw [hs];exact hres _ _ _
 ·rw [hs];exact hargs _ hold
 ·rw [hs];exact hvars _ hold
 ·cases hb:W.heap[i]? with
  | none=>simp at hb;omega
  | some o=>rw [K.heap _ _ hb];cases o<;>simp
 ·intro j t r h1 h2
  exact ok_one hr rfl (okWide_bool_mk hb _) j t r h1 h2
 ·intro b off hp
  have h1:=hz b off (by simpa using hp)
  have h2:=hlt (.cell b off) (by simpa using hp)
  unfold World.frozen? at h1 ⊢
  cases hb:W.heap[b]? with
  | none=>simp [MemPlace.block] at hb h2;omega
  | some o=>rw [hb] at h1;rw [K.heap _ _ hb];exact h1
 ·intro ha
  simpa using hn ha
 ·intro p hp _
  simpa using hp
end
end Go.Vc
namespace Go.Vc
open Go
theorem isW {e:Int}(h:InR e):IsW e e:=(IntWalk.i64_in _ (by unfold InR at h;exact h)).symm
instance (z:Int):Decidable (InR z):=by unfold InR;infer_instance
structure Qh (h0 h:Hp)(e:TypeId)(sz:Nat)(a:Option Addr)(n c:Nat)(xs:List Value):Prop where
 le:h0.le h
 own:QN h e sz a n c xs
 new:∀ g,a=some ⟨g,0,none⟩→h0 g=none
theorem Qh.nil {h0 h:Hp}(hl:h0.le h)(e:TypeId)(sz:Nat):Qh h0 h e sz none 0 0 []:=⟨hl,QN.nil h e sz,by simp⟩
theorem Qh.mk_new {h0 h:Hp}(hl:h0.le h){b:Nat}(hb:h b=none)(e:TypeId){sz n:Nat}(xs:List Value)(hx:xs.length=n*sz)(hn:n≤maxLen) :
  Qh h0 (h.set b (Qb xs e)) e sz (some ⟨b,0,none⟩) n n xs:=
 ⟨Hp.le_set hl hb _,QN.new h b e xs hx hn,fun g hg=>by simp only [Option.some.injEq,Addr.mk.injEq,and_true] at hg;subst hg;exact Hp.none_of_le hl hb⟩
theorem Qh.row {h0 h:Hp}{e:TypeId}{sz n c:Nat}{a:Option Addr}{xs:List Value}(O:Qh h0 h e sz a n c xs):Qf h a xs:=O.own.row
theorem Qh.mono {h0 h h':Hp}(hl:h.le h'){e:TypeId}{sz n c:Nat}{a:Option Addr}{xs:List Value}(O:Qh h0 h e sz a n c xs):Qh h0 h' e sz a n c xs:=⟨Hp.le_trans O.le hl,O.own.le hl,O.new⟩
theorem Qh.set {h0 h:Hp}{b:Nat}(hb:h b=none)(o:Obj){e:TypeId}{sz n c:Nat}{a:Option Addr}{xs:List Value}(O:Qh h0 h e sz a n c xs):Qh h0 (h.set b o) e sz a n c xs:=O.mono (Hp.le_set (Hp.le_refl h) hb o)
section
variable {P:Program}
theorem Qh.append {h0 h:Hp}{t ty e:TypeId}{sz bytes:Nat}(T:ElT P t e sz bytes){a:Option Addr}{n c:Nat}{xs:List Value}(O:Qh h0 h e sz a n c xs)
  {a2:Option Addr} {m c2:Nat} {news:List Value} (H2:Qf h a2 news) (hl:news.length=m*sz) (h1:∀ u ∈ news,u.oneCell'=true)
  (hb:(n+m)*bytes≤140737488355328) (hm:n+m≤140737488355328) {K:Value→Hp→Prop}
  (hK:∀ a' c' h',Qh h0 h' e sz a' (n+m) c' (xs++news)→(∀ b o,h b=some o→a≠some ⟨b,0,none⟩→h' b=some o)→(∀ g,a'=some ⟨g,0,none⟩→a=a'∨h g=none)→K (vsl a' (n+m) c') h') :
  Qm P (Builtin.append_ #[t,t] ty #[vsl a n c,vsl a2 m c2]) h K:=by
 refine QaM T O.own H2 hl h1 hb hm fun a' c' h' o1 o2 o3 _ _=>hK a' c' h' ⟨?_,o1,?_⟩ o2 o3
 ·intro b o hb
  refine o2 b o (O.le b o hb) fun e=>?_
  rw [O.new b e] at hb
  cases hb
 ·intro g hg
  rcases o3 g hg with e|e
  ·exact O.new g (e.trans hg)
  ·exact Hp.none_of_le O.le e
end
def SlI (h:Hp)(a:Option Addr)(n:Nat)(l:List Int):Prop:=n=l.length∧Qf h a (l.map vi)
theorem SlI.le {h h':Hp}(hl:h.le h'){a:Option Addr}{n:Nat}{l:List Int}(H:SlI h a n l):SlI h' a n l:=⟨H.1,H.2.le hl⟩
theorem Qh.sli {h0 h:Hp}{e:TypeId}{n c:Nat}{a:Option Addr}{l:List Int}(O:Qh h0 h e 1 a n c (l.map vi)):SlI h a n l:=⟨by have:=O.own.1;simpa using this.symm,O.row⟩
theorem QkK (l:List Int):∀ u ∈ l.map vi,u.oneCell'=true:=by
 intro u hu
 obtain⟨x,_,rfl⟩:=List.mem_map.1 hu
 rfl
theorem SlI.get {h:Hp}{a:Option Addr}{n:Nat}{l:List Int}(H:SlI h a n l){i:Nat}(hi:i < n):∃ b o,a=some ⟨b,o,none⟩∧h.cell b (o+i*1)=some (vi (l.getD i 0)):=by
 obtain⟨rfl,h1|⟨b,o,rfl,hr⟩⟩:=H
 ·have:l.length=0:=by simpa using congrArg List.length h1
  omega
 ·refine⟨b,o,rfl,?_⟩
  rw [Nat.mul_one]
  refine Hp.row_cell hr ?_
  rw [List.getElem?_map,List.getD_eq_getElem?_getD,List.getElem?_eq_getElem hi]
  rfl
def Qr (l:List Value)(i:Nat):Int:=match l[i]? with|some (.int _ x)=>x|_=>0
def upto (p:Int→Bool)(lo:Int):Nat→List Int
 | 0=>[]
 | n+1=>upto p lo n++(if p (lo+(n+1:Nat)) then [lo+(n+1:Nat)] else [])
theorem Nz (p:Int→Bool)(lo:Int):∀ n,upto p lo (n+1)=(if p (lo+1) then [lo+1] else [])++upto p (lo+1) n
 | 0=>by simp [upto]
 | n+1=>by
  have e:lo+((n+1+1:Nat):Int)=lo+1+((n+1:Nat):Int):=by omega
  show upto p lo (n+1)++(if p (lo+((n+1+1:Nat):Int)) then [lo+((n+1+1:Nat):Int)] else [])=_++(upto p (lo+1) n++(if p (lo+1+((n+1:Nat):Int)) then [lo+1+((n+1:Nat):Int)] else []))
  rw [e,Nz p lo n,List.append_assoc]
theorem No (p:Int→Bool):∀(k:Nat) (lo:Int) (n:Nat),(∀ x,lo < x→x≤lo+k→p x=false)→upto p lo (k+n)=upto p (lo+k) n
 | 0,lo,n,h=>by simp
 | k+1,lo,n,h=>by
  rw [show k+1+n=(k+n)+1 by omega,Nz,h (lo+1) (by omega) (by omega),No p k (lo+1) n fun x h1 h2=>h x (by omega) (by omega)]
  simp only [Bool.false_eq_true,if_false,List.nil_append]
  congr 1
  omega
theorem Mw (p:Int→Bool)(lo:Int):∀ n,(upto p lo n).length≤n
 | 0=>Nat.le_refl _
 | n+1=>by
  rw [upto,List.length_append]
  have:=Mw p lo n
  split<;>simp<;>omega
end Go.Vc
