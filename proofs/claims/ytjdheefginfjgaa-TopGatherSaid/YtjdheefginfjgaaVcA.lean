/-
  The framework of this prover's proofs, part A: what a function's text asks of an abstract heap (a verification condition that is computed from the loaded code), no program in sight. Conditions: none.
-/
import Derived.WalkKit
import Derived.WalkLawsBesides
namespace Go.Vc
open Go

/-- A part of a heap: what is known of it. -/
abbrev Hp := Nat → Option Obj
def Hp.set (h : Hp) (b : Nat) (o : Obj) : Hp := fun i => if i = b then some o else h i
def Hp.cell (h : Hp) (b o : Nat) : Option Value := match h b with | some (.cells c _ _) => c[o]? | _ => none
def Hp.row (h : Hp) (b o n : Nat) : Option (List Value) :=
  match h b with
  | some (.cells c _ _) => if o + n ≤ c.size then some ((c.toList.drop o).take n) else none
  | _ => none
def Hp.le (h h' : Hp) : Prop := ∀ b o, h b = some o → h' b = some o
def Sub (h : Hp) (w : World) : Prop := ∀ b o, h b = some o → w.heap[b]? = some o
structure Fr (h h' : Hp) (w w' : World) : Prop where
  os : w'.os = w.os
  tape : w'.tape = w.tape
  output : w'.output = w.output
  size : w.heap.size ≤ w'.heap.size
  keep : ∀ b, b < w.heap.size → h b = none → w'.heap[b]? = w.heap[b]? ∧ h' b = none

/-- A call of function f over a heap of which h is known: it returns a value and leaves a heap of which h' is known; of all else nothing has turned. -/
def CallOK (P : Program) (f : FuncId) (args : List Value) (h : Hp) (K : Value → Hp → Prop) : Prop :=
  ∀ w, Sub h w → Calls P f args.toArray w fun e w' => ∃ v h', e = .returned v ∧ Sub h' w' ∧ Fr h h' w w' ∧ K v h'
/-- An operation that may change the heap. -/
def SemOK (P : Program) (m : Sem Value) (h : Hp) (K : Value → Hp → Prop) : Prop :=
  ∀ w, Sub h w → ∃ v w' h', m.run P w = .ok v w' ∧ Sub h' w' ∧ Fr h h' w w' ∧ K v h'
def SemOKu (P : Program) (m : Sem Unit) (h : Hp) (K : Hp → Prop) : Prop :=
  ∀ w, Sub h w → ∃ w' h', m.run P w = .ok () w' ∧ Sub h' w' ∧ Fr h h' w w' ∧ K h'
/-- A call of a function without a body. -/
def ExtOK (P : Program) (f : FuncId) (args : List Value) (h : Hp) (K : Value → Hp → Prop) : Prop :=
  ∀ w, Sub h w → ∃ v w' h', (callFunc f args.toArray).run P w = .ok (.value v) w' ∧ Sub h' w' ∧ Fr h h' w w' ∧ K v h'
/-- A call of a function value. -/
def InvOK (P : Program) (fv : Value) (args : List Value) (h : Hp) (K : Value → Hp → Prop) : Prop :=
  ∃ f pre post, fv = .func (.func f) pre post ∧ (∃ fn, P.funcs[f]? = some fn ∧ (fn.name == "runtime.NumGoroutine") = false ∧ fn.body.isNone = false) ∧ CallOK P f (pre.toList ++ args ++ post.toList) h K
/-- What an operation that only reads gives. -/
def Rd (P : Program) (m : Sem Value) (h : Hp) (v : Value) : Prop := ∀ w, Sub h w → m.run P w = .ok v w

abbrev vi (x : Int) : Value := .int .i64 x
abbrev vk (k : IntKind) (x : Int) : Value := .int k x
abbrev vb (x : Bool) : Value := .bool x
abbrev vs (x : ByteArray) : Value := .string x
abbrev vsl (a : Option Addr) (n c : Nat) : Value := .slice a n c
abbrev vp (p : Option Addr) : Value := .pointer p
abbrev vhp (b o : Nat) : Value := .pointer (some ⟨b, o, none⟩)
abbrev vag (l : List Value) : Value := .agg l.toArray
abbrev vtup (l : List Value) : Value := .tuple l.toArray
abbrev cellsO (l : List Value) (t : TypeId) : Obj := .cells l.toArray t (0, 0)

/-- Values as the text's types have them: of one cell; of any number; what a slot holds. -/
inductive TV where
  | v (x : Value) | hp (b o : Nat) | ifc (e : Option (TypeId × Value))
def ifv : Option (TypeId × Value) → Value
  | some (t, v) => .iface t v
  | none => .nilIface
def TV.val : TV → Value
  | .v x => x
  | .hp b o => .pointer (some ⟨b, o, none⟩)
  | .ifc e => ifv e
def tvals : List TV → List Value
  | [] => []
  | x :: l => x.val :: tvals l
inductive TW where
  | one (x : TV) | ag (l : List TV)
def TW.val : TW → Value
  | .one x => x.val
  | .ag l => .agg (tvals l).toArray
def TW.cells : TW → List TV
  | .one x => [x]
  | .ag l => l
def twals : List TW → List Value
  | [] => []
  | x :: l => x.val :: twals l
inductive SV where
  | t (x : TW) | tup (l : List TW) | bp (i o : Nat) | any
inductive Sl where
  | s (x : SV) | gd (s : Nat) (pol : Bool) (x : SV)
def SV.val : SV → Value
  | .t x => x.val
  | .tup l => .tuple (twals l).toArray
  | _ => undef
def SV.val? : SV → Option Value
  | .t x => some x.val
  | .tup l => some (.tuple (twals l).toArray)
  | _ => none
def SV.tw? : SV → Option TW
  | .t x => some x
  | _ => none

inductive Sh1 where
  | int (k : IntKind) | bool | str | slice | ptr | ifc | val
inductive Sh0 where
  | one (s : Sh1) | agg (l : List Sh1)
inductive Sh where
  | s (x : Sh0) | tup (l : List Sh0)

/-- There is a value of a shape. -/
def ex1 : Sh1 → (TV → Prop) → Prop
  | .int k, K => ∃ x : Int, K (.v (.int k x))
  | .bool, K => ∃ x : Bool, K (.v (.bool x))
  | .str, K => ∃ x : ByteArray, K (.v (.string x))
  | .slice, K => ∃ (a : Option Addr) (n c : Nat), K (.v (.slice a n c))
  | .ptr, K => ∃ p : Option Addr, K (.v (.pointer p))
  | .ifc, K => ∃ e : Option (TypeId × Value), K (.ifc e)
  | .val, K => ∃ x : Value, K (.v x)
def exL : List Sh1 → (List TV → Prop) → Prop
  | [], K => K []
  | s :: l, K => ex1 s fun x => exL l fun xs => K (x :: xs)
def ex0 : Sh0 → (TW → Prop) → Prop
  | .one s, K => ex1 s fun x => K (.one x)
  | .agg l, K => exL l fun xs => K (.ag xs)
def ex0L : List Sh0 → (List TW → Prop) → Prop
  | [], K => K []
  | s :: l, K => ex0 s fun x => ex0L l fun xs => K (x :: xs)
def exS : Sh → (SV → Prop) → Prop
  | .s s, K => ex0 s fun x => K (.t x)
  | .tup l, K => ex0L l fun xs => K (.tup xs)
/-- A value, taken as its shape has it. -/
def res (s : Sh) (v : Value) (K : SV → Prop) : Prop := exS s fun x => v = x.val ∧ K x

section
variable (P : Program)
def sh1 (t : TypeId) : Sh1 :=
  match P.underlying t with
  | some (.int k) => .int k
  | some .bool => .bool
  | some .string => .str
  | some (.slice _) => .slice
  | some (.pointer _) => .ptr
  | some (.interface _) => .ifc
  | _ => .val
def flat : Nat → TypeId → List Sh1
  | 0, _ => []
  | n + 1, t =>
    match P.underlying t with
    | some (.struct fs) => fs.toList.flatMap fun f => flat n f.type
    | some (.array k e) => (List.replicate k (flat n e)).flatten
    | _ => [sh1 P t]
def isAggT (t : TypeId) : Bool :=
  match P.underlying t with
  | some (.struct _) | some (.array _ _) => true
  | _ => false
def sh0 (t : TypeId) : Sh0 := bif isAggT P t then .agg (flat P 8 t) else .one (sh1 P t)
def shp (t : TypeId) : Sh :=
  match P.underlying t with
  | some (.tuple ts) => .tup (ts.toList.map (sh0 P))
  | _ => .s (sh0 P t)
def szT (t : TypeId) : Nat := P.cellsOf t
def offT (t : TypeId) (f : Nat) : Option Nat :=
  match P.underlying t with
  | some (.struct fs) => (fs[f]?).bind fun x => bif Nat.beq (szT P x.type) 0 then none else some x.offset
  | _ => none
end

def sizesOK (P : Program) : List Field → Bool
  | [] => true
  | f :: l => Nat.ble 1 (szT P f.type) && sizesOK P l

/-- A box: a block of the call's own, of which nobody else knows. -/
structure Box where
  ty : TypeId
  c : List TV
  st : Nat
structure St where
  n : Nat
  t : Nat → Sl
  g : Nat → Bool
  b : List Box

def memN (x : Nat) : List Nat → Bool
  | [] => false
  | y :: l => bif Nat.beq x y then true else memN x l
def memC (s : Nat) (p : Bool) : List (Nat × Bool) → Bool
  | [] => false
  | (y, q) :: l => bif (Nat.beq s y && (p == q)) then true else memC s p l

def tvOf : Value → TV
  | .nilIface => .ifc none
  | v => .v v
def St.ev (st : St) (ch : List (Nat × Bool)) : Operand → SV
  | .tmp i => match st.t i with
    | .s x => x
    | .gd s p x => bif memC s p ch then x else .any
  | .const v => .t (.one (tvOf v))
  | .global g => .t (.one (.hp g 0))
  | .func f => .t (.one (.v (.func (.func f) #[] #[])))
def St.evs (st : St) (ch : List (Nat × Bool)) : List Operand → Option (List Value)
  | [] => some []
  | x :: l => match (st.ev ch x).val?, st.evs ch l with
    | some v, some vs => some (v :: vs)
    | _, _ => none
def St.put (st : St) (dst : Option Nat) (gd : Option (Nat × Bool)) (x : SV) (K : St → Prop) : Prop :=
  match dst with
  | none => K st
  | some d =>
    match gd with
    | none => bif (Nat.blt d st.n && !(st.g d)) then K { st with t := fun i => bif Nat.beq i d then .s x else st.t i } else False
    | some (s, p) => bif (Nat.blt d st.n && !(Nat.beq d s || st.g d)) then K { st with t := fun i => bif Nat.beq i d then .gd s p x else st.t i, g := fun k => bif Nat.beq k s then true else st.g k } else False

/-- z is e, taken to 64 bits. -/
def IsW (z e : Int) : Prop := z = IntKind.i64.wrap e
def InR (z : Int) : Prop := -9223372036854775808 ≤ z ∧ z ≤ 9223372036854775807

def setL {α : Type} (l : List α) (o : Nat) (vs : List α) : List α := l.take o ++ vs ++ l.drop (o + vs.length)
def fillL (place : Nat → Option (Nat × Nat)) : List TV → List (Nat × TW) → Option (List TV)
  | cells, [] => some cells
  | cells, (i, v) :: rest =>
    match place i with
    | none => none
    | some (off, size) => bif (Nat.beq v.cells.length size && Nat.ble (off + size) cells.length) then fillL place (setL cells off v.cells) rest else none
def one? : Value → Bool
  | .agg _ | .tuple _ => false
  | _ => true
def one1 : TV → Bool
  | .v x => one? x
  | .hp _ _ => true
  | .ifc _ => true
def allOneT : List TV → Bool
  | [] => true
  | v :: l => one1 v && allOneT l
def plainW : TW → Bool
  | .one v => one1 v
  | .ag _ => true
def partsL (st : St) (ch : List (Nat × Bool)) : List (Nat × Operand) → Option (List (Nat × TW))
  | [] => some []
  | (i, x) :: l => match (st.ev ch x).tw?, partsL st ch l with
    | some v, some vs => bif plainW v then some ((i, v) :: vs) else none
    | _, _ => none
def optV (st : St) (ch : List (Nat × Bool)) : Option Operand → Option (Option Value)
  | none => some none
  | some x => match (st.ev ch x).val? with
    | some v => some (some v)
    | none => none
def tvsOf : List Value → List TV
  | [] => []
  | v :: l => tvOf v :: tvsOf l
def zeroL (P : Program) (t : TypeId) : Option (List TV) := ((P.info? t).bind (·.zero)).map fun z => tvsOf z.cells.toList

/-- WHAT AN OPERATION THAT DOES NOT CHANGE THE HEAP ASKS AND GIVES: a value; nothing (it cannot run); a value, if something is so; an address behind a pointer that is not nil, or of an element; what a run gives that only reads; a row, a cell of the heap. -/
inductive VD where
  | pt (x : SV) | no | ob (p : Prop) (x : SV) | wr (e : Int)
  | nilc (p : Option Addr) | idx (a : Option Addr) (n : Nat) (i : Int) (sz : Nat)
  | rd (m : Sem Value) (s : Sh) | ldA (b o n : Nat) (l : List Sh1) | ld1 (b o : Nat) (s : Sh1)

/-- 'x op y' on int (64 bits, signed): the sum stays what it is, if it fits; comparisons. -/
def vcInt (op : BinOp) (a b : Int) : VD :=
  match op with
  | .add => .wr (a + b)
  | .sub => .wr (a - b)
  | .mul => .wr (a * b)
  | .quo => .ob (b ≠ 0 ∧ InR (a.tdiv b)) (.t (.one (.v (.int .i64 (a.tdiv b)))))
  | .rem => .ob (b ≠ 0) (.t (.one (.v (.int .i64 (a.tmod b)))))
  | .eql => .pt (.t (.one (.v (.bool (decide (a = b))))))
  | .neq => .pt (.t (.one (.v (.bool (decide (a ≠ b))))))
  | .lss => .pt (.t (.one (.v (.bool (decide (a < b))))))
  | .leq => .pt (.t (.one (.v (.bool (decide (a ≤ b))))))
  | .gtr => .pt (.t (.one (.v (.bool (decide (a > b))))))
  | .geq => .pt (.t (.one (.v (.bool (decide (a ≥ b))))))
  | _ => .no
def isIntOp : BinOp → Bool
  | .add | .sub | .mul | .quo | .rem | .eql | .neq | .lss | .leq | .gtr | .geq => true
  | _ => false
/-- Comparisons on a small kind (bytes ..). -/
def vcCmp (op : BinOp) (a b : Int) : VD :=
  match op with
  | .eql => .pt (.t (.one (.v (.bool (decide (a = b))))))
  | .neq => .pt (.t (.one (.v (.bool (decide (a ≠ b))))))
  | .lss => .pt (.t (.one (.v (.bool (decide (a < b))))))
  | .leq => .pt (.t (.one (.v (.bool (decide (a ≤ b))))))
  | .gtr => .pt (.t (.one (.v (.bool (decide (a > b))))))
  | .geq => .pt (.t (.one (.v (.bool (decide (a ≥ b))))))
  | _ => .no
def isCmpOp : BinOp → Bool
  | .eql | .neq | .lss | .leq | .gtr | .geq => true
  | _ => false

inductive Two where
  | i64 (a b : Int) | ik (k : IntKind) (a b : Int) | nilR (e : Option (TypeId × Value)) | nilL (e : Option (TypeId × Value)) | other
def twoOf : SV → SV → Two
  | .t (.one (.v (.int .i64 a))), .t (.one (.v (.int .i64 b))) => .i64 a b
  | .t (.one (.v (.int .u8 a))), .t (.one (.v (.int .u8 b))) => .ik .u8 a b
  | .t (.one (.v (.int .u64 a))), .t (.one (.v (.int .u64 b))) => .ik .u64 a b
  | .t (.one (.v (.int .u32 a))), .t (.one (.v (.int .u32 b))) => .ik .u32 a b
  | .t (.one (.v (.int .i32 a))), .t (.one (.v (.int .i32 b))) => .ik .i32 a b
  | .t (.one (.ifc e)), .t (.one (.ifc none)) => .nilR e
  | .t (.one (.ifc none)), .t (.one (.ifc e)) => .nilL e
  | _, _ => .other

/-- An operation that only reads, by its own run: 's' is the shape of what it gives. -/
def vcRd (P : Program) (G : Prop → Prop) (m : Sem Value) (s : Sh) (h : Hp) (K : SV → Prop) : Prop :=
  exS s fun x => G (Rd P m h x.val) ∧ K x

def isIfc (P : Program) (t : TypeId) : Bool := match P.underlying t with | some (.interface _) => true | _ => false
def isNilC : Operand → Bool
  | .const .nilIface => true
  | _ => false

/-- Is it an operation that may change the heap? -/
def isE : Op → Bool
  | .alloc _ | .box .. | .buildSlice .. | .store .. | .makeMap .. | .makeSlice .. | .mapUpdate .. | .insert .. | .range .. | .next .. => true
  | .call { callee := .builtin .len, .. } | .call { callee := .builtin .cap, .. } | .call { callee := .builtin .max, .. } | .call { callee := .builtin .min, .. } => false
  | .call _ => true
  | _ => false

/-- AN OPERATION THAT DOES NOT CHANGE THE HEAP. -/
def vcVd (P : Program) (o : Oper) (ch : List (Nat × Bool)) (st : St) : VD :=
  match o.op with
  | .move x => .pt (st.ev ch x)
  | .assign x => .pt (st.ev ch x)
  | .pick c a b =>
    match c with
    | .tmp s =>
      match st.ev ch (.tmp s), st.ev ((s, true) :: ch) a, st.ev ((s, false) :: ch) b with
      | .t (.one (.v (.bool c))), .t (.one (.v (.bool x))), .t (.one (.v (.bool y))) => .pt (.t (.one (.v (.bool (bif c then x else y)))))
      | _, _, _ => .no
    | _ => .no
  | .nilCheck x =>
    match st.ev ch x with
    | .bp i o => .pt (.bp i o)
    | .t (.one (.hp b o)) => .pt (.t (.one (.hp b o)))
    | .t (.one (.v (.pointer p))) => .nilc p
    | _ => .no
  | .binOp op T x y _ =>
    match twoOf (st.ev ch x) (st.ev ch y) with
    | .i64 a b => bif isIntOp op then vcInt op a b else .rd (binOp op T (.int .i64 a) (.int .i64 b)) (shp P o.type)
    | .ik k a b => bif isCmpOp op then vcCmp op a b else .rd (binOp op T (.int k a) (.int k b)) (shp P o.type)
    | .nilR e => bif (isNilC y && isIfc P T) then (match op with | .eql => .pt (.t (.one (.v (.bool e.isNone)))) | .neq => .pt (.t (.one (.v (.bool e.isSome)))) | _ => .no) else .no
    | .nilL e => bif (isNilC x && isIfc P T) then (match op with | .eql => .pt (.t (.one (.v (.bool e.isNone)))) | .neq => .pt (.t (.one (.v (.bool e.isSome)))) | _ => .no) else .no
    | .other =>
      match (st.ev ch x).val?, (st.ev ch y).val? with
      | some a, some b => .rd (eqGuard op T x y a b >>= fun _ => binOp op T a b) (shp P o.type)
      | _, _ => .no
  | .unOp op _ x =>
    match op, st.ev ch x with
    | .not, .t (.one (.v (.bool b))) => .pt (.t (.one (.v (.bool (!b)))))
    | .neg, .t (.one (.v (.int .i64 a))) => .wr (-a)
    | op, x => match x.val? with
      | some a => .rd (Op.unary op a) (shp P o.type)
      | none => .no
  | .convert src dst x =>
    match (P.underlying src).isSome, P.underlying dst, st.ev ch x with
    | true, some (.int k), .t (.one (.v (.int _ a))) => .pt (.t (.one (.v (.int k (k.wrap a)))))
    | _, _, x => match x.val? with
      | some a => .rd (convert src dst a) (shp P o.type)
      | none => .no
  | .makeInterface T x =>
    match P.underlying T, (st.ev ch x).val? with
    | some (.interface _), _ => .no
    | none, _ => .no
    | _, some a => .pt (.t (.one (.ifc (some (T, a)))))
    | _, none => .no
  | .fieldAddr T x f =>
    match offT P T f, st.ev ch x with
    | some off, .bp i o => .pt (.bp i (o + off))
    | some off, .t (.one (.hp b o)) => .pt (.t (.one (.hp b (o + off))))
    | _, _ => .no
  | .field T x f =>
    match P.underlying T, st.ev ch x with
    | some (.struct fs), .t (.ag l) =>
      match fs[f]? with
      | some fd => bif isAggT P fd.type then .pt (.t (.ag ((l.drop fd.offset).take (szT P fd.type)))) else bif (P.underlying fd.type).isSome then (match l.drop fd.offset with | v :: _ => .pt (.t (.one v)) | [] => .no) else .no
      | none => .no
    | _, _ => .no
  | .indexAddr T x ix =>
    match P.underlying T, st.ev ch x, st.ev ch ix with
    | some (.slice e), .t (.one (.v (.slice a n _))), .t (.one (.v (.int .i64 i))) => bif Nat.ble 1 (szT P e) then .idx a n i (szT P e) else .no
    | some (.array n e), .t (.one (.hp b o)), .t (.one (.v (.int .i64 i))) => bif (Nat.ble 1 (szT P e) && Nat.ble 2 n) then .ob (0 ≤ i ∧ i < n) (.t (.one (.hp b (o + i.toNat * szT P e)))) else .no
    | _, _, _ => .no
  | .load T x =>
    match st.ev ch x with
    | .bp i o =>
      match st.b[i]? with
      | some bx => bif Nat.ble (o + szT P T) bx.c.length then
          (bif isAggT P T then .pt (.t (.ag ((bx.c.drop o).take (szT P T))))
           else bif (Nat.beq (szT P T) 1 && (P.underlying T).isSome) then (match bx.c.drop o with | v :: _ => .pt (.t (.one v)) | [] => .no) else .no) else .no
      | none => .no
    | .t (.one (.hp b o)) =>
      bif isAggT P T then .ldA b o (szT P T) (flat P 8 T)
      else bif (P.underlying T).isSome then .ld1 b o (sh1 P T) else .no
    | _ => .no
  | .extract x i =>
    match st.ev ch x with
    | .tup l => match l[i]? with | some v => .pt (.t v) | none => .no
    | _ => .no
  | .build T parts =>
    match P.underlying T, zeroL P T, partsL st ch parts.toList with
    | some (.struct fs), some z, some ps => bif !(sizesOK P fs.toList) then .no else match fillL (fun i => (fs[i]?).map fun f => (f.offset, szT P f.type)) z ps with | some cs => .pt (.t (.ag cs)) | none => .no
    | some (.array _ e), some z, some ps => bif Nat.ble 1 (szT P e) then (match fillL (fun i => some (i * szT P e, szT P e)) z ps with | some cs => .pt (.t (.ag cs)) | none => .no) else .no
    | _, _, _ => .no
  | .index T x ix =>
    match (st.ev ch x).val?, (st.ev ch ix).val? with
    | some a, some i => .rd (Instr.index T a i) (shp P o.type)
    | _, _ => .no
  | .lookup T x ix ok =>
    match (st.ev ch x).val?, (st.ev ch ix).val? with
    | some a, some i => .rd (Instr.lookup T a i ok) (shp P o.type)
    | _, _ => .no
  | .typeAssert x T U ok =>
    match (st.ev ch x).val? with
    | some a => .rd (Instr.typeAssert a T U ok) (shp P o.type)
    | _ => .no
  | .slice T x lo hi mx =>
    match (st.ev ch x).val?, optV st ch lo, optV st ch hi, optV st ch mx with
    | some a, some l, some u, some m => .rd (Instr.sliceAt T a l u m) (shp P o.type)
    | _, _, _, _ => .no
  | .call { callee := .builtin .len, args := args, argTypes := ts } =>
    match args.toList with
    | [x] => match (ts[0]?).bind P.underlying, st.ev ch x with
      | some (.slice _), .t (.one (.v (.slice _ n _))) => .pt (.t (.one (.v (.int .i64 n))))
      | some .string, .t (.one (.v (.string s))) => .pt (.t (.one (.v (.int .i64 s.size))))
      | _, x => match x.val? with
        | some a => .rd (Builtin.len_ ts o.type #[a]) (shp P o.type)
        | none => .no
    | _ => .no
  | .call { callee := .builtin .cap, args := args, argTypes := ts } =>
    match st.evs ch args.toList with
    | some vs => .rd (Builtin.cap_ ts o.type vs.toArray) (shp P o.type)
    | none => .no
  | .call { callee := .builtin .max, args := args, argTypes := ts } =>
    match st.evs ch args.toList with
    | some vs => .rd (Builtin.max_ ts o.type vs.toArray) (shp P o.type)
    | none => .no
  | .call { callee := .builtin .min, args := args, argTypes := ts } =>
    match st.evs ch args.toList with
    | some vs => .rd (Builtin.min_ ts o.type vs.toArray) (shp P o.type)
    | none => .no
  | _ => .no

/-- What it asks (G: if it is to run at all), and what follows (K). -/
def VD.sem (P : Program) (G : Prop → Prop) (h : Hp) (K : SV → Prop) : VD → Prop
  | .pt x => K x
  | .no => False
  | .ob p x => G p ∧ K x
  | .wr e => ∃ z : Int, G (IsW z e) ∧ K (.t (.one (.v (.int .i64 z))))
  | .nilc p => ∃ b o, G (p = some ⟨b, o, none⟩) ∧ K (.t (.one (.hp b o)))
  | .idx a n i sz => ∃ b o, G (a = some ⟨b, o, none⟩ ∧ 0 ≤ i ∧ i < n) ∧ K (.t (.one (.hp b (o + i.toNat * sz))))
  | .rd m s => vcRd P G m s h K
  | .ldA b o n l => exL l fun xs => G (h.row b o n = some (tvals xs)) ∧ K (.t (.ag xs))
  | .ld1 b o s => ex1 s fun x => G (h.cell b o = some x.val) ∧ K (.t (.one x))
def VD.hr : VD → Bool
  | .rd .. | .ldA .. | .ld1 .. => true
  | _ => false
def vcV (P : Program) (o : Oper) (ch : List (Nat × Bool)) (G : Prop → Prop) (st : St) (h : Hp) (K : SV → Prop) : Prop := (vcVd P o ch st).sem P G h K

def setAt {α : Type} : List α → Nat → α → List α
  | [], _, _ => []
  | _ :: l, 0, y => y :: l
  | x :: l, i + 1, y => x :: setAt l i y

/-- What a store leaves of a block. -/
def Hp.store (h : Hp) (b o : Nat) (vs : List Value) (K : Hp → Prop) : Prop :=
  ∃ c e, h b = some (.cells c e (0, 0)) ∧ o + vs.length ≤ c.size ∧ K (h.set b (.cells (setL c.toList o vs).toArray e (0, 0)))


/-- Which boxes everybody may know of (by the slot that they are made in); of each loop (by its first region) the slots that go round, their shapes, the boxes; of each region that draws its order one order. -/
structure Cfg where
  pub : List Nat
  ann : List (Nat × (List Nat × List Sh0 × List (Nat × List Sh1)))
  ord : List (Nat × List Nat)

def isPub (cfg : Cfg) : Option Nat → Bool
  | some d => memN d cfg.pub
  | none => true
def newBox (cfg : Cfg) (o : Oper) (st : St) (h : Hp) (ty : TypeId) (cs : List TV) (K : SV → List Box → Hp → Prop) : Prop :=
  bif allOneT cs then
    bif isPub cfg o.dst then ∀ b, h b = none → K (.t (.one (.hp b 0))) st.b (h.set b (.cells (tvals cs).toArray ty (0, 0)))
    else K (.bp st.b.length 0) (st.b ++ [⟨ty, cs, 0⟩]) h
  else False

/-- AN OPERATION THAT MAY CHANGE THE HEAP. -/
def vcE (P : Program) (cfg : Cfg) (o : Oper) (ch : List (Nat × Bool)) (st : St) (h : Hp) (K : SV → List Box → Hp → Prop) : Prop :=
  match o.op with
  | .alloc T => match zeroL P T with
    | some z => newBox cfg o st h T z K
    | none => False
  | .box T x => match st.ev ch x with
    | .t w => newBox cfg o st h T w.cells K
    | _ => False
  | .buildSlice T n parts =>
    match P.underlying T, partsL st ch parts.toList with
    | some (.slice e), some ps =>
      match zeroL P e with
      | some z =>
        bif (Nat.ble 1 (szT P e) && Nat.beq z.length (szT P e) && Nat.ble (n * szT P e) 4096) then
          match fillL (fun i => some (i * szT P e, szT P e)) ((List.replicate n z).flatten) ps with
          | some cs => bif allOneT cs then ∀ b, h b = none → K (.t (.one (.v (.slice (some ⟨b, 0, none⟩) n n)))) st.b (h.set b (.cells (tvals cs).toArray e (0, 0))) else False
          | none => False
        else False
      | none => False
    | _, _ => False
  | .store T x y =>
    match st.ev ch x, st.ev ch y with
    | .bp i o, .t w =>
      match st.b[i]? with
      | some bx => bif (Nat.ble 1 (szT P T) && Nat.beq w.cells.length (szT P T) && Nat.ble (o + w.cells.length) bx.c.length && allOneT w.cells) then K .any (setAt st.b i ⟨bx.ty, setL bx.c o w.cells, bx.st + 1⟩) h else False
      | none => False
    | .t (.one (.hp b o)), .t w => bif (Nat.ble 1 (szT P T) && Nat.beq w.cells.length (szT P T) && allOneT w.cells) then h.store b o (tvals w.cells) (fun h' => K .any st.b h') else False
    | _, _ => False
  | .call { callee := .value (.func g), args := args, .. } =>
    match st.evs ch args.toList with
    | some vs =>
      match (P.funcs[g]?).map (·.body.isSome) with
      | some true => CallOK P g vs h fun v h' => res (shp P o.type) v fun x => K x st.b h'
      | some false => ExtOK P g vs h fun v h' => res (shp P o.type) v fun x => K x st.b h'
      | none => False
    | none => False
  | .call { callee := .value (.tmp t), args := args, .. } =>
    match st.evs ch args.toList, (st.ev ch (.tmp t)).val? with
    | some vs, some fv => InvOK P fv vs h fun v h' => res (shp P o.type) v fun x => K x st.b h'
    | _, _ => False
  | .call { callee := .builtin b, args := args, argTypes := ts } =>
    match st.evs ch args.toList with
    | some vs =>
      let go (m : Sem Value) : Prop := SemOK P m h fun v h' => res (shp P o.type) v fun x => K x st.b h'
      match b with
      | .append => go (Builtin.append_ ts o.type vs.toArray)
      | .copy => go (Builtin.copy_ ts o.type vs.toArray)
      | .delete => go (Builtin.delete_ ts o.type vs.toArray)
      | .clear => go (Builtin.clear_ ts o.type vs.toArray)
      | _ => False
    | none => False
  | .makeMap T none => SemOK P (Instr.makeMap T none) h fun v h' => res (shp P o.type) v fun x => K x st.b h'
  | .makeSlice T l c => match (st.ev ch l).val?, (st.ev ch c).val? with
    | some l, some c => SemOK P (Instr.makeSlice T l c) h fun v h' => res (shp P o.type) v fun x => K x st.b h'
    | _, _ => False
  | .mapUpdate T m k x => match (st.ev ch m).val?, (st.ev ch k).val?, (st.ev ch x).val? with
    | some m, some k, some x => SemOKu P (Instr.mapUpdate T m k x) h fun h' => K .any st.b h'
    | _, _, _ => False
  | .range T x => match (st.ev ch x).val? with
    | some a => SemOK P (Instr.range T a) h fun v h' => K (.t (.one (.v v))) st.b h'
    | none => False
  | .next it s => match (st.ev ch it).val? with
    | some a => SemOK P (Instr.next a s o.type) h fun v h' => res (shp P o.type) v fun x => K x st.b h'
    | none => False
  | _ => False

def chain (st : St) : Nat → Nat → Bool → List (Nat × Bool)
  | 0, _, _ => []
  | n + 1, s, p => (s, p) :: (match st.t s with | .gd s' p' _ => chain st n s' p' | _ => [])
def condP (st : St) : Nat → Nat → Bool → Prop
  | 0, _, _ => False
  | n + 1, s, p => match st.t s with
    | .s (.t (.one (.v (.bool b)))) => b = p
    | .gd s' p' (.t (.one (.v (.bool b)))) => condP st n s' p' ∧ b = p
    | _ => False
def okGd (st : St) : Nat → Nat → Bool
  | 0, _ => false
  | n + 1, s => match st.t s with
    | .s (.t (.one (.v (.bool _)))) => true
    | .gd s' _ (.t (.one (.v (.bool _)))) => okGd st n s'
    | _ => false

def vcOp (P : Program) (cfg : Cfg) (ops : Array Oper) (o : Oper) (st : St) (h : Hp) (K : St → Hp → Prop) : Prop :=
  match o.guard with
  | none =>
    bif isE o.op then vcE P cfg o [] st h fun sv b h' => St.put ⟨st.n, st.t, st.g, b⟩ o.dst none sv fun st' => K st' h'
    else vcV P o [] (fun p => p) st h fun sv => st.put o.dst none sv fun st' => K st' h
  | some (j, p) =>
    match (ops[j]?).bind (·.dst) with
    | none => False
    | some s =>
      bif okGd st 8 s then
        bif isE o.op then
          (condP st 8 s p → vcE P cfg o (chain st 8 s p) st h fun sv b h' => St.put ⟨st.n, st.t, st.g, b⟩ o.dst none sv fun st' => K st' h') ∧
          (¬ condP st 8 s p → st.put o.dst none (.t (.one (.v undef))) fun st' => K st' h)
        else vcV P o (chain st 8 s p) (fun q => condP st 8 s p → q) st h fun sv => st.put o.dst (some (s, p)) sv fun st' => K st' h
      else False
def vcOps (P : Program) (cfg : Cfg) (ops : Array Oper) : List Oper → St → Hp → (St → Hp → Prop) → Prop
  | [], st, h, K => K st h
  | o :: l, st, h, K => vcOp P cfg ops o st h fun st' h' => vcOps P cfg ops l st' h' K

def lookN {α : Type} (k : Nat) : List (Nat × α) → Option α
  | [] => none
  | (i, x) :: l => bif Nat.beq k i then some x else lookN k l

/-- Does an operation that does not change the heap look at it? -/
def hrV (P : Program) (o : Oper) (st : St) (ch : List (Nat × Bool)) : Bool := (vcVd P o ch st).hr
def hrO (P : Program) (ops : Array Oper) (o : Oper) (st : St) : Bool :=
  match o.guard with
  | none => hrV P o st []
  | some (j, p) => match (ops[j]?).bind (·.dst) with
    | none => true
    | some s => hrV P o st (chain st 8 s p)
/-- Does an operation look at memory, boxes too? -/
def readsM : Op → Bool
  | .move _ | .assign _ | .pick .. | .nilCheck _ | .fieldAddr .. | .field .. | .indexAddr .. | .extract .. | .build .. | .makeInterface .. | .unOp .. => false
  | .call { callee := .builtin .len, .. } => false
  | _ => true
def isStore : Op → Bool
  | .store .. => true
  | _ => false

/-- Of each operation all that are ahead of it, as a mask. -/
def befM : List Oper → List Nat → List Nat
  | [], acc => acc
  | o :: l, acc => befM l (acc ++ [o.after.toList.foldl (fun s e => bif Region.binds .any e then Nat.lor s (Nat.lor (Nat.shiftLeft 1 e.on) (acc.getD e.on 0)) else s) 0])
def bit (m i : Nat) : Bool := Nat.beq (Nat.land (Nat.shiftRight m i) 1) 1
def opTmps (ops : Array Oper) (o : Oper) : List Nat :=
  (match o.guard with | some (j, _) => (match (ops[j]?).bind (·.dst) with | some s => [s] | none => []) | none => []) ++ o.op.operands.toList.filterMap fun x => match x with | .tmp t => some t | _ => none
def dstOut (d : Option Nat) (l : List Nat) : Bool := match d with | some x => !(memN x l) | none => true
def dstNe (d e : Option Nat) : Bool := match d, e with | some x, some y => !(Nat.beq x y) | _, _ => true
def apartO (ops : Array Oper) (x y : Oper) : Bool := dstOut x.dst (opTmps ops y) && dstOut y.dst (opTmps ops x) && dstNe x.dst y.dst
/-- One operation against those ahead of it in the order. -/
def chkOne (ops : Array Oper) (ms : List Nat) (i : Nat) (x : Oper) : List Nat → Bool
  | [] => true
  | j :: l => (match ops[j]? with
      | some y => bit (ms.getD i 0) j || (!(isE y.op) && apartO ops x y && !(isStore x.op && readsM y.op))
      | none => false) && chkOne ops ms i x l
def depsIn (x : Oper) (done : List Nat) : Bool := x.after.toList.all fun e => !(Region.binds .any e) || memN e.on done
/-- An order of a region's operations: 'done' are those ahead. -/
def chkOrd (ops : Array Oper) (ms : List Nat) : List Nat → List Nat → Bool
  | done, [] => Nat.beq done.length ops.size
  | done, i :: l => (match ops[i]? with
      | some x => !(memN i done) && depsIn x done && chkOne ops ms i x done
      | none => false) && chkOrd ops ms (i :: done) l
def allIn : Nat → List Nat → Bool
  | 0, _ => true
  | n + 1, l => memN n l && allIn n l
def needs (m : Nat) : List Nat → Bool
  | [] => false
  | j :: l => !(bit m j) || needs m l
def vcD (P : Program) (cfg : Cfg) (ops : Array Oper) (ms : List Nat) : List Nat → List Nat → St → Hp → (St → Hp → Prop) → Prop
  | [], _, st, h, K => K st h
  | i :: l, fl, st, h, K =>
    match ops[i]? with
    | none => False
    | some o =>
      bif isE o.op then vcOp P cfg ops o st h fun st' h' => bif needs (ms.getD i 0) fl then h.le h' ∧ vcD P cfg ops ms l fl st' h' K else vcD P cfg ops ms l fl st' h' K
      else vcOp P cfg ops o st h fun st' h' => vcD P cfg ops ms l (bif hrO P ops o st then i :: fl else fl) st' h' K

def dstsL : List Oper → List Nat
  | [] => []
  | o :: l => match o.dst with | some d => d :: dstsL l | none => dstsL l
def dstsC : Code → List Nat
  | .region _ ops _ => dstsL ops.toList
  | .seq a b => dstsC a ++ dstsC b
  | .cond _ a b => dstsC a ++ dstsC b
  | .block _ a => dstsC a
  | .loop a => dstsC a
  | .scope a => dstsC a
  | _ => []
def firstR : Code → Option Nat
  | .region id _ _ => some id
  | .seq a b => (firstR a).or (firstR b)
  | .cond _ a b => (firstR a).or (firstR b)
  | .block _ a => firstR a
  | .loop a => firstR a
  | .scope a => firstR a
  | _ => none
def endR (D : List Nat) (st : St) : St :=
  { st with g := fun _ => false, t := fun i => match st.t i with | .s x => .s x | .gd s p x => bif memN i D then .s .any else .gd s p x }

inductive Ex where
  | nrm | ext (id : Nat) | ret

/-- The values that go round a loop: of slots, then of boxes. -/
def slotVals (st : St) : List Nat → Option (List Value)
  | [] => some []
  | s :: l => match st.t s, slotVals st l with
    | .s (.t x), some vs => some (x.val :: vs)
    | _, _ => none
def boxVals (st : St) : List (Nat × List Sh1) → Option (List Value)
  | [] => some []
  | (i, _) :: l => match st.b[i]?, boxVals st l with
    | some bx, some vs => some (tvals bx.c ++ vs)
    | _, _ => none
def loopVals (st : St) (slots : List Nat) (bxs : List (Nat × List Sh1)) : Option (List Value) :=
  match slotVals st slots, boxVals st bxs with
  | some a, some b => some (a ++ b)
  | _, _ => none
def setSlots : (Nat → Sl) → List Nat → List TW → (Nat → Sl)
  | t, s :: l, x :: xs => setSlots (fun i => bif Nat.beq i s then .s (.t x) else t i) l xs
  | t, _, _ => t
def setBoxes : List Box → List (Nat × List Sh1) → List (List TV) → List Box
  | b, (i, _) :: l, x :: xs => setBoxes (match b[i]? with | some bx => setAt b i ⟨bx.ty, x, bx.st + 1⟩ | none => b) l xs
  | b, _, _ => b
def loopSt (st : St) (D : List Nat) (slots : List Nat) (bxs : List (Nat × List Sh1)) (xs : List TW) (ys : List (List TV)) : St :=
  { st with t := setSlots (fun i => bif memN i D then .s .any else st.t i) slots xs, b := setBoxes st.b bxs ys }
def exLL : List (Nat × List Sh1) → (List (List TV) → Prop) → Prop
  | [], K => K []
  | (_, s) :: l, K => exL s fun x => exLL l fun xs => K (x :: xs)
def tvalsL : List (List TV) → List Value
  | [] => []
  | x :: l => tvals x ++ tvalsL l
/-- The boxes that do not go round are as they were, by their stamps. -/
def sameB : Nat → List Box → List Box → List (Nat × List Sh1) → Bool
  | _, [], _, _ => true
  | k, x :: l, y :: m, bxs => ((lookN k bxs).isSome || Nat.beq x.st y.st) && sameB (k + 1) l m bxs
  | _, _ :: _, [], _ => false

def chkLens (st : St) : List (Nat × List Sh1) → Bool
  | [] => true
  | (i, s) :: l => (match st.b[i]? with | some bx => Nat.beq bx.c.length s.length | none => false) && chkLens st l
def subN : List Nat → List Nat → Bool
  | [], _ => true
  | x :: l, d => memN x d && subN l d

/-- WHAT A PIECE OF CODE ASKS: Q is told how it is left. -/
def vcC (P : Program) (cfg : Cfg) : Code → St → Hp → (Ex → St → Hp → Prop) → Prop
  | .skip, st, h, Q => Q .nrm st h
  | .region id ops draw, st, h, Q => bif draw then
      (match lookN id cfg.ord with
        | some l => bif (chkOrd ops (befM ops.toList []) [] l && allIn ops.size l) then vcD P cfg ops (befM ops.toList []) l [] st h fun st' h' => Q .nrm (endR (dstsL ops.toList) st') h' else False
        | none => False)
    else vcOps P cfg ops ops.toList st h fun st' h' => Q .nrm (endR (dstsL ops.toList) st') h'
  | .seq a b, st, h, Q => vcC P cfg a st h fun e st' h' => match e with
    | .nrm => vcC P cfg b st' h' Q
    | e => Q e st' h'
  | .cond c a b, st, h, Q => match st.ev [] c with
    | .t (.one (.v (.bool t))) => (t = true → vcC P cfg a st h Q) ∧ (t = false → vcC P cfg b st h Q)
    | _ => False
  | .block id a, st, h, Q => vcC P cfg a st h fun e st' h' => match e with
    | .ext i => bif Nat.beq i id then Q .nrm st' h' else Q (.ext i) st' h'
    | e => Q e st' h'
  | .loop a, st, h, Q =>
    match (firstR a).bind fun r => lookN r cfg.ann with
    | none => False
    | some (slots, shs, bxs) =>
      match loopVals st slots bxs, (Nat.beq shs.length slots.length && chkLens st bxs && subN slots (dstsC a)) with
      | none, _ => False
      | _, false => False
      | some vs0, true => ∃ (I : List Value → Hp → Prop) (μ : List Value → Hp → Nat), I vs0 h ∧ ∀ vs h', I vs h' → ex0L shs fun xs => exLL bxs fun ys => vs = twals xs ++ tvalsL ys ∧
          vcC P cfg a (loopSt st (dstsC a) slots bxs xs ys) h' fun e st' h'' => match e with
            | .nrm => match loopVals st' slots bxs with
              | some vs' => bif (sameB 0 st.b st'.b bxs && chkLens st' bxs) then (I vs' h'' ∧ μ vs' h'' < μ vs h') else False
              | none => False
            | e => Q e st' h''
  | .exit id, st, h, Q => Q (.ext id) st h
  | .ret, st, h, Q => Q .ret st h
  | _, _, _, _ => False

/-- The results, as the function's end finds them. -/
def resV (P : Program) (st : St) : List ResultVar → Option (List Value)
  | [] => some []
  | .tmp t :: l => match (st.ev [] (.tmp t)).val?, resV P st l with
    | some v, some vs => some (v :: vs)
    | _, _ => none
  | .cell a T :: l => match st.t a, resV P st l with
    | .s (.bp i 0), some vs => match st.b[i]? with
      | some bx => bif Nat.beq bx.c.length (szT P T) then
          (bif isAggT P T then some (.agg (tvals bx.c).toArray :: vs) else match bx.c with | [v] => (bif (P.underlying T).isSome then some (v.val :: vs) else none) | _ => none) else none
      | none => none
    | _, _ => none
def argSlots : List TW → Nat → Sl
  | [], _ => .s .any
  | x :: l, i => match i with | 0 => .s (.t x) | i + 1 => argSlots l i
def vcFn (P : Program) (cfg : Cfg) (fn : Func) (args : List TW) (h : Hp) (R : Value → Hp → Prop) : Prop :=
  match fn.body with
  | none => False
  | some c => vcC P cfg c ⟨fn.ntmps, argSlots args, fun _ => false, []⟩ h fun e st' h' => match e with
    | .ext _ => False
    | _ => match resV P st' fn.results.toList with
      | some [v] => R v h'
      | some vs => R (.tuple vs.toArray) h'
      | none => False
end Go.Vc
