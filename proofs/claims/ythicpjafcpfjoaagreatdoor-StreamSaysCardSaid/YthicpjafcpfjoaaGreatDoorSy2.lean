/-
  Laws and contracts on which the statement's proof stands, part 2. Conditions: those stated at each.
-/
import Derived.Laws.Externs
import Derived.Laws.Strings2
import Derived.Laws.CopyRow
import Derived.Laws.IdiomStrings
import Derived.Laws.Shifts
import Derived.Laws.MathBits
import Derived.Laws.Cover3
import Derived.WalkSmall
import Derived.LaidMore
import Derived.Stop.LaidErr
import Derived.ChangeArms
import Derived.ChangeBears2
import Derived.Test.YthicpjafcpfjoaaGreatDoorProg
import Derived.Lib.ItoaNum
import Derived.Lib.AtoiAll
import Derived.Shelf.SlSortCmp.NoneTotal
import Derived.Shelf.Strings.Builder1
import Derived.Shelf.Strings.Builder2
import Derived.Shelf.Strings.OnBuilder
import Derived.Shelf.Small.Bits
import Derived.Shelf.Small.Strs
import Derived.Shelf.Small.Wraps
import Derived.Shelf.Utf8.RuneCount
import Derived.Shelf.Strconv.Atoi
import Derived.Shelf.Strconv.Itoa0
import Derived.Shelf.Strconv.Itoa1
import Derived.Shelf.LaysM
import Derived.Shelf.Strconv.Itoa2
import Derived.Shelf.Strconv.Itoa3
import Derived.Shelf.Strconv.AtoiErrFast
import Derived.Shelf.Strconv.ParseIntEmpty
import Derived.Shelf.Strconv.AtoiFail
import Derived.Shelf.Strconv.Clone
import Derived.Shelf.Strconv.SyntaxError
import Derived.Shelf.LaysC
import Derived.Shelf.Strconv.ToError
import Derived.Shelf.Strconv.AtoiErr
import Derived.Shelf.Strconv.ErrVar
import Derived.Shelf.Strconv.Lower
import Derived.Shelf.Strconv.ParseUint10
import Derived.Shelf.Strconv.ParseUint10Empty
import Derived.Shelf.Strconv.ParseUint10Any
import Derived.Shelf.Strconv.ParseInt10
import Derived.Shelf.Strconv.AtoiLong
import Derived.Shelf.Strconv.AtoiInnerAll
import Derived.Shelf.Strconv.RangeError
import Derived.Shelf.Strconv.ToErrorRange
import Derived.Shelf.Strconv.AtoiAll
import Derived.Shelf.Strconv.ErrVarAll
import Derived.Shelf.Strconv.ParseUintEmpty
import Derived.Shelf.Strconv.ParseUint10b64
import Derived.Shelf.Strconv.ParseUint10b32
import Derived.Shelf.Strconv.ParseUint10b16
import Derived.Shelf.Strconv.ParseUint10b8
import Derived.Shelf.Strconv.ParseUint10At
import Derived.Shelf.Strconv.ParseInt10At64
import Derived.Shelf.Strconv.ParseInt10At32
import Derived.Shelf.Strings.Search1
import Derived.Shelf.Strings.Search2
import Derived.Shelf.Strings.Search3
import Derived.Shelf.Strings.Count
import Derived.Shelf.Strings.Shaped
import Derived.Shelf.Strings.Split
import Derived.Shelf.Strings.SplitShaped
import Derived.Shelf.Unicode.Decode
import Derived.Shelf.Strings.RuneCount
import Derived.Shelf.Strings.Explode
import Derived.Shelf.Bits.Mul64
import Derived.Shelf.Unicode.DecodeSlow
import Derived.Shelf.Unicode.DecodeAny
import Derived.Ground.Names2Prog
import Derived.Shelf.Slices.Clone
import Derived.Shelf.Slices.SearchI
import Derived.Ground.SlgnProg
import Derived.Shelf.SlicesE.Clone
import Derived.WalkKit
import Derived.Deep.RegionWith
import Derived.Below
import Derived.Lib.AtoiErrMem
import Derived.Lib.ConvBytes
import Derived.Test.YthicpjafcpfjoaaGreatDoorSy1
set_option linter.unusedVariables false
set_option maxRecDepth 100000
namespace Go.Vc
open Go
structure Qpy {H:Type}(Sm:DataW H->Prop)(N:NpT):Prop where
 zero:N 0
 slice:∀ es sp,Sm (.slice es sp)->N es.length/\∀ x ∈ es,Sm x
 agg:∀ xs,Sm (.agg xs)->∀ x ∈ xs,Sm x
 str:∀ l,Sm (.lit (.string l))->N l.length
 ptr:∀ x,Sm (.ptr x)->Sm x
theorem NL {H:Type}:Qpy (H:=H) (fun _=>True) (fun _=>True):=⟨trivial,fun _ _ _=>⟨trivial,fun _ _=>trivial⟩,fun _ _ _ _=>trivial,fun _ _=>trivial,fun _ _=>trivial⟩
section
variable {P:Program}{H:Type}{enc0:TypeId × Value->H}{w:World}{Sm:DataW H->Prop}{N:NpT}
def Qb9 (P:Program)(enc0:TypeId × Value->H)(w:World)(Sm:DataW H->Prop)(t:TypeId)(cs:List Value):Prop:=
 ∃ fuel d ps,DataW.trod enc0 P w 0 (fun _=>true) true fuel t cs=some (d,ps)/\Sm d
theorem Qi9 {t:TypeId}{k:IntKind}(hu:P.underlying t=some (.int k)){cs:List Value}(L:Qb9 P enc0 w Sm t cs):∃ n,cs=[.int k n]/\(Lit.int k n).wf=true:=by
 obtain⟨fuel,d,ps,h,_⟩:=L;cases fuel with
 | zero=>simp [DataW.trod] at h
 | succ fuel=>
  unfold DataW.trod at h;rw [hu] at h;split at h<;>first|(cases h;done)|skip
  all_goals simp_all
theorem Xv {t:TypeId}(hu:P.underlying t=some (.int .i64)){cs:List Value}(L:Qb9 P enc0 w Sm t cs):∃ n,cs=[vi n]/\InR n:=by
 obtain⟨n,rfl,h⟩:=Qi9 hu L;exact⟨n,rfl,by simpa [Lit.wf,IntKind.min,IntKind.max,IntKind.signed,IntKind.bits,InR] using h⟩
theorem Gh (hS:Qpy Sm N){t:TypeId}(hu:P.underlying t=some .string){cs:List Value}(L:Qb9 P enc0 w Sm t cs):∃ s,cs=[vs s]/\N s.size/\s.size<=maxLen:=by
 obtain⟨fuel,d,ps,h,hm⟩:=L;cases fuel with
 | zero=>simp [DataW.trod] at h
 | succ fuel=>
  unfold DataW.trod at h;rw [hu] at h;split at h<;>first|(rename_i hx;cases hx;done)|(cases h;done)|skip
  split at h
  ·rename_i sz hsz;simp only [bQ,fM] at h;obtain⟨rfl,rfl⟩:=h;have:=hS.str _ hm;exact⟨_,rfl,by simpa using this,hsz⟩
  ·cases h
theorem QqU {n:Int}(h:(Lit.int .u64 n).wf=true):0<=n/\n<=18446744073709551615:=by simpa [Lit.wf,IntKind.min,IntKind.max,IntKind.signed,IntKind.bits] using h
theorem Qa4 {b o:Nat}{xs:List Value}(hne:xs≠[])(h:∀ j x,xs[j]?=some x->w.cell? ⟨b,o+j,none⟩=some x):(MJ w).row b o xs.length=some xs:=by
 obtain⟨x0,l0,rfl⟩:=List.exists_cons_of_ne_nil hne;have h0:=h 0 x0 rfl;unfold World.cell? at h0;simp only at h0;cases hb:w.heap[b]? with
 | none=>rw [hb] at h0;cases h0
 | some ob=>
  cases ob with
  | cells c t f=>
   have hc:∀ j x,(x0 :: l0)[j]?=some x->c[o+j]?=some x:=by intro j x hx;have:=h j x hx;unfold World.cell? at this;simp only [hb] at this;simpa using this
   refine Hp.row_spec.2 ⟨c,t,f,hb,?_,?_⟩
   ·have:=hc l0.length ((x0 :: l0)[l0.length]) (by rw [bD (by simp)])
    have:=(cT.1 this).1
    simp only [cO];omega
   ·apply gQ;intro j;rw [gH]
    split
    ·rename_i hj;rw [fK]
     have:=hc j ((x0 :: l0)[j]) (bD hj)
     rw [bD hj]
     simpa using this.symm
    ·rename_i hj;exact k8 (by omega)
  | _=>rw [hb] at h0;simp at h0
theorem Qdh {α β:Type}{f:α->Option β}:∀{l:List α} {ys:List β},l.mapM f=some ys->∀(i:Nat) (x:α),l[i]?=some x->∃ y,ys[i]?=some y/\f x=some y
 | [],ys,h,i,x,hx=>by simp at hx
 | a :: l,ys,h,i,x,hx=>by
  rw [gS] at h;simp only [kF,d7,mF,bQ] at h;obtain⟨y,hy,zs,hzs,rfl⟩:=h;cases i with
  | zero=>simp at hx;subst hx;exact⟨y,rfl,hy⟩
  | succ i=>simpa using Qdh hzs i x (by simpa using hx)
theorem Qgl {w:World}{base:Nat}{a:Addr}{n:Nat}{cs:List Value}(h:w.cells? base a n=some cs):cs.length=n/\∀ j x,cs[j]?=some x->w.cell? (a.add j)=some x:=by
 unfold World.cells? at h;split at h
 ·have hl:=WX h;rw [mU] at hl;refine⟨hl,fun j x hx=>?_⟩
  have hj:j<n:=by rw [<-hl];exact(bI.1 hx).1
  obtain⟨y,h1,h2⟩:=Qdh h j j (by simp [hj])
  rw [hx] at h1;cases h1;exact h2
 ·cases h
theorem QdS {α:Type}{enc:α->List Value}{sz:Nat}{good:α->Prop}(hS:Qpy Sm N){t e:TypeId}(hu:P.underlying t=some (.slice e))(hsz:P.cellsOf e=sz)(hz:0<sz)(he:∀ x,(enc x).length=sz)
  (hel:∀ cs,Qb9 P enc0 w Sm e cs->∃ y,cs=enc y/\good y) {cs:List Value} (L:Qb9 P enc0 w Sm t cs) :
  ∃ a n c l,cs=[vsl a n c]/\SlP enc (MJ w) a n l/\n<=c/\c<=maxLen/\N n/\∀ y ∈ l,good y:=by
 obtain⟨fuel,d,ps,h,hm⟩:=L;cases fuel with
 | zero=>simp [DataW.trod] at h
 | succ fuel=>
  unfold DataW.trod at h;rw [hu] at h;split at h<;>first|(rename_i hx;cases hx;done)|(cases h;done)|skip
  ·exact⟨none,0,0,[],rfl,⟨rfl,.inl rfl⟩,cJ _,cH _,hS.zero,by simp⟩
  ·rename_i e' a len cap hx;cases hx;split at h
   ·rename_i hc;simp only [d7,dD] at h;obtain⟨elems,he1,rest,hr,hx⟩:=h;simp only [fM] at hx;obtain⟨rfl,rfl⟩:=hx;have hel1:elems.length=len:=by have:=WX he1;simpa using this
    have hm1:=hS.slice _ _ hm;rw [bU,hel1] at hm1;have each:∀ i:Nat,i<len->∃ y,good y/\w.cells? 0 (a.add (i*sz)) sz=some (enc y):=by
     intro i hi;obtain⟨x,h1,h2⟩:=Qdh he1 i i (by simp [hi])
     simp only [d7] at h2;obtain⟨cs,h3,h4⟩:=h2;rw [hsz] at h3;obtain⟨y,rfl,hg⟩:=hel cs ⟨fuel,x.1,x.2,h4,hm1.2 x.1 (dI.2 ⟨x,bZ h1,rfl⟩)⟩;exact⟨y,hg,h3⟩
    have all:∃ l:List α,l.length=len/\(∀ y ∈ l,good y)/\∀ i y,l[i]?=some y->w.cells? 0 (a.add (i*sz)) sz=some (enc y):=by
     clear hm hm1 he1 hr hel1 hc;induction len with
     | zero=>exact⟨[],rfl,by simp,by simp⟩
     | succ n ih=>
      obtain⟨l,h1,h2,h3⟩:=ih (fun i hi=>each i (by omega))
      obtain⟨y,h4,h5⟩:=each n (by omega)
      refine⟨l++[y],by simp [h1],?_,?_⟩
      ·intro z hz';rcases cP.1 hz' with h6|h6
       ·exact h2 z h6
       ·simp at h6;subst h6;exact h4
      ·intro i z hz';rcases g8 i n with h6|h6
       ·rw [dU (by omega)] at hz'
        exact h3 i z hz'
       ·rw [dA (by omega)] at hz'
        have:i=n:=by
         have:=(bI.1 hz').1
         simp at this;omega
        subst this;rw [h1,fT] at hz';simp at hz';subst hz';exact h5
    obtain⟨l,hl,hg,hcs⟩:=all;refine⟨some a,len,cap,l,rfl,⟨hl.symm,?_⟩,hc.2.1,hc.2.2,hm1.1,hg⟩
    cases l with
    | nil=>exact .inl rfl
    | cons y l=>
     refine .inr ?_
     have c0:=(Qgl (hcs 0 y rfl)).2;have hx0:∃ x,(enc y)[0]?=some x:=⟨_,bD (by rw [he];exact hz)⟩
     obtain⟨x0,hx0⟩:=hx0;have a0:=c0 0 x0 hx0;obtain⟨b,o,spot⟩:=a;have hs:spot=none:=by
      cases spot with
      | none=>rfl
      | some s=>
       simp only [Nat.zero_mul,Addr.add] at a0;unfold World.cell? at a0;simp at a0;split at a0<;>simp at a0
     subst hs;refine⟨b,o,rfl,Qa4 (by
      intro hn;have:=congrArg List.length hn;rw [dP,bO,he] at this;simp at this;omega) ?_⟩
     intro j x hx;have ad:∀ o k,(⟨b,o,none⟩:Addr).add k=⟨b,o+k,none⟩:=by intro o k;unfold Addr.add;split<;>simp_all
     have hlen:=Qi he (y :: l);have hj:j<(y :: l).length*sz:=by rw [<-hlen];exact(bI.1 hx).1
     have hq:j / sz<(y :: l).length:=(k9 hz).2 hj;have hd:sz*(j / sz)+j % sz=j:=Nat.div_add_mod j sz;have hr':j % sz<sz:=pL _ hz;have key:((y :: l).flatMap enc)[j]?=(enc ((y :: l)[j / sz]))[j % sz]?:=by
      have h1:=KD he (j / sz) (y :: l);have h2:((y :: l).flatMap enc)[j]?=(((y :: l).flatMap enc).drop ((j / sz)*sz))[j % sz]?:=by
       rw [fK]
       congr 1
       rw [kY];exact hd.symm
      rw [h2,h1,dM hq,dP,dU (by rw [he];exact hr')]
     rw [key] at hx;have:=(Qgl (hcs (j / sz) _ (bD hq))).2 _ _ hx
     rw [ad,ad] at this;have e3:o+j / sz*sz+j % sz=o+j:=by
      rw [kY (j / sz) sz];omega
     rw [e3] at this;exact this
   ·cases h
def Jr (P:Program):Nat->TypeId->List TypeId
 | 0,t=>[t]
 | n+1,t=>match P.underlying t with
  | some (.struct fs)=>fs.toList.flatMap fun f=>Jr P n f.type
  | _=>[t]
def Vs (P:Program)(N:Nat):Nat->List Field->Bool
 | o,[]=>Nat.beq o N
 | o,f :: l=>Nat.beq f.offset o&&Vs P N (o+P.cellsOf f.type) l
def Qdk (P:Program):Nat->TypeId->Bool
 | 0,_=>false
 | n+1,t=>match P.underlying t with
  | some (.struct fs)=>Vs P (P.cellsOf t) 0 fs.toList&&fs.toList.all fun f=>Qdk P n f.type
  | some (.array _ _)=>false
  | some _=>Nat.beq (P.cellsOf t) 1
  | none=>false
def Qcm (P:Program)(enc0:TypeId × Value->H)(w:World)(Sm:DataW H->Prop):List TypeId->List Value->Prop
 | [],[]=>True
 | t :: ts,v :: vs=>Qb9 P enc0 w Sm t [v]/\Qcm P enc0 w Sm ts vs
 | _,_=>False
theorem QaK:∀{ts ts':List TypeId} {vs vs':List Value},Qcm P enc0 w Sm ts vs->Qcm P enc0 w Sm ts' vs'->Qcm P enc0 w Sm (ts++ts') (vs++vs')
 | [],_,[],_,_,h=>h
 | _ :: _,_,_ :: _,_,h1,h2=>⟨h1.1,QaK h1.2 h2⟩
 | [],_,_ :: _,_,h,_=>h.elim
 | _ :: _,_,[],_,h,_=>h.elim
theorem QnF {fuel:Nat}{t:TypeId}{cs:List Value}{x:DataW H × List MemPlace}(h:DataW.trod enc0 P w 0 (fun _=>true) true fuel t cs=some x):(∃ v,cs=[v])\/cs.length=P.cellsOf t:=by
 cases fuel with
 | zero=>simp [DataW.trod] at h
 | succ fuel=>
  unfold DataW.trod at h;split at h<;>first|exact .inl ⟨_,rfl⟩|skip
  ·split at h
   ·exact .inr (by assumption)
   ·cases h
  ·split at h
   ·exact .inr (by assumption)
   ·cases h
  ·cases h
theorem QbP (hS:Qpy Sm N):∀(n:Nat) {t:TypeId} {cs:List Value},Qdk P n t=true->Qb9 P enc0 w Sm t cs->Qcm P enc0 w Sm (Jr P n t) cs
 | 0,t,cs,h,_=>by simp [Qdk] at h
 | n+1,t,cs,h,L=>by
  unfold Qdk at h;unfold Jr;split at h
  ·rename_i fs hu;simp only [hu];obtain⟨fuel,d,ps,ht,hm⟩:=L;cases fuel with
   | zero=>simp [DataW.trod] at ht
   | succ fuel=>
    unfold DataW.trod at ht;rw [hu] at ht;simp only at ht;split at ht
    ·rename_i hlen;simp only [dD] at ht;obtain⟨xs,hx,he⟩:=ht;simp only [fM] at he;obtain⟨rfl,rfl⟩:=he;have hm':=hS.agg _ hm;simp only [cY] at h;have go:∀(l:List Field) (o:Nat) (xs:List (DataW H × List MemPlace)),Vs P (P.cellsOf t) o l=true->(∀ f ∈ l,Qdk P n f.type=true) ->
       (l.mapM fun f=>DataW.trod enc0 P w 0 (fun _=>true) true fuel f.type ((cs.drop f.offset).take (P.cellsOf f.type)))=some xs->(∀ x ∈ xs,Sm x.1)->o<=cs.length->Qcm P enc0 w Sm (l.flatMap fun f=>Jr P n f.type) (cs.drop o):=by
      intro l;induction l with
      | nil=>
       intro o xs hc _ _ _ _;simp only [Vs,pI] at hc;rw [List.flatMap_nil,gL (by rw [hlen,hc];exact cJ _)]
       trivial
      | cons f l ih=>
       intro o xs hc hk hmm hsm ho;simp only [Vs,cY,pI] at hc;rw [gS] at hmm;simp only [kF,d7,mF,bQ] at hmm;obtain⟨y,hy,zs,hzs,rfl⟩:=hmm;rw [hc.1] at hy;have h1:=QbP hS n (hk f (by simp)) ⟨fuel,y.1,y.2,hy,hsm y (by simp)⟩
       have hle:o+P.cellsOf f.type<=cs.length:=by
        have:∀(l:List Field) (o:Nat),Vs P (P.cellsOf t) o l=true->o<=P.cellsOf t:=by
         intro l;induction l with
         | nil=>intro o hc;simp only [Vs,pI] at hc;omega
         | cons g l ih=>intro o hc;simp only [Vs,cY] at hc;have:=ih _ hc.2;omega
        rw [hlen];exact this l _ hc.2
       have h2:=ih (o+P.cellsOf f.type) zs hc.2 (fun g hg=>hk g (by simp [hg])) hzs (fun x hx=>hsm x (by simp [hx])) hle
       have:=QaK h1 h2;rw [dP];rw [<-gZ,dV] at this;exact this
     have:=go fs.toList 0 xs h.1 (fun f hf=>jT.1 h.2 f hf) hx (fun x hx=>hm' x.1 (dI.2 ⟨x,hx,rfl⟩)) (cH _)
     simpa using this
    ·cases ht
  ·cases h
  ·rename_i u hu hns hna;have hl:∃ v,cs=[v]:=by
    obtain⟨fuel,d,ps,ht,hm⟩:=L;rcases QnF ht with h1|h1
    ·exact h1
    ·rw [pI] at h;rw [h] at h1;exact List.length_eq_one_iff.1 h1
   obtain⟨v,rfl⟩:=hl;split
   ·rename_i fs' e9;exfalso;simp_all;rename_i e10;first|exact hu _ e10.symm|exact hu _ hna.symm|exact hu _ e9.symm
   ·exact⟨L,trivial⟩
  ·cases h
theorem QaW {t:TypeId}{v:Value}{d:DataW H}{ps:List MemPlace}(h:DataW.Trod enc0 P w 0 (fun _=>true) true t v d ps)(hm:Sm d):Qb9 P enc0 w Sm t v.cells.toList:=by
 obtain⟨fuel,h⟩:=h;exact⟨fuel,d,ps,h,hm⟩
end
section
variable {P:Program}{h:Hp}
theorem Qkh {ts:Array TypeId}{t:TypeId}{a b:Int}:Rd P (Builtin.max_ ts t #[vi a,vi b]) h (vi (max a b)):=by
 intro w _;simp [Builtin.max_,Builtin.max2];by_cases h:a<b<;>simp [h]<;>omega
theorem QnJ {t:TypeId}{x y:Operand}{a b:Bool}(ht:P.underlying t=some .bool):Rd P (eqGuard .neq t x y (vb a) (vb b) >>= fun _=>binOp .neq t (vb a) (vb b)) h (vb (a != b)):=by
 intro w _;rw [eqGuard_at_bool];simp only [binOp,Sem.run_bind,Sem.run_pure,Result.andThen_ok];show ((Op.equalIn 10000 t (vb a) (vb b)).run P w).andThen _=_;rw [run_equalIn_bool' w 9999 t _ _ ht];rfl
theorem QmH {a b:ByteArray}(h:a.toList=b.toList):a=b:=by
 rw [ByteArray.toList_eq,ByteArray.toList_eq] at h;exact qD (j6 h)
theorem Qgd (a b:ByteArray):(a.toList == b.toList)=decide (a=b):=by
 by_cases h:a=b
 ·subst h;simp
 ·have:¬ a.toList=b.toList:=fun e=>h (QmH e)
  simp [h,this]
theorem Qqt {t:TypeId}{x y:Operand}{a b:ByteArray} :Rd P (eqGuard .eql t x y (vs a) (vs b) >>= fun _=>binOp .eql t (vs a) (vs b)) h (vb (decide (a=b))):=by
 intro w _;simp [binOp,eqGuard,Op.stringOp,Qgd]
theorem QqT {t:TypeId}{x y:Operand}{a b:ByteArray} :Rd P (eqGuard .neq t x y (vs a) (vs b) >>= fun _=>binOp .neq t (vs a) (vs b)) h (vb (!decide (a=b))):=by
 intro w _;simp [binOp,eqGuard,Op.stringOp,Qgd]
end
def Hp.del (h:Hp)(g:Nat):Hp:=fun i=>if i=g then none else h i
theorem Hp.del_le (h:Hp)(g:Nat):(h.del g).le h:=fun b o e=>by
 unfold Hp.del at e;split at e
 ·cases e
 ·exact e
theorem Qf.del {h:Hp}{a:OaT}{xs:List Value}(H:Qf h a xs){g:Nat}(hg:∀ b o,a=some ⟨b,o,none⟩->b≠g):Qf (h.del g) a xs:=by
 rcases H with rfl|⟨b,o,rfl,e⟩
 ·exact .inl rfl
 ·refine .inr ⟨b,o,rfl,?_⟩
  unfold Hp.row Hp.del at *
  rw [bE (hg b o rfl)];exact e
theorem Qw.at0 {h:Hp}{e:TypeId}{sz n c:Nat}{a:OaT}{xs:List Value}(H:Qw h e sz a n c xs):∀ b o,a=some ⟨b,o,none⟩->o=0:=by
 rintro b o rfl;rcases H.2 with ⟨h1,_⟩|⟨g,cur,h1,_⟩
 ·cases h1
 ·cases h1;rfl
theorem Qg.trans {h0 h1 h:Hp}(l:h0.le h1){e:TypeId}{sz n c:Nat}{a:OaT}{xs:List Value}(O:Qg h1 h e sz a n c xs):Qg h0 h e sz a n c xs:=
 ⟨Hp.le_trans l O.le,O.own,fun g hg=>Hp.none_of_le l (O.new g hg)⟩
theorem Yy {α:Type}(l:List α)(o:Nat)(vs:List α)(h:o+vs.length<=l.length):(QJ l o vs).length=l.length:=by
 unfold QJ;simp;omega
theorem QbY {α:Type}(l:List α)(o:Nat)(vs:List α)(m:Nat)(h:o+vs.length<=m)(hm:m<=l.length):(QJ l o vs).take m=QJ (l.take m) o vs:=by
 unfold QJ;have h1:(l.take m).take o=l.take o:=by rw [jI];congr 1;omega
 have h2:(l.take m).drop (o+vs.length)=(l.drop (o+vs.length)).take (m-(o+vs.length)):=List.drop_take ..;have h3:(l.take o++vs).length=o+vs.length:=by simp;omega
 rw [h1,h2,List.take_append,h3,cQ (by rw [h3];exact h)]
theorem Kf {α:Type}(l:List α)(o:Nat)(v:α)(h:o<l.length):QJ l o [v]=l.set o v:=by
 unfold QJ;rw [kR,bH h];simp
theorem Qg.store {h0 h:Hp}{e:TypeId}{sz n c:Nat}{a:OaT}{xs:List Value}(O:Qg h0 h e sz a n c xs){j:Nat}{vs:List Value}(hv:0<vs.length)(hj:j+vs.length<=n*sz){K:HpT}{b o:Nat}(ha:a=some ⟨b,o,none⟩)
  (hK:∀ ob,Qg h0 (h.set b ob) e sz a n c (QJ xs j vs)->K (h.set b ob)):h.store b (o+j) vs K:=by
 obtain rfl:=O.own.at0 b o ha;obtain⟨hl,h1⟩:=O.own;rcases h1 with ⟨h1,h2,h3⟩|⟨g,cur,h1,hg,hn,hc,hs,ht⟩
 ·rw [h1] at ha;cases ha
 ·rw [h1] at ha;cases ha;have hcur:n*sz<=cur.size:=by rw [hs];exact fE _ hn
  refine⟨cur,e,hg,by omega,?_⟩
  rw [dY];refine hK _ ⟨?_,⟨?_,.inr ⟨b,_,h1,by simp [Hp.set];rfl,hn,hc,?_,?_⟩⟩,O.new⟩
  ·intro i p hp;have hne:i≠b:=fun hib=>by rw [hib,O.new b h1] at hp;cases hp
   simp [Hp.set,hne,O.le i p hp]
  ·rw [Yy _ _ _ (by omega)];exact hl
  ·show (QJ cur.toList j vs).length=_;have h9:cur.toList.length=cur.size:=fI;rw [Yy _ _ _ (by omega),h9];exact hs
  ·show (QJ cur.toList j vs).take (n*sz)=_;rw [QbY _ _ _ _ hj (by rw [fI];exact hcur),ht]
theorem Qg.store_i {h0 h:Hp}{e:TypeId}{n c:Nat}{a:OaT}{l:List Int}(O:Qg h0 h e 1 a n c (l.map vi)){i:Nat}{x:Int}(hi:i<n){K:HpT}{b o:Nat}(ha:a=some ⟨b,o,none⟩)
  (hK:∀ ob,Qg h0 (h.set b ob) e 1 a n c ((l.set i x).map vi)->K (h.set b ob)):h.store b (o+i*1) [vi x] K:=by
 rw [f8];refine O.store (by simp) (by simp;omega) ha fun ob O'=>hK ob ?_
 have hl:i<l.length:=by have:=O.sli.1;omega
 rw [Kf _ _ _ (by simpa using hl),<-gB] at O'
 exact O'
theorem Qc {h:Hp}{b:Nat}{l:List Value}{t:TypeId}(hb:h b=some (Qb l t)){o:Nat}{v:Value}(hv:l[o]?=some v):h.cell b o=some v:=by
 unfold Hp.cell;rw [hb];simpa using hv
theorem Qx {h:Hp}{b:Nat}{l:List Value}{t:TypeId}(hb:h b=some (Qb l t)){o n:Nat}(hn:o+n<=l.length):h.row b o n=some ((l.drop o).take n):=by
 unfold Hp.row;rw [hb];simp [hn]
theorem QR {h:Hp}{b:Nat}{l:List Value}{t:TypeId}(hb:h b=some (Qb l t)){o:Nat}{vs:List Value}(ho:o+vs.length<=l.length){K:HpT}(hK:K (h.set b (Qb (QJ l o vs) t))):h.store b o vs K:=by
 refine⟨_,_,hb,by simpa using ho,?_⟩
 simpa using hK
theorem Qw.set {h:Hp}{e:TypeId}{sz n c:Nat}{a:OaT}{xs:List Value}(O:Qw h e sz a n c xs){g:Nat}(hg:a≠some ⟨g,0,none⟩)(ob:Obj):Qw (h.set g ob) e sz a n c xs:=
 O.keep fun b o ha hb=>by
  have:b≠g:=fun e=>hg (by rw [<-e];exact ha)
  simp [Hp.set,this,hb]
theorem Qw.not_at {h:Hp}{e:TypeId}{sz n c:Nat}{a:OaT}{xs:List Value}(O:Qw h e sz a n c xs){g:Nat}(hg:h g=none):a≠some ⟨g,0,none⟩:=by
 intro ha;rcases O.2 with ⟨h1,_⟩|⟨g',cur,h1,h2,_⟩
 ·rw [h1] at ha;cases ha
 ·rw [h1] at ha;cases ha;rw [hg] at h2;cases h2
theorem Hp.ne_of {h:Hp}{b g:Nat}{o:Obj}(hb:h b=some o)(hg:h g=none):b≠g:=fun e=>by subst e;rw [hb] at hg;cases hg
section
variable {P:Program}
theorem KL {h:Hp}{t ty e:TypeId}{sz bytes:Nat}(T:ElT P t e sz bytes){a2:OaT}{m c2:Nat}{news:List Value}(H:Qf h a2 news)(hl:news.length=m*sz)(h1:∀ u ∈ news,u.oneCell'=true)
  (hb:m*bytes<=140737488355328) (hm:m<=140737488355328) {K:RtT} (hK:∀ a' c' h',Qg h h' e sz a' m c' news->K (vsl a' m c') h') :
  Qh P (Builtin.append_ #[t,t] ty #[vsl none 0 0,vsl a2 m c2]) h K:=by
 refine Qg.append T (Qg.nil (Hp.le_refl h) e sz) H hl h1 (by simpa using hb) (by simpa using hm) fun a' c' h' O _ _=>?_
 rw [dY,dC] at *
 exact hK a' c' h' O
end
def bs (l:LuT):ByteArray:=⟨l.toArray⟩
theorem Zp (l:LuT):(bs l).size=l.length:=by simp [bs,ByteArray.size]
theorem QoW {l m:LuT}:bs l=bs m↔l=m:=by
 constructor
 ·intro h;have:=congrArg (fun b=>b.data.toList) h
  simpa [bs] using this
 ·rintro rfl;rfl
theorem Qaf (l:LuT)(i j:Nat):(bs l).extract i j=bs ((l.drop i).take (j-i)):=by
 apply qD;rw [ByteArray.data_extract];simp [bs,mR]
theorem QmC (l m:LuT):bs l++bs m=bs (l++m):=by
 apply qD;simp [bs]
section
variable {P:Program}{h:Hp}
theorem YW {t:TypeId}(ht:P.underlying t=some .string){l:LuT}{i:Int}(h0:0<=i)(h1:i<l.length):Rd P (Instr.index t (vs (bs l)) (vi i)) h (vk .u8 ((l.getD i.toNat 0).toNat:Nat)):=by
 intro w _;have h2:i<(bs l).size:=by rw [Zp];exact h1
 rw [run_index_string w t _ _ _ ht,dif_pos ⟨h0,h2⟩];have h3:i.toNat<l.length:=by omega
 have:(bs l)[i.toNat]'(by omega)=l.getD i.toNat 0:=by
  rw [bK,bD h3]
  simp [bs,ByteArray.getElem_eq_getElem_data]
 rw [this]
theorem Qez {t:TypeId}(ht:P.underlying t=some .string){l:LuT}{i j:Int}(h0:0<=i)(h1:i<=j)(h2:j<=l.length):Rd P (Instr.sliceAt t (vs (bs l)) (some (vi i)) (some (vi j)) none) h (vs (bs ((l.drop i.toNat).take (j.toNat-i.toNat)))):=by
 intro w _;rw [run_sliceAt_string w t _ _ _ _ ht,run_slice_string w t _ _ _ i j ht h0 h1 (by rw [Zp];exact h2),Qaf]
theorem QhI {t:TypeId}{x y:Operand}{l m:LuT}(hl:l.length+m.length<=maxLen):Rd P (eqGuard .add t x y (vs (bs l)) (vs (bs m)) >>= fun _=>binOp .add t (vs (bs l)) (vs (bs m))) h (vs (bs (l++m))):=by
 intro w _;rw [eqGuard_add];have h1:¬(((bs l).size+(bs m).size:Nat):Int)>IntKind.i64.max:=by
  rw [Zp,Zp,IntKind.max_i64];simp only [maxLen] at hl;omega
 simp only [binOp,Op.stringOp,Sem.run_bind,Sem.run_pure,Result.andThen_ok];rw [bE h1,QmC];rfl
theorem QH {t:TypeId}{x y:Operand}{a b:LuT}:Rd P (eqGuard .eql t x y (vs (bs a)) (vs (bs b)) >>= fun _=>binOp .eql t (vs (bs a)) (vs (bs b))) h (vb (decide (a=b))):=by
 have:=Qqt (P:=P) (h:=h) (t:=t) (x:=x) (y:=y) (a:=bs a) (b:=bs b);rwa [show decide (bs a=bs b)=decide (a=b) from d9.2 QoW] at this
theorem YE {t:TypeId}{x y:Operand}{a b:LuT}:Rd P (eqGuard .neq t x y (vs (bs a)) (vs (bs b)) >>= fun _=>binOp .neq t (vs (bs a)) (vs (bs b))) h (vb (!decide (a=b))):=by
 have:=QqT (P:=P) (h:=h) (t:=t) (x:=x) (y:=y) (a:=bs a) (b:=bs b);rwa [show decide (bs a=bs b)=decide (a=b) from d9.2 QoW] at this
theorem Qe7 {f:FuncId}{fn:Func}(hf:P.funcs[f]?=some fn)(hname:(fn.name == "runtime.NumGoroutine")=false)(hb:fn.body.isNone=true)(hn:Extern.findNext fn=none)(he:Extern.find fn=some Extern.BytealgIndexByte.indexByte)
  {s:ByteArray} {c:Int} {K:RtT} (hK:K (vi (firstIdx s c.toNat.toUInt8)) h):Qf8 P f [vs s,vk .u8 c] h K:=by
 intro w hs;refine⟨_,w,h,?_,hs,Fr.refl h w,hK⟩
 rw [run_callFunc_extern hf hname hb hn he];show ((Extern.BytealgIndexByte.indexByte #[.string s,.int .u8 c]).run P w).andThen _=_;rw [run_indexByte_string];rfl
end
def YF (l:LuT):List Value:=[vs (bs l)]
theorem ZM (l:LuT):(YF l).length=1:=rfl
theorem Qji (l:List (LuT)):∀ u ∈ l.flatMap YF,u.oneCell'=true:=by
 intro u hu;obtain⟨x,_,hx⟩:=fP.1 hu;simp [YF] at hx;subst hx;rfl
abbrev SlB:=@SlP (LuT) YF
theorem SlP.get1 {h:Hp}{a:OaT}{n:Nat}{l:List (LuT)}(H:SlB h a n l){i:Nat}(hi:i<n):∃ b o,a=some ⟨b,o,none⟩/\h.cell b (o+i*1)=some (vs (bs (l.getD i []))):=by
 have hl:=H.1;have hx:l[i]?=some (l.getD i []):=by rw [bK,bD (by omega)];rfl
 obtain⟨b,o,e,hr⟩:=H.get ZM (by decide) hx
 exact⟨b,o,e,Hp.row_cell hr (i:=0) rfl⟩
variable {P:Program}{h:Hp}
theorem Qpz {t:TypeId}(ht:P.underlying t=some .string){l:LuT}{j:Int}(h0:0<=j)(h2:j<=l.length):Rd P (Instr.sliceAt t (vs (bs l)) none (some (vi j)) none) h (vs (bs (l.take j.toNat))):=by
 intro w _;rw [run_sliceAt_string w t _ _ _ _ ht,run_slice_string_h w t (bs l) ht .i64 j h0 (by rw [Zp];exact h2),Qaf]
 simp
theorem Qo8 {t:TypeId}(ht:P.underlying t=some .string){l:LuT}{i:Int}(h0:0<=i)(h2:i<=l.length):Rd P (Instr.sliceAt t (vs (bs l)) (some (vi i)) none none) h (vs (bs (l.drop i.toNat))):=by
 intro w _;rw [run_sliceAt_string w t _ _ _ _ ht,run_slice_string_l w t (bs l) ht .i64 i h0 (by rw [Zp];exact h2),Qaf,Zp]
 rw [cQ (by simp)]
theorem Qw.cut {e:TypeId}{sz n c m:Nat}{a:OaT}{xs:List Value}(O:Qw h e sz a n c xs)(hm:m<=n):Qw h e sz a m c (xs.take (m*sz)):=by
 obtain⟨hl,O⟩:=O;have h1:m*sz<=n*sz:=fE _ hm;refine⟨by rw [bV];omega,?_⟩
 rcases O with ⟨ha,hn,hc⟩|⟨g,cur,ha,hg,h2,h3,h4,h5⟩
 ·exact .inl ⟨ha,by omega,hc⟩
 ·refine .inr ⟨g,cur,ha,hg,by omega,h3,h4,?_⟩
  rw [<-h5,jI,dX h1]
theorem Qg.cut {h0:Hp}{e:TypeId}{sz n c m:Nat}{a:OaT}{xs:List Value}(O:Qg h0 h e sz a n c xs)(hm:m<=n):Qg h0 h e sz a m c (xs.take (m*sz)):=⟨O.le,O.own.cut hm,O.new⟩
theorem Qw.cap {e:TypeId}{sz n c:Nat}{a:OaT}{xs:List Value}(O:Qw h e sz a n c xs):n<=c:=by
 rcases O.2 with ⟨ha,hn,hc⟩|⟨g,cur,ha,hg,h2,h3,h4,h5⟩<;>omega
theorem Qd6 (l:List Int):l.flatMap (fun x=>[vi x])=l.map vi:=by
 induction l with
 | nil=>rfl
 | cons x l ih=>rw [dP,ih];rfl
theorem SlI.slp {a:OaT}{n:Nat}{l:List Int}(S:SlI h a n l):SlP (fun x=>[vi x]) h a n l:=⟨S.1,by rw [Qd6];exact S.2⟩
theorem SlI.of_slp {a:OaT}{n:Nat}{l:List Int}(S:SlP (fun x=>[vi x]) h a n l):SlI h a n l:=⟨S.1,by rw [<-Qd6];exact S.2⟩
theorem SlI.take {a:OaT}{n i:Nat}{l:List Int}(S:SlI h a n l)(hi:i<=n):SlI h a i (l.take i):=.of_slp (S.slp.take (sz:=1) (fun _=>rfl) hi)
theorem SlI.drop {a:OaT}{n i c:Nat}{l:List Int}(S:SlI h a n l)(hi:i<=n)(hc:n<=c):SlI h (MT a i c 1) (n-i) (l.drop i):=.of_slp (S.slp.drop (sz:=1) (fun _=>rfl) hi hc)
theorem ZP (p q:Prop)[Decidable p][Decidable q]:(bif decide p then decide q else false)=decide (p/\q):=by
 by_cases h:p<;>simp [h]
theorem cor (p q:Prop)[Decidable p][Decidable q]:(bif decide p then true else decide q)=decide (p\/q):=by
 by_cases h:p<;>simp [h]
theorem QjH (p:Prop)[Decidable p]:(!decide p)=decide (¬ p):=by
 by_cases h:p<;>simp [h]
theorem ZV {a b:Bool}(h:(bif a then true else b)=false):a=false/\b=false:=by
 cases a
 ·exact⟨rfl,h⟩
 ·cases h
end Go.Vc
namespace Go.Vc
open Go
inductive Fld where
 | v (x:Value)|s (e:TypeId) (sz:Nat) (a:OaT) (n c:Nat) (xs:List Value)
def Fld.val:Fld->Value
 | .v x=>x
 | .s _ _ a n c _=>vsl a n c
def Fld.at (f:Fld)(b:Nat):Prop:=match f with
 | .v _=>False
 | .s _ _ a _ _ _=>a=some ⟨b,0,none⟩
def Fld.own (h:Hp):Fld->Prop
 | .v _=>True
 | .s e sz a n c xs=>Qw h e sz a n c xs
theorem Fld.at_al {h:Hp}{f:Fld}{b:Nat}(O:f.own h)(hb:f.at b):h b≠none:=by
 cases f with
 | v x=>exact hb.elim
 | s e sz a n c xs=>
  rcases O.2 with ⟨h1,_⟩|⟨g,cur,h1,h2,_⟩
  ·rw [h1] at hb;cases hb
  ·rw [h1] at hb;cases hb;rw [h2];simp
theorem Fld.own_keep {h h':Hp}{f:Fld}(O:f.own h)(hk:∀ b,f.at b->∀ o,h b=some o->h' b=some o):f.own h':=by
 cases f with
 | v x=>trivial
 | s e sz a n c xs=>exact Qw.keep O fun g o ha ho=>hk g ha o ho
structure Rec (h:Hp)(g:Nat)(t:TypeId)(fs:List Fld):Prop where
 blk:h g=some (Qb (fs.map Fld.val) t)
 own:∀(j:Nat) (f:Fld),fs[j]?=some f->f.own h
 ne:∀(j:Nat) (f:Fld),fs[j]?=some f->¬ f.at g
 dj:∀(j k:Nat) (f f':Fld) (b:Nat),fs[j]?=some f->fs[k]?=some f'->f.at b->f'.at b->j=k
def ftR (g:Nat)(fs:List Fld):NpT:=fun b=>b=g\/∃(j:Nat) (f:Fld),fs[j]?=some f/\f.at b
theorem Rec.al {h:Hp}{g:Nat}{t:TypeId}{fs:List Fld}(R:Rec h g t fs):∀ b,ftR g fs b->h b≠none:=by
 rintro b (rfl|⟨j,f,hf,hb⟩)
 ·rw [R.blk];simp
 ·exact Fld.at_al (R.own j f hf) hb
theorem Rec.keep {h h':Hp}{g:Nat}{t:TypeId}{fs:List Fld}(R:Rec h g t fs)(hk:∀ b,ftR g fs b->∀ o,h b=some o->h' b=some o):Rec h' g t fs where
 blk:=hk g (.inl rfl) _ R.blk
 own:=fun j f hf=>Fld.own_keep (R.own j f hf) fun b hb o ho=>hk b (.inr ⟨j,f,hf,hb⟩) o ho
 ne:=R.ne
 dj:=R.dj
structure Mut (F:NpT)(h:Hp)(F':NpT)(h':Hp):Prop where
 keep:∀ b o,¬ F b->h b=some o->h' b=some o
 new:∀ b,F' b->F b\/h b=none
theorem Mut.trans {F G F':NpT}{h k h':Hp}(x:Mut F h G k)(y:Mut G k F' h'):Mut F h F' h' where
 keep:=fun b o hb ho=>y.keep b o (fun hg=>by
  rcases x.new b hg with h1|h1
  ·exact hb h1
  ·rw [ho] at h1;cases h1) (x.keep b o hb ho)
 new:=fun b hb=>by
  rcases y.new b hb with h1|h1
  ·exact x.new b h1
  ·by_cases hF:F b
   ·exact .inl hF
   ·right;cases ho:h b with
    | none=>rfl
    | some o=>rw [x.keep b o hF ho] at h1;cases h1
theorem Mut.of_le {F:NpT}{h h':Hp}(hl:h.le h'):Mut F h F h':=⟨fun b o _ ho=>hl b o ho,fun b hb=>.inl hb⟩
theorem Mut.old {F F':NpT}{h0 h h':Hp}(M:Mut F h F' h')(hl:h0.le h)(hd:∀ b,F b->h0 b=none):h0.le h'/\∀ b,F' b->h0 b=none:=
 ⟨fun b o ho=>M.keep b o (fun hF=>by rw [hd b hF] at ho;cases ho) (hl b o ho),fun b hb=>by
  rcases M.new b hb with h1|h1
  ·exact hd b h1
  ·exact Hp.none_of_le hl h1⟩
theorem Mut.apart {F F' G:NpT}{h h':Hp}(M:Mut F h F' h')(hG:∀ b,G b->h b≠none)(hd:∀ b,F b->¬ G b):(∀ b,G b->∀ o,h b=some o->h' b=some o)/\∀ b,F' b->¬ G b:=
 ⟨fun b hb o ho=>M.keep b o (fun hF=>hd b hF hb) ho,fun b hb hg=>by
  rcases M.new b hb with h1|h1
  ·exact hd b h1 hg
  ·exact hG b hg h1⟩
theorem map_set {α β:Type}(f:α->β)(l:List α)(i:Nat)(x:α):(l.set i x).map f=(l.map f).set i (f x):=by rw [gB]
theorem Rec.put {h h':Hp}{g:Nat}{t:TypeId}{fs:List Fld}(R:Rec h g t fs){j:Nat}{f f':Fld}(hf:fs[j]?=some f)(hk:∀ b o,h b=some o->¬ f.at b->h' b=some o)(O:f'.own h')(hn:∀ b,f'.at b->f.at b\/h b=none){K:HpT}
  (hK:∀ h'',h''=h'.set g (Qb ((fs.set j f').map Fld.val) t)->Rec h'' g t (fs.set j f')->Mut (ftR g fs) h (ftR g (fs.set j f')) h''->K h'') {o:Nat} (ho:o=j):h'.store g o [f'.val] K:=by
 subst ho;have hj:o<fs.length:=(bI.1 hf).1
 have hg':h' g=some (Qb (fs.map Fld.val) t):=hk g _ R.blk (R.ne o f hf);refine QR hg' (by rw [bU];simp;omega) ?_
 rw [Kf _ _ _ (by simpa using hj),<-map_set]
 have hng:¬ f'.at g:=fun e=>by
  rcases hn g e with h1|h1
  ·exact R.ne o f hf h1
  ·rw [R.blk] at h1;cases h1
 have key:∀ k fk,(fs.set o f')[k]?=some fk->(k=o/\fk=f')\/(k≠o/\fs[k]?=some fk):=by
  intro k fk h1;by_cases hko:k=o
  ·subst hko;rw [fC hj] at h1
   exact .inl ⟨rfl,(dL h1).symm⟩
  ·rw [gU (fun e=>hko e.symm)] at h1
   exact .inr ⟨hko,h1⟩
 refine hK _ rfl ⟨Hp.set_same _ _ _,?_,?_,?_⟩ ⟨?_,?_⟩
 ·intro k fk h1;rcases key k fk h1 with ⟨rfl,rfl⟩|⟨hko,h2⟩
  ·exact Fld.own_keep O fun b hb p hp=>(Hp.set_other h' _ (fun e=>hng (by rw [<-e];exact hb))).trans hp
  ·refine Fld.own_keep (R.own k fk h2) fun b hb p hp=>(Hp.set_other h' _ (fun e=>R.ne k fk h2 (by rw [<-e];exact hb))).trans (hk b p hp fun hb'=>hko ?_)
   exact R.dj k o fk f b h2 hf hb hb'
 ·intro k fk h1;rcases key k fk h1 with ⟨rfl,rfl⟩|⟨hko,h2⟩
  ·exact hng
  ·exact R.ne k fk h2
 ·intro k m fk fm b h1 h2 hb1 hb2;have one:∀ m fm,m≠o->fs[m]?=some fm->f'.at b->fm.at b->False:=by
   intro m fm hmo h2 hb1 hb2;rcases hn b hb1 with h3|h3
   ·exact hmo (R.dj m o fm f b h2 hf hb2 h3)
   ·exact Fld.at_al (R.own m fm h2) hb2 h3
  rcases key k fk h1 with ⟨rfl,rfl⟩|⟨hko,h1'⟩
  ·rcases key m fm h2 with ⟨rfl,rfl⟩|⟨hmo,h2'⟩
   ·rfl
   ·exact(one m fm hmo h2' hb1 hb2).elim
  ·rcases key m fm h2 with ⟨rfl,rfl⟩|⟨hmo,h2'⟩
   ·exact(one k fk hko h1' hb2 hb1).elim
   ·exact R.dj k m fk fm b h1' h2' hb1 hb2
 ·intro b p hb hp;have h1:b≠g:=fun e=>hb (.inl e)
  exact(Hp.set_other h' _ h1).trans (hk b p hp fun e=>hb (.inr ⟨o,f,hf,e⟩))
 ·rintro b (rfl|⟨k,fk,h1,hb⟩)
  ·exact .inl (.inl rfl)
  ·rcases key k fk h1 with ⟨rfl,rfl⟩|⟨hko,h2⟩
   ·rcases hn b hb with h3|h3
    ·exact .inl (.inr ⟨k,f,hf,h3⟩)
    ·exact .inr h3
   ·exact .inl (.inr ⟨k,fk,h2,hb⟩)
theorem Rec.inner {h:Hp}{g:Nat}{t:TypeId}{fs:List Fld}(R:Rec h g t fs){j:Nat}{e:TypeId}{sz n c:Nat}{a:OaT}{xs ys:List Value}(hf:fs[j]?=some (.s e sz a n c xs)){b:Nat}(ha:a=some ⟨b,0,none⟩){ob:Obj}(O':Qw (h.set b ob) e sz a n c ys) :
  Rec (h.set b ob) g t (fs.set j (.s e sz a n c ys))/\Mut (ftR g fs) h (ftR g (fs.set j (.s e sz a n c ys))) (h.set b ob):=by
 have O:Qw h e sz a n c xs:=R.own j _ hf;have hj:j<fs.length:=(bI.1 hf).1
 have hbg:b≠g:=fun e=>R.ne j _ hf (by rw [e] at ha;exact ha)
 have hkeep:∀ b' p,b'≠b->h b'=some p->(h.set b ob) b'=some p:=fun b' p hne hp=>(Hp.set_other h _ hne).trans hp
 have hval:(fs.set j (.s e sz a n c ys)).map Fld.val=fs.map Fld.val:=by
  rw [map_set];apply gQ;intro k;by_cases hk:k=j
  ·subst hk;rw [fC (by simpa using hj),cU,hf]
   rfl
  ·rw [gU (fun e=>hk e.symm)]
 have key:∀ k fk,(fs.set j (.s e sz a n c ys))[k]?=some fk->(k=j/\fk=.s e sz a n c ys)\/(k≠j/\fs[k]?=some fk):=by
  intro k fk h1;by_cases hko:k=j
  ·subst hko;rw [fC hj] at h1
   exact .inl ⟨rfl,(dL h1).symm⟩
  ·rw [gU (fun e=>hko e.symm)] at h1
   exact .inr ⟨hko,h1⟩
 have same:∀ b',(Fld.s e sz a n c ys).at b'↔(Fld.s e sz a n c xs).at b':=fun _=>f9
 have old:∀(k:Nat) (fk:Fld),(fs.set j (.s e sz a n c ys))[k]?=some fk->∃ f0:Fld,fs[k]?=some f0/\∀ b',fk.at b'↔f0.at b':=by
  intro k fk h1;rcases key k fk h1 with ⟨rfl,rfl⟩|⟨_,h2⟩
  ·exact⟨_,hf,same⟩
  ·exact⟨fk,h2,fun _=>f9⟩
 refine⟨⟨?_,?_,?_,?_⟩,?_,?_⟩
 ·rw [hval];exact hkeep g _ (fun e=>hbg e.symm) R.blk
 ·intro k fk h1;rcases key k fk h1 with ⟨rfl,rfl⟩|⟨hko,h2⟩
  ·exact O'
  ·exact Fld.own_keep (R.own k fk h2) fun b' hb' p hp=>hkeep b' p (fun e=>hko (R.dj k j fk _ b' h2 hf hb' (by subst e;exact ha))) hp
 ·intro k fk h1;obtain⟨f0,h2,h3⟩:=old k fk h1;rw [h3];exact R.ne k f0 h2
 ·intro k m fk fm b' h1 h2 hb1 hb2;obtain⟨f1,q1,q2⟩:=old k fk h1;obtain⟨f2,q3,q4⟩:=old m fm h2;exact R.dj k m f1 f2 b' q1 q3 ((q2 b').1 hb1) ((q4 b').1 hb2)
 ·intro b' p hb' hp;exact hkeep b' p (fun e=>hb' (.inr ⟨j,_,hf,by subst e;exact ha⟩)) hp
 ·rintro b' (rfl|⟨k,fk,h1,hb⟩)
  ·exact .inl (.inl rfl)
  ·obtain⟨f0,h2,h3⟩:=old k fk h1;exact .inl (.inr ⟨k,f0,h2,(h3 b').1 hb⟩)
theorem Rec.elem {h:Hp}{g:Nat}{t:TypeId}{fs:List Fld}(R:Rec h g t fs){j:Nat}{e:TypeId}{sz n c:Nat}{a:OaT}{xs:List Value}(hf:fs[j]?=some (.s e sz a n c xs)){i:Nat}{vs:List Value}(hv:0<vs.length)(hi:i+vs.length<=n*sz){b o:Nat}(ha:a=some ⟨b,o,none⟩){K:HpT}
  (hK:∀ h',h' g=h g->Rec h' g t (fs.set j (.s e sz a n c (QJ xs i vs)))->Mut (ftR g fs) h (ftR g (fs.set j (.s e sz a n c (QJ xs i vs)))) h'->K h'):h.store b (o+i) vs K:=by
 have O:Qw h e sz a n c xs:=R.own j _ hf;obtain rfl:=O.at0 b o ha;have Ow:Qg (h.del b) h e sz a n c xs:=⟨Hp.del_le h b,O,fun g' hg'=>by rw [ha] at hg';cases hg';simp [Hp.del]⟩
 refine Ow.store hv hi ha fun ob O'=>?_
 obtain⟨q1,q2⟩:=R.inner hf ha O'.own;exact hK _ (Hp.set_other h _ fun e=>R.ne j _ hf (by rw [e];exact ha)) q1 q2
theorem Rec.cell {h:Hp}{g:Nat}{t:TypeId}{fs:List Fld}(R:Rec h g t fs){j:Nat}{f:Fld}(hf:fs[j]?=some f):h.cell g j=some f.val:=Qc R.blk (by rw [cU,hf];rfl)
theorem Rec.new {h:Hp}{g:Nat}{t:TypeId}{fs:List Fld}(hg:h g=none)(O:∀(j:Nat) (f:Fld),fs[j]?=some f->f.own h)(hd:∀(j k:Nat) (f f':Fld) (b:Nat),fs[j]?=some f->fs[k]?=some f'->f.at b->f'.at b->j=k):Rec (h.set g (Qb (fs.map Fld.val) t)) g t fs where
 blk:=Hp.set_same _ _ _
 own:=fun j f hf=>Fld.own_keep (O j f hf) fun b hb o ho=>(Hp.set_other h _ (fun e=>by rw [e,hg] at ho;cases ho)).trans ho
 ne:=fun j f hf hb=>Fld.at_al (O j f hf) hb hg
 dj:=hd
section
variable {P:Program}
theorem Ua {h:Hp}{t e:TypeId}{sz bytes:Nat}(T:ElT P t e sz bytes){z:List Value}(hz:(XV P e).map Qs=some z){n:Nat}(hn:n<=1000000)(hb:n*bytes<=140737488355328){K:RtT}
  (hK:∀ b,h b=none->K (vsl (some ⟨b,0,none⟩) n n) (h.set b (Qb ((List.replicate n z).flatten) e))):Qh P (Instr.makeSlice t (vi n) (vi n)) h K:=by
 intro w hs;obtain⟨i,zv,hi,hiz,hsz,hby,hzs⟩:=T.el;have hzl:z=zv.cells.toList:=by
  unfold XV at hz;rw [hi] at hz;simp only [jC,hiz,gJ,bQ] at hz;rw [<-hz,Jj]
 have hr:=run_make (P:=P) w t e i zv T.sl hi hiz .i64 .i64 n n (by omega) (by omega) (by
  rw [hby];have:((bytes:Int)*(n:Int))=((n*bytes:Nat):Int):=by rw [kY];exact(pP _ _).symm
  omega) (by omega)
 have hm:madeCells zv.cells (n*i.size)=((List.replicate n z).flatten).toArray:=by rw [hzl];unfold madeCells;rw [hsz,<-hzs];exact Mh zv.cells n (by rw [hzs];exact T.pos)
 rw [bG,hm] at hr;exact⟨_,_,_,hr,Sub.pushSet hs _,Fr.pushSet h w _,hK _ hs.none⟩
end
section
variable {P:Program}{h:Hp}
theorem QbQ {t:TypeId}{a:Nat}(ha:a<4294967296):Rd P (binOp .and t (vk .u64 a) (vk .u64 4294967295)) h (vk .u64 a):=by
 intro w _;have e:bits .and .u64 (a:Int) 4294967295=(a:Int):=by rw [and_low32 _ (by omega) (by omega)];omega
 simp [binOp,intBits_and,e]
theorem Gp {t:TypeId}{a:Nat}(ha:a<4294967296):Rd P (binOp .shr t (vk .u64 a) (vk .u64 32)) h (vk .u64 0):=by
 intro w _;simp [binOp,shift_shr_any,IntKind.bits];omega
theorem GC {t:TypeId}{a b:Nat}(hab:a*b<4294967296):Rd P (binOp .mul t (vk .u64 a) (vk .u64 b)) h (vk .u64 (a*b:Nat)):=by
 intro w _;simp [binOp,Op.intArith,IntKind.wrap_u64];omega
theorem Qan {t:TypeId}{a b:Nat}(hab:a+b<4294967296):Rd P (binOp .add t (vk .u64 a) (vk .u64 b)) h (vk .u64 (a+b:Nat)):=by
 intro w _;simp [binOp,Op.intArith,IntKind.wrap_u64];omega
theorem QpA {t:TypeId}{k:Int}{j:Nat}(hj:j<64)(hk:0<=k):Rd P (binOp .shr t (vk .u64 k) (vk .u64 j)) h (vk .u64 (k / 2 ^ j)):=by
 intro w _;have e:min ((j:Nat):Int).toNat IntKind.u64.bits=j:=by simp only [IntKind.bits,bG];omega
 simp only [binOp,shift_shr_any _ _ _ _ (show (0:Int)<=(j:Nat) by omega),Sem.run_pure,e]
theorem XS {t e:TypeId}(ht:P.underlying t=some (.slice e)){x y:Operand}{a:OaT}{n c:Nat}:Rd P (eqGuard .eql t x y (vsl a n c) (vsl none 0 0) >>= fun _=>binOp .eql t (vsl a n c) (vsl none 0 0)) h (vb a.isNone):=by
 intro w _;simp [eqGuard,binOp,run_equal_slice_nil w t e a n c ht]
theorem Mb {t e:TypeId}(ht:P.underlying t=some (.pointer e)){x y:Operand}{p:OaT}:Rd P (eqGuard .eql t x y (vp p) (vp none) >>= fun _=>binOp .eql t (vp p) (vp none)) h (vb p.isNone):=by
 intro w _;have:=run_eql_pointer_nil (P:=P) w t p (by simp [Program.pointee,ht])
 simp [eqGuard,this]
theorem QeU {src dst e:TypeId}(hs:P.underlying src=some (.slice e))(he:P.underlying e=some (.int .u8))(hd:P.underlying dst=some .string){b o c:Nat}{l:LuT}(H:h.row b o l.length=some (l.map fun x=>vk .u8 (x.toNat:Nat))) :
  Rd P (convert src dst (vsl (some ⟨b,o,none⟩) l.length c)) h (vs (bs l)):=by
 intro w hsub;exact run_convert_bytes_back w src dst e ⟨b,o,none⟩ c l hs he hd fun j hj=>by
  have:=Hp.row_cell H (i:=j) (x:=vk .u8 (l[j].toNat:Nat)) (by rw [cU,bD hj];rfl)
  rw [Yq];exact Zt this hsub
theorem QgZ {dT sT ty e:TypeId}(hu:P.underlying dT=some (.slice e))(hi:(P.info? e).map (·.size)=some 1){a a2:OaT}{n c c2:Nat}{xs ys:List Value}(O:Qw h e 1 a n c xs)(H:Qf h a2 ys)(hl:ys.length=n)(h1:∀ u ∈ ys,u.oneCell'=true){K:RtT}
  (hK:∀ b ob,a=some ⟨b,0,none⟩->Qw (h.set b ob) e 1 a n c ys->K (vi n) (h.set b ob)) (hK0:n=0->K (vi 0) h):Qh P (Builtin.copy_ #[dT,sT] ty #[vsl a n c,vsl a2 n c2]) h K:=by
 intro w hs;by_cases hn:n=0
 ·subst hn;exact⟨_,w,h,run_copy_none w dT sT ty e a a2 0 c 0 c2 hu hi (by simp),hs,Fr.refl h w,hK0 rfl⟩
 ·obtain⟨hxl,h2⟩:=O;rcases h2 with ⟨_,h3,_⟩|⟨g,cur,ha,hg,hnc,hc,hcs,ht⟩
  ·exact absurd h3 hn
  ·subst ha;rcases H with h4|⟨b2,o2,rfl,hr⟩
   ·rw [h4] at hl;exact absurd hl.symm hn
   ·have hcur:n<=cur.size:=by rw [hcs,f8];exact hnc
    have hrun:=run_copy_row (P:=P) w dT sT ty e g 0 n c ⟨b2,o2,none⟩ n c2 cur e ys hu hi (hs g _ hg) (by simp [hl]) (fun j v hj=>by rw [Yq];exact Zt (Hp.row_cell hr hj) hs) (by rw [dY,hl];exact hcur) h1
    refine⟨_,_,_,hrun,Jc hs hg,Uo hg,?_⟩
    have hv:(goInt ys.length:Value)=vi n:=by rw [hl];rfl
    rw [hv];refine hK g _ rfl ⟨by rw [hl,f8],.inr ⟨g,_,rfl,Hp.set_same _ _ _,hnc,hc,?_,?_⟩⟩
    ·have:cur.toList.length=cur.size:=fI;simp only [jA,bO,bV,dO,this,hl];omega
    ·rw [f8];simp only [kA,dC,dY];rw [gP (by omega),cQ (by omega)]
theorem QfV {dT sT ty e:TypeId}(hu:P.underlying dT=some (.slice e))(hi:(P.info? e).map (·.size)=some 1){g o dLen dCap:Nat}{a2:OaT}{sLen c2:Nat}{L ys:List Value}{t:TypeId}(hg:h g=some (Qb L t))(H:Qf h a2 ys)(hl:ys.length=min sLen dLen)(hfit:o+ys.length<=L.length)
  (h1:∀ u ∈ ys,u.oneCell'=true) (hne:ys≠[]) {K:RtT} (hK:K (vi ys.length) (h.set g (Qb (QJ L o ys) t))):Qh P (Builtin.copy_ #[dT,sT] ty #[vsl (some ⟨g,o,none⟩) dLen dCap,vsl a2 sLen c2]) h K:=by
 intro w hs;rcases H with h4|⟨b2,o2,rfl,hr⟩
 ·exact absurd h4 hne
 ·have hrun:=run_copy_row (P:=P) w dT sT ty e g o dLen dCap ⟨b2,o2,none⟩ sLen c2 L.toArray t ys hu hi (hs g _ hg) hl (fun j v hj=>by rw [Yq];exact Zt (Hp.row_cell hr hj) hs) (by simpa using hfit) h1
  exact⟨_,_,_,hrun,Jc hs hg,Uo hg,hK⟩
end
theorem Hp.set_set (h:Hp)(b:Nat)(o o':Obj):(h.set b o).set b o'=h.set b o':=by
 funext i
 unfold Hp.set;split<;>simp_all
theorem Qi2 (m:Nat):(List.replicate m [vk .u8 0]).flatten=(List.replicate m (0:UInt8)).map fun x=>vk .u8 (x.toNat:Nat):=by
 induction m with
 | zero=>rfl
 | succ m ih=>rw [fY,kX,ih,fY,dE];rfl
abbrev K0 (α:Type):=(OaT × Nat) × List α
section
variable {α:Type}(enc:α->List Value)(sz:Nat)(e T:TypeId)
def QoH (r:K0 α):Fld:=.s e sz r.1.1 r.2.length r.1.2 (r.2.flatMap enc)
def QiB (r:K0 α):Value:=vsl r.1.1 r.2.length r.1.2
def Vq (R:List (K0 α)):List Fld:=R.map (QoH enc sz e)
theorem Qet (R:List (K0 α)):(Vq enc sz e R).map Fld.val=R.map QiB:=by
 unfold Vq;rw [fN];rfl
theorem QcY {R:List (K0 α)}(ex:List Value){j:Nat}{r:K0 α}(hr:R[j]?=some r):(Vq enc sz e R++ex.map Fld.v)[j]?=some (QoH enc sz e r):=by
 rw [dU (by rw [Vq,bU];exact(bI.1 hr).1),Vq,cU,hr]
 rfl
def Xe (h:Hp)(F:NpT)(t:Nat)(L:List (List α)):Prop:=∃(R:List (K0 α)) (ex:List Value),R.map Prod.snd=L/\F=ftR t (Vq enc sz e R++ex.map Fld.v)/\Rec h t T (Vq enc sz e R++ex.map Fld.v)
def Qfj (h:Hp)(a:OaT)(n:Nat)(L:List (List α)):Prop:=∃ R:List (K0 α),R.map Prod.snd=L/\n=L.length/\Qf h a (R.map QiB)/\∀(j:Nat) (r:K0 α),R[j]?=some r->Qf h r.1.1 (r.2.flatMap enc)
end
section
variable {α:Type}{enc:α->List Value}{sz:Nat}{e T:TypeId}{h:Hp}{F:NpT}{t:Nat}{L:List (List α)}
theorem Xe.al (D:Xe enc sz e T h F t L):∀ b,F b->h b≠none:=by
 obtain⟨R,ex,rfl,rfl,D⟩:=D;exact D.al
theorem Xe.keep {h':Hp}(D:Xe enc sz e T h F t L)(hk:∀ b,F b->∀ o,h b=some o->h' b=some o):Xe enc sz e T h' F t L:=by
 obtain⟨R,ex,rfl,rfl,D⟩:=D;exact⟨R,ex,rfl,rfl,D.keep hk⟩
theorem Xe.le {h':Hp}(D:Xe enc sz e T h F t L)(hl:h.le h'):Xe enc sz e T h' F t L:=D.keep fun b _ o ho=>hl b o ho
theorem Xe.cell (D:Xe enc sz e T h F t L){j:Nat}{l:List α}(hl:L[j]?=some l):∃ a c,h.cell t (0+j*1)=some (vsl a l.length c)/\SlP enc h a l.length l:=by
 obtain⟨R,ex,rfl,rfl,D⟩:=D;rw [cU,dD] at hl
 obtain⟨r,hr,rfl⟩:=hl;have hf:=QcY enc sz e ex hr;rw [dY,f8];have O:Qw h e sz r.1.1 r.2.length r.1.2 (r.2.flatMap enc):=D.own j _ hf;exact⟨r.1.1,r.1.2,D.cell hf,rfl,O.row⟩
theorem Qf.get1 {h:Hp}{a:OaT}{xs:List Value}(H:Qf h a xs){j:Nat}{v:Value}(hv:xs[j]?=some v):∃ b o,a=some ⟨b,o,none⟩/\h.cell b (o+j*1)=some v:=by
 rcases H with rfl|⟨b,o,ha,hr⟩
 ·cases hv
 ·refine⟨b,o,ha,?_⟩
  rw [f8];exact Hp.row_cell hr hv
theorem Qfj.cell {a:OaT}{n:Nat}(D:Qfj enc h a n L){j:Nat}{l:List α}(hl:L[j]?=some l):∃ b o a' c',a=some ⟨b,o,none⟩/\h.cell b (o+j*1)=some (vsl a' l.length c')/\SlP enc h a' l.length l:=by
 obtain⟨R,rfl,hn,D,D2⟩:=D;rw [cU,dD] at hl
 obtain⟨r,hr,rfl⟩:=hl;obtain⟨b,o,ha,hc⟩:=D.get1 (j:=j) (v:=QiB r) (by rw [cU,hr];rfl)
 exact⟨b,o,r.1.1,r.1.2,ha,hc,rfl,D2 j r hr⟩
theorem Qfj.le {h':Hp}{a:OaT}{n:Nat}(D:Qfj enc h a n L)(hl:h.le h'):Qfj enc h' a n L:=by
 obtain⟨R,rfl,hn,D,D2⟩:=D;exact⟨R,rfl,hn,D.le hl,fun j r hr=>(D2 j r hr).le hl⟩
theorem Xe.r (D:Xe enc sz e T h F t L):Qfj enc h (some ⟨t,0,none⟩) L.length L:=by
 obtain⟨R,ex,rfl,rfl,D⟩:=D;refine⟨R,rfl,rfl,?_,fun j r hr=>?_⟩
 ·refine .inr ⟨t,0,rfl,?_⟩
  have:=D.blk;rw [cD,Qet] at this;rw [Qx this (by rw [bO];omega),pZ,jM rfl]
 ·have hf:=QcY enc sz e ex hr;exact(D.own j _ hf:Qw h e sz r.1.1 r.2.length r.1.2 (r.2.flatMap enc)).row
variable {P:Program}
theorem Xe.app {tS:TypeId}{bytes:Nat}(E:ElT P tS e sz bytes)(he:∀ x,(enc x).length=sz)(h1:∀ x,∀ u ∈ enc x,u.oneCell'=true)(D:Xe enc sz e T h F t L){j:Nat}{l:List α}(hl:L[j]?=some l)(hb:(l.length+1)*bytes<=140737488355328)(hb2:l.length+1<=140737488355328){x:α}{a:OaT}{c:Nat}(hc:h.cell t (0+j*1)=some (vsl a l.length c)){b:Nat}(hbn:h b=none){ty:TypeId}{K:RtT}
  (hK:∀ a' c' h',(∀ b' o,(¬ F b'\/b'=t)->h b'=some o->h' b'=some o)->(∀ K2:HpT,(∀ h'' F',Xe enc sz e T h'' F' t (L.set j (l++[x]))->Mut F h F' h''->K2 h'')->h'.store t (0+j*1) [vsl a' (l.length+1) c'] K2)->K (vsl a' (l.length+1) c') h') :
  Qh P (Builtin.append_ #[tS,tS] ty #[vsl a l.length c,vsl (some ⟨b,0,none⟩) 1 1]) (h.set b (Qb (enc x) e)) K:=by
 obtain⟨R,ex,rfl,rfl,D⟩:=D;rw [cU,dD] at hl
 obtain⟨r,hr,rfl⟩:=hl;have hf:=QcY enc sz e ex hr;rw [dY,f8,D.cell hf] at hc;simp only [QoH,Fld.val,bQ,Value.slice.injEq] at hc;obtain⟨rfl,_,rfl⟩:=hc;have hle:h.le (h.set b (Qb (enc x) e)):=Hp.le_set (Hp.le_refl h) hbn _;have O:Qw (h.set b (Qb (enc x) e)) e sz r.1.1 r.2.length r.1.2 (r.2.flatMap enc):=(D.own j _ hf:Qw h e sz r.1.1 r.2.length r.1.2 (r.2.flatMap enc)).le hle;have hj:j<R.length:=(bI.1 hr).1
 refine Jb E O (Qf.new _ _ (enc x) _) (m:=1) (by rw [he,j9]) (h1 x) hb hb2 fun a' c' h' O' k1 k2 _ _=>hK a' c' h' (fun b' o hb' ho=>k1 b' o (hle b' o ho) fun hat=>?_) fun K2 hK2=>?_
 ·rcases hb' with h2|rfl
  ·exact h2 (.inr ⟨j,_,hf,hat⟩)
  ·exact D.ne j _ hf hat
 ·have e1:Vq enc sz e (R.set j ((a',c'),r.2++[x]))++ex.map Fld.v=(Vq enc sz e R++ex.map Fld.v).set j (.s e sz a' (r.2.length+1) c' (r.2.flatMap enc++enc x)):=by
   rw [List.set_append_left _ _ (by rw [Vq,bU];exact hj)]
   unfold Vq;rw [gB];congr 2
   unfold QoH;simp
  have e2:(R.set j ((a',c'),r.2++[x])).map Prod.snd=(R.map Prod.snd).set j (r.2++[x]):=by rw [gB]
  rw [dY,f8];refine D.put (h':=h') (j:=j) (f':=.s e sz a' (r.2.length+1) c' (r.2.flatMap enc++enc x)) hf (fun b' o ho hat=>k1 b' o (hle b' o ho) hat) O' (fun b' hb'=>?_) (fun h'' _ R' M=>by rw [<-e1] at R' M;exact hK2 h'' _ ⟨_,ex,e2,rfl,R'⟩ M) rfl
  rcases k2 b' hb' with e|e
  ·exact .inl (e.trans hb')
  ·exact .inr (Hp.none_of_le hle e)
theorem Xe.new {b:Nat}(hb:h b=none)(n:Nat):Xe enc sz e T (h.set b (Qb ((List.replicate n [vsl none 0 0]).flatten) T)) (fun x=>x=b) b (List.replicate n []):=by
 refine⟨List.replicate n ((none,0),[]),[],by rw [gI],?_,?_⟩<;>rw [kV,d8]
 ·funext x
  refine propext ⟨fun hx=>.inl hx,?_⟩
  rintro(hx|⟨j,f,hf,hat⟩)
  ·exact hx
  ·rw [Vq,gI,kQ] at hf
   split at hf
   ·cases hf;cases hat
   ·cases hf
 ·have e1:(Vq enc sz e (List.replicate n (((none,0),[]):K0 α))).map Fld.val=(List.replicate n [vsl none 0 0]).flatten:=by
   rw [Qet,gI];induction n with
   | zero=>rfl
   | succ n ih=>rw [fY,fY,kX,<-ih];rfl
  have hno:∀(j:Nat) (f:Fld),(Vq enc sz e (List.replicate n (((none,0),[]):K0 α)))[j]?=some f->f=.s e sz none 0 0 []:=by
   intro j f hf;rw [Vq,gI,kQ] at hf
   split at hf
   ·cases hf;rfl
   ·cases hf
  rw [<-e1];refine Rec.new hb (fun j f hf=>?_) fun j k f f' b' hf hf' hat _=>?_
  ·rw [hno j f hf];exact Qw.nil h e sz
  ·rw [hno j f hf] at hat;cases hat
end
section
variable {α:Type}(enc:α->List Value)(T:TypeId)
def QeS (h0 h:Hp)(a:OaT)(c:Nat)(L:List (List α)):Prop:=
 ∃(R:List (K0 α)) (hd:Hp),R.map Prod.snd=L/\Qg h0 h T 1 a L.length c (R.map QiB)/\hd.le h/\(∀ g,a=some ⟨g,0,none⟩->hd g=none)/\∀(j:Nat) (r:K0 α),R[j]?=some r->Qf hd r.1.1 (r.2.flatMap enc)
end
section
variable {α:Type}{enc:α->List Value}{T:TypeId}{h0 h:Hp}{a:OaT}{c:Nat}{L:List (List α)}
theorem QeS.nil (hl:h0.le h):QeS enc T h0 h none 0 []:=
 ⟨[],h,rfl,Qg.nil hl _ _,Hp.le_refl h,(fun g hg=>by cases hg),(fun j r hr=>by cases hr)⟩
theorem QeS.le0 (B:QeS enc T h0 h a c L):h0.le h:=by
 obtain⟨R,hd,_,O,_⟩:=B;exact O.le
theorem QeS.r (B:QeS enc T h0 h a c L):Qfj enc h a L.length L:=by
 obtain⟨R,hd,e,O,hl,_,hr⟩:=B;exact⟨R,e,rfl,O.own.row,fun j r h1=>(hr j r h1).le hl⟩
variable {P:Program}
theorem QeS.app {tS:TypeId}{bytes:Nat}(E:ElT P tS T 1 bytes)(B:QeS enc T h0 h a c L){e:TypeId}{sz:Nat}{h1:Hp}{a2:OaT}{c2:Nat}{l:List α}(O:Qg h h1 e sz a2 l.length c2 (l.flatMap enc))(hb:(L.length+1)*bytes<=140737488355328)(hb2:L.length+1<=140737488355328)
  {b:Nat} (hbn:h1 b=none) {ty:TypeId} {K:RtT} (hK:∀ a' c' h',QeS enc T h0 h' a' c' (L++[l])->K (vsl a' (L.length+1) c') h') :
  Qh P (Builtin.append_ #[tS,tS] ty #[vsl a L.length c,vsl (some ⟨b,0,none⟩) 1 1]) (h1.set b (Qb [vsl a2 l.length c2] T)) K:=by
 obtain⟨R,hd,eR,OT,hl,hn,hr⟩:=B;have l2:h1.le (h1.set b (Qb [vsl a2 l.length c2] T)):=Hp.le_set (Hp.le_refl h1) hbn _;have OT2:Qg h0 (h1.set b (Qb [vsl a2 l.length c2] T)) T 1 a L.length c (R.map QiB):=⟨Hp.le_trans (Hp.le_trans OT.le O.le) l2,(OT.own.le O.le).le l2,OT.new⟩;refine Qg.append E OT2 (Qf.new _ _ [vsl a2 l.length c2] _) (m:=1) rfl (by simp [Value.oneCell']) hb hb2 fun a' c' h' O' k1 k2=>hK a' c' h' ?_
 refine⟨R++[((a2,c2),l)],fun x=>if a=some ⟨x,0,none⟩ then none else h1 x,by rw [cD,eR];rfl,?_,?_,?_,?_⟩
 ·rw [cD,bO];exact O'
 ·intro x o ho;simp only at ho;split at ho
  ·cases ho
  ·rename_i hne;exact k1 x o (l2 x o ho) hne
 ·intro g hg;simp only;split
  ·rfl
  ·rename_i hne;rcases k2 g hg with e1|e1
   ·exact absurd (e1.trans hg) hne
   ·exact Hp.none_of_le l2 e1
 ·intro j r hj;rcases g8 j R.length with h3|h3
  ·rw [dU h3] at hj
   refine(hr j r hj).le fun x o ho=>?_
   split
   ·rename_i he;rw [hn x he] at ho;cases ho
   ·exact O.le x o (hl x o ho)
  ·rw [dA h3,pF] at hj
   split at hj
   ·cases hj;refine(O.own.keep fun g o hg ho=>?_:Qw _ e sz a2 l.length c2 (l.flatMap enc)).row
    split
    ·rename_i he;have q:=O.new g hg;rcases OT.own.2 with ⟨q1,_⟩|⟨g',cur,q1,q2,_⟩
     ·rw [q1] at he;cases he
     ·rw [q1] at he;cases he;rw [q2] at q;cases q
    ·exact ho
   ·cases hj
end
theorem QjQ {β:Type}(a b:List β)(k:Nat)(vs:List β)(h:k+vs.length<=a.length):QJ (a++b) k vs=QJ a k vs++b:=by
 unfold QJ;rw [gP (by omega),mD (by omega)]
 simp
theorem XN {β:Type}(a b:List β)(k:Nat)(vs:List β):QJ (a++b) (a.length+k) vs=a++QJ b k vs:=by
 unfold QJ;rw [show a.length+k+vs.length=a.length+(k+vs.length) by omega,List.take_length_add_append,List.drop_length_add_append]
 simp
theorem Qbn {α:Type}{enc:α->List Value}{sz:Nat}(he:∀ x,(enc x).length=sz){k:Nat}{vs:List Value}(hk:k+vs.length<=sz):∀(l:List α) (i:Nat) (x x':α),l[i]?=some x->enc x'=QJ (enc x) k vs->QJ (l.flatMap enc) (i*sz+k) vs=(l.set i x').flatMap enc
 | [],i,x,x',h,_=>by cases h
 | y :: l,0,x,x',h,hx=>by
  cases h;rw [dP,cZ,dP,Nat.zero_mul,dY,QjQ _ _ _ _ (by rw [he];exact hk),hx]
 | y :: l,i+1,x,x',h,hx=>by
  rw [dP,dQ,dP,show (i+1)*sz+k=(enc y).length+(i*sz+k) by rw [he,jV];omega,XN,Qbn he hk l i x x' h hx]
def Vec {α:Type}(enc:α->List Value)(sz:Nat)(T:TypeId)(h0 h:Hp)(a:OaT)(c:Nat)(l:List α):Prop:=Qg h0 h T sz a l.length c (l.flatMap enc)
section
variable {α:Type}{enc:α->List Value}{sz:Nat}{T:TypeId}{h0 h:Hp}{a:OaT}{c:Nat}{l:List α}
theorem Vec.le0 (V:Vec enc sz T h0 h a c l):h0.le h:=Qg.le V
theorem Vec.slp (he:∀ x,(enc x).length=sz)(hz:0<sz)(V:Vec enc sz T h0 h a c l):SlP enc h a l.length l:=Qg.slp he hz V
theorem Vec.put (he:∀ x,(enc x).length=sz)(V:Vec enc sz T h0 h a c l){i:Nat}{x x':α}(hx:l[i]?=some x){k:Nat}{vs:List Value}(hv:0<vs.length)(hk:k+vs.length<=sz)(hx':enc x'=QJ (enc x) k vs) :
  ∃ b o,a=some ⟨b,o,none⟩/\∀ K:HpT,(∀ h',Vec enc sz T h0 h' a c (l.set i x')->K h')->h.store b (o+i*sz+k) vs K:=by
 have hi:i<l.length:=(bI.1 hx).1
 have hb:(i+1)*sz<=l.length*sz:=fE _ hi;rw [jV] at hb;rcases V.own.2 with ⟨ha,hn,_⟩|⟨g,cur,ha,_⟩
 ·omega
 ·refine⟨g,0,ha,fun K hK=>?_⟩
  rw [mY];refine Qg.store V (j:=i*sz+k) hv (by omega) ha fun ob V'=>hK _ ?_
  unfold Vec;rw [<-Qbn he hk l i x x' hx hx',dG];exact V'
theorem Vec.keep0 {h1:Hp}(V:Vec enc sz T h0 h a c l)(hl:h.le h1):Vec enc sz T h0 h1 a c l:=⟨Hp.le_trans V.le0 hl,(Qg.own V).le hl,Qg.new V⟩
variable {P:Program}
theorem Vec.app {t ty:TypeId}{bytes:Nat}(E:ElT P t T sz bytes)(he:∀ x,(enc x).length=sz)(h1:∀ x,∀ u ∈ enc x,u.oneCell'=true)(V:Vec enc sz T h0 h a c l)(hb:(l.length+1)*bytes<=140737488355328)(hb2:l.length+1<=140737488355328){x:α}{b:Nat}(hbn:h b=none){K:RtT}
  (hK:∀ a' c' h',Vec enc sz T h0 h' a' c' (l++[x])->K (vsl a' (l++[x]).length c') h'):Qh P (Builtin.append_ #[t,t] ty #[vsl a l.length c,vsl (some ⟨b,0,none⟩) 1 1]) (h.set b (Qb (enc x) T)) K:=by
 refine Qg.append E (Qg.set hbn _ V) (Qf.new _ _ (enc x) _) (m:=1) (by rw [he,j9]) (h1 x) hb hb2 fun a' c' h' O' _ _=>?_
 have:=hK a' c' h' (by
  unfold Vec;rw [bO,cX,dW];exact O')
 rw [bO] at this;exact this
theorem Vec.make {t:TypeId}{bytes:Nat}(E:ElT P t T sz bytes){z:List Value}(hz:(XV P T).map Qs=some z){x:α}(hx:enc x=z)(hzl:z.length=sz){n:Nat}(hn:n<=1000000)(hb:n*bytes<=140737488355328){K:RtT}
  (hK:∀ a h',Vec enc sz T h h' a n (List.replicate n x)->K (vsl a n n) h'):Qh P (Instr.makeSlice t (vi n) (vi n)) h K:=by
 refine Ua E hz hn hb fun b hb=>hK _ _ ?_
 unfold Vec;have e:(List.replicate n x).flatMap enc=(List.replicate n z).flatten:=by rw [List.flatMap_replicate,hx]
 rw [e,dK];exact Qg.mk_new (Hp.le_refl h) hb _ _ (by rw [jR];simp [hzl]) (by simp only [maxLen];omega)
end
structure Fp (P:Hp->(Nat->Prop)->Prop):Prop where
 al:∀{h F},P h F->∀ b,F b->h b≠none
 keep:∀{h h' F},P h F->(∀ b,F b->∀ o,h b=some o->h' b=some o)->P h' F
structure Qrq (h0 h:Hp)(F1 F2:NpT)(P Q:Hp->(Nat->Prop)->Prop):Prop where
 le:h0.le h
 n1:∀ b,F1 b->h0 b=none
 n2:∀ b,F2 b->h0 b=none
 d:∀ b,F1 b->¬ F2 b
 p:P h F1
 q:Q h F2
abbrev XA (α β:Type):=β × (OaT × Nat) × List α
section
variable {α β:Type}(enc:α->List Value)(rw_:β->Value->List Value)(sz:Nat)(T:TypeId)
def Zc (r:XA α β):List Value:=rw_ r.1 (vsl r.2.1.1 r.2.2.length r.2.1.2)
def QO (R:List (XA α β)):List (β × List α):=R.map fun r=>(r.1,r.2.2)
def Ky (h:Hp)(a:OaT)(n:Nat)(L:List (β × List α)):Prop:=∃ R:List (XA α β),QO R=L/\n=L.length/\Qf h a (R.flatMap (Zc rw_))/\∀ r ∈ R,Qf h r.2.1.1 (r.2.2.flatMap enc)
def Xg (G:NpT)(h0 h:Hp)(a:OaT)(c:Nat)(L:List (β × List α)):Prop:=
 ∃(R:List (XA α β)) (hd:Hp),QO R=L/\Qg h0 h T sz a L.length c (R.flatMap (Zc rw_))/\hd.le h/\(∀ g,a=some ⟨g,0,none⟩->hd g=none/\¬ G g)/\(∀ b,G b->hd b=none)/\∀ r ∈ R,Qf hd r.2.1.1 (r.2.2.flatMap enc)
end
section
variable {α β:Type}{enc:α->List Value}{rw_:β->Value->List Value}{sz:Nat}{T:TypeId}{G:NpT}{h0 h:Hp}{a:OaT}{c:Nat}{L:List (β × List α)}
theorem Ky.le {h':Hp}{n:Nat}(D:Ky enc rw_ h a n L)(hl:h.le h'):Ky enc rw_ h' a n L:=by
 obtain⟨R,e,hn,D,D2⟩:=D;exact⟨R,e,hn,D.le hl,fun r hr=>(D2 r hr).le hl⟩
theorem Xg.nil (hl:h0.le h):Xg enc rw_ sz T G h0 h none 0 []:=
 ⟨[],fun _=>none,rfl,Qg.nil hl _ _,(fun b o hb=>by cases hb),(fun g hg=>by cases hg),(fun b _=>rfl),(fun r hr=>by cases hr)⟩
theorem Xg.le0 (B:Xg enc rw_ sz T G h0 h a c L):h0.le h:=by
 obtain⟨R,hd,_,O,_⟩:=B;exact O.le
theorem Xg.own (B:Xg enc rw_ sz T G h0 h a c L):∃ xs,Qg h0 h T sz a L.length c xs:=by
 obtain⟨R,hd,_,O,_⟩:=B;exact⟨_,O⟩
theorem Xg.ne (B:Xg enc rw_ sz T G h0 h a c L){g:Nat}(hg:G g):a≠some ⟨g,0,none⟩:=by
 obtain⟨R,hd,_,_,_,hn,_⟩:=B;exact fun e=>(hn g e).2 hg
theorem Xg.tab (B:Xg enc rw_ sz T G h0 h a c L):Ky enc rw_ h a L.length L:=by
 obtain⟨R,hd,e,O,hl,_,_,hr⟩:=B;exact⟨R,e,rfl,O.own.row,fun r h1=>(hr r h1).le hl⟩
theorem Xg.keep {h':Hp}(B:Xg enc rw_ sz T G h0 h a c L)(hG:∀ b,G b->h0 b=none)(hk:∀ b o,¬ G b->h b=some o->h' b=some o):Xg enc rw_ sz T G h0 h' a c L:=by
 obtain⟨R,hd,e,O,hl,hn,hg,hr⟩:=B;refine⟨R,hd,e,⟨fun b o hb=>hk b o (fun q=>by rw [hG b q] at hb;cases hb) (O.le b o hb),O.own.keep fun g o ha hb=>hk g o (hn g ha).2 hb,O.new⟩,fun b o hb=>hk b o (fun q=>by rw [hg b q] at hb;cases hb) (hl b o hb),hn,hg,hr⟩
theorem Xg.grow {h':Hp}(B:Xg enc rw_ sz T G h0 h a c L)(hl:h.le h'):Xg enc rw_ sz T G h0 h' a c L:=by
 obtain⟨R,hd,e,O,hl2,hn,hg,hr⟩:=B;exact⟨R,hd,e,O.mono hl,Hp.le_trans hl2 hl,hn,hg,hr⟩
theorem Ky.row {n:Nat}(he:∀ x v,(rw_ x v).length=sz)(hz:0<sz)(D:Ky enc rw_ h a n L){j:Nat}{x:β}{l:List α}(hl:L[j]?=some (x,l)):∃ b o a' c',a=some ⟨b,o,none⟩/\h.row b (o+j*sz) sz=some (rw_ x (vsl a' l.length c'))/\SlP enc h a' l.length l:=by
 obtain⟨R,rfl,hn,D,D2⟩:=D;unfold QO at hl;rw [cU,dD] at hl
 obtain⟨r,hr,e⟩:=hl;have S:SlP (Zc rw_) h a R.length R:=⟨rfl,D⟩;obtain⟨b,o,ha,hrow⟩:=S.get (fun r=>he _ _) hz hr
 cases e;exact⟨b,o,r.2.1.1,r.2.1.2,ha,hrow,rfl,D2 r (bZ hr)⟩
theorem Ky.len {n:Nat}(D:Ky enc rw_ h a n L):n=L.length:=by
 obtain⟨R,_,hn,_⟩:=D;exact hn
theorem QmW {R:List (XA α β)}(e:QO R=L):R.length=L.length:=by rw [<-e];simp [QO]
variable {P:Program}
theorem Xg.app {tS:TypeId}{bytes:Nat}(E:ElT P tS T sz bytes)(B:Xg enc rw_ sz T G h0 h a c L){hB h1:Hp}(hl1:h.le h1)(hBG:∀ b,G b->hB b≠none)(hBa:∀ g,a=some ⟨g,0,none⟩->hB g≠none)
  {x:β} {a2:OaT} {c2:Nat} {l:List α} (H:Qf h1 a2 (l.flatMap enc)) (nw:∀ b o,a2=some ⟨b,o,none⟩->hB b=none) (h1c:∀ u ∈ rw_ x (vsl a2 l.length c2),u.oneCell'=true) (hsz:(rw_ x (vsl a2 l.length c2)).length=sz)
  (hG1:∀ b,G b->h1 b≠none) (hb:(L.length+1)*bytes<=140737488355328) (hb2:L.length+1<=140737488355328) {b:Nat} (hbn:h1 b=none) {ty:TypeId} {K:RtT}
  (hK:∀ a' c' h',Xg enc rw_ sz T G h0 h' a' c' (L++[(x,l)])->(∀ b o,h1 b=some o->a≠some ⟨b,0,none⟩->h' b=some o)->K (vsl a' (L.length+1) c') h') :
  Qh P (Builtin.append_ #[tS,tS] ty #[vsl a L.length c,vsl (some ⟨b,0,none⟩) 1 1]) (h1.set b (Qb (rw_ x (vsl a2 l.length c2)) T)) K:=by
 obtain⟨R,hd,eR,OT,hl,hn,hg,hr⟩:=B;have l2:h1.le (h1.set b (Qb (rw_ x (vsl a2 l.length c2)) T)):=Hp.le_set (Hp.le_refl h1) hbn _;have OT2:Qg h0 (h1.set b (Qb (rw_ x (vsl a2 l.length c2)) T)) T sz a L.length c (R.flatMap (Zc rw_)):=⟨Hp.le_trans (Hp.le_trans OT.le hl1) l2,(OT.own.le hl1).le l2,OT.new⟩;refine Qg.append E OT2 (Qf.new _ _ (rw_ x (vsl a2 l.length c2)) _) (m:=1) (by rw [hsz,j9]) h1c hb hb2 fun a' c' h' O' k1 k2=>hK a' c' h' ?_ fun b' o hb' hne=>k1 b' o (l2 b' o hb') hne
 refine⟨R++[(x,(a2,c2),l)],fun y=>if hd y≠none then hd y else if hB y=none then(if a=some ⟨y,0,none⟩ then none else h1 y) else none,by unfold QO at eR ⊢;rw [cD,eR];rfl,?_,?_,?_,?_,?_⟩
 ·rw [cX,bO];simp only [dP,List.flatMap_nil,d8];exact O'
 ·intro y o ho;simp only at ho;split at ho
  ·rename_i hne;refine k1 y o (l2 y o (hl1 y o (hl y o ho))) fun e=>?_
   exact hne (hn y e).1
  ·split at ho
   ·split at ho
    ·cases ho
    ·rename_i hne;exact k1 y o (l2 y o ho) hne
   ·cases ho
 ·intro g hga;simp only;rcases k2 g hga with e1|e1
  ·have ha:a=some ⟨g,0,none⟩:=e1.trans hga;obtain⟨q1,q2⟩:=hn g ha;rw [q1];refine⟨?_,q2⟩
   rw [bE (fun q=>q rfl),bE (hBa g ha)]
  ·have e2:h1 g=none:=Hp.none_of_le l2 e1;have e3:hd g=none:=by
    cases q:hd g with
    | none=>rfl
    | some o=>rw [hl1 g o (hl g o q)] at e2;cases e2
   rw [e3];refine⟨?_,fun q=>hG1 g q e2⟩
   rw [bE (fun q=>q rfl),e2]
   split
   ·split<;>rfl
   ·rfl
 ·intro y hy;simp only;rw [hg y hy,bE (fun q=>q rfl),bE (hBG y hy)]
 ·intro r hr2;rcases cP.1 hr2 with h3|h3
  ·refine(hr r h3).le fun y o ho=>?_
   rw [ho,bH (by simp)]
  ·rw [cB.1 h3];rcases H with q|⟨b',o',ha2,hrow⟩
   ·exact .inl q
   ·refine .inr ⟨b',o',ha2,?_⟩
    have q1:=nw b' o' ha2;have q2:¬ a=some ⟨b',0,none⟩:=fun e=>hBa b' e q1
    unfold Hp.row at hrow ⊢;simp only;by_cases q3:hd b'≠none
    ·rw [bH q3];cases q4:hd b' with
     | none=>exact absurd q4 q3
     | some o=>
      rw [hl1 b' o (hl b' o q4)] at hrow;exact hrow
    ·rw [bE q3,bH q1,bE q2];exact hrow
end
theorem Qdo {P:Program}{n:String}{texts:List (LuT)}{r:List (String × DataW Unit)}{W:World}{g:Nat}{t e:TypeId}(h:laidMet P ((n,.slice (texts.map fun l=>.lit (.string l)) []) :: r) W)
  (hg:P.globalNamed n=some g) (ht:(P.globals[g]?).map (·.type)=some t) (hu:P.underlying t=some (.slice e)) (he:P.underlying e=some .string) (hc:P.cellsOf e=1) (hne:0<texts.length) :
  ∃ a c,(MJ W).cell g 0=some (vsl a texts.length c)/\SlB (MJ W) a texts.length texts:=by
 obtain⟨ps,⟨g0,t0,cs0,f0,p0,q0,hg0,ht0,hv0,hd0,_,e0⟩,_,_⟩:=h;obtain rfl:=dL (hg.symm.trans hg0);obtain rfl:=dL (ht.symm.trans ht0);obtain⟨a,cap,hcs,hcap,hel⟩:=open_row hu hc hd0;rw [bU] at hcs hcap;have hcell:(MJ W).cell g 0=some (vsl (some a) texts.length cap):=by
  unfold World.var? at hv0;rw [hg] at hv0;simp only [jC] at hv0;unfold Hp.cell MJ;cases hb:W.heap[g]? with
  | none=>rw [hb] at hv0;cases hv0
  | some ob=>
   cases ob with
   | cells c tt f=>
    rw [hb] at hv0;simp only [bQ] at hv0;subst hv0;simp only;rw [<-Array.getElem?_toList,hcs]
    rfl
   | _=>rw [hb] at hv0;cases hv0
 have cells:∀ i l,texts[i]?=some l->W.cell? (a.add i)=some (vs (bs l)):=by
  intro i l hl;obtain⟨v,m,q,h1,h2⟩:=hel i (.lit (.string l)) (by rw [cU,hl];rfl)
  obtain⟨s,hs,hx,_⟩:=DataW.trod_string he h2;cases hs;have:s.data.toList=l:=by
   have:=congrArg Prod.fst hx;simp at this;exact this.symm
  rw [h1,<-this];simp [bs]
 obtain⟨l0,hl0⟩:∃ l0,texts[0]?=some l0:=⟨_,bD hne⟩
 have c0:=cells 0 l0 hl0;obtain⟨b,o,spot⟩:=a;have hs:spot=none:=by
  cases spot with
  | none=>rfl
  | some s=>
   simp only [Addr.add] at c0;unfold World.cell? at c0;simp at c0;split at c0<;>simp at c0
 subst hs;refine⟨_,_,hcell,rfl,.inr ⟨b,o,rfl,?_⟩⟩
 refine Qa4 (by
  intro hn;have:=congrArg List.length hn;rw [Qi ZM,fB,f8] at this;omega) ?_
 intro j x hx;have ad:∀ o k,(⟨b,o,none⟩:Addr).add k=⟨b,o+k,none⟩:=by intro o k;unfold Addr.add;split<;>simp_all
 have key:(texts.map fun l=>vs (bs l))[j]?=some x:=by
  have:(texts.flatMap YF)=texts.map fun l=>vs (bs l):=by
   clear hx cells hel hcell hcs hcap hd0 hne hl0;induction texts with
   | nil=>rfl
   | cons t l ih=>rw [dP,ih];rfl
  rw [<-this];exact hx
 rw [cU,dD] at key
 obtain⟨l,hl,rfl⟩:=key;have:=cells j l hl;rw [ad] at this;exact this
end Go.Vc
namespace Go.Proofs.YthicpjafcpfjoaaGreatDoor
noncomputable abbrev Pg:=Tryz.prog
open Go Go.Vc
theorem Qrg:Qax Pg:=by
 have h:(Pg.funcs.all fun fn=>!(fn.name == "runtime.NumGoroutine"))=true:=by kernel_rfl
 intro f fn hf;rw [Array.all_eq_true] at h;obtain⟨hlt,he⟩:=cT.mp hf
 have:=h f hlt;rw [he] at this;simpa using this
theorem mixed:Pg.follows .mixedOrders=true:=by kernel_rfl
theorem big:KH Pg:=QhC (by kernel_rfl) (by kernel_rfl)
theorem KQ:ElT Pg 46 3 1 8:=.of (by kernel_rfl) (by kernel_rfl) (by decide)
abbrev Ix (a:OaT)(b o:Nat)(x:Int)(n:Nat):Prop:=a=some ⟨b,o,none⟩/\(0:Int)<=x/\x<(n:Int)
abbrev RdG (o:BinOp)(t:TypeId)(x y:Operand)(v w:Value)(h:Hp)(r:Value):Prop:=Rd Pg (eqGuard o t x y v w >>= fun _=>binOp o t v w) h r
theorem callC (cfg:Cfg){f:FuncId}{fn:Func}(hf:Pg.funcs[f]?=some fn)(args:List TW){vs:List Value}{h:Hp}{R:RtT}{V:Prop}(H:V)(hn:Nat.ble args.length fn.ntmps=true:=by kernel_rfl)(hv:vs=args.map TW.val:=by rfl)(hV:V=Qoy Pg cfg fn args h R:=by kernel_rfl):Qa Pg f vs h R:=Qk9 Qrg mixed hf args hn hv hV H
theorem callO {f:FuncId}{fn:Func}(hf:Pg.funcs[f]?=some fn)(args:List TW){vs:List Value}{h:Hp}{R:RtT}{V:Prop}(H:V)(hn:Nat.ble args.length fn.ntmps=true:=by kernel_rfl)(hv:vs=args.map TW.val:=by rfl)(hV:V=Qoy Pg ⟨[],[],[]⟩ fn args h R:=by kernel_rfl):Qa Pg f vs h R:=Qk9 Qrg mixed hf args hn hv hV H
theorem QeE {u0:OaT}{u1 u2:Nat}{u3:OaT}{u4 u5:Nat}{u6:OaT}{u7 u8:Nat}{u9:Int}{u10:Int}{u11:Int}{u12:Int}{u13 u14:Nat}{u15 u16:Nat}{h:Hp}{R:RtT}(H:Qa Pg 53 [vhp u13 u14] h fun v1 h2=>∃ x3,v1=vi x3/\Qa Pg 59 [vag [vsl u0 u1 u2,vsl u3 u4 u5,vsl u6 u7 u8,vi u9,vi u10,vi u11,vi u12],vi x3] h2 fun v4 h5=>∃ q6 e7,v4=Qe [vp q6,ifv e7]/\((Option.isSome e7)=true->R (Qe [vp none,ifv e7]) h5)/\((Option.isSome e7)=false->Qa Pg 60 [vhp u15 u16] h5 fun v9 h10=>∃ s11 e12,v9=Qe [vs s11,ifv e12]/\((Option.isSome e12)=true->R (Qe [vp none,ifv e12]) h10)/\((Option.isSome e12)=false->∃ p14,RdG .neq 9 (.tmp 29) (.const (vs ⟨#[]⟩)) (vs s11) (vs ⟨#[]⟩) h10 (vb p14)/\let J24:OaT->Hp->Prop:=fun q26 h27=>(∃ b28 o29,q26=some ⟨b28,o29,none⟩/\∃ a30 n30 c30,Hp.cell h27 b28 (o29+12)=some (vsl a30 n30 c30)/\Qa Pg 58 [vsl a30 n30 c30] h27 fun v31 h32=>∃ a33 n33 c33,v31=vsl a33 n33 c33/\∀ b34,h32 b34=none->let h35:=Hp.set h32 b34 (Qb [vsl u0 u1 u2,vsl u3 u4 u5,vsl u6 u7 u8,vi u9,vi u10,vi u11,vi u12,vhp u13 u14,vhp u15 u16,vp q26,vsl a33 n33 c33] 123);R (Qe [vhp b34 0,ifv none]) h35);(p14=true->Qa Pg 53 [vhp u13 u14] h10 fun v15 h16=>∃ x17,v15=vi x17/\Qa Pg 61 [vs s11,vag [vsl u0 u1 u2,vsl u3 u4 u5,vsl u6 u7 u8,vi u9,vi u10,vi u11,vi u12],vi x17] h16 fun v18 h19=>∃ q20 e21,v18=Qe [vp q20,ifv e21]/\((Option.isSome e21)=true->R (Qe [vp none,ifv e21]) h19)/\((Option.isSome e21)=false->J24 q20 h19))/\(p14=false->J24 q6 h10)))):Qa Pg 18 [vag [vsl u0 u1 u2,vsl u3 u4 u5,vsl u6 u7 u8,vi u9,vi u10,vi u11,vi u12],vhp u13 u14,vhp u15 u16] h R:=callC ⟨[52],[],[(1,[0,1,2,3,4,5,6,7,8]),(8,[0,1,2,3,4,5,6,7,8,9]),(11,[0,1,2,3,4,5,6,7,8,9,10,11,12])]⟩ Tryz.func18 [.ag [.v (vsl u0 u1 u2),.v (vsl u3 u4 u5),.v (vsl u6 u7 u8),.v (vi u9),.v (vi u10),.v (vi u11),.v (vi u12)],.one (.hp u13 u14),.one (.hp u15 u16)] H
theorem Qb1 {u0:OaT}{u1 u2:Nat}{h:Hp}{R:RtT}(H:Qa Pg 122 [vsl u0 u1 u2] h fun v1 h2=>∃ a3 n3 c3,v1=vsl a3 n3 c3/\∃(I5:LtT) (m6:LmT),I5 [vi 0] h2/\∀ vs7 h8,I5 vs7 h8->∃ x9,vs7=[vi x9]/\((decide (x9<(n3:Int)))=true->∃ b12 o13,Ix a3 b12 o13 x9 n3/\∃ a14 n14 c14,Hp.cell h8 b12 (((o13+x9.toNat*5)+1)+3)=some (vsl a14 n14 c14)/\Qa Pg 123 [vsl a14 n14 c14] h8 fun v15 h16=>∃ a17 n17 c17,v15=vsl a17 n17 c17/\∃ b18 o19,Ix a3 b18 o19 x9 n3/\Hp.store h16 b18 (((o19+x9.toNat*5)+1)+3) [vsl a17 n17 c17] fun h20=>∃ x22,IsW x22 (x9+1)/\I5 [vi x22] h20/\m6 [vi x22] h20<m6 vs7 h8)/\((decide (x9<(n3:Int)))=false->R (vsl a3 n3 c3) h8)):Qa Pg 58 [vsl u0 u1 u2] h R:=callC ⟨[],[(3,([8],[.one (.int .i64)],[]))],[]⟩ Tryz.func58 [.one (.v (vsl u0 u1 u2))] H
theorem Vj {u0 u1:Nat}{u2:Int}{h:Hp}{R:RtT}(H:∃ q1,((decide (u2<0))=false->Hp.cell h u0 (u1+7)=some (vp q1))/\∃(J2:ShT),((decide (u2<0))=false->Qa Pg 53 [vp q1] h fun v3 h4=>∃ x5,v3=vi x5/\J2 (.t (.one (.v (vi x5)))) h4)/\(¬((decide (u2<0))=false)->J2 (.t (.one (.v (vi 0)))) h)/\∀ h6 x7,J2 (.t (.one (.v (vi x7)))) h6->((cond (decide (u2<0)) true (decide (u2>=x7)))=true->R (ifv (some (119,vi 5))) h6)/\((cond (decide (u2<0)) true (decide (u2>=x7)))=false->∃ q9,Hp.cell h6 u0 (u1+7)=some (vp q9)/\∃ q10,Hp.cell h6 u0 (u1+9)=some (vp q10)/\∃ b11 o12,q10=some ⟨b11,o12,none⟩/\∃ a13 n13 c13,Hp.cell h6 b11 (o12+8)=some (vsl a13 n13 c13)/\∃ b14 o15,Ix a13 b14 o15 u2 n13/\∃ x16,Hp.cell h6 b14 (o15+u2.toNat*1)=some (vi x16)/\Qa Pg 54 [vp q9,vi u2,vi x16] h6 fun v17 h18=>∃ x19 x20 x21 x22 x23 x24 x25 p26,v17=Qe [vag [vi x19,vi x20,vi x21,vi x22,vi x23,vi x24,vi x25],vb p26]/\((!p26)=true->R (ifv (some (119,vi 8))) h18)/\((!p26)=false->∃ q28,Hp.cell h18 u0 (u1+9)=some (vp q28)/\Qa Pg 55 [vp q28,vi u2,vag [vi x19,vi x20,vi x21,vi x22,vi x23,vi x24,vi x25]] h18 fun v29 h30=>v29=Qe []/\R (ifv none) h30))):Qa Pg 16 [vhp u0 u1,vi u2] h R:=callC ⟨[],[],[(3,[0,1,2,3,4,5,6,7,8,9,10,11,12,13,14,15,16,17,18,19,20,21]),(6,[0,1,2,3,4,5,6])]⟩ Tryz.func16 [.one (.hp u0 u1),.one (.v (vi u2))] H
theorem Vo {u0 u1:Nat}{h:Hp}{R:RtT}(H:∃ q1,Hp.cell h u0 (u1+8)=some (vp q1)/\∃ q2,Hp.cell h u0 (u1+9)=some (vp q2)/\Qa Pg 57 [vp q2] h fun v3 h4=>∃ s5,v3=vs s5/\Hp.cell h4 u0 (u1+8)=some (vp q1)/\Qa Pg 56 [vp q1,vs s5] h4 fun v6 h7=>∃ e8,v6=ifv e8/\let J19:HpT:=fun h20=>R (ifv e8) h20;((Option.isNone e8)=true->∃ q9,Hp.cell h7 u0 (u1+9)=some (vp q9)/\∃ b10 o11,q9=some ⟨b10,o11,none⟩/\∃ a12 n12 c12,Hp.cell h7 b10 (o11+12)=some (vsl a12 n12 c12)/\Qa Pg 58 [vsl a12 n12 c12] h7 fun v13 h14=>∃ a15 n15 c15,v13=vsl a15 n15 c15/\Hp.store h14 u0 (u1+10) [vsl a15 n15 c15] fun h16=>J19 h16)/\((Option.isNone e8)=false->J19 h7)):Qa Pg 17 [vhp u0 u1] h R:=callC ⟨[],[],[(1,[0,1,2,3,4,5,6,7,8,9,10])]⟩ Tryz.func17 [.one (.hp u0 u1)] H
theorem Vn {u0 u1:Nat}{h:Hp}{R:RtT}(H:∃ a1 n1 c1,Hp.cell h u0 (u1+10)=some (vsl a1 n1 c1)/\Qa Pg 58 [vsl a1 n1 c1] h fun v2 h3=>∃ a4 n4 c4,v2=vsl a4 n4 c4/\R (vsl a4 n4 c4) h3):Qa Pg 22 [vhp u0 u1] h R:=callO Tryz.func22 [.one (.hp u0 u1)] H
theorem JA {u0 u1:Nat}{h:Hp}{R:RtT}(H:∃ q1,Hp.cell h u0 (u1+9)=some (vp q1)/\∃ b2 o3,q1=some ⟨b2,o3,none⟩/\∃ a4 n4 c4,Hp.cell h b2 (o3+12)=some (vsl a4 n4 c4)/\∃ a5 n5 c5,Hp.cell h u0 (u1+10)=some (vsl a5 n5 c5)/\∃ x6,IsW x6 ((n4:Int)-(n5:Int))/\R (vi x6) h):Qa Pg 23 [vhp u0 u1] h R:=callC ⟨[],[],[(1,[0,1,2,3,4,5,6,7,8,9,10,11,12,13,14])]⟩ Tryz.func23 [.one (.hp u0 u1)] H
theorem Vb {u0 u1:Nat}{h:Hp}{R:RtT}(H:∃ q1,Hp.cell h u0 (u1+9)=some (vp q1)/\∃ b2 o3,q1=some ⟨b2,o3,none⟩/\∃ a4 n4 c4,Hp.cell h b2 (o3+8)=some (vsl a4 n4 c4)/\Qa Pg 64 [vsl a4 n4 c4] h fun v5 h6=>∃ a7 n7 c7,v5=vsl a7 n7 c7/\R (vsl a7 n7 c7) h6):Qa Pg 25 [vhp u0 u1] h R:=callO Tryz.func25 [.one (.hp u0 u1)] H
theorem Vr {u0 u1:Nat}{h:Hp}{R:RtT}(H:∃ q1,Hp.cell h u0 (u1+9)=some (vp q1)/\∃ b2 o3,q1=some ⟨b2,o3,none⟩/\∃ x4,Hp.cell h b2 (o3+11)=some (vi x4)/\R (vi x4) h):Qa Pg 26 [vhp u0 u1] h R:=callO Tryz.func26 [.one (.hp u0 u1)] H
theorem Vm {u0 u1:Nat}{h:Hp}{R:RtT}(H:∃ q1,Hp.cell h u0 (u1+9)=some (vp q1)/\∃ b2 o3,q1=some ⟨b2,o3,none⟩/\∃ a4 n4 c4,Hp.row h b2 (o3+9) 1=some [vsl a4 n4 c4]/\∃ x5,Hp.cell h u0 (u1+5)=some (vi x5)/\Qa Pg 62 [vag [vsl a4 n4 c4],vi x5] h fun v6 h7=>∃ x8 p9,v6=Qe [vi x8,vb p9]/\R (Qe [vi x8,vb p9]) h7):Qa Pg 19 [vhp u0 u1] h R:=callC ⟨[],[],[(1,[0,1,2,3,4,5,6,7,8,9,10,11,12,13,14,15,16])]⟩ Tryz.func19 [.one (.hp u0 u1)] H
theorem U9 {u0 u1:Nat}{h:Hp}{R:RtT}(H:∃ q1,Hp.cell h u0 (u1+9)=some (vp q1)/\∃ b2 o3,q1=some ⟨b2,o3,none⟩/\∃ a4 n4 c4,Hp.cell h b2 (o3+10)=some (vsl a4 n4 c4)/\R (vi (n4:Int)) h):Qa Pg 27 [vhp u0 u1] h R:=callO Tryz.func27 [.one (.hp u0 u1)] H
theorem Wt {u0:OaT}{u1 u2:Nat}{h:Hp}{R:RtT}(H:∃ p1,RdG .eql 48 (.tmp 3) (.const (vsl none 0 0)) (vsl u0 u1 u2) (vsl none 0 0) h (vb p1)/\(p1=true->R (vsl none 0 0) h)/\(p1=false->∀ b3,h b3=none->let h4:=Hp.set h b3 (Qb [] 95);Qh Pg (Builtin.append_ #[48,48] 48 #[(vsl (some (⟨b3,0,none⟩:Addr)) 0 0),vsl u0 u1 u2]) h4 fun v5 h6=>∃ a7 n7 c7,v5=vsl a7 n7 c7/\R (vsl a7 n7 c7) h6)):Qa Pg 122 [vsl u0 u1 u2] h R:=callO Tryz.func122 [.one (.v (vsl u0 u1 u2))] H
theorem Xs {u0:OaT}{u1 u2:Nat}{h:Hp}{R:RtT}(H:∃ p1,RdG .eql 91 (.tmp 3) (.const (vsl none 0 0)) (vsl u0 u1 u2) (vsl none 0 0) h (vb p1)/\(p1=true->R (vsl none 0 0) h)/\(p1=false->∀ b3,h b3=none->let h4:=Hp.set h b3 (Qb [] 54);Qh Pg (Builtin.append_ #[91,91] 91 #[(vsl (some (⟨b3,0,none⟩:Addr)) 0 0),vsl u0 u1 u2]) h4 fun v5 h6=>∃ a7 n7 c7,v5=vsl a7 n7 c7/\R (vsl a7 n7 c7) h6)):Qa Pg 123 [vsl u0 u1 u2] h R:=callO Tryz.func123 [.one (.v (vsl u0 u1 u2))] H
theorem Qel {u0:Bool}{h:Hp}{R:RtT}(H:(u0=true->R (vag [vi 2,vi 1]) h)/\(u0=false->R (vag [vi 2,vi 0]) h)):Qa Pg 110 [vb u0] h R:=callO Tryz.func110 [.one (.v (vb u0))] H
theorem Qbe {u0:Int}{u1:Int}{u2:Int}{u3:Int}{h:Hp}{R:RtT}(H:R (vb (cond (decide (u0=1)) (decide (u2=1)) false)) h):Qa Pg 214 [vag [vi u0,vi u1],vag [vi u2,vi u3]] h R:=callO Tryz.func214 [.ag [.v (vi u0),.v (vi u1)],.ag [.v (vi u2),.v (vi u3)]] H
theorem Qiz {u0:Int}{u1:Int}{u2:Int}{u3:Int}{u4:Int}{h:Hp}{R:RtT}(H:((decide (u0=9))=true->Qa Pg 213 [vag [vi u1,vi u2],vag [vi u3,vi u4]] h fun v1 h2=>∃ x3 x4,v1=vag [vi x3,vi x4]/\R (vag [vi x3,vi x4]) h2)/\((decide (u0=9))=false->((decide (u0=10))=true->Qa Pg 164 [vag [vi u1,vi u2]] h fun v5 h6=>∃ x7 x8,v5=vag [vi x7,vi x8]/\Qa Pg 164 [vag [vi u3,vi u4]] h6 fun v9 h10=>∃ x11 x12,v9=vag [vi x11,vi x12]/\Qa Pg 213 [vag [vi x7,vi x8],vag [vi x11,vi x12]] h10 fun v13 h14=>∃ x15 x16,v13=vag [vi x15,vi x16]/\Qa Pg 164 [vag [vi x15,vi x16]] h14 fun v17 h18=>∃ x19 x20,v17=vag [vi x19,vi x20]/\R (vag [vi x19,vi x20]) h18)/\((decide (u0=10))=false->Qa Pg 214 [vag [vi u1,vi u2],vag [vi u3,vi u4]] h fun v22 h23=>∃ p24,v22=vb p24/\((!p24)=true->Qa Pg 131 [] h23 fun v25 h26=>∃ x27 x28,v25=vag [vi x27,vi x28]/\R (vag [vi x27,vi x28]) h26)/\((!p24)=false->((decide (u0=6))=true->∃ x30,IsW x30 (u2+u4)/\Qa Pg 197 [vi x30] h23 fun v31 h32=>∃ x33 x34,v31=vag [vi x33,vi x34]/\R (vag [vi x33,vi x34]) h32)/\((decide (u0=6))=false->((decide (u0=7))=true->∃ x35,IsW x35 (u2-u4)/\Qa Pg 197 [vi x35] h23 fun v36 h37=>∃ x38 x39,v36=vag [vi x38,vi x39]/\R (vag [vi x38,vi x39]) h37)/\((decide (u0=7))=false->((decide (u0=8))=true->∃ x40,IsW x40 (u2*u4)/\Qa Pg 197 [vi x40] h23 fun v41 h42=>∃ x43 x44,v41=vag [vi x43,vi x44]/\R (vag [vi x43,vi x44]) h42)/\((decide (u0=8))=false->((decide (u0=11))=true->Qa Pg 110 [(vb (decide (u2<u4)))] h23 fun v45 h46=>∃ x47 x48,v45=vag [vi x47,vi x48]/\R (vag [vi x47,vi x48]) h46)/\((decide (u0=11))=false->((decide (u0=12))=true->Qa Pg 110 [(vb (decide (u2=u4)))] h23 fun v49 h50=>∃ x51 x52,v49=vag [vi x51,vi x52]/\R (vag [vi x51,vi x52]) h50)/\((decide (u0=12))=false->Qa Pg 131 [] h23 fun v54 h55=>∃ x56 x57,v54=vag [vi x56,vi x57]/\R (vag [vi x56,vi x57]) h55))))))))):Qa Pg 165 [vi u0,vag [vi u1,vi u2],vag [vi u3,vi u4]] h R:=callC ⟨[],[],[(5,[0,2,1,3,4,5,6])]⟩ Tryz.func165 [.one (.v (vi u0)),.ag [.v (vi u1),.v (vi u2)],.ag [.v (vi u3),.v (vi u4)]] H
theorem Qhn {u0:Int}{u1:Int}{u2:Int}{u3:Int}{h:Hp}{R:RtT}(H:Qa Pg 110 [vb false] h fun v1 h2=>∃ x3 x4,v1=vag [vi x3,vi x4]/\∃ p5,RdG .eql 54 (.tmp 8) (.tmp 9) (vag [vi u0,vi u1]) (vag [vi x3,vi x4]) h2 (vb p5)/\∃ p6,(p5=false->RdG .eql 54 (.tmp 12) (.tmp 13) (vag [vi u2,vi u3]) (vag [vi x3,vi x4]) h2 (vb p6))/\((cond p5 true p6)=true->R (vag [vi x3,vi x4]) h2)/\((cond p5 true p6)=false->((cond (decide (u0=2)) (decide (u2=2)) false)=true->Qa Pg 110 [vb true] h2 fun v7 h8=>∃ x9 x10,v7=vag [vi x9,vi x10]/\R (vag [vi x9,vi x10]) h8)/\((cond (decide (u0=2)) (decide (u2=2)) false)=false->Qa Pg 131 [] h2 fun v12 h13=>∃ x14 x15,v12=vag [vi x14,vi x15]/\R (vag [vi x14,vi x15]) h13))):Qa Pg 213 [vag [vi u0,vi u1],vag [vi u2,vi u3]] h R:=callO Tryz.func213 [.ag [.v (vi u0),.v (vi u1)],.ag [.v (vi u2),.v (vi u3)]] H
theorem Qhv {u0:Int}{u1:Int}{h:Hp}{R:RtT}(H:((decide (u0≠2))=true->Qa Pg 131 [] h fun v1 h2=>∃ x3 x4,v1=vag [vi x3,vi x4]/\R (vag [vi x3,vi x4]) h2)/\((decide (u0≠2))=false->Qa Pg 110 [(vb (decide (u1=0)))] h fun v6 h7=>∃ x8 x9,v6=vag [vi x8,vi x9]/\R (vag [vi x8,vi x9]) h7)):Qa Pg 164 [vag [vi u0,vi u1]] h R:=callO Tryz.func164 [.ag [.v (vi u0),.v (vi u1)]] H
theorem QhO {u0:Int}{u1:Int}{h:Hp}{R:RtT}(H:((decide (u0≠1))=true->Qa Pg 131 [] h fun v1 h2=>∃ x3 x4,v1=vag [vi x3,vi x4]/\R (vag [vi x3,vi x4]) h2)/\((decide (u0≠1))=false->∃ x6,IsW x6 (-u1)/\Qa Pg 197 [vi x6] h fun v7 h8=>∃ x9 x10,v7=vag [vi x9,vi x10]/\R (vag [vi x9,vi x10]) h8)):Qa Pg 163 [vag [vi u0,vi u1]] h R:=callO Tryz.func163 [.ag [.v (vi u0),.v (vi u1)]] H
theorem Qfx {h:Hp}{R:RtT}(H:R (vag [vi 0,vi 0]) h):Qa Pg 131 [] h R:=callO Tryz.func131 [] H
theorem Qcw {u0:Int}{h:Hp}{R:RtT}(H:((cond (decide (u0<(-1000000000))) true (decide (u0>1000000000)))=true->R (vag [vi 0,vi 0]) h)/\((cond (decide (u0<(-1000000000))) true (decide (u0>1000000000)))=false->R (vag [vi 1,vi u0]) h)):Qa Pg 197 [vi u0] h R:=callO Tryz.func197 [.one (.v (vi u0))] H
def Qq (v:Int × Int):List Value:=[vi v.1,vi v.2]
theorem Ys (v:Int × Int):(Qq v).length=2:=rfl
def Xa (n:Int):Int × Int:=if n < -1000000000\/n>1000000000 then(0,0) else(1,n)
theorem QK {n:Int}{h:Hp}{R:RtT}(hK:R (vag (Qq (Xa n))) h):Qa Pg 197 [vi n] h R:=by
 refine Qcw ?_
 refine⟨fun e=>?_,fun e=>?_⟩
 ·simp [bT] at e;have:Xa n=(0,0):=by unfold Xa;rw [bH (by omega)]
  rw [this] at hK;exact hK
 ·simp [bT] at e;have:Xa n=(1,n):=by unfold Xa;rw [bE (by omega)]
  rw [this] at hK;exact hK
theorem Zy {h:Hp}{R:RtT}(hK:R (vag (Qq (0,0))) h):Qa Pg 131 [] h R:=Qfx hK
theorem QnA (a b c d:Int):VN Pg 8 54 [vi a,vi b] [vi c,vi d]=some (decide (a=c)&&(decide (b=d)&&true)):=by kernel_rfl
theorem Qqb (a b:Int × Int):(decide (a.1=b.1)&&(decide (a.2=b.2)&&true))=decide (a=b):=by
 obtain⟨a1,a2⟩:=a;obtain⟨b1,b2⟩:=b;rw [Bool.eq_iff_iff];simp [Prod.ext_iff]
theorem XI {h:Hp}{x y:Operand}{a b:Int × Int}:Rd Pg (eqGuard .eql 54 x y (vag (Qq a)) (vag (Qq b)) >>= fun _=>binOp .eql 54 (vag (Qq a)) (vag (Qq b))) h (vb (decide (a=b))):=by
 rw [<-Qqb];exact QqD (QnA _ _ _ _) (by kernel_rfl) (by kernel_rfl)
theorem QcT {h:Hp}{x y:Operand}{a b:Int × Int}:Rd Pg (eqGuard .neq 54 x y (vag (Qq a)) (vag (Qq b)) >>= fun _=>binOp .neq 54 (vag (Qq a)) (vag (Qq b))) h (vb (!decide (a=b))):=by
 rw [<-Qqb];exact Qqu (QnA _ _ _ _) (by kernel_rfl) (by kernel_rfl)
def ZW (v:Int × Int):Prop:=-1000000000<=v.2/\v.2<=1000000000
def Qo (v:Int × Int):Prop:=(v.1=0/\v.2=0)\/(v.1=1/\-1000000000<=v.2/\v.2<=1000000000)\/(v.1=2/\(v.2=0\/v.2=1))
instance (v:Int × Int):Decidable (Qo v):=by unfold Qo;infer_instance
theorem Qo.small {v:Int × Int}(h:Qo v):ZW v:=by
 unfold Qo at h;unfold ZW;omega
def QG (f:Int):OtT:=if f=0 then none else some (119,vi f)
theorem Md {f:Int}:(QG f).isNone=decide (f=0):=by
 unfold QG;by_cases h:f=0<;>simp [h]
theorem Zj {f:Int}:(QG f).isSome=!decide (f=0):=by
 unfold QG;by_cases h:f=0<;>simp [h]
def w64 (x:Int):Int:=IntKind.i64.wrap x
theorem Jk (x:Int):IsW (w64 x) x:=rfl
theorem Qqp {x:Int}(h:InR x):w64 x=x:=(isW h).symm
def Zf (b:Bool):Int × Int:=(2,if b then 1 else 0)
def Qad (a b:Int × Int):Int × Int:=if a=(2,0)\/b=(2,0) then(2,0) else if a.1=2/\b.1=2 then(2,1) else(0,0)
def JB (a:Int × Int):Int × Int:=if a.1=2 then Zf (decide (a.2=0)) else(0,0)
def Qar (a:Int × Int):Int × Int:=if a.1=1 then Xa (w64 (-a.2)) else(0,0)
def doV (op:Int)(a b:Int × Int):Int × Int:=
 if op=9 then Qad a b else if op=10 then JB (Qad (JB a) (JB b)) else if a.1=1/\b.1=1 then
  (if op=6 then Xa (w64 (a.2+b.2)) else if op=7 then Xa (w64 (a.2-b.2)) else if op=8 then Xa (w64 (a.2*b.2)) else if op=11 then Zf (decide (a.2<b.2)) else if op=12 then Zf (decide (a.2=b.2)) else(0,0))
 else(0,0)
def Nv (x y:Int):Int:=if x<y then -1 else if x>y then 1 else 0
def QmK (a b:Int × Int):Int:=if Nv a.1 b.1≠0 then Nv a.1 b.1 else Nv a.2 b.2
theorem QP {b:Bool}{h:Hp}{R:RtT}(hK:R (vag (Qq (Zf b))) h):Qa Pg 110 [vb b] h R:=by
 refine Qel ?_
 cases b with
 | true=>exact⟨fun _=>hK,fun e=>by cases e⟩
 | false=>exact⟨fun e=>by (cases e),fun _=>hK⟩
theorem Qbx {a b:Int × Int}{h:Hp}{R:RtT}(hK:R (vb (decide (a.1=1/\b.1=1))) h):Qa Pg 214 [vag (Qq a),vag (Qq b)] h R:=by
 refine Qbe ?_
 have:(bif (decide (a.1=1)) then(decide (b.1=1)) else false)=decide (a.1=1/\b.1=1):=by by_cases h1:a.1=1<;>by_cases h2:b.1=1<;>simp [h1,h2]
 rw [this];exact hK
theorem QaR {a b:Int × Int}{h:Hp}{R:RtT}(hK:R (vag (Qq (Qad a b))) h):Qa Pg 213 [vag (Qq a),vag (Qq b)] h R:=by
 refine Qhn ?_
 refine QP ⟨_,_,rfl,_,XI (a:=a) (b:=(2,0)),_,fun _=>XI (a:=b) (b:=(2,0)),fun e=>?_,fun e=>⟨fun e2=>?_,fun e2=>?_⟩⟩
 ·have:a=(2,0)\/b=(2,0):=by simpa [bT] using e
  unfold Qad at hK;rw [bH this] at hK;exact hK
 all_goals have h1:¬(a=(2,0)\/b=(2,0)):=by simpa [bT] using e
 all_goals unfold Qad at hK
 all_goals rw [bE h1] at hK
 ·rw [bH (by simpa [bT] using e2)] at hK
  exact QP ⟨_,_,rfl,hK⟩
 ·rw [bE (by simpa [bT] using e2)] at hK
  exact Zy ⟨_,_,rfl,hK⟩
theorem Kz {a:Int × Int}{h:Hp}{R:RtT}(hK:R (vag (Qq (JB a))) h):Qa Pg 164 [vag (Qq a)] h R:=by
 refine Qhv ?_
 unfold JB at hK;refine⟨fun e=>?_,fun e=>?_⟩
 ·rw [bE (by simpa using e)] at hK
  exact Zy ⟨_,_,rfl,hK⟩
 ·rw [bH (by simpa using e)] at hK
  exact QP ⟨_,_,rfl,hK⟩
theorem QhF {a:Int × Int}{h:Hp}{R:RtT}(hK:R (vag (Qq (Qar a))) h):Qa Pg 163 [vag (Qq a)] h R:=by
 refine QhO ?_
 unfold Qar at hK;refine⟨fun e=>?_,fun e=>?_⟩
 ·rw [bE (by simpa using e)] at hK
  exact Zy ⟨_,_,rfl,hK⟩
 ·rw [bH (by simpa using e)] at hK
  exact⟨_,Jk _,QK ⟨_,_,rfl,hK⟩⟩
theorem Qb4 {op:Int}{a b:Int × Int}{h:Hp}{R:RtT}(hK:R (vag (Qq (doV op a b))) h):Qa Pg 165 [vi op,vag (Qq a),vag (Qq b)] h R:=by
 refine Qiz ?_
 unfold doV at hK;refine⟨fun e=>?_,fun e=>?_⟩
 ·rw [bH (bC e)] at hK;exact QaR ⟨_,_,rfl,hK⟩
 rw [bE (bB e)] at hK;refine⟨fun e=>?_,fun e=>?_⟩
 ·rw [bH (bC e)] at hK;exact Kz ⟨_,_,rfl,Kz ⟨_,_,rfl,QaR ⟨_,_,rfl,Kz ⟨_,_,rfl,hK⟩⟩⟩⟩
 rw [bE (bB e)] at hK;refine Qbx ⟨_,rfl,fun e=>?_,fun e=>?_⟩
 ·rw [bE (by simp at e;omega)] at hK
  exact Zy ⟨_,_,rfl,hK⟩
 rw [bH (by simpa using e)] at hK
 refine⟨fun e=>?_,fun e=>?_⟩
 ·rw [bH (bC e)] at hK;exact⟨_,Jk _,QK ⟨_,_,rfl,hK⟩⟩
 rw [bE (bB e)] at hK;refine⟨fun e=>?_,fun e=>?_⟩
 ·rw [bH (bC e)] at hK;exact⟨_,Jk _,QK ⟨_,_,rfl,hK⟩⟩
 rw [bE (bB e)] at hK;refine⟨fun e=>?_,fun e=>?_⟩
 ·rw [bH (bC e)] at hK;exact⟨_,Jk _,QK ⟨_,_,rfl,hK⟩⟩
 rw [bE (bB e)] at hK;refine⟨fun e=>?_,fun e=>?_⟩
 ·rw [bH (bC e)] at hK;exact QP ⟨_,_,rfl,hK⟩
 rw [bE (bB e)] at hK;refine⟨fun e=>?_,fun e=>?_⟩
 ·rw [bH (bC e)] at hK;exact QP ⟨_,_,rfl,hK⟩
 rw [bE (bB e)] at hK;exact Zy ⟨_,_,rfl,hK⟩
theorem QcI {u0:Int}{u1:Int}{h:Hp}{R:RtT}(H:((cond (cond (cond (decide (u0=0)) (decide (u1=0)) false) true (cond (cond (decide (u0=1)) (decide (u1>=(-1000000000))) false) (decide (u1<=1000000000)) false)) true (cond (decide (u0=2)) (cond (decide (u1=0)) true (decide (u1=1))) false))=true->R (vi 0) h)/\((cond (cond (cond (decide (u0=0)) (decide (u1=0)) false) true (cond (cond (decide (u0=1)) (decide (u1>=(-1000000000))) false) (decide (u1<=1000000000)) false)) true (cond (decide (u0=2)) (cond (decide (u1=0)) true (decide (u1=1))) false))=false->R (vi 3) h)):Qa Pg 248 [vag [vi u0,vi u1]] h R:=callO Tryz.func248 [.ag [.v (vi u0),.v (vi u1)]] H
abbrev EvL:=Int × (Int × Int) × (Int × Int) × (Int × Int)
def Xo (e:EvL):List Value:=[vi e.1,vi e.2.1.1,vi e.2.1.2,vi e.2.2.1.1,vi e.2.2.1.2,vi e.2.2.2.1,vi e.2.2.2.2]
theorem Qew (e:EvL):(Xo e).length=7:=rfl
theorem Qjh (e:EvL):∀ u ∈ Xo e,u.oneCell'=true:=by
 intro u hu;simp [Xo] at hu;rcases hu with rfl|rfl|rfl|rfl|rfl|rfl|rfl<;>rfl
theorem Qpo (l:List EvL):∀ u ∈ l.flatMap Xo,u.oneCell'=true:=by
 intro u hu;obtain⟨v,_,hv⟩:=fP.1 hu;exact Qjh v u hv
def Qcz (v:Int × Int):Int:=if ¬ Qo v\/v.1=2 then 3 else if v.2 < -1000\/v.2>1000 then 1 else 0
def QjX:List (Int × Int)->Int
 | []=>0
 | v :: l=>if Qcz v=0 then QjX l else Qcz v
def QcD (e:EvL):Int:=if e.1<0\/e.1>9999 then 1 else QjX [e.2.1,e.2.2.1,e.2.2.2]
theorem QcA {v:Int × Int}{h:Hp}{R:RtT}(hK:R (vi (if Qo v then 0 else 3)) h):Qa Pg 248 [vag (Qq v)] h R:=by
 refine QcI ?_
 refine⟨fun e=>?_,fun e=>?_⟩
 ·rw [bH (by unfold Qo;simp [bT] at e;omega)] at hK;exact hK
 ·rw [bE (by unfold Qo;simp [bT] at e;omega)] at hK;exact hK
theorem Qdw {α:Type}{l:List α}{i:Nat}(h:i<l.length):l.drop i=l[i] :: l.drop (i+1):=dM h
structure Nd where
 op:Int
 x:Int
 y:Int
 n:Int
 v:Int × Int
deriving DecidableEq
def arI (op:Int):Int:=if op=1\/op=2 then 0 else if 3<=op/\op<=5 then 1 else if 6<=op/\op<=12 then 2 else -1
def QX (n:Nd):Int:=
 if arI n.op<0 then 3 else if (n.op≠1/\n.v≠(0,0))\/(n.op≠2/\n.n≠0)\/(arI n.op<2/\n.y≠0)\/(arI n.op<1/\n.x≠0) then 3 else if n.op=2/\(n.n<0\/n.n>3) then 1 else if ¬ Qo n.v then 3 else 0
def ZN (n:Nd)(st:List Int):Option (List Int):=
 if arI n.op=0 then some st else if arI n.op=1 then
  match st with
  | a :: s=>if a=n.x then some s else none
  | []=>none
 else
  match st with
  | b :: a :: s=>if a=n.x/\b=n.y then some s else none
  | _=>none
def Ze (st:List Int)(i:Nat):List Nd->Int
 | []=>if st.length=1 then 0 else 3
 | n :: l=>if QX n≠0 then QX n else match ZN n st with
  | none=>3
  | some s=>Ze (i :: s) (i+1) l
def YN (l:List Nd):Int:=if l.length>40 then 2 else Ze [] 0 l
theorem QpI (n:Nd):0<=QX n:=by unfold QX;split<;>(try split)<;>(try split)<;>(try split)<;>decide
theorem QlE:∀(l:List Nd) (st:List Int) (i:Nat),0<=Ze st i l
 | [],st,i=>by rw [Ze];split<;>decide
 | n :: l,st,i=>by
  rw [Ze];split
  ·exact QpI n
  ·split
   ·decide
   ·exact QlE l _ _
theorem Qlh (l:List Nd):0<=YN l:=by
 unfold YN;split
 ·decide
 ·exact QlE _ _ _
inductive Blk (l:List Nd):Nat->Nat->Prop where
 | leaf {i:Nat} {n:Nd}:l[i]?=some n->arI n.op=0->Blk l i (i+1)
 | one {f i:Nat} {n:Nd}:Blk l f i->l[i]?=some n->arI n.op=1->n.x=(i:Int)-1->Blk l f (i+1)
 | two {f g i:Nat} {n:Nd}:Blk l f g->Blk l g i->l[i]?=some n->arI n.op=2->n.x=(g:Int)-1->n.y=(i:Int)-1->Blk l f (i+1)
theorem Blk.lt {l:List Nd}{f e:Nat}(B:Blk l f e):f<e/\e<=l.length:=by
 induction B with
 | leaf h _=>exact⟨jG _,(bI.1 h).1⟩
 | one _ h _ _ ih=>exact⟨by omega,(bI.1 h).1⟩
 | two _ _ h _ _ _ ih1 ih2=>exact⟨by omega,(bI.1 h).1⟩
inductive Stk (l:List Nd):List Int->Nat->Prop where
 | nil:Stk l [] 0
 | push {s:List Int} {f e:Nat}:Stk l s f->Blk l f e->Stk l (((e:Int)-1) :: s) e
theorem QM {op:Int}(h:0<=arI op):arI op=0\/arI op=1\/arI op=2:=by
 unfold arI at *
 split<;>(try split)<;>(try split)<;>simp_all
theorem Qap {n:Nd}(h:QX n=0):0<=arI n.op:=by
 unfold QX at h;split at h
 ·cases h
 ·omega
theorem Qnb {l:List Nd}{st s:List Int}{i:Nat}{n:Nd}(hn:l[i]?=some n)(h0:QX n=0)(S:Stk l st i)(h:ZN n st=some s):Stk l ((i:Int) :: s) (i+1):=by
 have key:∀{f:Nat} {s:List Int},Stk l s f->Blk l f (i+1)->Stk l ((i:Int) :: s) (i+1):=by
  intro f s S B;have:=Stk.push S B;rw [show ((i+1:Nat):Int)-1=i by omega] at this
  exact this
 unfold ZN at h;rcases QM (Qap h0) with h1|h1|h1
 ·rw [bH h1] at h;cases h;exact key S (.leaf hn h1)
 ·rw [bE (by omega),bH h1] at h
  cases S with
  | nil=>cases h
  | push S B=>
   simp only at h;split at h
   ·rename_i hx;cases h;exact key S (.one B hn h1 hx.symm)
   ·cases h
 ·rw [bE (by omega),bE (by omega)] at h
  cases S with
  | nil=>cases h
  | push S B=>
   cases S with
   | nil=>cases h
   | push S B'=>
    simp only at h;split at h
    ·rename_i hx;cases h;exact key S (.two B' B hn h1 hx.1.symm hx.2.symm)
    ·cases h
theorem Qig (l:List Nd):∀(r:List Nd) (st:List Int) (i:Nat),l.drop i=r->i<=l.length->Stk l st i->Ze st i r=0->(∀ n ∈ r,QX n=0)/\∃ z,Stk l [z] l.length
 | [],st,i,hr,hi,S,h=>by
  have:i=l.length:=by have:=congrArg List.length hr;simp at this;omega
  subst this;rw [Ze] at h;split at h
  ·rename_i h1;match st,h1 with
   | [z],_=>exact⟨by simp,z,S⟩
  ·cases h
 | n :: r,st,i,hr,hi,S,h=>by
  have hlt:i<l.length:=by have:=congrArg List.length hr;simp at this;omega
  have hn:l[i]?=some n:=by
   have:=congrArg List.head? hr;rw [kJ] at this
   exact this
  have hr':l.drop (i+1)=r:=by rw [<-gZ,hr];rfl
  rw [Ze] at h;split at h
  ·rename_i h1;exact absurd h h1
  ·rename_i h1;have h0:QX n=0:=by simpa using h1
   split at h
   ·cases h
   ·rename_i s hs;obtain⟨q1,q2⟩:=Qig l r _ (i+1) hr' hlt (Qnb hn h0 S hs) h;refine⟨fun m hm=>?_,q2⟩
    rcases bX.1 hm with rfl|hm
    ·exact h0
    ·exact q1 m hm
theorem Qpc {l:List Nd}{z:Int}{e:Nat}(S:Stk l [z] e):Blk l 0 e:=by
 cases S with
 | push S B=>
  cases S with
  | nil=>exact B
structure OkE (l:List Nd):Prop where
 n:∀ n ∈ l,QX n=0
 b:Blk l 0 l.length
theorem KJ {l:List Nd}(h:Ze [] 0 l=0):OkE l:=by
 obtain⟨h1,z,h2⟩:=Qig l l [] 0 rfl (cH _) .nil h;exact⟨h1,Qpc h2⟩
theorem Yb {l:List Nd}(h:YN l=0):OkE l/\l.length<=40:=by
 unfold YN at h;split at h
 ·cases h
 ·exact⟨KJ h,by omega⟩
theorem OkE.pos {l:List Nd}(O:OkE l):0<l.length:=O.b.lt.1
theorem Blk.sub {l:List Nd}{f e:Nat}(B:Blk l f e):∀ i,f<=i->i<e->∃ g,f<=g/\Blk l g (i+1):=by
 induction B with
 | @leaf j n h h0=>
   intro i h1 h2;obtain rfl:i=j:=by omega
   exact⟨i,cJ _,.leaf h h0⟩
 | @one f j n B h h0 hx ih=>
  intro i h1 h2;by_cases hij:i=j
  ·subst hij;exact⟨f,cJ _,.one B h h0 hx⟩
  ·exact ih i h1 (by omega)
 | @two f g j n B B' h h0 hx hy ih1 ih2=>
  intro i h1 h2;have:=B.lt;by_cases hij:i=j
  ·subst hij;exact⟨f,cJ _,.two B B' h h0 hx hy⟩
  ·by_cases hg:i<g
   ·exact ih1 i h1 hg
   ·obtain⟨k,hk,hb⟩:=ih2 i (by omega) (by omega)
    exact⟨k,by omega,hb⟩
structure WfN (i:Nat)(n:Nd):Prop where
 a:0<=arI n.op
 f:n.op=2->0<=n.n/\n.n<=3
 x:1<=arI n.op->0<=n.x/\n.x<i
 y:2<=arI n.op->0<=n.y/\n.y<i
def WfL (l:List Nd):Prop:=∀(i:Nat) (n:Nd),l[i]?=some n->WfN i n
theorem QpL {n:Nd}(h:QX n=0)(h2:n.op=2):0<=n.n/\n.n<=3:=by
 unfold QX at h;split at h
 ·cases h
 ·split at h
  ·cases h
  ·split at h
   ·cases h
   ·omega
theorem OkE.wf {l:List Nd}(O:OkE l):WfL l:=by
 intro i n hn;have hlt:=(bI.1 hn).1
 have h0:=O.n n (bZ hn);obtain⟨g,_,B⟩:=O.b.sub i (cH _) hlt;refine⟨Qap h0,QpL h0,fun h1=>?_,fun h1=>?_⟩
 ·cases B with
  | leaf h ha=>rw [hn] at h;cases h;omega
  | one B h ha hx=>rw [hn] at h;cases h;have:=B.lt;omega
  | two B B' h ha hx hy=>rw [hn] at h;cases h;have:=B.lt;have:=B'.lt;omega
 ·cases B with
  | leaf h ha=>rw [hn] at h;cases h;omega
  | one B h ha hx=>rw [hn] at h;cases h;omega
  | two B B' h ha hx hy=>rw [hn] at h;cases h;have:=B.lt;have:=B'.lt;omega
def shN (d:Int)(n:Nd):Nd:={ n with x:=if 0<arI n.op then n.x+d else n.x,y:=if 1<arI n.op then n.y+d else n.y }
theorem QhA (d:Int)(n:Nd):(shN d n).op=n.op:=rfl
theorem Qrb (n:Nd):shN 0 n=n:=by
 unfold shN;simp
theorem QnG {d:Int}{n:Nd}(h:QX n=0):QX (shN d n)=0:=by
 have ha:=Qap h;have hy:(arI n.op<2/\(shN d n).y≠0)↔(arI n.op<2/\n.y≠0):=by unfold shN;simp only;constructor<;>(rintro⟨h1,h2⟩;rw [bE (by omega)] at *;exact⟨h1,h2⟩)
 have hx:(arI n.op<1/\(shN d n).x≠0)↔(arI n.op<1/\n.x≠0):=by unfold shN;simp only;constructor<;>(rintro⟨h1,h2⟩;rw [bE (by omega)] at *;exact⟨h1,h2⟩)
 have e:QX (shN d n)=QX n:=by unfold QX;rw [QhA];simp only [hx,hy];rfl
 rw [e];exact h
def seg (l:List Nd)(f e:Nat):List Nd:=(l.drop f).take (e-f)
theorem Qen {l:List Nd}{f i:Nat}{n:Nd}(hf:f<=i)(h:l[i]?=some n):seg l f (i+1)=seg l f i++[n]:=by
 unfold seg;rw [show i+1-f=(i-f)+1 by omega,kS,fK,show f+(i-f)=i by omega,h]
 rfl
theorem Qps {l:List Nd}{f:Nat}:seg l f f=[]:=by unfold seg;simp
theorem QpC {l:List Nd}{f g e:Nat}(h1:f<=g)(h2:g<=e):seg l f e=seg l f g++seg l g e:=by
 unfold seg;rw [show e-f=(g-f)+(e-g) by omega,List.take_add,gZ,show f+(g-f)=g by omega]
theorem Qpa (l:List Nd):seg l 0 l.length=l:=by unfold seg;simp
theorem Blk.chk {l:List Nd}(hN:∀ n ∈ l,QX n=0){f e:Nat}(B:Blk l f e):∀(st:List Int) (i:Nat) (r:List Nd),
  Ze st i ((seg l f e).map (shN ((i:Int)-f))++r)=Ze ((((i+(e-f):Nat):Int)-1) :: st) (i+(e-f)) r:=by
 induction B with
 | @leaf j n h h0=>
  intro st i r;rw [Qen (cJ _) h,Qps];simp only [dC,dE,kV,dN];rw [Ze,bE (by simp [QnG (hN n (bZ h))])]
  unfold ZN;rw [QhA,bH h0];simp only;rw [show j+1-j=1 by omega,show ((i+1:Nat):Int)-1=i by omega]
 | @one f j n B h h0 hx ih=>
  intro st i r;have hlt:=B.lt;rw [Qen (by omega) h,cD,cG,ih]
  simp only [dE,kV,dN,dC];rw [Ze,bE (by simp [QnG (hN n (bZ h))])]
  unfold ZN;rw [QhA,bE (by omega),bH h0]
  have e1:(((i+(j-f):Nat):Int)-1)=(shN ((i:Int)-f) n).x:=by
   unfold shN;simp only;rw [bH (by omega),hx]
   omega
  simp only;rw [bH e1,show j+1-f=(j-f)+1 by omega]
  simp only;rw [show ((i+(j-f+1):Nat):Int)-1=((i+(j-f):Nat):Int) by omega,<-mY]
 | @two f g j n B B' h h0 hx hy ih1 ih2=>
  intro st i r;have hlt:=B.lt;have hlt':=B'.lt;rw [Qen (by omega) h,QpC (g:=g) (by omega) (by omega),cD,cD,cG,cG,ih1]
  have e0:((i:Int)-f)=(((i+(g-f):Nat):Int)-g):=by omega
  have e00:(seg l g j).map (shN ((i:Int)-f))=(seg l g j).map (shN (((i+(g-f):Nat):Int)-g)):=by rw [e0]
  rw [e00,ih2];simp only [dE,kV,dN,dC];rw [Ze,bE (by simp [QnG (hN n (bZ h))])]
  unfold ZN;rw [QhA,bE (by omega),bE (by omega)]
  have e1:(((i+(g-f):Nat):Int)-1)=(shN ((i:Int)-f) n).x:=by
   unfold shN;simp only;rw [bH (by omega),hx]
   omega
  have e2:(((i+(g-f)+(j-g):Nat):Int)-1)=(shN ((i:Int)-f) n).y:=by
   unfold shN;simp only;rw [bH (by omega),hy]
   omega
  simp only;rw [bH ⟨e1,e2⟩];simp only;rw [show i+(g-f)+(j-g)+1=i+(j+1-f) by omega,show ((i+(g-f)+(j-g):Nat):Int)=((i+(j+1-f):Nat):Int)-1 by omega]
def ZX (l:List Nd)(f e:Nat):List Nd:=(seg l f e).map (shN (-(f:Int)))
theorem Qn6 {l:List Nd}(hN:∀ n ∈ l,QX n=0){f e:Nat}(B:Blk l f e):Ze [] 0 (ZX l f e)=0:=by
 have:=B.chk hN [] 0 [];rw [d8,show ((0:Nat):Int)-f=-(f:Int) by omega] at this
 unfold ZX;rw [this];rfl
theorem GL {l:List Nd}{f e:Nat}(B:Blk l f e):(ZX l f e).length=e-f:=by
 have:=B.lt;unfold ZX seg;rw [bU,bV,dO];omega
def Z6 (op:Int)(l m:List Nd):List Nd:=l++m.map (shN l.length)++[⟨op,(l.length:Int)-1,if 1<arI op then((l.length+m.length:Nat):Int)-1 else 0,0,(0,0)⟩]
theorem Zx (op:Int)(l m:List Nd):(Z6 op l m).length=l.length+m.length+1:=by simp [Z6];omega
theorem OkE.chk {l:List Nd}(O:OkE l)(st:List Int)(i:Nat)(r:List Nd):Ze st i (l.map (shN (i:Int))++r)=Ze ((((i+l.length:Nat):Int)-1) :: st) (i+l.length) r:=by
 have:=O.b.chk O.n st i r;rw [Qpa,Nat.sub_zero,show ((i:Int)-(0:Nat))=i by omega] at this
 exact this
theorem Qhj (l:List Nd):l.map (shN ((0:Nat):Int))=l:=by
 have:shN ((0:Nat):Int)=id:=by funext n;exact Qrb n
 rw [this,mA]
theorem QoI:Qo (0,0):=by unfold Qo;simp
theorem Qki {op:Int}(ho:arI op=2){l m:List Nd}(O:OkE l)(O':OkE m):Ze [] 0 (Z6 op l m)=0:=by
 have h1:=O.chk [] 0 (m.map (shN (l.length:Int))++[⟨op,(l.length:Int)-1,if 1<arI op then((l.length+m.length:Nat):Int)-1 else 0,0,(0,0)⟩])
 rw [Qhj,dY] at h1;unfold Z6;rw [cG,h1,O'.chk];have hF:QX ⟨op,(l.length:Int)-1,if 1<arI op then((l.length+m.length:Nat):Int)-1 else 0,0,(0,0)⟩=0:=by
  unfold QX;simp only;rw [bE (by omega),bE (by rintro(⟨_,h⟩|⟨_,h⟩|⟨h,_⟩|⟨h,_⟩)<;>first|exact h rfl|omega),bE (by omega),bE (by simp [QoI])]
 have hp:ZN ⟨op,(l.length:Int)-1,if 1<arI op then((l.length+m.length:Nat):Int)-1 else 0,0,(0,0)⟩ [((l.length+m.length:Nat):Int)-1,(l.length:Int)-1]=some []:=by
  unfold ZN;rw [bE (by omega:¬ arI op=0),bE (by omega:¬ arI op=1)]
  exact bH ⟨rfl,by simp only;rw [bH (by omega)]⟩
 rw [Ze,bE (fun h=>h hF),hp]
 rfl
theorem QjI {op:Int}(ho:arI op=1){l:List Nd}(O:OkE l):Ze [] 0 (Z6 op l [])=0:=by
 have h1:=O.chk [] 0 ([⟨op,(l.length:Int)-1,if 1<arI op then((l.length+([]:List Nd).length:Nat):Int)-1 else 0,0,(0,0)⟩])
 rw [Qhj,dY] at h1;unfold Z6;rw [kV,d8,h1];have hF:QX ⟨op,(l.length:Int)-1,if 1<arI op then((l.length+([]:List Nd).length:Nat):Int)-1 else 0,0,(0,0)⟩=0:=by
  unfold QX;simp only;rw [bE (by omega),bE (by rw [bE (by omega)];rintro(⟨_,h⟩|⟨_,h⟩|⟨_,h⟩|⟨h,_⟩)<;>first|exact h rfl|omega),bE (by omega),bE (by simp [QoI])]
 have hp:ZN ⟨op,(l.length:Int)-1,if 1<arI op then((l.length+([]:List Nd).length:Nat):Int)-1 else 0,0,(0,0)⟩ [(l.length:Int)-1]=some []:=by
  unfold ZN;rw [bE (by omega:¬ arI op=0),bH ho]
  exact bH rfl
 rw [Ze,bE (fun h=>h hF),hp]
 rfl
section
variable {β:Type}(d:β)(F:Nd->β->β->β)
def fwd (l:List Nd):List β:=l.foldl (fun outs n=>outs++[F n (outs.getD n.x.toNat d) (outs.getD n.y.toNat d)]) []
def fAt (l:List Nd)(i:Nat):β:=(fwd d F l).getD i d
def QoA:Prop:=∀(n:Nd) (a b a' b':β),0<=arI n.op->(1<=arI n.op->a=a')->(2<=arI n.op->b=b')->F n a b=F n a' b'
end
section
variable {β:Type}{d:β}{F:Nd->β->β->β}
theorem Qd8 (l:List Nd)(n:Nd):fwd d F (l++[n])=fwd d F l++[F n ((fwd d F l).getD n.x.toNat d) ((fwd d F l).getD n.y.toNat d)]:=by
 unfold fwd;rw [f7];rfl
theorem WK (l:List Nd):(fwd d F l).length=l.length:=by
 have key:∀(l:List Nd) (o:List β),(l.foldl (fun outs n=>outs++[F n (outs.getD n.x.toNat d) (outs.getD n.y.toNat d)]) o).length=o.length+l.length:=by
  intro l;induction l with
  | nil=>intro o;rfl
  | cons n l ih=>intro o;rw [jN,ih];simp;omega
 have:=key l [];simpa [fwd] using this
theorem QpF (l r:List Nd):∃ t,fwd d F (l++r)=fwd d F l++t:=by
 have key:∀(l:List Nd) (o:List β),∃ t,l.foldl (fun outs n=>outs++[F n (outs.getD n.x.toNat d) (outs.getD n.y.toNat d)]) o=o++t:=by
  intro l;induction l with
  | nil=>intro o;exact⟨[],by simp⟩
  | cons n l ih=>
   intro o;rw [jN];obtain⟨t,ht⟩:=ih (o++[F n (o.getD n.x.toNat d) (o.getD n.y.toNat d)]);exact⟨_,by rw [ht,cG]⟩
 unfold fwd;rw [f7];exact key r _
theorem Qhy (l r:List Nd){i:Nat}(h:i<l.length):fAt d F (l++r) i=fAt d F l i:=by
 obtain⟨t,ht⟩:=QpF (d:=d) (F:=F) l r;unfold fAt;rw [ht,bK,dU (by rw [WK];exact h),<-bK]
theorem Uj (l:List Nd){i k:Nat}(h:i<k)(hk:k<=l.length):(fwd d F (l.take k)).getD i d=fAt d F l i:=by
 have:=Qhy (d:=d) (F:=F) (l.take k) (l.drop k) (i:=i) (by rw [bV];omega)
 rw [dV] at this;rw [this];rfl
theorem QnY (l:List Nd){i:Nat}{n:Nd}(hn:l[i]?=some n):fwd d F (l.take (i+1))=fwd d F (l.take i)++[fAt d F l i]:=by
 have hlt:=(bI.1 hn).1
 have e:l.take (i+1)=l.take i++[n]:=by rw [kS,hn];rfl
 have e2:fAt d F l i=F n ((fwd d F (l.take i)).getD n.x.toNat d) ((fwd d F (l.take i)).getD n.y.toNat d):=by
  rw [<-Uj l (jG i) hlt,e,Qd8,bK,dA (by rw [WK,bV];omega)]
  rw [WK,bV,dX (by omega),fT]
  rfl
 rw [e,Qd8,<-e2]
theorem Ye (hF:QoA F){l:List Nd}{i:Nat}{n:Nd}(hn:l[i]?=some n)(W:WfN i n):fAt d F l i=F n (fAt d F l n.x.toNat) (fAt d F l n.y.toNat):=by
 have hlt:=(bI.1 hn).1
 have e:l.take (i+1)=l.take i++[n]:=by rw [kS,hn];rfl
 rw [<-Uj l (jG i) hlt,e,Qd8,bK,dA (by rw [WK,bV];omega)]
 rw [WK,bV,dX (by omega),fT]
 refine hF n _ _ _ _ W.a (fun h=>?_) fun h=>?_
 ·have:=W.x h;exact Uj l (by omega) (by omega)
 ·have:=W.y h;exact Uj l (by omega) (by omega)
theorem WfN.sh {i d:Nat}{n:Nd}(W:WfN i n):WfN (d+i) (shN d n) where
 a:=W.a
 f:=W.f
 x:=fun h=>by
  have h:1<=arI n.op:=h;have:=W.x h;unfold shN;simp only;rw [bH (by omega)]
  omega
 y:=fun h=>by
  have h:2<=arI n.op:=h;have:=W.y h;unfold shN;simp only;rw [bH (by omega)]
  omega
theorem QoZ (hF:QoA F)(hS:∀(k:Int) n a b,F (shN k n) a b=F n a b){m:List Nd}(W:WfL m)(l r:List Nd):∀ k,k<m.length->fAt d F (l++m.map (shN l.length)++r) (l.length+k)=fAt d F m k:=by
 intro k;induction k using Nat.strongRecOn with
 | _ k ih=>
  intro hk;have hm:m[k]?=some m[k]:=bD hk
  have hj:(l++m.map (shN l.length)++r)[l.length+k]?=some (shN l.length m[k]):=by
   rw [cG,dA (by omega),show l.length+k-l.length=k by omega,dU (by simpa using hk),cU,hm]
   rfl
  have Wk:=W k _ hm;rw [Ye hF hj Wk.sh,Ye hF hm Wk,hS];refine hF _ _ _ _ _ Wk.a (fun h=>?_) fun h=>?_
  ·have hx:=Wk.x h;have:(shN (l.length:Int) m[k]).x.toNat=l.length+m[k].x.toNat:=by
    unfold shN;simp only;rw [bH (by omega)]
    omega
   rw [this];exact ih _ (by omega) (by omega)
  ·have hy:=Wk.y h;have:(shN (l.length:Int) m[k]).y.toNat=l.length+m[k].y.toNat:=by
    unfold shN;simp only;rw [bH (by omega)]
    omega
   rw [this];exact ih _ (by omega) (by omega)
end
def Nq (e:EvL)(n:Int):Int × Int:=if n=0 then Xa e.1 else if n=1 then e.2.1 else if n=2 then e.2.2.1 else e.2.2.2
def Xi (e:EvL)(n:Nd)(a b:Int × Int):Int × Int:=
 if n.op=1 then n.v else if n.op=2 then Nq e n.n else if n.op=3 then Qar a else if n.op=4 then JB a else if n.op=5 then Zf (decide (a.1=0)) else doV n.op a b
abbrev vAt (e:EvL)(l:List Nd)(i:Nat):Int × Int:=fAt (0,0) (Xi e) l i
def Wy (op:Int):Int:=if op=4\/op=9\/op=10 then 2 else 1
def tyG (op:Int):Option Int->Option Int->Option Int
 | some a,some b=>if op=5 then some 2 else if (a≠0/\a≠Wy op)\/(b≠0/\b≠Wy op) then none else if op=11\/op=12 then some 2 else some (Wy op)
 | _,_=>none
def tyF (n:Nd)(a b:Option Int):Option Int:=if n.op=1 then some n.v.1 else if n.op=2 then some 1 else tyG n.op a (if arI n.op=2 then b else a)
abbrev tAt (l:List Nd)(i:Nat):Option Int:=fAt none tyF l i
theorem ar0 {op:Int}(h:0<=arI op):(arI op=0↔op=1\/op=2)/\(arI op=1↔op=3\/op=4\/op=5)/\(arI op=2↔6<=op/\op<=12):=by
 unfold arI at *
 split
 ·omega
 ·split
  ·omega
  ·split
   ·omega
   ·rename_i h1 h2 h3;rw [bE h1,bE h2,bE h3] at h;cases h
theorem YJ (e:EvL):QoA (Xi e):=by
 intro n a b a' b' h ha hb;have:=ar0 h;unfold Xi;split
 ·rfl
 ·split
  ·rfl
  ·have h1:1<=arI n.op:=by rcases QM h with q|q|q<;>omega
   rw [ha h1];split
   ·rfl
   ·split
    ·rfl
    ·split
     ·rfl
     ·rw [hb (by rcases QM h with q|q|q<;>omega)]
theorem YQ:QoA tyF:=by
 intro n a b a' b' h ha hb;have:=ar0 h;unfold tyF;split
 ·rfl
 ·split
  ·rfl
  ·have h1:1<=arI n.op:=by rcases QM h with q|q|q<;>omega
   rw [ha h1];split
   ·rename_i h2;rw [hb (by omega)]
   ·rfl
theorem Qjv (e:EvL)(k:Int)(n:Nd)(a b:Int × Int):Xi e (shN k n) a b=Xi e n a b:=rfl
theorem WL {n:Nd}(h1:¬ n.op=1)(h2:¬ n.op=2)(a b:Option Int):tyF n a b=tyG n.op a (if arI n.op=2 then b else a):=by
 unfold tyF;rw [bE h1,bE h2]
theorem Qos (e:EvL){n:Nd}(h:6<=n.op)(a b:Int × Int):Xi e n a b=doV n.op a b:=by
 unfold Xi;rw [bE (by omega),bE (by omega),bE (by omega),bE (by omega),bE (by omega)]
theorem GN (op:Int)(b:Option Int):tyG op none b=none/\tyG op b none=none:=by
 cases b<;>exact⟨rfl,rfl⟩
theorem Blk.ty {l:List Nd}(W:WfL l){f e:Nat}(B:Blk l f e):tAt l (e-1)≠none->∀ i,f<=i->i<e->tAt l i≠none:=by
 induction B with
 | @leaf j n h h0=>
   intro ht i h1 h2;obtain rfl:i=j:=by omega
   exact ht
 | @one f j n B h h0 hx ih=>
  intro ht i h1 h2;by_cases hij:i=j
  ·subst hij;exact ht
  ·have hw:=W j n h;have:=ar0 hw.a;have hlt:=B.lt;refine ih (fun hn=>ht ?_) i h1 (by omega)
   rw [jD,tAt,Ye YQ h hw];rw [WL (by omega) (by omega),show n.x.toNat=j-1 by omega,(show fAt none tyF l _=none from hn)]
   exact(GN _ _).1
 | @two f g j n B B' h h0 hx hy ih1 ih2=>
  intro ht i h1 h2;have hlt:=B.lt;have hlt':=B'.lt;have hw:=W j n h;have:=ar0 hw.a;by_cases hij:i=j
  ·subst hij;exact ht
  ·by_cases hg:i<g
   ·refine ih1 (fun hn=>ht ?_) i h1 hg
    rw [jD,tAt,Ye YQ h hw];rw [WL (by omega) (by omega),show n.x.toNat=g-1 by omega,(show fAt none tyF l _=none from hn)]
    exact(GN _ _).1
   ·refine ih2 (fun hn=>ht ?_) i (by omega) (by omega)
    rw [jD,tAt,Ye YQ h hw];rw [WL (by omega) (by omega),bH h0,show n.y.toNat=j-1 by omega,(show fAt none tyF l _=none from hn)]
    exact(GN _ _).2
def ZG (e:EvL)(l:List Nd):Int × Int:=vAt e l (l.length-1)
def Zn (l:List Nd):Int × Int:=match tAt l (l.length-1) with
 | some t=>(t,0)
 | none=>(0,3)
theorem WfL.join {op:Int}(ho:0<=arI op){l m:List Nd}(W:WfL l)(W':WfL m)(hl:0<l.length)(hm:2<=arI op->0<m.length)(h2:op≠2):WfL (Z6 op l m):=by
 intro i n hn;unfold Z6 at hn;by_cases h1:i<l.length
 ·rw [cG,dU h1] at hn
  exact W i n hn
 ·rw [cG,dA (by omega)] at hn
  by_cases h3:i-l.length<m.length
  ·rw [dU (by simpa using h3),cU,dD] at hn
   obtain⟨n',hn',rfl⟩:=hn;have:=(W' _ _ hn').sh (d:=l.length);rw [show l.length+(i-l.length)=i by omega] at this
   exact this
  ·rw [dA (by simp;omega),pF] at hn
   split at hn
   ·rename_i h4;cases hn;rw [bU] at h4;refine⟨ho,fun h=>absurd h h2,fun h=>?_,fun h=>?_⟩
    ·simp only;omega
    ·simp only at h ⊢;have:=hm h;rw [bH (by omega)]
     omega
   ·cases hn
theorem Qka (e:EvL){op:Int}(ho:arI op=2){l m:List Nd}(W:WfL l)(W':WfL m)(hl:0<l.length)(hm:0<m.length):ZG e (Z6 op l m)=doV op (ZG e l) (ZG e m):=by
 have ha:=ar0 (op:=op) (by omega)
 have WJ:=WfL.join (op:=op) (by omega) W W' hl (fun _=>hm) (by omega)
 unfold ZG;rw [Zx,show l.length+m.length+1-1=l.length+m.length by omega]
 have hj:(Z6 op l m)[l.length+m.length]?=some ⟨op,(l.length:Int)-1,if 1<arI op then((l.length+m.length:Nat):Int)-1 else 0,0,(0,0)⟩:=by
  unfold Z6;rw [dA (by simp)]
  simp
 rw [vAt,Ye (YJ e) hj (WJ _ _ hj)];rw [Qos e (by simp only;omega)]
 simp only;rw [bH (by omega:1<arI op)]
 have e1:((l.length:Int)-1).toNat=l.length-1:=by omega
 have e2:(((l.length+m.length:Nat):Int)-1).toNat=l.length+(m.length-1):=by omega
 rw [e1,e2];have q1:fAt (0,0) (Xi e) (Z6 op l m) (l.length-1)=fAt (0,0) (Xi e) l (l.length-1):=by
  unfold Z6;rw [cG];exact Qhy _ _ (by omega)
 have q2:fAt (0,0) (Xi e) (Z6 op l m) (l.length+(m.length-1))=fAt (0,0) (Xi e) m (m.length-1):=
  QoZ (YJ e) (Qjv e) W' l _ _ (by omega)
 rw [q1,q2]
end Go.Proofs.YthicpjafcpfjoaaGreatDoor
namespace Go.Txt
open Go.Lib
def isD (c:UInt8):Prop:=48<=c.toNat/\c.toNat<=57
instance (c:UInt8):Decidable (isD c):=by unfold isD;infer_instance
def dv (c:UInt8):Nat:=c.toNat-48
def Wl:Nat->LuT->Nat
 | a,[]=>a
 | a,c :: l=>Wl (10*a+dv c) l
theorem Qbb:∀(l:LuT) (a:Nat) (c:UInt8),Wl a (l++[c])=10*Wl a l+dv c
 | [],a,c=>rfl
 | x :: l,a,c=>by
  exact Qbb l (10*a+dv x) c
theorem Qhw:∀(l:LuT) (a:Nat),a<=Wl a l
 | [],a=>cJ _
 | c :: l,a=>by
  have:=Qhw l (10*a+dv c);have e:Wl a (c :: l)=Wl (10*a+dv c) l:=rfl;omega
theorem ofNat_toNat {d:Nat}(h:d<10):(UInt8.ofNat (48+d)).toNat=48+d:=by
 simp;omega
theorem W4:∀ u:Nat,(∀ c ∈ decDigits u,isD c)/\Wl 0 (decDigits u)=u/\decDigits u≠[]/\((decDigits u).head?=some 48->u=0):=by
 intro u;induction u using Nat.strongRecOn with
 | _ u ih=>
  by_cases h:u<10
  ·rw [decDigits_one h];have e:=ofNat_toNat h;refine⟨fun c hc=>?_,?_,by simp,fun hh=>?_⟩
   ·rw [cB] at hc;subst hc;unfold isD;omega
   ·show 10*0+dv (UInt8.ofNat (48+u))=u;unfold dv;omega
   ·simp only [List.head?_cons,bQ] at hh
    have:=congrArg UInt8.toNat hh;rw [e] at this;simp at this;omega
  ·obtain⟨h1,h2,h3,h4⟩:=ih (u / 10) (by omega)
   have hd:decDigits u=decDigits (u / 10)++[UInt8.ofNat (48+u % 10)]:=by rw [decDigits,dif_neg h]
   have e:=ofNat_toNat (d:=u % 10) (by omega)
   rw [hd];refine⟨fun c hc=>?_,?_,by simp,fun hh=>?_⟩
   ·rcases cP.1 hc with hc|hc
    ·exact h1 c hc
    ·rw [cB] at hc;subst hc;unfold isD;omega
   ·rw [Qbb,h2];unfold dv;omega
   ·match hx:decDigits (u / 10),h3 with
    | x :: l,_=>
     rw [hx] at hh h4;have:=h4 hh;omega
theorem QkA:∀(k:Nat) (l:LuT),l.length=k->l≠[]->(∀ c ∈ l,isD c)->(l.head?=some 48->l.length=1)->decDigits (Wl 0 l)=l:=by
 intro k;induction k using Nat.strongRecOn with
 | _ k ih=>
  intro l hk hne hd hh;obtain⟨l',c,rfl⟩:∃ l' c,l=l'++[c]:=⟨l.dropLast,l.getLast hne,(List.dropLast_concat_getLast hne).symm⟩
  have hc:=hd c (by simp)
  unfold isD at hc;have ec:UInt8.ofNat (48+dv c)=c:=by
   unfold dv;rw [show 48+(c.toNat-48)=c.toNat by omega]
   simp
  rw [Qbb];match l',hk,hd,hh,hne with
  | [],_,_,_,_=>
   show decDigits (10*0+dv c)=[c];rw [Nat.mul_zero,dY,decDigits_one (by unfold dv;omega),ec]
  | x :: l2,hk,hd,hh,_=>
   have hx:x≠48:=fun e=>by
    have:=hh (by rw [e];rfl)
    simp at this
   have h1:=ih (x :: l2).length (by simp at hk ⊢;omega) (x :: l2) rfl (by simp) (fun c hc=>hd c (fL _ hc)) (fun e=>absurd (by simpa using e) hx)
   have h2:Wl 0 (x :: l2)≠0:=fun e=>by
    rw [e,decDigits_one (by decide)] at h1
    have:=congrArg List.head? h1;simp at this;exact hx this.symm
   have e1:(10*Wl 0 (x :: l2)+dv c) / 10=Wl 0 (x :: l2):=by unfold dv;omega
   have e2:(10*Wl 0 (x :: l2)+dv c) % 10=dv c:=by unfold dv;omega
   rw [decDigits,dif_neg (by omega),e1,e2,h1,ec]
def VP (most:Int):Int->LuT->Int
 | a,[]=>a
 | a,c :: l=>if c.toNat<48\/c.toNat>57 then -1 else if 10*a+((c.toNat:Int)-48)>most then -1 else VP most (10*a+((c.toNat:Int)-48)) l
def Z4 (l:LuT)(most:Int)(plain:Bool):Int:=if l=[]\/(plain=true/\l.head?=some 48/\1<l.length) then -1 else VP most 0 l
theorem Je (most:Int):∀(l:LuT) (a:Nat),(a:Int)<=most->VP most a l=if (∀ c ∈ l,isD c)/\(Wl a l:Int)<=most then(Wl a l:Int) else -1
 | [],a,ha=>by
  have hv0:Wl a []=a:=rfl;rw [VP,hv0,bH ⟨by simp,ha⟩]
 | c :: l,a,ha=>by
  have hv0:Wl a (c :: l)=Wl (10*a+dv c) l:=rfl;rw [VP,hv0];by_cases hc:isD c
  ·have hc':=hc;unfold isD at hc';have e:(10*(a:Int)+((c.toNat:Int)-48))=((10*a+dv c:Nat):Int):=by unfold dv;omega
   rw [bE (by omega),e]
   by_cases hm:((10*a+dv c:Nat):Int)>most
   ·rw [bH hm,bE];rintro⟨_,h⟩;have:=Qhw l (10*a+dv c);omega
   ·rw [bE hm,Je most l _ (by omega)]
    have:(∀ x ∈ c :: l,isD x)↔∀ x ∈ l,isD x:=⟨fun h x hx=>h x (bY _ hx),fun h x hx=>by
     rcases bX.1 hx with rfl|hx
     ·exact hc
     ·exact h x hx⟩
    simp only [this]
  ·have hc':=hc;unfold isD at hc';rw [bH (by omega),bE]
   rintro⟨h,_⟩;exact hc (h c (bS ..))
theorem QiR {k:Nat}{most:Int}(h:(k:Int)<=most)(hm:0<=most):Z4 (decDigits k) most true=k:=by
 obtain⟨h1,h2,h3,h4⟩:=W4 k;unfold Z4;rw [bE]
 ·have:=Je most (decDigits k) 0 hm;rw [h2,bH ⟨h1,h⟩] at this;exact this
 ·rintro(h|⟨_,h,h5⟩)
  ·exact h3 h
  ·have:=h4 h;subst this;rw [decDigits_one (by decide)] at h5
   simp at h5
theorem Qir {l:LuT}{most:Int}(hm:0<=most)(h:0<=Z4 l most true):l=decDigits (Z4 l most true).toNat/\Z4 l most true<=most:=by
 unfold Z4 at h ⊢;split at h
 ·omega
 ·rename_i h1;have hg:=Je most l 0 hm;simp only [Int.natCast_zero] at hg;rw [bE h1];rw [hg] at h ⊢;split at h
  ·rename_i h2;rw [bH h2];refine⟨?_,h2.2⟩
   rw [bG];refine(QkA _ l rfl (fun e=>h1 (.inl e)) h2.1 fun e=>?_).symm
   have:¬ 1<l.length:=fun h3=>h1 (.inr ⟨rfl,e,h3⟩)
   have:l≠[]:=fun e=>h1 (.inl e)
   have:=List.length_pos_iff.2 this;omega
  ·omega
theorem UK:∀(l:LuT) (a:Nat),(∀ c ∈ l,isD c)->Wl a l<1844674407370955162->parseUint10 a l=.ok (Wl a l)
 | [],a,_,_=>rfl
 | c :: l,a,hd,hv=>by
  have hc:=hd c (bS ..);have hc':=hc;unfold isD at hc';have hv0:Wl a (c :: l)=Wl (10*a+dv c) l:=rfl;rw [hv0] at hv ⊢;have hg:=Qhw l (10*a+dv c);have ed:dv c=c.toNat-48:=rfl;rw [parseUint10,bH hc',bE (by omega),bE (by omega)]
  have:=UK l (10*a+dv c) (fun x hx=>hd x (bY _ hx)) hv
  rw [ed,kY] at this;rw [this,ed,kY]
theorem Qbt {n:Int}(h0:-1000000000000<=n)(h1:n<=1000000000000):atoiAll (itoa n)=.ok n:=by
 unfold itoa;split
 ·rename_i hn;obtain⟨d1,d2,d3,d4⟩:=W4 n.natAbs;unfold atoiAll;simp only;rw [bH (.inr (by decide))]
  unfold parseMag;rw [bE d3,UK _ _ d1 (by rw [d2];omega),d2]
  simp only;rw [bE (by intro h;exact h.1 (by decide)),bE (by omega),bH (by decide)]
  congr 1
  omega
 ·rename_i hn;obtain⟨d1,d2,d3,d4⟩:=W4 n.toNat;have hp:parseMag (decDigits n.toNat)=.ok n.toNat:=by
   unfold parseMag;rw [bE d3,UK _ _ d1 (by rw [d2];omega),d2]
  unfold atoiAll;match hx:decDigits n.toNat,d3 with
  | c :: r,_=>
   rw [hx] at d1 hp;have hc:=d1 c (bS ..);unfold isD at hc;simp only;rw [bE (by omega),hp]
   simp only;rw [bE (by omega),bE (by omega),bE (by omega)]
   congr 1
   omega
end Go.Txt
namespace Go.Proofs.YthicpjafcpfjoaaGreatDoor
def Wv:LuT:=[110,117,108,108]
def Xm:LuT:=[116,114,117,101]
def Xp:LuT:=[102,97,108,115,101]
open Go Go.Txt Go.Vc
abbrev Wd:=LuT
structure RS where
 ws:List Wd
 deep:Int
 f:Int
def RS.fail (s:RS)(f:Int):RS:=⟨[],s.deep,if s.f=0 then f else s.f⟩
def RS.is (s:RS)(l:List Wd):Wd × RS:=
 match s.ws with
 | []=>([],s)
 | w :: r=>if w ∈ l then(w,⟨r,s.deep,s.f⟩) else([],s)
def RS.must (s:RS)(w:Wd):RS:=if (s.is [w]).1=[] then(s.is [w]).2.fail 4 else(s.is [w]).2
def RS.number (s:RS)(most:Int):Int × RS:=
 match s.ws with
 | []=>(0,s.fail 4)
 | w :: r=>if Z4 w most false<0 then(0,s.fail 4) else(Z4 w most false,⟨r,s.deep,s.f⟩)
def QkU:Nd:=⟨1,0,0,0,(0,0)⟩
def Zd (op:Int)(x y:List Nd)(s:RS):List Nd × RS:=if x.length+y.length>=40 then([QkU],s.fail 2) else(Z6 op x y,s)
abbrev Ps:=RS->List Nd × RS
def K7 (p:Ps):Ps:=fun s=>
 let s1:RS:=⟨s.ws,s.deep+1,s.f⟩
 let s2:RS:=if s.deep+1>12 then s1.fail 2 else s1
 let r:=p s2
 (r.1,⟨r.2.ws,r.2.deep-1,r.2.f⟩)
def ZR:Wd:=[40]
def Za:Wd:=[41]
def QaF:Wd:=[110,111,116]
def wIs:Wd:=[105,115]
def QlK:Wd:=[97,110,100]
def wOr:Wd:=[111,114]
def Yt:Wd:=[42]
def QdV:Wd:=[43]
def XL:Wd:=[45]
def wLt:Wd:=[60]
def wGt:Wd:=[62]
def wLe:Wd:=[60,61]
def wGe:Wd:=[62,61]
def wEq:Wd:=[61]
def wNe:Wd:=[60,62]
def ZF:List Wd:=[[116],[107],[97],[98]]
def Qds (w:Wd):Int × Int:=if w=Wv then(0,0) else(2,if w=Xm then 1 else 0)
def Yn:List Wd:=[Wv,Xm,Xp]
def WA (orP:Ps):Ps:=fun s=>
 let w:=(s.is ([ZR]++Yn++ZF)).1
 let s1:=(s.is ([ZR]++Yn++ZF)).2
 if w=ZR then((K7 orP s1).1,(K7 orP s1).2.must Za)
 else if w ∈ Yn then([⟨1,0,0,0,Qds w⟩],s1)
 else if w=[] then([⟨1,0,0,0,(1,(s1.number 1000000000).1)⟩],(s1.number 1000000000).2)
 else([⟨2,0,0,ZF.idxOf w,(0,0)⟩],s1)
def QdW (un atom:Ps):Ps:=fun s=>
 if (s.is [XL]).1=[] then atom s else
  Zd 3 (K7 un (s.is [XL]).2).1 [] (K7 un (s.is [XL]).2).2
def Qfd (ops:List (Wd × Int))(w:Wd):Int:=((ops.find? fun p=>p.1=w).map (·.2)).getD 0
def Qfr (next:Ps)(ops:List (Wd × Int)):Nat->List Nd->Ps
 | 0,x,s=>(x,s)
 | k+1,x,s=>if s.f≠0 then(x,s) else
  let w:=(s.is (ops.map (·.1))).1
  let s1:=(s.is (ops.map (·.1))).2
  if w=[] then(x,s1) else
   let j:=Zd (Qfd ops w) x (next s1).1 (next s1).2
   Qfr next ops k j.1 j.2
def Qfq (next:Ps)(ops:List (Wd × Int)):Ps:=fun s=>Qfr next ops ((next s).2.ws.length+1) (next s).1 (next s).2
def QgH (sum:Ps):Ps:=fun s=>
 let x:=(sum s).1
 let s0:=(sum s).2
 let w:=(s0.is [wLt,wGt,wLe,wGe,wEq,wNe,wIs]).1
 let s1:=(s0.is [wLt,wGt,wLe,wGe,wEq,wNe,wIs]).2
 let y:=(sum s1).1
 let s2:=(sum s1).2
 if w=wLt then Zd 11 x y s2
 else if w=wGt then Zd 11 y x s2
 else if w=wLe then Zd 4 (Zd 11 y x s2).1 [] (Zd 11 y x s2).2
 else if w=wGe then Zd 4 (Zd 11 x y s2).1 [] (Zd 11 x y s2).2
 else if w=wEq then Zd 12 x y s2
 else if w=wNe then Zd 4 (Zd 12 x y s2).1 [] (Zd 12 x y s2).2
 else if w=wIs then
  let n:=(s1.is [QaF]).1
  let s3:=(s1.is [QaF]).2.must Wv
  let j:=Zd 5 x [] s3
  if n≠[] then Zd 4 j.1 [] j.2 else j
 else(x,s1)
def QoM (no cmp:Ps):Ps:=fun s=>
 if (s.is [QaF]).1=[] then cmp s else
  Zd 4 (K7 no (s.is [QaF]).2).1 [] (K7 no (s.is [QaF]).2).2
structure VB where
 o:Ps
 n:Ps
 u:Ps
def unS (t:VB):Ps:=QdW t.u (WA t.o)
def Qla (t:VB):Ps:=Qfq (unS t) [(Yt,8)]
def QnV (t:VB):Ps:=Qfq (Qla t) [(QdV,6),(XL,7)]
def Qn5 (t:VB):Ps:=QgH (QnV t)
def QfA (t:VB):Ps:=QoM t.n (Qn5 t)
def Qpk (t:VB):Ps:=Qfq (QfA t) [(QlK,9)]
def orS (t:VB):Ps:=Qfq (Qpk t) [(wOr,10)]
def noP:Ps:=fun s=>([QkU],s)
def WB:Nat->VB
 | 0=>⟨noP,noP,noP⟩
 | n+1=>⟨orS (WB n),QfA (WB n),unS (WB n)⟩
theorem Qm5 (op:Int)(x y:List Nd):1<=(Z6 op x y).length:=by rw [Zx];omega
def RS.good (s:RS):Prop:=s.f≠0->s.ws=[]
structure Xk (r:List Nd × RS)(s:RS):Prop where
 len:r.2.ws.length<=s.ws.length
 ok:r.2.good
 deep:r.2.deep=s.deep
 pos:1<=r.1.length
 le:r.1.length<=40
 wf:WfL r.1
 fst:s.f≠0->r.2.f=s.f
def KP (p:Ps)(n:Nat):Prop:=∀ s:RS,s.good->s.ws.length<=n->Xk (p s) s
theorem RS.fail_good (s:RS)(f:Int):(s.fail f).good:=fun _=>rfl
theorem RS.fail_f (s:RS)(f:Int)(h:s.f≠0):(s.fail f).f=s.f:=bE h
theorem RS.is_spec (s:RS)(l:List Wd):((s.is l).1=[]/\(s.is l).2=s)\/(∃ w r,s.ws=w :: r/\w ∈ l/\(s.is l).1=w/\(s.is l).2=⟨r,s.deep,s.f⟩):=by
 unfold RS.is;split
 ·exact .inl ⟨rfl,rfl⟩
 ·rename_i w r h;split
  ·rename_i hm;exact .inr ⟨w,r,h,hm,rfl,rfl⟩
  ·exact .inl ⟨rfl,rfl⟩
structure YS (t s:RS):Prop where
 len:t.ws.length<=s.ws.length
 ok:t.good
 deep:t.deep=s.deep
 fst:s.f≠0->t.f=s.f
theorem YS.refl {s:RS}(h:s.good):YS s s:=⟨cJ _,h,rfl,fun _=>rfl⟩
theorem YS.trans {t s u:RS}(a:YS t s)(b:YS u t):YS u s:=⟨dJ b.len a.len,b.ok,b.deep.trans a.deep,fun h=>(b.fst (by rw [a.fst h];exact h)).trans (a.fst h)⟩
theorem WH (s:RS)(f:Int):YS (s.fail f) s:=⟨cH _,fun _=>rfl,rfl,fun h=>s.fail_f f h⟩
theorem Zk {s:RS}(h:s.good)(l:List Wd):YS (s.is l).2 s:=by
 rcases s.is_spec l with ⟨_,e⟩|⟨w,r,h1,_,_,e⟩
 ·rw [e];exact YS.refl h
 ·rw [e];refine⟨by rw [h1];simp,fun hf=>?_,rfl,fun _=>rfl⟩
  have:=h hf;rw [h1] at this;cases this
theorem Zw {s:RS}(h:s.good)(w:Wd):YS (s.must w) s:=by
 unfold RS.must;split
 ·exact(Zk h _).trans (WH _ _)
 ·exact Zk h _
theorem GF {s:RS}(h:s.good)(m:Int):YS (s.number m).2 s:=by
 unfold RS.number;split
 ·exact WH _ _
 ·rename_i w r e;split
  ·exact WH _ _
  ·refine⟨by rw [e];simp,fun hf=>?_,rfl,fun _=>rfl⟩
   have:=h hf;rw [e] at this;cases this
theorem Qja {s:RS}{l:List Wd}(h:(s.is l).1≠[]):(s.is l).2.ws.length+1=s.ws.length:=by
 rcases s.is_spec l with ⟨e,_⟩|⟨w,r,h1,_,_,e⟩
 ·exact absurd e h
 ·rw [e,h1];rfl
theorem Xk.goes {r:List Nd × RS}{s:RS}(k:Xk r s):YS r.2 s:=⟨k.len,k.ok,k.deep,k.fst⟩
theorem Xk.mk2 {l:List Nd}{t s:RS}(g:YS t s)(h1:1<=l.length)(h2:l.length<=40)(h3:WfL l):Xk (l,t) s:=⟨g.len,g.ok,g.deep,h1,h2,h3,g.fst⟩
theorem QqY (n:Nd)(h:arI n.op=0)(h2:n.op=2->0<=n.n/\n.n<=3):WfL [n]:=by
 intro i m hm;match i,hm with
 | 0,hm=>
  cases hm;exact⟨by omega,h2,fun h3=>by omega,fun h3=>by omega⟩
theorem KY {t s:RS}(g:YS t s)(n:Nd)(h:arI n.op=0)(h2:n.op=2->0<=n.n/\n.n<=3):Xk ([n],t) s:=Xk.mk2 g (by simp) (by simp) (QqY n h h2)
def Opr (op:Int):Prop:=0<=arI op/\op≠2
instance (op:Int):Decidable (Opr op):=by unfold Opr;infer_instance
theorem QpQ {op:Int}(ho:Opr op){x y:List Nd}(hx:WfL x)(hy:WfL y)(h1:1<=x.length)(h2:1<arI op->1<=y.length):WfL (Z6 op x y):=
 WfL.join ho.1 hx hy h1 (fun h=>h2 (by omega)) ho.2
theorem Q4 {op:Int}(ho:Opr op){x y:List Nd}{t s:RS}(g:YS t s)(hx:WfL x)(hy:WfL y)(h1:1<=x.length)(h2:1<arI op->1<=y.length):Xk (Zd op x y t) s:=by
 unfold Zd;split
 ·exact KY (g.trans (WH _ _)) QkU (by decide) (by decide)
 ·exact Xk.mk2 g (Qm5 _ _ _) (by rw [Zx];omega) (QpQ ho hx hy h1 h2)
theorem We:WfL []:=fun i n h=>by simp at h
theorem Ur {p:Ps}{n:Nat}(hp:KP p n){t s:RS}(g:YS t s)(hl:t.ws.length<=n):Xk (K7 p t) s:=by
 unfold K7;have key:∀ u:RS,u.good->u.ws.length<=n->YS u ⟨t.ws,t.deep+1,t.f⟩->Xk ((p u).1,⟨(p u).2.ws,(p u).2.deep-1,(p u).2.f⟩) s:=by
  intro u hu hul gu;have k:=hp u hu hul;refine⟨dJ k.len (dJ gu.len g.len),k.ok,?_,k.pos,k.le,k.wf,fun h=>?_⟩
  ·have e1:=k.deep;have e2:=gu.deep;have e3:=g.deep;simp only at e2 ⊢;omega
  ·have e1:=g.fst h;have e2:=gu.fst (by show t.f≠0;rw [e1];exact h)
   have e3:=k.fst (by rw [e2];show t.f≠0;rw [e1];exact h)
   exact e3.trans (e2.trans e1)
 by_cases hd:t.deep+1>12
 ·simp only [bH hd];exact key _ (RS.fail_good _ _) (cH _) (WH _ _)
 ·simp only [bE hd];exact key _ g.ok hl (YS.refl g.ok)
theorem QeW {o:Ps}{n:Nat}(ho:KP o n):KP (WA o) (n+1):=by
 intro s hs hl;have g:=Zk hs ([ZR]++Yn++ZF);have tk:=@Qja s ([ZR]++Yn++ZF);unfold WA;simp only;split
 ·rename_i hw;have k:=Ur ho g (by have:=tk (by rw [hw];decide);omega)
  have gm:=Zw k.ok Za;exact Xk.mk2 (k.goes.trans gm) k.pos k.le k.wf
 ·split
  ·exact KY g _ (by simp [arI]) (by simp)
  ·split
   ·exact KY (g.trans (GF g.ok _)) _ (by simp [arI]) (by simp)
   ·rename_i h1 h2 h3;refine KY g _ (by simp [arI]) (fun _=>?_)
    have hw:(s.is ([ZR]++Yn++ZF)).1 ∈ ZF:=by
     rcases s.is_spec ([ZR]++Yn++ZF) with ⟨e,_⟩|⟨w,r,_,hm,e,_⟩
     ·exact absurd e h3
     ·rw [e] at h1 h2 ⊢;rcases cP.1 hm with h4|h4
      ·rcases cP.1 h4 with h5|h5
       ·exact absurd (by simpa using h5) h1
       ·exact absurd h5 h2
      ·exact h4
    have:=List.idxOf_lt_length_of_mem hw;have e4:ZF.length=4:=rfl;constructor<;>simp only<;>omega
theorem QiO {u a:Ps}{n:Nat}(hu:KP u n)(ha:KP a (n+1)):KP (QdW u a) (n+1):=by
 intro s hs hl;have g:=Zk hs [XL];have tk:=@Qja s [XL];unfold QdW;split
 ·exact ha s hs hl
 ·rename_i hw;have k:=Ur hu g (by have:=tk hw;omega)
  exact Q4 (by decide) k.goes k.wf We k.pos (by decide)
theorem QlJ {u a:Ps}{n:Nat}(hu:KP u n)(ha:KP a (n+1)):KP (QoM u a) (n+1):=by
 intro s hs hl;have g:=Zk hs [QaF];have tk:=@Qja s [QaF];unfold QoM;split
 ·exact ha s hs hl
 ·rename_i hw;have k:=Ur hu g (by have:=tk hw;omega)
  exact Q4 (by decide) k.goes k.wf We k.pos (by decide)
theorem QiX {ops:List (Wd × Int)}(ho:∀ q ∈ ops,Opr q.2){w:Wd}(hw:w ∈ ops.map (·.1)):Opr (Qfd ops w):=by
 unfold Qfd;cases h:ops.find? (fun p=>p.1=w) with
 | none=>
  obtain⟨q,hq,rfl⟩:=dI.1 hw;have:=kL.1 h q hq
  simp at this
 | some q=>exact ho q (kD h)
theorem Qns {s:RS}{l:List Wd}(h:(s.is l).1≠[]):(s.is l).1 ∈ l:=by
 rcases s.is_spec l with ⟨e,_⟩|⟨w,r,_,hm,e,_⟩
 ·exact absurd e h
 ·rw [e];exact hm
theorem QdL {p:Ps}{n:Nat}(hp:KP p n){ops:List (Wd × Int)}(ho:∀ q ∈ ops,Opr q.2):∀(k:Nat) (x:List Nd) (t s:RS),YS t s->t.ws.length<=n->1<=x.length->x.length<=40->WfL x->Xk (Qfr p ops k x t) s
 | 0,x,t,s,g,_,h1,h2,h3=>Xk.mk2 g h1 h2 h3
 | k+1,x,t,s,g,hl,h1,h2,h3=>by
  have gi:=Zk g.ok (ops.map (·.1))
  have gm:=@Qns t (ops.map (·.1))
  rw [Qfr];by_cases hf:t.f≠0
  ·rw [bH hf];exact Xk.mk2 g h1 h2 h3
  ·rw [bE hf];simp only;generalize t.is (ops.map (·.1))=A at gi gm ⊢
   obtain⟨w,s1⟩:=A;simp only at gi gm ⊢;by_cases hw:w=[]
   ·rw [bH hw];exact Xk.mk2 (g.trans gi) h1 h2 h3
   ·rw [bE hw];have hop:=QiX ho (gm hw);have kn:=hp s1 gi.ok (dJ gi.len hl);generalize Qfd ops w=op at hop ⊢;generalize p s1=r at kn ⊢;have kj:Xk (Zd op x r.1 r.2) s:=Q4 hop ((g.trans gi).trans kn.goes) h3 kn.wf h1 (fun _=>kn.pos)
    have ka:Xk (Zd op x r.1 r.2) t:=Q4 hop (gi.trans kn.goes) h3 kn.wf h1 (fun _=>kn.pos)
    generalize Zd op x r.1 r.2=j at kj ka ⊢;exact QdL hp ho k j.1 j.2 s kj.goes (dJ ka.len hl) kj.pos kj.le kj.wf
theorem GW {p:Ps}{n:Nat}(hp:KP p n){ops:List (Wd × Int)}(ho:∀ q ∈ ops,Opr q.2):KP (Qfq p ops) n:=by
 intro s hs hl;have k:=hp s hs hl;exact QdL hp ho _ _ _ _ k.goes (dJ k.len hl) k.pos k.le k.wf
theorem Ql6 {p:Ps}{n:Nat}(hp:KP p n):KP (QgH p) n:=by
 intro s hs hl;have k:=hp s hs hl;have g:=Zk k.ok [wLt,wGt,wLe,wGe,wEq,wNe,wIs];have k2:=hp _ g.ok (dJ g.len (dJ k.len hl));have gg:=(k.goes.trans g).trans k2.goes;unfold QgH;simp only;split
 ·exact Q4 (by decide) gg k.wf k2.wf k.pos (fun _=>k2.pos)
 ·split
  ·exact Q4 (by decide) gg k2.wf k.wf k2.pos (fun _=>k.pos)
  ·split
   ·have j:=Q4 (op:=11) (by decide) gg k2.wf k.wf k2.pos (fun _=>k.pos)
    exact Q4 (by decide) j.goes j.wf We j.pos (by decide)
   ·split
    ·have j:=Q4 (op:=11) (by decide) gg k.wf k2.wf k.pos (fun _=>k2.pos)
     exact Q4 (by decide) j.goes j.wf We j.pos (by decide)
    ·split
     ·exact Q4 (by decide) gg k.wf k2.wf k.pos (fun _=>k2.pos)
     ·split
      ·have j:=Q4 (op:=12) (by decide) gg k.wf k2.wf k.pos (fun _=>k2.pos)
       exact Q4 (by decide) j.goes j.wf We j.pos (by decide)
      ·split
       ·have g3:=Zk g.ok [QaF];have g4:=Zw g3.ok Wv;have j:=Q4 (op:=5) (by decide) (((k.goes.trans g).trans g3).trans g4) k.wf We k.pos (by decide)
        split
        ·exact Q4 (by decide) j.goes j.wf We j.pos (by decide)
        ·exact j
       ·exact Xk.mk2 (k.goes.trans g) k.pos k.le k.wf
theorem Qle {t:VB}{n:Nat}(h:KP t.o n/\KP t.n n/\KP t.u n):KP (orS t) (n+1)/\KP (QfA t) (n+1)/\KP (unS t) (n+1)/\KP (Qla t) (n+1)/\KP (QnV t) (n+1)/\KP (Qn5 t) (n+1)/\KP (Qpk t) (n+1):=by
 have h1:KP (unS t) (n+1):=QiO h.2.2 (QeW h.1);have h2:KP (Qla t) (n+1):=GW h1 (by decide)
 have h3:KP (QnV t) (n+1):=GW h2 (by decide)
 have h4:KP (Qn5 t) (n+1):=Ql6 h3;have h5:KP (QfA t) (n+1):=QlJ h.2.1 h4;have h6:KP (Qpk t) (n+1):=GW h5 (by decide)
 exact⟨GW h6 (by decide),h5,h1,h2,h3,h4,h6⟩
theorem QbO (n:Nat):KP noP n:=fun s hs _=>KY (YS.refl hs) QkU (by decide) (by decide)
theorem QbX (n:Nat):WB (n+1)=⟨orS (WB n),QfA (WB n),unS (WB n)⟩:=rfl
theorem Qbz (n:Nat):KP (WB n).o n/\KP (WB n).n n/\KP (WB n).u n:=by
 induction n with
 | zero=>exact⟨QbO 0,QbO 0,QbO 0⟩
 | succ n ih=>
  have h:=Qle ih;rw [QbX];exact⟨h.1,h.2.1,h.2.2.1⟩
def QW:Wd:=[99,111,117,110,116]
def UF:Wd:=[115,117,109]
def UO:Wd:=[109,105,110]
def Ut:Wd:=[109,97,120]
def Xq:Wd:=[44]
def Wa:Wd:=[115,101,108,101,99,116]
def U2:Wd:=[102,114,111,109]
def Y7:Wd:=[101,118,101,110,116,115]
def Kn:Wd:=[119,104,101,114,101]
def Kq:Wd:=[103,114,111,117,112]
def wBy:Wd:=[98,121]
def YO:Wd:=[119,105,110,100,111,119]
def QbM:Wd:=[115,108,105,100,101]
def QbB:Wd:=[100,101,108,97,121]
def Qgc:Wd:=[108,97,116,101]
abbrev Ag:=Int × List Nd
structure Qy where
 aggs:List Ag
 wh:List Nd
 by_:List Nd
 size:Int
 slide:Int
 delay:Int
 late:Int
def noQ:Qy:=⟨[],[],[],0,0,0,0⟩
def Qc0 (w:Wd):Int:=if w=QW then 1 else if w=UF then 3 else if w=UO then 4 else if w=Ut then 5 else 0
def X7 (o:Ps)(s:RS):Ag × RS:=
 let w:=(s.is [QW,UF,UO,Ut]).1
 let s1:=(s.is [QW,UF,UO,Ut]).2
 let s2:=(if w=[] then s1.fail 4 else s1).must ZR
 if w=QW/\(s2.is [Yt]).1≠[] then((1,[]),(s2.is [Yt]).2.must Za)
 else((if w=QW then 2 else Qc0 w,(o s2).1),(o s2).2.must Za)
def KS (o:Ps):Nat->List Ag->RS->List Ag × RS
 | 0,l,s=>(l,s)
 | k+1,l,s=>if (s.is [Xq]).1=[] then(l,s) else KS o k (l++[(X7 o (s.is [Xq]).2).1]) (X7 o (s.is [Xq]).2).2
def Mv (w:Wd)(p:RS->List Nd × RS)(s:RS):List Nd × RS:=if (s.is [w]).1=[] then([],s) else p (s.is [w]).2
def Vt (w:Wd)(d:Int)(s:RS):Int × RS:=if (s.is [w]).1=[] then(d,s) else(s.is [w]).2.number 1000
def Qcd (ws:List Wd):Qy × RS:=
 let o:=(WB (ws.length+1)).o
 let a:=X7 o ((⟨ws,0,0⟩:RS).must Wa)
 let l:=KS o (a.2.ws.length+1) [a.1] a.2
 let e:=(l.2.must U2).must Y7
 let w:=Mv Kn o e
 let g:=Mv Kq (fun s=>o (s.must wBy)) w.2
 let z:=(g.2.must YO).number 1000
 let sl:=Vt QbM z.1 z.2
 let d:=Vt QbB 0 sl.2
 let t:=Vt Qgc 0 d.2
 (⟨l.1,w.1,g.1,z.1,sl.1,d.1,t.1⟩,if t.2.f=0/\t.2.ws≠[] then t.2.fail 4 else t.2)
def Qcs (l:List Nd):Prop:=l.length<=40/\WfL l
theorem Xk.nds {r:List Nd × RS}{s:RS}(k:Xk r s):Qcs r.1:=⟨k.le,k.wf⟩
theorem Qhe:Qcs []:=⟨by simp,We⟩
theorem Qa0 {o:Ps}{n:Nat}(ho:KP o n){s:RS}(hs:s.good)(hl:s.ws.length<=n):YS (X7 o s).2 s/\Qcs (X7 o s).1.2:=by
 have g1:=Zk hs [QW,UF,UO,Ut];have g2:YS ((if (s.is [QW,UF,UO,Ut]).1=[] then(s.is [QW,UF,UO,Ut]).2.fail 4 else(s.is [QW,UF,UO,Ut]).2).must ZR) s:=by
  split
  ·exact(g1.trans (WH _ _)).trans (Zw (RS.fail_good _ _) _)
  ·exact g1.trans (Zw g1.ok _)
 unfold X7;simp only;generalize (if (s.is [QW,UF,UO,Ut]).1=[] then(s.is [QW,UF,UO,Ut]).2.fail 4 else(s.is [QW,UF,UO,Ut]).2).must ZR=s2 at g2 ⊢
 have g3:=Zk g2.ok [Yt];have k:=ho s2 g2.ok (dJ g2.len hl);split
 ·exact⟨(g2.trans g3).trans (Zw g3.ok _),Qhe⟩
 ·exact⟨(g2.trans k.goes).trans (Zw k.ok _),k.nds⟩
theorem Qgr {o:Ps}{n:Nat}(ho:KP o n):∀(k:Nat) (l:List Ag) {s:RS},s.good->s.ws.length<=n->(∀ a ∈ l,Qcs a.2)->YS (KS o k l s).2 s/\∀ a ∈ (KS o k l s).1,Qcs a.2
 | 0,l,s,hs,_,hL=>⟨YS.refl hs,hL⟩
 | k+1,l,s,hs,hl,hL=>by
  rw [KS];split
  ·exact⟨YS.refl hs,hL⟩
  ·have g1:=Zk hs [Xq];have g2:=Qa0 ho g1.ok (dJ g1.len hl);have g3:=Qgr ho k (l++[(X7 o (s.is [Xq]).2).1]) g2.1.ok (dJ (dJ g2.1.len g1.len) hl) (by
    intro a ha;rcases cP.1 ha with h1|h1
    ·exact hL a h1
    ·rw [cB.1 h1];exact g2.2)
   exact⟨(g1.trans g2.1).trans g3.1,g3.2⟩
end Go.Proofs.YthicpjafcpfjoaaGreatDoor
namespace Go.Proofs.YthicpjafcpfjoaaGreatDoor
open Go Go.Vc
theorem QfH {u0:Int}{h:Hp}{R:RtT}(H:((cond (decide (u0>=97)) (decide (u0<=122)) false)=true->R (vk .u8 97) h)/\((cond (decide (u0>=97)) (decide (u0<=122)) false)=false->((cond (decide (u0>=48)) (decide (u0<=57)) false)=true->R (vk .u8 48) h)/\((cond (decide (u0>=48)) (decide (u0<=57)) false)=false->Qa Pg 198 [(vs ⟨#[40,41,44,42,43,45,60,62,61]⟩),(vk .u8 u0)] h fun v1 h2=>∃ x3,v1=vi x3/\((decide (x3>=0))=true->R (vk .u8 40) h2)/\((decide (x3>=0))=false->R (vk .u8 32) h2)))):Qa Pg 138 [(vk .u8 u0)] h R:=callO Tryz.func138 [.one (.v (vk .u8 u0))] H
theorem Qg5 {u0:ByteArray}{u1:Int}{h:Hp}{R:RtT}(H:∃ x1,Rd Pg (Instr.index 9 (vs u0) (vi u1)) h (vk .u8 x1)/\Qa Pg 138 [(vk .u8 x1)] h fun v2 h3=>∃ x4,v2=vk .u8 x4/\∃ x5,IsW x5 (u1+1)/\((decide (x4=40))=true->∃ x6,((decide (x5<((ByteArray.size u0:Nat):Int)))=true->Rd Pg (Instr.index 9 (vs u0) (vi u1)) h3 (vk .u8 x6))/\∃ x7,(((decide (x5<((ByteArray.size u0:Nat):Int)))=true/\(decide (x6=60))=true)->Rd Pg (Instr.index 9 (vs u0) (vi x5)) h3 (vk .u8 x7))/\∃ x8,((((decide (x5<((ByteArray.size u0:Nat):Int)))=true/\(decide (x6=60))=true)/\(decide (x7=61))=false)->Rd Pg (Instr.index 9 (vs u0) (vi x5)) h3 (vk .u8 x8))/\∃ x9,(((decide (x5<((ByteArray.size u0:Nat):Int)))=true/\(cond (decide (x6=60)) (cond (decide (x7=61)) true (decide (x8=62))) false)=false)->Rd Pg (Instr.index 9 (vs u0) (vi u1)) h3 (vk .u8 x9))/\∃ x10,((((decide (x5<((ByteArray.size u0:Nat):Int)))=true/\(cond (decide (x6=60)) (cond (decide (x7=61)) true (decide (x8=62))) false)=false)/\(decide (x9=62))=true)->Rd Pg (Instr.index 9 (vs u0) (vi x5)) h3 (vk .u8 x10))/\let J14:Int->Prop:=fun x15=>R (vi x15) h3;((cond (decide (x5<((ByteArray.size u0:Nat):Int))) (cond (cond (decide (x6=60)) (cond (decide (x7=61)) true (decide (x8=62))) false) true (cond (decide (x9=62)) (decide (x10=61)) false)) false)=true->∃ x11,IsW x11 (x5+1)/\J14 x11)/\((cond (decide (x5<((ByteArray.size u0:Nat):Int))) (cond (cond (decide (x6=60)) (cond (decide (x7=61)) true (decide (x8=62))) false) true (cond (decide (x9=62)) (decide (x10=61)) false)) false)=false->J14 x5))/\((decide (x4=40))=false->∃(I18:LtT) (m19:LmT),I18 [vi x5] h3/\∀ vs20 h21,I18 vs20 h21->∃ x22,vs20=[vi x22]/\∃ x23,((decide (x22<((ByteArray.size u0:Nat):Int)))=true->Rd Pg (Instr.index 9 (vs u0) (vi x22)) h21 (vk .u8 x23))/\∃(J24:ShT),((decide (x22<((ByteArray.size u0:Nat):Int)))=true->Qa Pg 138 [(vk .u8 x23)] h21 fun v25 h26=>∃ x27,v25=vk .u8 x27/\J24 (.t (.one (.v (vk .u8 x27)))) h26)/\(¬((decide (x22<((ByteArray.size u0:Nat):Int)))=true)->J24 (.t (.one (.v (vk .u8 0)))) h21)/\∀ h28 x29,J24 (.t (.one (.v (vk .u8 x29)))) h28->((cond (decide (x22<((ByteArray.size u0:Nat):Int))) (decide (x29=x4)) false)=true->∃ x32,IsW x32 (x22+1)/\I18 [vi x32] h28/\m19 [vi x32] h28<m19 vs20 h21)/\((cond (decide (x22<((ByteArray.size u0:Nat):Int))) (decide (x29=x4)) false)=false->R (vi x22) h28))):Qa Pg 139 [vs u0,vi u1] h R:=callC ⟨[],[(7,([6],[.one (.int .i64)],[]))],[]⟩ Tryz.func139 [.one (.v (vs u0)),.one (.v (vi u1))] H
theorem QdA {u0:ByteArray}{h:Hp}{R:RtT}(H:((decide ((((ByteArray.size u0:Nat):Int):Int)>240))=true->R (Qe [vsl none 0 0,(ifv (some (119,vi 2)))]) h)/\((decide ((((ByteArray.size u0:Nat):Int):Int)>240))=false->∃(I3:LtT) (m4:LmT),I3 [vsl none 0 0,vi 0] h/\∀ vs5 h6,I3 vs5 h6->∃ a7 n7 c7 x8,vs5=[vsl a7 n7 c7,vi x8]/\((decide (x8<((ByteArray.size u0:Nat):Int)))=true->∃ x11,Rd Pg (Instr.index 9 (vs u0) (vi x8)) h6 (vk .u8 x11)/\((decide (x11=32))=true->∃ x12,IsW x12 (x8+1)/\I3 [vsl a7 n7 c7,vi x12] h6/\m4 [vsl a7 n7 c7,vi x12] h6<m4 vs5 h6)/\((decide (x11=32))=false->∃ x14,Rd Pg (Instr.index 9 (vs u0) (vi x8)) h6 (vk .u8 x14)/\Qa Pg 138 [(vk .u8 x14)] h6 fun v15 h16=>∃ x17,v15=vk .u8 x17/\((decide (x17=32))=true->R (Qe [vsl none 0 0,(ifv (some (119,vi 4)))]) h16)/\((decide (x17=32))=false->Qa Pg 139 [vs u0,vi x8] h16 fun v19 h20=>∃ x21,v19=vi x21/\∃ s22,Rd Pg (Instr.sliceAt 9 (vs u0) (some (vi x8)) (some (vi x21)) none) h20 (vs s22)/\∀ b23,h20 b23=none->let h24:=Hp.set h20 b23 (Qb [vs s22] 9);Qh Pg (Builtin.append_ #[162,162] 162 #[vsl a7 n7 c7,(vsl (some (⟨b23,0,none⟩:Addr)) 1 1)]) h24 fun v25 h26=>∃ a27 n27 c27,v25=vsl a27 n27 c27/\((decide ((n27:Int)>80))=true->R (Qe [vsl none 0 0,(ifv (some (119,vi 2)))]) h26)/\((decide ((n27:Int)>80))=false->I3 [vsl a27 n27 c27,vi x21] h26/\m4 [vsl a27 n27 c27,vi x21] h26<m4 vs5 h6))))/\((decide (x8<((ByteArray.size u0:Nat):Int)))=false->R (Qe [vsl a7 n7 c7,ifv none]) h6))):Qa Pg 82 [vs u0] h R:=callC ⟨[],[(5,([4,5],[.one (.slice),.one (.int .i64)],[]))],[]⟩ Tryz.func82 [.one (.v (vs u0))] H
theorem V0 {u0:ByteArray}{u1:Int}{h:Hp}{R:RtT}(H:Qa Pg 237 [vs u0,(vk .u8 u1)] h fun v1 h2=>∃ x3,v1=vi x3/\R (vi x3) h2 ):Qa Pg 198 [vs u0,(vk .u8 u1)] h R:=callO Tryz.func198 [.one (.v (vs u0)),.one (.v (vk .u8 u1))] H
theorem XZ {u0:ByteArray}{u1:Int}{h:Hp}{R:RtT}(H:Qf8 Pg 266 [vs u0,(vk .u8 u1)] h fun v1 h2=>∃ x3,v1=vi x3/\R (vi x3) h2 ):Qa Pg 237 [vs u0,(vk .u8 u1)] h R:=callO Tryz.func237 [.one (.v (vs u0)),.one (.v (vk .u8 u1))] H
theorem QoB:ElT Pg 162 9 1 16:=.of (by kernel_rfl) (by kernel_rfl) (by decide)
def isL (c:UInt8):Bool:=decide (97<=c.toNat)&&decide (c.toNat<=122)
def Wu (c:UInt8):Bool:=decide (48<=c.toNat)&&decide (c.toNat<=57)
def isS (c:UInt8):Bool:=c == 40||c == 41||c == 44||c == 42||c == 43||c == 45||c == 60||c == 62||c == 61
def ZD (c:UInt8):Nat:=if isL c then 97 else if Wu c then 48 else if isS c then 40 else 32
def US (p:UInt8->Bool)(l:LuT):Nat:=(l.takeWhile p).length
def Ka (l:LuT)(i:Nat):Nat:=
 if ZD (l.getD i 0)=40 then(if i+1<l.length/\(l.getD i 0=60/\(l.getD (i+1) 0=61\/l.getD (i+1) 0=62)\/l.getD i 0=62/\l.getD (i+1) 0=61) then i+2 else i+1)
 else i+1+US (fun c=>ZD c == ZD (l.getD i 0)) (l.drop (i+1))
def JI (l:LuT):Nat->Nat->List (LuT)->List (LuT) × Int
 | 0,_,acc=>(acc,0)
 | k+1,i,acc=>if l.length<=i then(acc,0) else if l.getD i 0=32 then JI l k (i+1) acc else if ZD (l.getD i 0)=32 then([],4) else
   if acc.length+1>80 then([],2) else JI l k (Ka l i) (acc++[(l.drop i).take (Ka l i-i)])
def Zo (l:LuT):List (LuT) × Int:=if l.length>240 then([],2) else JI l (l.length+1) 0 []
theorem Mk {l:LuT}{n:Nat}(h:n<l.length):l.drop n=l.getD n 0 :: l.drop (n+1):=by
 rw [dM h,bK,bD h]
 rfl
theorem GM {p:UInt8->Bool}{l:LuT}{n:Nat}(h:n<l.length)(hp:p (l.getD n 0)=true):US p (l.drop n)=1+US p (l.drop (n+1)):=by
 unfold US;rw [Mk h,List.takeWhile_cons,bH hp,cO,mK]
theorem Mo {p:UInt8->Bool}{l:LuT}{n:Nat}(hp:n<l.length->p (l.getD n 0)=false):US p (l.drop n)=0:=by
 unfold US;by_cases h:n<l.length
 ·rw [Mk h,List.takeWhile_cons,bE (by rw [hp h];simp)]
  rfl
 ·rw [fQ (by omega)]
  rfl
theorem Qpq (p:UInt8->Bool)(l:LuT):US p l<=l.length:=(List.takeWhile_sublist _).length_le
theorem Qln (l:LuT)(i:Nat):i<Ka l i:=by
 unfold Ka;split
 ·split<;>omega
 ·omega
theorem Qlv {l:LuT}{i:Nat}(h:i<l.length):Ka l i<=l.length:=by
 unfold Ka;have:=Qpq (fun c=>ZD c == ZD (l.getD i 0)) (l.drop (i+1))
 rw [dO] at this;split
 ·split<;>omega
 ·omega
theorem Qgo {c d:UInt8}:((c.toNat:Nat):Int)=(d.toNat:Nat)↔c=d:=by
 constructor
 ·intro h;exact UInt8.toNat_inj.1 (by omega)
 ·rintro rfl;rfl
theorem Qpe:∀ n:Fin 256,(decide (firstIdx (bs [40,41,44,42,43,45,60,62,61]) (UInt8.ofNat n.val)>=0))=isS (UInt8.ofNat n.val):=by decide +kernel
theorem JE {c:UInt8}{h:Hp}{R:RtT}(hK:R (vk .u8 ((ZD c:Nat):Int)) h):Qa Pg 138 [vk .u8 ((c.toNat:Nat):Int)] h R:=by
 refine QfH ?_
 unfold ZD at hK;refine⟨fun e=>?_,fun e=>⟨fun e2=>?_,fun e2=>?_⟩⟩
 ·have:isL c=true:=by unfold isL;simp [bT] at e ⊢;omega
  rw [bH this] at hK;exact hK
 ·have h1:¬ isL c=true:=by unfold isL;simp [bT] at e ⊢;omega
  have h2:Wu c=true:=by unfold Wu;simp [bT] at e2 ⊢;omega
  rw [bE h1,bH h2] at hK;exact hK
 ·have h1:¬ isL c=true:=by unfold isL;simp [bT] at e ⊢;omega
  have h2:¬ Wu c=true:=by unfold Wu;simp [bT] at e2 ⊢;omega
  rw [bE h1,bE h2] at hK;refine V0 (XZ (Qe7 Tryz.func266 (by kernel_rfl) (by kernel_rfl) (by kernel_rfl) (by kernel_rfl) ⟨_,rfl,_,rfl,_,rfl,?_⟩))
  have key:decide (firstIdx ⟨#[40,41,44,42,43,45,60,62,61]⟩ ((c.toNat:Nat):Int).toNat.toUInt8>=0)=isS c:=by
   have:=Qpe ⟨c.toNat,c.toNat_lt⟩;simp only [UInt8.ofNat_toNat] at this;rw [<-this];congr 2
   simp;rfl
  refine⟨fun e3=>?_,fun e3=>?_⟩
  ·rw [key] at e3;rw [bH e3] at hK;exact hK
  ·rw [key] at e3;rw [bE (by rw [e3];simp)] at hK
   exact hK
theorem Qhl {l:LuT}{i:Nat}{h:Hp}{R:RtT}(hi:i<l.length)(hl:l.length<=1000000)(hK:R (vi (Ka l i:Nat)) h):Qa Pg 139 [vs (bs l),vi i] h R:=by
 refine Qg5 ?_
 rw [Zp];refine⟨_,YW (by kernel_rfl) (by omega) (by omega),JE ⟨_,rfl,_,iW,?_⟩⟩
 rw [bG];have e1:((i:Nat):Int)+1=((i+1:Nat):Int):=by omega
 rw [e1];refine⟨fun e=>?_,fun e=>?_⟩
 ·have hk:ZD (l.getD i 0)=40:=by have:=bC e;omega
  unfold Ka at hK;rw [bH hk] at hK;have r0:Rd Pg (Instr.index 9 (vs (bs l)) (vi i)) h (vk .u8 ((l.getD i 0).toNat:Nat)):=by
   have:=YW (P:=Pg) (h:=h) (t:=9) (by kernel_rfl) (l:=l) (i:=i) (by omega) (by omega)
   rwa [bG] at this
  have r1:∀{b:Prop},(b->i+1<l.length)->b->Rd Pg (Instr.index 9 (vs (bs l)) (vi ((i+1:Nat):Int))) h (vk .u8 ((l.getD (i+1) 0).toNat:Nat)):=by
   intro b hb hb';have:=hb hb';have:=YW (P:=Pg) (h:=h) (t:=9) (by kernel_rfl) (l:=l) (i:=((i+1:Nat):Int)) (by omega) (by omega)
   rwa [bG] at this
  refine⟨_,fun _=>r0,_,r1 (fun e=>by have:=bC e.1;omega),_,r1 (fun e=>by have:=bC e.1.1;omega),_,fun _=>r0,_,r1 (fun e=>by have:=bC e.1.1;omega),?_⟩
  have h60:decide ((((l.getD i 0).toNat:Nat):Int)=60)=decide (l.getD i 0=60):=d9.2 (Qgo (d:=60));have h62:decide ((((l.getD i 0).toNat:Nat):Int)=62)=decide (l.getD i 0=62):=d9.2 (Qgo (d:=62));have g61:decide ((((l.getD (i+1) 0).toNat:Nat):Int)=61)=decide (l.getD (i+1) 0=61):=d9.2 (Qgo (d:=61));have g62:decide ((((l.getD (i+1) 0).toNat:Nat):Int)=62)=decide (l.getD (i+1) 0=62):=d9.2 (Qgo (d:=62));rw [h60,h62,g61,g62];intro J14;refine⟨fun e=>?_,fun e=>?_⟩
  ·rw [bH (by
    simp only [bT] at e;generalize l.getD i 0=c0 at e ⊢;generalize l.getD (i+1) 0=c1 at e ⊢;by_cases q1:c0=60<;>by_cases q2:c1=61<;>by_cases q3:c1=62<;>by_cases q4:c0=62<;>simp [q1,q2,q3,q4] at e ⊢<;>omega)] at hK
   exact⟨_,iW,hK⟩
  ·rw [bE (by
    simp only [bT] at e;generalize l.getD i 0=c0 at e ⊢;generalize l.getD (i+1) 0=c1 at e ⊢;by_cases q1:c0=60<;>by_cases q2:c1=61<;>by_cases q3:c1=62<;>by_cases q4:c0=62<;>simp [q1,q2,q3,q4] at e ⊢<;>omega)] at hK
   exact hK
 ·have hk:¬ ZD (l.getD i 0)=40:=by have:=bB e;omega
  unfold Ka at hK;rw [bE hk] at hK;generalize ZD (l.getD i 0)=k at *
  refine⟨fun vs hh=>hh=h/\∃ n:Nat,vs=[vi n]/\n<=l.length/\n+US (fun c=>ZD c == k) (l.drop n)=i+1+US (fun c=>ZD c == k) (l.drop (i+1)),fun vs hh=>l.length-(Qm vs 0).toNat,⟨rfl,i+1,rfl,hi,rfl⟩,?_⟩
  rintro vs hh ⟨rfl,n,rfl,hn,hr⟩;refine⟨n,rfl,?_⟩
  by_cases hlt:n<l.length
  ·refine⟨_,fun _=>YW (by kernel_rfl) (by omega) (by omega),fun x h'=>h'=hh/\x=.t (.one (.v (vk .u8 ((ZD (l.getD n 0):Nat):Int)))),fun _=>by rw [bG];exact JE ⟨_,rfl,rfl,rfl⟩,fun e=>absurd (by simp;exact hlt) e,?_⟩
   rintro h28 x29 ⟨rfl,e29⟩;cases e29;refine⟨fun e=>?_,fun e=>?_⟩
   ·have hkk:ZD (l.getD n 0)=k:=by rw [cC (show ((n:Nat):Int)<(l.length:Nat) by omega),dH] at e;have:=bC e;omega
    refine⟨_,iW,⟨rfl,n+1,rfl,hlt,?_⟩,by simp [Qm];omega⟩
    rw [GM hlt (by simp only [pH];exact hkk)] at hr
    omega
   ·have hkk:¬ ZD (l.getD n 0)=k:=by rw [cC (show ((n:Nat):Int)<(l.length:Nat) by omega),dH] at e;have:=bB e;omega
    rw [Mo (fun _=>by simp only [kH,ne_eq];exact hkk)] at hr
    rw [<-hr] at hK;exact hK
  ·refine⟨0,fun e=>absurd hlt (by simpa using e),fun x h'=>h'=hh,fun e=>absurd hlt (by simpa using e),fun _=>rfl,?_⟩
   rintro h28 x29 rfl;refine⟨fun e=>?_,fun e=>?_⟩
   ·simp [bT,hlt] at e
   ·rw [Mo (fun h=>absurd h hlt)] at hr
    rw [<-hr] at hK;exact hK
theorem Qej {l:LuT}{h:Hp}{R:RtT}(hK:∀ a n c h',Qg h h' 9 1 a n c ((Zo l).1.flatMap YF)->R (Qe [vsl a n c,ifv (if (Zo l).2=0 then none else some (119,vi (Zo l).2))]) h') :
  Qa Pg 82 [vs (bs l)] h R:=by
 refine QdA ?_
 rw [Zp];refine⟨fun e=>?_,fun e=>?_⟩
 ·have:Zo l=([],2):=by unfold Zo;rw [bH (by simp at e;omega)]
  rw [this] at hK;exact hK none 0 0 h (Qg.nil (Hp.le_refl h) _ _)
 have hl:l.length<=240:=by simp at e;omega
 have hw:Zo l=JI l (l.length+1) 0 []:=by unfold Zo;rw [bE (by omega)]
 refine⟨fun vs hh=>∃(k i:Nat) (acc:List (LuT)) (a:OaT) (n c:Nat),vs=[vsl a n c,vi i]/\l.length<i+k/\i<=l.length/\JI l k i acc=Zo l/\Qg h hh 9 1 a n c (acc.flatMap YF)/\acc.length<=80,
  fun vs hh=>l.length-(Qm vs 1).toNat,⟨l.length+1,0,[],none,0,0,rfl,by omega,by omega,hw.symm,Qg.nil (Hp.le_refl h) _ _,by simp⟩,?_⟩
 rintro vs hh ⟨k,i,acc,a,n,c,rfl,hk,hi,hf,O,hacc⟩;have hn:n=acc.length:=(O.slp ZM (by decide)).1
 refine⟨a,n,c,i,rfl,fun e=>?_,fun e=>?_⟩
 ·have hlt:i<l.length:=by simpa using e
  obtain⟨k,rfl⟩:∃ k',k=k'+1:=⟨k-1,by omega⟩
  rw [JI,bE (by omega)] at hf
  refine⟨_,YW (by kernel_rfl) (by omega) (by omega),?_⟩
  rw [bG];have h32:decide ((((l.getD i 0).toNat:Nat):Int)=32)=decide (l.getD i 0=32):=d9.2 (Qgo (d:=32));rw [h32];refine⟨fun e=>?_,fun e=>?_⟩
  ·rw [bH (by simpa using e)] at hf
   exact⟨_,iW,⟨k,i+1,acc,a,n,c,rfl,by omega,by omega,hf,O,hacc⟩,by simp [Qm];omega⟩
  rw [bE (by simpa using e)] at hf
  refine⟨_,YW (by kernel_rfl) (by omega) (by omega),?_⟩
  rw [bG];refine JE ⟨_,rfl,fun e=>?_,fun e=>?_⟩
  ·rw [bH (by have:=bC e;omega)] at hf
   rw [<-hf] at hK;exact hK none 0 0 hh (Qg.nil O.le _ _)
  rw [bE (by have:=bB e;omega)] at hf
  have g1:=Qln l i;have g2:=Qlv hlt;refine Qhl hlt (by omega) ⟨_,rfl,_,Qez (by kernel_rfl) (by omega) (by omega) (by omega),?_⟩
  rw [bG,bG];intro b hb h24;refine Qg.append QoB (Qg.set hb _ O) (Qf.new _ _ [vs (bs ((l.drop i).take (Ka l i-i)))] _) (m:=1) rfl (by simp [Value.oneCell']) (by omega) (by omega) fun a' c' h' O' _ _=>⟨_,_,_,rfl,fun e=>?_,fun e=>?_⟩
  ·rw [bH (by simp at e;omega)] at hf
   rw [<-hf] at hK;exact hK none 0 0 h' (Qg.nil O'.le _ _)
  ·have h80:¬ acc.length+1>80:=by simp at e;omega
   rw [bE h80] at hf;refine⟨⟨k,Ka l i,acc++[(l.drop i).take (Ka l i-i)],a',_,c',rfl,by omega,g2,hf,?_,by simp;omega⟩,by simp [Qm];omega⟩
   rw [cX];exact O'
 ·have hge:i=l.length:=by simp at e;omega
  have:JI l k i acc=(acc,0):=by
   cases k with
   | zero=>rfl
   | succ k=>rw [JI,bH (by omega)]
  rw [this] at hf;rw [<-hf] at hK;exact hK a n c hh O
open Go.Txt
def Zs (l:List Nd)(kind:Int):Int:=if YN l≠0 then YN l else if (Zn l).2≠0 then(Zn l).2 else if kind≠0/\(Zn l).1≠kind/\(Zn l).1≠0 then 3 else 0
def Ww (q:Qy):Int:=
 if q.size<1\/q.size>1000\/q.slide<1\/q.slide>1000\/q.delay<0\/q.delay>1000\/q.late<0\/q.late>1000 then 1
 else if q.slide>q.size\/q.size>4*q.slide then 3 else 0
def Xw (a:Ag):Int:=if a.1<1\/a.1>5\/(a.1=1/\a.2≠[]) then 3 else if a.1=1 then 0 else Zs a.2 (if a.1=2 then 0 else 1)
def Q5:List Int->Int
 | []=>0
 | f :: l=>if f≠0 then f else Q5 l
def Qf3 (q:Qy):Int:=Q5 [if q.wh=[] then 0 else Zs q.wh 2,if q.by_=[] then 0 else Zs q.by_ 0,Ww q]
def UD (q:Qy):Int:=if q.aggs.length<1\/q.aggs.length>4 then 2 else if Q5 (q.aggs.map Xw)≠0 then Q5 (q.aggs.map Xw) else Qf3 q
def Qkj (ws:List Wd):Qy × Int:=if (Qcd ws).2.f≠0 then(noQ,(Qcd ws).2.f) else if UD (Qcd ws).1≠0 then(noQ,UD (Qcd ws).1) else((Qcd ws).1,0)
def ZO (s:LuT):Qy × Int:=if (Zo s).2≠0 then(noQ,(Zo s).2) else Qkj (Zo s).1
theorem QjD {l:List Int}{f:Int}{r:List Int}(h:∀ x ∈ l,x=0)(hf:f≠0):Q5 (l++f :: r)=f:=by
 induction l with
 | nil=>rw [dC,Q5,bH hf]
 | cons x l ih=>
  have hx:=h x (bS ..);rw [dN,Q5,bE (by rw [hx];decide)]
  exact ih fun y hy=>h y (bY _ hy)
theorem Jo {l:List Int}(h:∀ x ∈ l,x=0):Q5 l=0:=by
 induction l with
 | nil=>rfl
 | cons x l ih=>
  rw [Q5,bE (by rw [h x (bS ..)];decide)]
  exact ih fun y hy=>h y (bY _ hy)
theorem QeH {l:List Int}(h:Q5 l=0):∀ x ∈ l,x=0:=by
 induction l with
 | nil=>intro x hx;cases hx
 | cons y l ih=>
  rw [Q5] at h;intro x hx;split at h
  ·rename_i q;exact absurd h q
  ·rename_i q;rcases bX.1 hx with rfl|hx
   ·omega
   ·exact ih h x hx
theorem Qgf {α:Type}{g:α->Int}{l:List α}{i:Nat}{x:α}(h:∀ y ∈ l.take i,g y=0)(hx:l[i]?=some x)(hf:g x≠0):Q5 (l.map g)=g x:=by
 obtain⟨hi,rfl⟩:=bI.1 hx
 have e:l=l.take i++l[i] :: l.drop (i+1):=by rw [<-dM,dV]
 have e2:=congrArg (List.map g) e;rw [cD,dE] at e2;rw [e2];have h2:=QjD (l:=(l.take i).map g) (f:=g l[i]) (r:=(l.drop (i+1)).map g) (fun y hy=>by
  obtain⟨z,hz,rfl⟩:=dI.1 hy;exact h z hz) hf
 exact h2
theorem Qow {l:List Nd}(O:OkE l):0<=(Zn l).1:=by
 unfold Zn;cases h:tAt l (l.length-1) with
 | none=>exact fW _
 | some t=>
  simp only;have hp:=O.pos;have hn:l[l.length-1]?=some l[l.length-1]:=bD (by omega)
  have hm:=O.n _ (bZ hn);have hg:Qo (l[l.length-1]).v:=by
   generalize l[l.length-1]=n at hm;unfold QX at hm;repeat' split at hm
   all_goals first|cases hm|skip
   rename_i h1;exact fS.1 h1
  rw [tAt,Ye YQ hn (O.wf _ _ hn)] at h;generalize fAt none tyF l (l[l.length-1]).x.toNat=a at h;generalize fAt none tyF l (l[l.length-1]).y.toNat=b at h;generalize l[l.length-1]=n at h hg;unfold tyF at h;split at h
  ·cases h;unfold Qo at hg;omega
  ·split at h
   ·cases h;decide
   ·unfold tyG at h;split at h
    ·split at h
     ·cases h;decide
     ·split at h
      ·cases h
      ·split at h
       ·cases h;decide
       ·cases h;unfold Wy;split<;>decide
    ·cases h
def Qq4 (L:List Ag)(wh by_:List Nd)(s:RS):Qy × RS:=
 let z:=(s.must YO).number 1000
 let sl:=Vt QbM z.1 z.2
 let d:=Vt QbB 0 sl.2
 let t:=Vt Qgc 0 d.2
 (⟨L,wh,by_,z.1,sl.1,d.1,t.1⟩,if t.2.f=0/\t.2.ws≠[] then t.2.fail 4 else t.2)
def byQ (o:Ps)(L:List Ag)(wh:List Nd)(s:RS):Qy × RS:=
 let g:=Mv Kq (fun s=>o (s.must wBy)) s
 Qq4 L wh g.1 g.2
def Qqe (o:Ps)(L:List Ag)(s:RS):Qy × RS:=
 let w:=Mv Kn o ((s.must U2).must Y7)
 byQ o L w.1 w.2
def QbF (o:Ps)(ws:List Wd):Ag × RS:=X7 o ((⟨ws,0,0⟩:RS).must Wa)
def Qpu (o:Ps)(ws:List Wd):List Ag × RS:=KS o ((QbF o ws).2.ws.length+1) [(QbF o ws).1] (QbF o ws).2
theorem Qib (ws:List Wd):Qcd ws=Qqe (WB (ws.length+1)).o (Qpu (WB (ws.length+1)).o ws).1 (Qpu (WB (ws.length+1)).o ws).2:=by
 unfold Qcd;generalize (WB (ws.length+1)).o=o;rfl
theorem NV (l:LuT):∀(k i:Nat) (acc:List (LuT)),acc.length<=80->(∀ w ∈ acc,w.length<=l.length)->(JI l k i acc).1.length<=80/\∀ w ∈ (JI l k i acc).1,w.length<=l.length
 | 0,i,acc,h1,h2=>⟨h1,h2⟩
 | k+1,i,acc,h1,h2=>by
  rw [JI];split
  ·exact⟨h1,h2⟩
  ·split
   ·exact NV l k _ acc h1 h2
   ·split
    ·exact⟨by simp,by simp⟩
    ·split
     ·exact⟨by simp,by simp⟩
     ·refine NV l k _ _ (by rw [bO];simp;omega) fun w hw=>?_
      rcases cP.1 hw with h3|h3
      ·exact h2 w h3
      ·rw [cB.1 h3,bV,dO];omega
theorem QaC (l:LuT):(Zo l).1.length<=80/\∀ w ∈ (Zo l).1,w.length<=240:=by
 unfold Zo;split
 ·exact⟨by simp,by simp⟩
 ·have:=NV l (l.length+1) 0 [] (by simp) (by simp)
  exact⟨this.1,fun w hw=>dJ (this.2 w hw) (by omega)⟩
theorem Qnq (l:LuT):(Zo l).2=0\/(Zo l).2=2\/(Zo l).2=4:=by
 have key:∀(k i:Nat) (acc:List (LuT)),(JI l k i acc).2=0\/(JI l k i acc).2=2\/(JI l k i acc).2=4:=by
  intro k;induction k with
  | zero=>intro i acc;exact .inl rfl
  | succ k ih=>
   intro i acc;rw [JI];split
   ·exact .inl rfl
   ·split
    ·exact ih _ _
    ·split
     ·exact .inr (.inr rfl)
     ·split
      ·exact .inr (.inl rfl)
      ·exact ih _ _
 unfold Zo;split
 ·exact .inr (.inl rfl)
 ·exact key _ _ _
theorem QbI {s:RS}(h:s.good)(w:Wd)(d:Int):YS (Vt w d s).2 s:=by
 unfold Vt;split
 ·exact YS.refl h
 ·exact(Zk h _).trans (GF (Zk h _).ok _)
theorem Qpx (ws:List Wd):(∀ a ∈ (Qpu (WB (ws.length+1)).o ws).1,Qcs a.2):=by
 have ho:=(Qbz (ws.length+1)).1;have g0:(⟨ws,0,0⟩:RS).good:=fun h=>absurd rfl h
 have g1:=Zw g0 Wa;have l1:((⟨ws,0,0⟩:RS).must Wa).ws.length<=ws.length+1:=dJ g1.len (Nat.le_succ _);have g2:=Qa0 ho g1.ok l1;have g3:=Qgr ho ((QbF (WB (ws.length+1)).o ws).2.ws.length+1) [(QbF (WB (ws.length+1)).o ws).1] g2.1.ok (dJ g2.1.len l1) (by
  intro a ha;rw [cB.1 ha];exact g2.2)
 exact g3.2
end Go.Proofs.YthicpjafcpfjoaaGreatDoor
namespace Go.Proofs.YthicpjafcpfjoaaGreatDoor
open Go Go.Vc
theorem QbZ {u0:Int}{u1:Int}{u2:Int}{h:Hp}{R:RtT}(H:(u2≠0/\InR (Int.tdiv u0 u2))/\∃ x1,IsW x1 ((Int.tdiv u0 u2)*u2)/\let J5:Int->Prop:=fun x7=>(∃(I9:LtT) (m10:LmT),I9 [vsl none 0 0,vi x7] h/\∀ vs11 h12,I9 vs11 h12->∃ a13 n13 c13 x14,vs11=[vsl a13 n13 c13,vi x14]/\∃ x15,IsW x15 (u0-u1)/\((decide (x14>x15))=true->∀ b18,h12 b18=none->let h19:=Hp.set h12 b18 (Qb [vi x14] 3);Qh Pg (Builtin.append_ #[46,46] 46 #[(vsl (some ⟨b18,0,none⟩) 1 1),vsl a13 n13 c13]) h19 fun v20 h21=>∃ a22 n22 c22,v20=vsl a22 n22 c22/\∃ x24,IsW x24 (x14-u2)/\I9 [vsl a22 n22 c22,vi x24] h21/\m10 [vsl a22 n22 c22,vi x24] h21<m10 vs11 h12)/\((decide (x14>x15))=false->R (vsl a13 n13 c13) h12));((decide (u0<x1))=true->∃ x2,IsW x2 (x1-u2)/\J5 x2)/\((decide (u0<x1))=false->J5 x1)):Qa Pg 71 [vi u0,vi u1,vi u2] h R:=callC ⟨[],[(6,([7,9],[.one (.slice),.one (.int .i64)],[]))],[]⟩ Tryz.func71 [.one (.v (vi u0)),.one (.v (vi u1)),.one (.v (vi u2))] H
theorem Qiw {u0:Int}{u1:Int}{u2:Int}{h:Hp}{R:RtT}(H:∃ x1,IsW x1 (u0-u1)/\∃ x2,IsW x2 (x1+1)/\∃(I4:LtT) (m5:LmT),I4 [vsl none 0 0,vi x2] h/\∀ vs6 h7,I4 vs6 h7->∃ a8 n8 c8 x9,vs6=[vsl a8 n8 c8,vi x9]/\((decide (x9<=u0))=true->let J19:OaT->Nat->Nat->Hp->Prop:=fun a22 n22 c22 h23=>(∃ x24,IsW x24 (x9+1)/\I4 [vsl a22 n22 c22,vi x24] h23/\m5 [vsl a22 n22 c22,vi x24] h23<m5 vs6 h7);u2≠0/\((decide (((Int.tmod x9 u2):Int)=0))=true->∀ b12,h7 b12=none->let h13:=Hp.set h7 b12 (Qb [vi x9] 3);Qh Pg (Builtin.append_ #[46,46] 46 #[vsl a8 n8 c8,(vsl (some ⟨b12,0,none⟩) 1 1)]) h13 fun v14 h15=>∃ a16 n16 c16,v14=vsl a16 n16 c16/\J19 a16 n16 c16 h15)/\((decide (((Int.tmod x9 u2):Int)=0))=false->J19 a8 n8 c8 h7))/\((decide (x9<=u0))=false->R (vsl a8 n8 c8) h7)):Qa Pg 47 [vi u0,vi u1,vi u2] h R:=callC ⟨[],[(3,([7,8],[.one (.slice),.one (.int .i64)],[]))],[]⟩ Tryz.func47 [.one (.v (vi u0)),.one (.v (vi u1)),.one (.v (vi u2))] H
theorem Qbs {u0:OaT}{u1 u2:Nat}{u3:OaT}{u4 u5:Nat}{h:Hp}{R:RtT}(H:((decide ((u1:Int)≠(u4:Int)))=true->R (vb false) h)/\((decide ((u1:Int)≠(u4:Int)))=false->∃(I3:LtT) (m4:LmT),I3 [vi 0] h/\∀ vs5 h6,I3 vs5 h6->∃ x7,vs5=[vi x7]/\((decide (x7<(u1:Int)))=true->∃ b10 o11,Ix u0 b10 o11 x7 u1/\∃ x12,Hp.cell h6 b10 (o11+x7.toNat*1)=some (vi x12)/\∃ b13 o14,Ix u3 b13 o14 x7 u4/\∃ x15,Hp.cell h6 b13 (o14+x7.toNat*1)=some (vi x15)/\((decide (x12≠x15))=true->R (vb false) h6)/\((decide (x12≠x15))=false->∃ x17,IsW x17 (x7+1)/\I3 [vi x17] h6/\m4 [vi x17] h6<m4 vs5 h6))/\((decide (x7<(u1:Int)))=false->R (vb true) h6))):Qa Pg 24 [vsl u0 u1 u2,vsl u3 u4 u5] h R:=callC ⟨[],[(4,([5],[.one (.int .i64)],[]))],[(6,[0,1,2,3,4,5,6,7,8])]⟩ Tryz.func24 [.one (.v (vsl u0 u1 u2)),.one (.v (vsl u3 u4 u5))] H
theorem Qbv {a:OaT}{n c:Nat}{l:List Int}{a':OaT}{n' c':Nat}{l':List Int}{h:Hp}{R:RtT}(h1:SlI h a n l)(h2:SlI h a' n' l')(hn:n<=140737488355328)(hn':n'<=140737488355328)
  (hK:R (vb (decide (l=l'))) h):Qa Pg 24 [vsl a n c,vsl a' n' c'] h R:=by
 refine Qbs ?_
 refine⟨fun e=>?_,fun e=>?_⟩
 ·have:l≠l':=fun e'=>by
   have:=h1.1;have:=h2.1;subst e';simp at e;omega
  simpa [this] using hK
 ·have hl:n=n':=by simp at e;omega
  refine⟨fun vs hh=>hh=h/\∃ i:Nat,vs=[vi i]/\i<=n/\l.take i=l'.take i,fun vs hh=>n-(Qm vs 0).toNat,⟨rfl,0,rfl,cH _,by simp⟩,?_⟩
  rintro vs hh ⟨rfl,i,rfl,hi,ht⟩;refine⟨i,rfl,fun e=>?_,fun e=>?_⟩
  ·have hlt:i<n:=by simp at e;omega
   obtain⟨b,o,rfl,hc⟩:=h1.get hlt;obtain⟨b',o',rfl,hc'⟩:=h2.get (show i<n' by omega)
   refine⟨b,o,⟨rfl,by omega,by omega⟩,_,by simpa using hc,b',o',⟨rfl,by omega,by omega⟩,_,by simpa using hc',fun e=>?_,fun e=>?_⟩
   ·have hne:l≠l':=fun e'=>by subst e';simp at e
    simpa [hne] using hK
   ·have heq:l.getD i 0=l'.getD i 0:=by simpa using e
    refine⟨_,iW,⟨rfl,i+1,rfl,by omega,?_⟩,?_⟩
    ·have g1:i<l.length:=by have:=h1.1;omega
     have g2:i<l'.length:=by have:=h2.1;omega
     rw [bK,bK,bD g1,bD g2] at heq
     simp only [Option.getD_some] at heq;rw [bJ g1,bJ g2,ht,heq]
    ·simp [Qm];omega
  ·have hge:i=n:=by simp at e;omega
   have heq:l=l':=by
    rw [cQ (by have:=h1.1;omega),cQ (by have:=h2.1;omega)] at ht
    exact ht
   simpa [heq] using hK
def Zq (slide x:Int):Bool:=decide (x.tmod slide=0)
def ZK (at_ size slide:Int):List Int:=upto (Zq slide) (at_-size) size.toNat
theorem YL {slide x:Int}:Zq slide x=true↔slide ∣ x:=by
 unfold Zq;rw [decide_eq_true_iff];exact(Int.dvd_iff_tmod_eq_zero).symm
theorem Jy {slide x y:Int}(hs:1<=slide)(hx:Zq slide x=true)(h1:x<y)(h2:y<x+slide):Zq slide y=false:=by
 rw [<-Bool.not_eq_true];intro hy;rw [YL] at hx hy;obtain⟨u,rfl⟩:=hx;obtain⟨v,rfl⟩:=hy;have h3:u<v:=by
  rcases Int.lt_or_le u v with h|h
  ·exact h
  ·have:=mB h (show (0:Int)<=slide by omega);omega
 have h4:slide*(u+1)<=slide*v:=mB h3 (by omega)
 rw [Int.mul_add] at h4;omega
theorem QfO {u0:Int}{h:Hp}{R:RtT}(H:R (vag [vi u0,vi 0,vi 0,vi 0]) h):Qa Pg 76 [vi u0] h R:=callO Tryz.func76 [.one (.v (vi u0))] H
theorem Qao {u0:Int}{u1:Int}{u2:Int}{u3:Int}{u4:Int}{u5:Int}{h:Hp}{R:RtT}(H:((cond (decide (u0≠1)) (decide (u4=0)) false)=true->R (vag [vi u0,vi u1,vi u2,vi u3]) h)/\((cond (decide (u0≠1)) (decide (u4=0)) false)=false->let J4:Int->Prop:=fun x7=>(∃ x8,IsW x8 (u1+1)/\∃ x9,IsW x9 (u2+u5)/\R (vag [vi u0,vi x8,vi x9,vi x7]) h);((cond (cond (decide (u1=0)) true (cond (decide (u0=4)) (decide (u5<u3)) false)) true (cond (decide (u0=5)) (decide (u5>u3)) false))=true->J4 u5)/\((cond (cond (decide (u1=0)) true (cond (decide (u0=4)) (decide (u5<u3)) false)) true (cond (decide (u0=5)) (decide (u5>u3)) false))=false->J4 u3))):Qa Pg 132 [vag [vi u0,vi u1,vi u2,vi u3],vag [vi u4,vi u5]] h R:=callO Tryz.func132 [.ag [.v (vi u0),.v (vi u1),.v (vi u2),.v (vi u3)],.ag [.v (vi u4),.v (vi u5)]] H
theorem MI {u0:Int}{u1:Int}{u2:Int}{u3:Int}{h:Hp}{R:RtT}(H:((cond (decide (u0=1)) true (decide (u0=2)))=true->Qa Pg 197 [vi u1] h fun v1 h2=>∃ x3 x4,v1=vag [vi x3,vi x4]/\R (vag [vi x3,vi x4]) h2)/\((cond (decide (u0=1)) true (decide (u0=2)))=false->((decide (u1=0))=true->Qa Pg 131 [] h fun v5 h6=>∃ x7 x8,v5=vag [vi x7,vi x8]/\R (vag [vi x7,vi x8]) h6)/\((decide (u1=0))=false->((decide (u0=3))=true->Qa Pg 197 [vi u2] h fun v9 h10=>∃ x11 x12,v9=vag [vi x11,vi x12]/\R (vag [vi x11,vi x12]) h10)/\((decide (u0=3))=false->Qa Pg 197 [vi u3] h fun v14 h15=>∃ x16 x17,v14=vag [vi x16,vi x17]/\R (vag [vi x16,vi x17]) h15)))):Qa Pg 137 [vag [vi u0,vi u1,vi u2,vi u3]] h R:=callO Tryz.func137 [.ag [.v (vi u0),.v (vi u1),.v (vi u2),.v (vi u3)]] H
def Q7 (k:Int)(s:Int × Int × Int)(v:Int × Int):Int × Int × Int:=
 if k≠1/\v.1=0 then s else(s.1+1,s.2.1+v.2,if s.1=0\/(k=4/\v.2<s.2.2)\/(k=5/\v.2>s.2.2) then v.2 else s.2.2)
def QdF (k:Int)(s:Int × Int × Int):Int × Int:=
 if k=1\/k=2 then Xa s.1 else if s.1=0 then(0,0) else if k=3 then Xa s.2.1 else Xa s.2.2
def Qhq (k:Int)(s:Int × Int × Int):List Value:=[vi k,vi s.1,vi s.2.1,vi s.2.2]
theorem Qff {k:Int}{h:Hp}{R:RtT}(hK:R (vag (Qhq k (0,0,0))) h):Qa Pg 76 [vi k] h R:=QfO hK
def QgQ (k:Int)(s:Int × Int × Int)(v:Int × Int):Int × Int × Int:=
 if k≠1/\v.1=0 then s else(IntKind.i64.wrap (s.1+1),IntKind.i64.wrap (s.2.1+v.2),if s.1=0\/(k=4/\v.2<s.2.2)\/(k=5/\v.2>s.2.2) then v.2 else s.2.2)
theorem QlX {k:Int}{s:Int × Int × Int}{v:Int × Int}(h1:InR (s.1+1))(h2:InR (s.2.1+v.2)):QgQ k s v=Q7 k s v:=by
 unfold QgQ Q7;rw [<-(isW h1:_=_),<-(isW h2:_=_)]
theorem Qd3 {k:Int}{s:Int × Int × Int}{v:Int × Int}{h:Hp}{R:RtT}(hK:R (vag (Qhq k (QgQ k s v))) h) :
  Qa Pg 132 [vag (Qhq k s),vag (Qq v)] h R:=by
 obtain⟨n,sum,best⟩:=s;obtain⟨vk,vn⟩:=v;refine Qao ?_
 simp only [QgQ] at hK;refine⟨fun e=>?_,fun e=>?_⟩
 ·simp [bT] at e;rw [bH e] at hK;exact hK
 ·have e':¬(k≠1/\vk=0):=by simpa [bT] using e
  rw [bE e'] at hK;refine⟨fun e=>?_,fun e=>?_⟩
  ·have e2:n=0\/(k=4/\vn<best)\/(k=5/\vn>best):=by simp [bT] at e;omega
   rw [bH e2] at hK;exact⟨_,rfl,_,rfl,hK⟩
  ·have e2:¬(n=0\/(k=4/\vn<best)\/(k=5/\vn>best)):=by simp [bT] at e;omega
   rw [bE e2] at hK;exact⟨_,rfl,_,rfl,hK⟩
theorem QfQ {k:Int}{s:Int × Int × Int}{v:Int × Int}{h:Hp}{R:RtT}(h1:InR (s.1+1))(h2:InR (s.2.1+v.2))(hK:R (vag (Qhq k (Q7 k s v))) h) :
  Qa Pg 132 [vag (Qhq k s),vag (Qq v)] h R:=Qd3 (by rw [QlX h1 h2];exact hK)
theorem Qcx {k:Int}{s:Int × Int × Int}{h:Hp}{R:RtT}(hK:R (vag (Qq (QdF k s))) h):Qa Pg 137 [vag (Qhq k s)] h R:=by
 obtain⟨n,sum,best⟩:=s;refine MI ?_
 simp only [QdF] at hK;refine⟨fun e=>?_,fun e=>⟨fun e2=>?_,fun e2=>⟨fun e3=>?_,fun e3=>?_⟩⟩⟩
 ·have e:k=1\/k=2:=by simp [bT] at e;omega
  rw [bH e] at hK;exact QK ⟨_,_,rfl,hK⟩
 all_goals have e:¬(k=1\/k=2):=by simp [bT] at e;omega
 all_goals rw [bE e] at hK
 ·have e2:n=0:=by simpa using e2
  rw [bH e2] at hK;exact Zy ⟨_,_,rfl,hK⟩
 all_goals have e2:¬ n=0:=by simpa using e2
 all_goals rw [bE e2] at hK
 ·have e3:k=3:=by simpa using e3
  rw [bH e3] at hK;exact QK ⟨_,_,rfl,hK⟩
 ·have e3:¬ k=3:=by simpa using e3
  rw [bE e3] at hK;exact QK ⟨_,_,rfl,hK⟩
theorem GJ {k:Int}:∀(l:List (Int × Int)) (s:Int × Int × Int),(∀ v ∈ l,ZW v)->0<=s.1 ->
  s.1<=(l.foldl (Q7 k) s).1/\(l.foldl (Q7 k) s).1<=s.1+l.length/\s.2.1-l.length*1000000000<=(l.foldl (Q7 k) s).2.1/\(l.foldl (Q7 k) s).2.1<=s.2.1+l.length*1000000000
 | [],s,_,h0=>by simp
 | v :: l,s,hv,h0=>by
  have h1:=hv v (by simp)
  unfold ZW at h1;have h2:s.1<=(Q7 k s v).1/\(Q7 k s v).1<=s.1+1/\s.2.1-1000000000<=(Q7 k s v).2.1/\(Q7 k s v).2.1<=s.2.1+1000000000:=by
   unfold Q7;split<;>simp<;>omega
  have h3:=GJ (k:=k) l (Q7 k s v) (fun u hu=>hv u (by simp [hu])) (by omega)
  rw [jN,cO];push_cast;omega
abbrev Vl:=Int × Int
abbrev PK:=Int × Vl
abbrev Ad:=PK × List Vl
def Qin (q:Qy)(e:EvL):Bool:=decide (q.wh=[])||decide (ZG e q.wh=Zf true)
def Zr (q:Qy)(e:EvL):Vl:=if q.by_=[] then(0,0) else ZG e q.by_
def Qn (q:Qy)(e:EvL):List Vl:=q.aggs.map fun a=>if a.1=1 then(0,0) else ZG e a.2
def QiT (q:Qy)(far s:Int):Bool:=decide (0<=far)&&decide (s+q.size+q.late<=far-q.delay)
theorem Mp {α:Type}{P:List α->Prop}(h0:P [])(h1:∀ l x,P l->P (l++[x]))(l:List α):P l:=by
 have key:∀ l:List α,P l.reverse:=by
  intro l;induction l with
  | nil=>exact h0
  | cons x l ih=>rw [fO];exact h1 _ _ ih
 have:=key l.reverse;rwa [mE] at this
def Qr (a b:PK):Prop:=a.1<b.1\/(a.1=b.1/\(a.2.1<b.2.1\/(a.2.1=b.2.1/\a.2.2<b.2.2)))
instance (a b:PK):Decidable (Qr a b):=by unfold Qr;infer_instance
theorem YB (a:PK):¬ Qr a a:=by unfold Qr;omega
theorem Kv {a b c:PK}(h:Qr a b)(h2:Qr b c):Qr a c:=by unfold Qr at *;omega
theorem Qko {a b:PK}(h:¬ Qr a b)(h2:¬ Qr b a):a=b:=by
 obtain⟨a1,a2,a3⟩:=a;obtain⟨b1,b2,b3⟩:=b;unfold Qr at h h2;simp only at h h2;have e1:a1=b1:=by omega
 have e2:a2=b2:=by omega
 have e3:a3=b3:=by omega
 rw [e1,e2,e3]
def UN (k:PK):List PK->List PK
 | []=>[k]
 | x :: l=>if Qr x k then x :: UN k l else if x=k then x :: l else k :: x :: l
theorem Qic (k x:PK):∀ l,x ∈ UN k l↔x=k\/x ∈ l
 | []=>by simp [UN]
 | y :: l=>by
  rw [UN];split
  ·rw [bX,Qic k x l,bX];constructor
   ·rintro(h|h|h)
    ·exact .inr (.inl h)
    ·exact .inl h
    ·exact .inr (.inr h)
   ·rintro(h|h|h)
    ·exact .inr (.inl h)
    ·exact .inl h
    ·exact .inr (.inr h)
  ·split
   ·rename_i h1 h2;subst h2;simp
   ·rw [bX]
theorem GI (k:PK):∀{l:List PK},l.Pairwise Qr->(UN k l).Pairwise Qr
 | [],_=>by simp [UN]
 | y :: l,h=>by
  obtain⟨h1,h2⟩:=fD.1 h;rw [UN];split
  ·rename_i hy;refine fD.2 ⟨fun x hx=>?_,GI k h2⟩
   rcases (Qic k x l).1 hx with e|hx
   ·rw [e];exact hy
   ·exact h1 x hx
  ·split
   ·exact h
   ·rename_i h3 h4;have hk:Qr k y:=d5 fun q=>h4 (Qko h3 q)
    refine fD.2 ⟨fun x hx=>?_,h⟩
    rcases bX.1 hx with rfl|hx
    ·exact hk
    ·exact Kv hk (h1 x hx)
abbrev AcS:=Int × (Int × Int × Int)
def ZT (acs:List AcS)(r:List Vl):List AcS:=List.zipWith (fun a v=>(a.1,Q7 a.1 a.2 v)) acs r
def Xr (ks:List Int):List AcS:=ks.map fun k=>(k,(0,0,0))
def Wf (ks:List Int)(rs:List (List Vl)):List AcS:=rs.foldl ZT (Xr ks)
def Yx (ks:List Int)(rs:List (List Vl)):List Vl:=(Wf ks rs).map fun a=>QdF a.1 a.2
def X8 (cs:List (List Vl))(r:List Vl):List (List Vl):=List.zipWith (fun c v=>c++[v]) cs r
def Yh (n:Nat)(rs:List (List Vl)):List (List Vl):=rs.foldl X8 (List.replicate n [])
def Mz (k:Int)(c:List Vl):AcS:=(k,c.foldl (Q7 k) (0,0,0))
theorem Vy (ks:List Int)(rs:List (List Vl))(r:List Vl):Wf ks (rs++[r])=ZT (Wf ks rs) r:=by unfold Wf;rw [f7];rfl
theorem XU (n:Nat)(rs:List (List Vl))(r:List Vl):Yh n (rs++[r])=X8 (Yh n rs) r:=by unfold Yh;rw [f7];rfl
theorem Qef {cs:List (List Vl)}{r:List Vl}(h:r.length=cs.length):(X8 cs r).length=cs.length:=by unfold X8;rw [jB];omega
theorem UR {n:Nat}{rs:List (List Vl)}(h:∀ r ∈ rs,r.length=n):(Yh n rs).length=n:=by
 induction rs using Mp with
 | h0=>simp [Yh]
 | h1 rs r ih=>
  have h2:=ih fun x hx=>h x (fL _ hx)
  rw [XU,Qef (by rw [h2];exact h r (by simp)),h2]
theorem Qdb (ks:List Int){rs:List (List Vl)}(h:∀ r ∈ rs,r.length=ks.length):Wf ks rs=List.zipWith Mz ks (Yh ks.length rs):=by
 induction rs using Mp with
 | h0=>
  show Xr ks=List.zipWith Mz ks (List.replicate ks.length []);induction ks with
  | nil=>rfl
  | cons k ks ih=>
   simp only [Xr,dE,cO,fY,kU];rw [show List.map (fun k=>((k,(0,0,0)):AcS)) ks=Xr ks from rfl,ih (fun r hr=>by cases hr)]
   rfl
 | h1 rs r ih=>
  have h2:=ih fun x hx=>h x (fL _ hx)
  have hl:=UR (n:=ks.length) (rs:=rs) fun x hx=>h x (fL _ hx)
  have hr:=h r (by simp)
  rw [Vy,XU,h2];generalize Yh ks.length rs=cs at hl;clear ih h2 h;unfold ZT X8;induction ks generalizing cs r with
  | nil=>rfl
  | cons k ks ih=>
   match cs,r,hl,hr with
   | c :: cs,v :: r,hl,hr=>
    simp only [kU,cO,Nat.add_right_cancel_iff] at hl hr ⊢;rw [ih r (by omega) cs (by omega)]
    congr 1
    unfold Mz;rw [f7];rfl
def Qd (q:Qy):List Int:=q.aggs.map (·.1)
end Go.Proofs.YthicpjafcpfjoaaGreatDoor
namespace Go.Proofs
open Go.Shelf
def Tryz.lays156_ren:Go.Shelf.Ren:=⟨fun|156=>121|165=>177|166=>178|169=>179|240=>219|241=>220|276=>258|277=>259|n=>n,fun|31=>162|9=>9|3=>3|4=>4|0=>0|20=>20|72=>264|76=>237|70=>262|37=>207|75=>59|127=>299|164=>336|5=>5|80=>240|n=>n,fun|n=>n⟩
theorem Tryz.lays156:Go.Proofs.Lays.n156 Tryz.prog Tryz.lays156_ren:={
 mixed:=by kernel_rfl
 f156:=Tryz.func121.trans (congrArg some (by kernel_rfl))
 f165:=Tryz.func177.trans (congrArg some (by kernel_rfl))
 f166:=Tryz.func178.trans (congrArg some (by kernel_rfl))
 f169:=Tryz.func179.trans (congrArg some (by kernel_rfl))
 f240:=Tryz.func219.trans (congrArg some (by kernel_rfl))
 f241:=Tryz.func220.trans (congrArg some (by kernel_rfl))
 f276:=Tryz.func258.trans (congrArg some (by kernel_rfl))
 f277:=Tryz.func259.trans (congrArg some (by kernel_rfl))
 t0:=Tryz.underlying0
 a0:=Tryz.isAgg0
 z0:=Tryz.sizeOf0
 v0:=Tryz.zeroValue0
 t3:=Tryz.underlying3
 a3:=Tryz.isAgg3
 z3:=Tryz.sizeOf3
 v3:=Tryz.zeroValue3
 t4:=Tryz.underlying4
 a4:=Tryz.isAgg4
 z4:=Tryz.sizeOf4
 v4:=Tryz.zeroValue4
 t9:=Tryz.underlying9
 a9:=Tryz.isAgg9
 z9:=Tryz.sizeOf9
 v9:=Tryz.zeroValue9
 t20:=Tryz.underlying20
 a20:=Tryz.isAgg20
 z20:=Tryz.sizeOf20
 v20:=Tryz.zeroValue20
 t31:=Tryz.underlying162
 a31:=Tryz.isAgg162
 z31:=Tryz.sizeOf162
 v31:=Tryz.zeroValue162
 t37:=Tryz.underlying207
 a37:=Tryz.isAgg207
 z37:=Tryz.sizeOf207
 v37:=Tryz.zeroValue207
 t70:=Tryz.underlying262
 a70:=Tryz.isAgg262
 z70:=Tryz.sizeOf262
 v70:=Tryz.zeroValue262
 t72:=Tryz.underlying264
 a72:=Tryz.isAgg264
 z72:=Tryz.sizeOf264
 v72:=Tryz.zeroValue264
 t75:=Tryz.underlying59
 a75:=Tryz.isAgg59
 z75:=Tryz.sizeOf59
 v75:=Tryz.zeroValue59
 t76:=Tryz.underlying237
 a76:=Tryz.isAgg237
 z76:=Tryz.sizeOf237
 v76:=Tryz.zeroValue237
 t127:=Tryz.underlying299
 a127:=Tryz.isAgg299
 z127:=Tryz.sizeOf299
 v127:=Tryz.zeroValue299
 t164:=Tryz.underlying336
 a164:=Tryz.isAgg336
 z164:=Tryz.sizeOf336
 v164:=Tryz.zeroValue336 }
theorem Tryz.Builder_Extra_156:Builder.Extra Tryz.prog Tryz.lays156_ren:={
 sizeBuilder:=by kernel_rfl
 liesBuilder:=by kernel_rfl
 t5:=Tryz.underlying5
 a5:=Tryz.isAgg5
 z5:=Tryz.sizeOf5
 v5:=Tryz.zeroValue5
 infoByte:=by kernel_rfl
 cellsByte:=by kernel_rfl
 sizeByte:=by kernel_rfl
 neB5:=by decide }
open Go.RowKit in
theorem Tryz.strings_Join (bk o c:Nat)(xs:List ByteArray)(sep:ByteArray)(w:World)(hcells:∀(j:Nat) x,xs[j]?=some x->w.cell? ⟨bk,o+j,none⟩=some (.string x))(hbk:bk<w.heap.size)(hN:xs.length<=140737488355328)(hcap:xs.length<=c)(hlen:(Lib.join (xs.map (·.data.toList)) sep.data.toList).length<=140737488355328) :
  Calls Tryz.prog 121 #[.slice (some ⟨bk,o,none⟩) xs.length c,.string sep] w fun e w'=>e=.returned (.string ⟨(Lib.join (xs.map (·.data.toList)) sep.data.toList).toArray⟩)/\Below w.heap.size w w':=Any.strings_Join Tryz.lays156 Tryz.Builder_Extra_156 bk o c xs sep w hcells hbk hN hcap hlen
def Tryz.lays172_ren:Go.Shelf.Ren:=⟨fun|172=>145|244=>201|245=>202|247=>241|279=>242|280=>243|281=>244|282=>245|287=>268|316=>269|171=>119|205=>270|321=>281|322=>282|243=>176|246=>218|283=>254|284=>255|285=>256|286=>257|129=>195|317=>272|318=>273|319=>274|320=>275|337=>284|338=>285|n=>n,fun|9=>9|3=>3|75=>59|76=>237|4=>4|5=>5|167=>319|37=>207|0=>0|85=>320|2=>2|168=>322|53=>43|175=>343|46=>229|210=>346|127=>299|145=>353|143=>351|21=>21|171=>332|173=>334|212=>349|51=>276|20=>20|213=>350|232=>360|233=>361|80=>240|n=>n,fun|15=>1|16=>2|17=>3|18=>7|19=>8|n=>n⟩
def Tryz.laysM246_ren:Go.Shelf.Ren:=⟨fun|246=>218|283=>254|284=>255|285=>256|286=>257|129=>195|317=>272|318=>273|319=>274|320=>275|337=>284|338=>285|n=>n,fun|2=>2|3=>3|9=>9|4=>4|171=>332|0=>0|53=>43|37=>207|5=>5|173=>334|212=>349|51=>276|20=>20|213=>350|46=>229|232=>360|233=>361|n=>n,fun|17=>3|18=>7|19=>8|n=>n⟩
def Tryz.laysM243_ren:Go.Shelf.Ren:=⟨fun|243=>176|246=>218|283=>254|284=>255|285=>256|286=>257|129=>195|317=>272|318=>273|319=>274|320=>275|337=>284|338=>285|n=>n,fun|3=>3|9=>9|2=>2|4=>4|171=>332|0=>0|53=>43|37=>207|5=>5|173=>334|212=>349|51=>276|20=>20|213=>350|46=>229|232=>360|233=>361|n=>n,fun|17=>3|18=>7|19=>8|n=>n⟩
def Tryz.laysM171_ren:Go.Shelf.Ren:=⟨fun|171=>119|243=>176|246=>218|283=>254|284=>255|285=>256|286=>257|129=>195|317=>272|318=>273|319=>274|320=>275|337=>284|338=>285|n=>n,fun|3=>3|9=>9|2=>2|4=>4|171=>332|0=>0|53=>43|37=>207|5=>5|173=>334|212=>349|51=>276|20=>20|213=>350|46=>229|232=>360|233=>361|n=>n,fun|17=>3|18=>7|19=>8|n=>n⟩
theorem Tryz.laysM171:Go.Proofs.LaysM.n171 Tryz.prog Tryz.laysM171_ren:={
 mixed:=by kernel_rfl
 f129:=Tryz.func195.trans (congrArg some (by kernel_rfl))
 f171:=Tryz.func119.trans (congrArg some (by kernel_rfl))
 f243:=Tryz.func176.trans (congrArg some (by kernel_rfl))
 f246:=Tryz.func218.trans (congrArg some (by kernel_rfl))
 f283:=Tryz.func254.trans (congrArg some (by kernel_rfl))
 f284:=Tryz.func255.trans (congrArg some (by kernel_rfl))
 f285:=Tryz.func256.trans (congrArg some (by kernel_rfl))
 f286:=Tryz.func257.trans (congrArg some (by kernel_rfl))
 f317:=Tryz.func272.trans (congrArg some (by kernel_rfl))
 f318:=Tryz.func273.trans (congrArg some (by kernel_rfl))
 f319:=Tryz.func274.trans (congrArg some (by kernel_rfl))
 f320:=Tryz.func275.trans (congrArg some (by kernel_rfl))
 f337:=Tryz.func284.trans (congrArg some (by kernel_rfl))
 f338:=Tryz.func285.trans (congrArg some (by kernel_rfl))
 t0:=Tryz.underlying0
 a0:=Tryz.isAgg0
 z0:=Tryz.sizeOf0
 v0:=Tryz.zeroValue0
 t2:=Tryz.underlying2
 a2:=Tryz.isAgg2
 z2:=Tryz.sizeOf2
 v2:=Tryz.zeroValue2
 t3:=Tryz.underlying3
 a3:=Tryz.isAgg3
 z3:=Tryz.sizeOf3
 v3:=Tryz.zeroValue3
 t4:=Tryz.underlying4
 a4:=Tryz.isAgg4
 z4:=Tryz.sizeOf4
 v4:=Tryz.zeroValue4
 t5:=Tryz.underlying5
 a5:=Tryz.isAgg5
 z5:=Tryz.sizeOf5
 v5:=Tryz.zeroValue5
 t9:=Tryz.underlying9
 a9:=Tryz.isAgg9
 z9:=Tryz.sizeOf9
 v9:=Tryz.zeroValue9
 t20:=Tryz.underlying20
 a20:=Tryz.isAgg20
 z20:=Tryz.sizeOf20
 v20:=Tryz.zeroValue20
 t37:=Tryz.underlying207
 a37:=Tryz.isAgg207
 z37:=Tryz.sizeOf207
 v37:=Tryz.zeroValue207
 t46:=Tryz.underlying229
 a46:=Tryz.isAgg229
 z46:=Tryz.sizeOf229
 v46:=Tryz.zeroValue229
 t51:=Tryz.underlying276
 a51:=Tryz.isAgg276
 z51:=Tryz.sizeOf276
 v51:=Tryz.zeroValue276
 t53:=Tryz.underlying43
 a53:=Tryz.isAgg43
 z53:=Tryz.sizeOf43
 v53:=Tryz.zeroValue43
 t171:=Tryz.underlying332
 a171:=Tryz.isAgg332
 z171:=Tryz.sizeOf332
 v171:=Tryz.zeroValue332
 t173:=Tryz.underlying334
 a173:=Tryz.isAgg334
 z173:=Tryz.sizeOf334
 v173:=Tryz.zeroValue334
 t212:=Tryz.underlying349
 a212:=Tryz.isAgg349
 z212:=Tryz.sizeOf349
 v212:=Tryz.zeroValue349
 t213:=Tryz.underlying350
 a213:=Tryz.isAgg350
 z213:=Tryz.sizeOf350
 t232:=Tryz.underlying360
 a232:=Tryz.isAgg360
 z232:=Tryz.sizeOf360
 v232:=Tryz.zeroValue360
 t233:=Tryz.underlying361
 a233:=Tryz.isAgg361
 z233:=Tryz.sizeOf361
 v233:=Tryz.zeroValue361
 g17:=by kernel_rfl
 g18:=by kernel_rfl
 g19:=by kernel_rfl
 i0:=by kernel_rfl
 i2:=by kernel_rfl
 i3:=by kernel_rfl
 i4:=by kernel_rfl
 i5:=by kernel_rfl
 i9:=by kernel_rfl
 i20:=by kernel_rfl
 i37:=by kernel_rfl
 i46:=by kernel_rfl
 i51:=by kernel_rfl
 i53:=by kernel_rfl
 i171:=by kernel_rfl
 i173:=by kernel_rfl
 i212:=by kernel_rfl
 i232:=by kernel_rfl
 i233:=by kernel_rfl
 m17:=by kernel_rfl
 m18:=by kernel_rfl
 m19:=by kernel_rfl }
open Go.RowKit Go.Sort Go.Lib in
theorem Tryz.strconv_Itoa (n:Int)(h0:-9223372036854775808<=n)(h1:n<=9223372036854775807)(w:World)(htab:Lib.TabIs Tryz.prog w "internal/strconv.uint64pow10" .u64 Lib.pow10Tab) :
  Calls Tryz.prog 119 #[.int .i64 n] w fun e w'=>e=.returned (.string ⟨(Lib.itoa n).toArray⟩)/\∃ k os,w'=grow (w.drewN k) os:=Any.strconv_Itoa Tryz.laysM171 n h0 h1 w htab
def Tryz.laysC172_ren:Go.Shelf.Ren:=⟨fun|172=>145|244=>201|245=>202|247=>241|279=>242|280=>243|281=>244|282=>245|287=>268|316=>269|171=>119|205=>270|321=>281|322=>282|243=>176|246=>218|283=>254|284=>255|285=>256|286=>257|129=>195|317=>272|318=>273|319=>274|320=>275|337=>284|338=>285|n=>n,fun|9=>9|3=>3|75=>59|76=>237|4=>4|5=>5|167=>319|37=>207|0=>0|85=>320|2=>2|168=>322|53=>43|175=>343|46=>229|210=>346|127=>299|145=>353|143=>351|21=>21|171=>332|173=>334|212=>349|51=>276|20=>20|213=>350|232=>360|233=>361|80=>240|n=>n,fun|15=>1|16=>2|17=>3|18=>7|19=>8|n=>n⟩
theorem Tryz.laysC172:Go.Proofs.LaysC.n172 Tryz.prog Tryz.laysC172_ren:={
 mixed:=by kernel_rfl
 f129:=Tryz.func195.trans (congrArg some (by kernel_rfl))
 f171:=Tryz.func119.trans (congrArg some (by kernel_rfl))
 f172:=Tryz.func145.trans (congrArg some (by kernel_rfl))
 f205:=Tryz.func270.trans (congrArg some (by kernel_rfl))
 f243:=Tryz.func176.trans (congrArg some (by kernel_rfl))
 f244:=Tryz.func201.trans (congrArg some (by kernel_rfl))
 f245:=Tryz.func202.trans (congrArg some (by kernel_rfl))
 f246:=Tryz.func218.trans (congrArg some (by kernel_rfl))
 f247:=Tryz.func241.trans (congrArg some (by kernel_rfl))
 f279:=Tryz.func242.trans (congrArg some (by kernel_rfl))
 f280:=Tryz.func243.trans (congrArg some (by kernel_rfl))
 f281:=Tryz.func244.trans (congrArg some (by kernel_rfl))
 f282:=Tryz.func245.trans (congrArg some (by kernel_rfl))
 f283:=Tryz.func254.trans (congrArg some (by kernel_rfl))
 f284:=Tryz.func255.trans (congrArg some (by kernel_rfl))
 f285:=Tryz.func256.trans (congrArg some (by kernel_rfl))
 f286:=Tryz.func257.trans (congrArg some (by kernel_rfl))
 f287:=Tryz.func268.trans (congrArg some (by kernel_rfl))
 f316:=Tryz.func269.trans (congrArg some (by kernel_rfl))
 f317:=Tryz.func272.trans (congrArg some (by kernel_rfl))
 f318:=Tryz.func273.trans (congrArg some (by kernel_rfl))
 f319:=Tryz.func274.trans (congrArg some (by kernel_rfl))
 f320:=Tryz.func275.trans (congrArg some (by kernel_rfl))
 f321:=Tryz.func281.trans (congrArg some (by kernel_rfl))
 f322:=Tryz.func282.trans (congrArg some (by kernel_rfl))
 f337:=Tryz.func284.trans (congrArg some (by kernel_rfl))
 f338:=Tryz.func285.trans (congrArg some (by kernel_rfl))
 t0:=Tryz.underlying0
 a0:=Tryz.isAgg0
 z0:=Tryz.sizeOf0
 v0:=Tryz.zeroValue0
 t2:=Tryz.underlying2
 a2:=Tryz.isAgg2
 z2:=Tryz.sizeOf2
 v2:=Tryz.zeroValue2
 t3:=Tryz.underlying3
 a3:=Tryz.isAgg3
 z3:=Tryz.sizeOf3
 v3:=Tryz.zeroValue3
 t4:=Tryz.underlying4
 a4:=Tryz.isAgg4
 z4:=Tryz.sizeOf4
 v4:=Tryz.zeroValue4
 t5:=Tryz.underlying5
 a5:=Tryz.isAgg5
 z5:=Tryz.sizeOf5
 v5:=Tryz.zeroValue5
 t9:=Tryz.underlying9
 a9:=Tryz.isAgg9
 z9:=Tryz.sizeOf9
 v9:=Tryz.zeroValue9
 t20:=Tryz.underlying20
 a20:=Tryz.isAgg20
 z20:=Tryz.sizeOf20
 v20:=Tryz.zeroValue20
 t21:=Tryz.underlying21
 a21:=Tryz.isAgg21
 z21:=Tryz.sizeOf21
 v21:=Tryz.zeroValue21
 t37:=Tryz.underlying207
 a37:=Tryz.isAgg207
 z37:=Tryz.sizeOf207
 v37:=Tryz.zeroValue207
 t46:=Tryz.underlying229
 a46:=Tryz.isAgg229
 z46:=Tryz.sizeOf229
 v46:=Tryz.zeroValue229
 t51:=Tryz.underlying276
 a51:=Tryz.isAgg276
 z51:=Tryz.sizeOf276
 v51:=Tryz.zeroValue276
 t53:=Tryz.underlying43
 a53:=Tryz.isAgg43
 z53:=Tryz.sizeOf43
 v53:=Tryz.zeroValue43
 t75:=Tryz.underlying59
 a75:=Tryz.isAgg59
 z75:=Tryz.sizeOf59
 v75:=Tryz.zeroValue59
 t76:=Tryz.underlying237
 a76:=Tryz.isAgg237
 z76:=Tryz.sizeOf237
 v76:=Tryz.zeroValue237
 t85:=Tryz.underlying320
 a85:=Tryz.isAgg320
 z85:=Tryz.sizeOf320
 v85:=Tryz.zeroValue320
 t127:=Tryz.underlying299
 a127:=Tryz.isAgg299
 z127:=Tryz.sizeOf299
 v127:=Tryz.zeroValue299
 t143:=Tryz.underlying351
 a143:=Tryz.isAgg351
 z143:=Tryz.sizeOf351
 v143:=Tryz.zeroValue351
 t145:=Tryz.underlying353
 a145:=Tryz.isAgg353
 z145:=Tryz.sizeOf353
 v145:=Tryz.zeroValue353
 t167:=Tryz.underlying319
 a167:=Tryz.isAgg319
 z167:=Tryz.sizeOf319
 v167:=Tryz.zeroValue319
 t168:=Tryz.underlying322
 a168:=Tryz.isAgg322
 z168:=Tryz.sizeOf322
 v168:=Tryz.zeroValue322
 t171:=Tryz.underlying332
 a171:=Tryz.isAgg332
 z171:=Tryz.sizeOf332
 v171:=Tryz.zeroValue332
 t173:=Tryz.underlying334
 a173:=Tryz.isAgg334
 z173:=Tryz.sizeOf334
 v173:=Tryz.zeroValue334
 t175:=Tryz.underlying343
 a175:=Tryz.isAgg343
 z175:=Tryz.sizeOf343
 v175:=Tryz.zeroValue343
 t210:=Tryz.underlying346
 a210:=Tryz.isAgg346
 z210:=Tryz.sizeOf346
 v210:=Tryz.zeroValue346
 t212:=Tryz.underlying349
 a212:=Tryz.isAgg349
 z212:=Tryz.sizeOf349
 v212:=Tryz.zeroValue349
 t213:=Tryz.underlying350
 a213:=Tryz.isAgg350
 z213:=Tryz.sizeOf350
 t232:=Tryz.underlying360
 a232:=Tryz.isAgg360
 z232:=Tryz.sizeOf360
 v232:=Tryz.zeroValue360
 t233:=Tryz.underlying361
 a233:=Tryz.isAgg361
 z233:=Tryz.sizeOf361
 v233:=Tryz.zeroValue361
 g15:=by kernel_rfl
 g16:=by kernel_rfl
 g17:=by kernel_rfl
 g18:=by kernel_rfl
 g19:=by kernel_rfl
 t80:=Tryz.underlying240
 a80:=Tryz.isAgg240
 z80:=Tryz.sizeOf240
 v80:=Tryz.zeroValue240
 i0:=by kernel_rfl
 i2:=by kernel_rfl
 i3:=by kernel_rfl
 i4:=by kernel_rfl
 i5:=by kernel_rfl
 i9:=by kernel_rfl
 i20:=by kernel_rfl
 i21:=by kernel_rfl
 i37:=by kernel_rfl
 i46:=by kernel_rfl
 i51:=by kernel_rfl
 i53:=by kernel_rfl
 i75:=by kernel_rfl
 i76:=by kernel_rfl
 i80:=by kernel_rfl
 i85:=by kernel_rfl
 i127:=by kernel_rfl
 i143:=by kernel_rfl
 i145:=by kernel_rfl
 i167:=by kernel_rfl
 i168:=by kernel_rfl
 i171:=by kernel_rfl
 i173:=by kernel_rfl
 i175:=by kernel_rfl
 i210:=by kernel_rfl
 i212:=by kernel_rfl
 i232:=by kernel_rfl
 i233:=by kernel_rfl
 m15:=by kernel_rfl
 m16:=by kernel_rfl
 m17:=by kernel_rfl
 m18:=by kernel_rfl
 m19:=by kernel_rfl
 c0:=by kernel_rfl
 c2:=by kernel_rfl
 c3:=by kernel_rfl
 c4:=by kernel_rfl
 c5:=by kernel_rfl
 c9:=by kernel_rfl
 c20:=by kernel_rfl
 c21:=by kernel_rfl
 c37:=by kernel_rfl
 c46:=by kernel_rfl
 c51:=by kernel_rfl
 c53:=by kernel_rfl
 c75:=by kernel_rfl
 c76:=by kernel_rfl
 c80:=by kernel_rfl
 c85:=by kernel_rfl
 c127:=by kernel_rfl
 c143:=by kernel_rfl
 c145:=by kernel_rfl
 c167:=by kernel_rfl
 c168:=by kernel_rfl
 c171:=by kernel_rfl
 c173:=by kernel_rfl
 c175:=by kernel_rfl
 c210:=by kernel_rfl
 c212:=by kernel_rfl
 c213:=by kernel_rfl
 c232:=by kernel_rfl
 c233:=by kernel_rfl }
open Go.RowKit in
theorem Tryz.strconv_Atoi_ok (s:ByteArray)(hmax:s.size<=9223372036854775806)(v:Int)(h:Lib.atoiAll s.data.toList=.ok v)(w:World) :
  Calls Tryz.prog 145 #[.string s] w fun e w'=>e=.returned (.tuple #[.int .i64 v,.nilIface])/\(w'=w\/∃ t,w'=Lib.bytesWorld w 5 t):=Any.strconv_Atoi_ok Tryz.laysC172 s hmax v h w
def Tryz.lays221_ren:Go.Shelf.Ren:=⟨fun|221=>183|268=>228|138=>229|143=>230|195=>261|197=>262|218=>263|219=>264|260=>276|217=>237|225=>277|224=>278|267=>279|266=>266|314=>286|n=>n,fun|9=>9|3=>3|31=>162|4=>4|0=>0|105=>339|21=>21|5=>5|46=>229|119=>355|139=>358|138=>357|146=>288|51=>276|n=>n,fun|1=>4|3=>5|4=>6|n=>n⟩
def Tryz.lays146_ren:Go.Shelf.Ren:=⟨fun|146=>127|221=>183|268=>228|138=>229|143=>230|195=>261|197=>262|218=>263|219=>264|260=>276|217=>237|225=>277|224=>278|267=>279|266=>266|314=>286|n=>n,fun|9=>9|31=>162|3=>3|4=>4|0=>0|105=>339|21=>21|5=>5|46=>229|119=>355|139=>358|138=>357|146=>288|51=>276|n=>n,fun|1=>4|3=>5|4=>6|n=>n⟩
theorem Tryz.lays146:Go.Proofs.Lays.n146 Tryz.prog Tryz.lays146_ren:={
 mixed:=by kernel_rfl
 f138:=Tryz.func229.trans (congrArg some (by kernel_rfl))
 f143:=Tryz.func230.trans (congrArg some (by kernel_rfl))
 f146:=Tryz.func127.trans (congrArg some (by kernel_rfl))
 f195:=Tryz.func261.trans (congrArg some (by kernel_rfl))
 f197:=Tryz.func262.trans (congrArg some (by kernel_rfl))
 f217:=Tryz.func237.trans (congrArg some (by kernel_rfl))
 f218:=Tryz.func263.trans (congrArg some (by kernel_rfl))
 f219:=Tryz.func264.trans (congrArg some (by kernel_rfl))
 f221:=Tryz.func183.trans (congrArg some (by kernel_rfl))
 f224:=Tryz.func278.trans (congrArg some (by kernel_rfl))
 f225:=Tryz.func277.trans (congrArg some (by kernel_rfl))
 f260:=Tryz.func276.trans (congrArg some (by kernel_rfl))
 f266:=Tryz.func266.trans (congrArg some (by kernel_rfl))
 f267:=Tryz.func279.trans (congrArg some (by kernel_rfl))
 f268:=Tryz.func228.trans (congrArg some (by kernel_rfl))
 f314:=Tryz.func286.trans (congrArg some (by kernel_rfl))
 t0:=Tryz.underlying0
 a0:=Tryz.isAgg0
 z0:=Tryz.sizeOf0
 v0:=Tryz.zeroValue0
 t3:=Tryz.underlying3
 a3:=Tryz.isAgg3
 z3:=Tryz.sizeOf3
 v3:=Tryz.zeroValue3
 t4:=Tryz.underlying4
 a4:=Tryz.isAgg4
 z4:=Tryz.sizeOf4
 v4:=Tryz.zeroValue4
 t5:=Tryz.underlying5
 a5:=Tryz.isAgg5
 z5:=Tryz.sizeOf5
 v5:=Tryz.zeroValue5
 t9:=Tryz.underlying9
 a9:=Tryz.isAgg9
 z9:=Tryz.sizeOf9
 v9:=Tryz.zeroValue9
 t21:=Tryz.underlying21
 a21:=Tryz.isAgg21
 z21:=Tryz.sizeOf21
 v21:=Tryz.zeroValue21
 t31:=Tryz.underlying162
 a31:=Tryz.isAgg162
 z31:=Tryz.sizeOf162
 v31:=Tryz.zeroValue162
 t46:=Tryz.underlying229
 a46:=Tryz.isAgg229
 z46:=Tryz.sizeOf229
 v46:=Tryz.zeroValue229
 t51:=Tryz.underlying276
 a51:=Tryz.isAgg276
 z51:=Tryz.sizeOf276
 v51:=Tryz.zeroValue276
 t105:=Tryz.underlying339
 a105:=Tryz.isAgg339
 z105:=Tryz.sizeOf339
 v105:=Tryz.zeroValue339
 t119:=Tryz.underlying355
 a119:=Tryz.isAgg355
 z119:=Tryz.sizeOf355
 t138:=Tryz.underlying357
 a138:=Tryz.isAgg357
 z138:=Tryz.sizeOf357
 v138:=Tryz.zeroValue357
 t139:=Tryz.underlying358
 a139:=Tryz.isAgg358
 z139:=Tryz.sizeOf358
 v139:=Tryz.zeroValue358
 t146:=Tryz.underlying288
 a146:=Tryz.isAgg288
 z146:=Tryz.sizeOf288
 v146:=Tryz.zeroValue288
 g1:=by kernel_rfl
 g3:=by kernel_rfl
 g4:=by kernel_rfl }
open Go.RowKit Go.Lib in
theorem Tryz.strings_Split (s sep:ByteArray)(m:Int)(w:World)(hs:s.size<4294967281)(hm:w.cell? ⟨4,0,none⟩=some (.int .i64 m))(h1:1<=sep.size) :
  Calls Tryz.prog 127 #[.string s,.string sep] w fun e w'=>
   e=.returned (.slice (some ⟨w.heap.size,0,none⟩) (Lib.countB s sep+1) (Lib.countB s sep+1))/\w'=w.alloc (.cells ((Lib.splitB sep 0 (Lib.countB s sep) s).map Value.string).toArray 9):=Any.strings_Split Tryz.lays146 (by kernel_rfl) s sep m w hs hm h1
def Tryz.laysM146_ren:Go.Shelf.Ren:=⟨fun|146=>127|221=>183|268=>228|138=>229|143=>230|195=>261|197=>262|218=>263|219=>264|260=>276|217=>237|225=>277|224=>278|267=>279|266=>266|314=>286|n=>n,fun|9=>9|31=>162|3=>3|4=>4|0=>0|105=>339|21=>21|5=>5|46=>229|119=>355|139=>358|138=>357|146=>288|51=>276|n=>n,fun|1=>4|3=>5|4=>6|n=>n⟩
theorem Tryz.laysM146:Go.Proofs.LaysM.n146 Tryz.prog Tryz.laysM146_ren:={
 mixed:=by kernel_rfl
 f138:=Tryz.func229.trans (congrArg some (by kernel_rfl))
 f143:=Tryz.func230.trans (congrArg some (by kernel_rfl))
 f146:=Tryz.func127.trans (congrArg some (by kernel_rfl))
 f195:=Tryz.func261.trans (congrArg some (by kernel_rfl))
 f197:=Tryz.func262.trans (congrArg some (by kernel_rfl))
 f217:=Tryz.func237.trans (congrArg some (by kernel_rfl))
 f218:=Tryz.func263.trans (congrArg some (by kernel_rfl))
 f219:=Tryz.func264.trans (congrArg some (by kernel_rfl))
 f221:=Tryz.func183.trans (congrArg some (by kernel_rfl))
 f224:=Tryz.func278.trans (congrArg some (by kernel_rfl))
 f225:=Tryz.func277.trans (congrArg some (by kernel_rfl))
 f260:=Tryz.func276.trans (congrArg some (by kernel_rfl))
 f266:=Tryz.func266.trans (congrArg some (by kernel_rfl))
 f267:=Tryz.func279.trans (congrArg some (by kernel_rfl))
 f268:=Tryz.func228.trans (congrArg some (by kernel_rfl))
 f314:=Tryz.func286.trans (congrArg some (by kernel_rfl))
 t0:=Tryz.underlying0
 a0:=Tryz.isAgg0
 z0:=Tryz.sizeOf0
 v0:=Tryz.zeroValue0
 t3:=Tryz.underlying3
 a3:=Tryz.isAgg3
 z3:=Tryz.sizeOf3
 v3:=Tryz.zeroValue3
 t4:=Tryz.underlying4
 a4:=Tryz.isAgg4
 z4:=Tryz.sizeOf4
 v4:=Tryz.zeroValue4
 t5:=Tryz.underlying5
 a5:=Tryz.isAgg5
 z5:=Tryz.sizeOf5
 v5:=Tryz.zeroValue5
 t9:=Tryz.underlying9
 a9:=Tryz.isAgg9
 z9:=Tryz.sizeOf9
 v9:=Tryz.zeroValue9
 t21:=Tryz.underlying21
 a21:=Tryz.isAgg21
 z21:=Tryz.sizeOf21
 v21:=Tryz.zeroValue21
 t31:=Tryz.underlying162
 a31:=Tryz.isAgg162
 z31:=Tryz.sizeOf162
 v31:=Tryz.zeroValue162
 t46:=Tryz.underlying229
 a46:=Tryz.isAgg229
 z46:=Tryz.sizeOf229
 v46:=Tryz.zeroValue229
 t51:=Tryz.underlying276
 a51:=Tryz.isAgg276
 z51:=Tryz.sizeOf276
 v51:=Tryz.zeroValue276
 t105:=Tryz.underlying339
 a105:=Tryz.isAgg339
 z105:=Tryz.sizeOf339
 v105:=Tryz.zeroValue339
 t119:=Tryz.underlying355
 a119:=Tryz.isAgg355
 z119:=Tryz.sizeOf355
 t138:=Tryz.underlying357
 a138:=Tryz.isAgg357
 z138:=Tryz.sizeOf357
 v138:=Tryz.zeroValue357
 t139:=Tryz.underlying358
 a139:=Tryz.isAgg358
 z139:=Tryz.sizeOf358
 v139:=Tryz.zeroValue358
 t146:=Tryz.underlying288
 a146:=Tryz.isAgg288
 z146:=Tryz.sizeOf288
 v146:=Tryz.zeroValue288
 g1:=by kernel_rfl
 g3:=by kernel_rfl
 g4:=by kernel_rfl
 i0:=by kernel_rfl
 i3:=by kernel_rfl
 i4:=by kernel_rfl
 i5:=by kernel_rfl
 i9:=by kernel_rfl
 i21:=by kernel_rfl
 i31:=by kernel_rfl
 i46:=by kernel_rfl
 i51:=by kernel_rfl
 i105:=by kernel_rfl
 i138:=by kernel_rfl
 i139:=by kernel_rfl
 i146:=by kernel_rfl
 m1:=by kernel_rfl
 s1_3:=fun w h=>Go.Proofs.cell_of_shapedOpen_int (zero:=#[.int .i64 0]) (t:=3) h (of_decide_eq_true (by kernel_rfl)) (by kernel_rfl) rfl (by kernel_rfl) (by kernel_rfl) Tryz.underlying3
 m3:=by kernel_rfl
 m4:=by kernel_rfl }
end Go.Proofs
namespace Go.Vc
open Go
section
variable {P:Program}
theorem Qiu {h:Hp}{t e:TypeId}(ht:P.underlying t=some (.slice e))(hi:(P.info? e).isSome=true){a:OaT}{n c:Nat}{x y:Int}(h0:0<=x)(h1:x<=y)(h2:y<=c):Rd P (Instr.sliceAt t (vsl a n c) none (some (vi x)) (some (vi y))) h (vsl a x.toNat y.toNat):=by
 intro w _;have he:P.elem t=e:=by simp [Program.elem,ht]
 obtain⟨i,hi⟩:=fJ.1 hi;rw [run_sliceAt_slice w t _ _ _ _ (by rw [he];exact ht),run_slice_hm w t a n c (by rw [he];exact ht) _ _ x y h0 h1 h2,he]
 simp [sizeOf,typeInfo,hi,sliced];intro _;cases a<;>simp [Addr.add]
theorem QcL {h:Hp}{t ty e:TypeId}{sz bytes:Nat}(T:ElT P t e sz bytes){a:OaT}{n:Nat}{xs:List Value}(H:Qf h a xs)(hxs:xs.length=n*sz)(ha:a=none->n=0)
  {a2:OaT} {m c2:Nat} {news:List Value} (H2:Qf h a2 news) (hl:news.length=m*sz) (hm0:0<m)
  (hb:(n+m)*bytes<=140737488355328) (hm:n+m<=140737488355328) {K:RtT}
  (hK:∀ a' c' h',Qg h h' e sz a' (n+m) c' (xs++news)->K (vsl a' (n+m) c') h') :
  Qh P (Builtin.append_ #[t,t] ty #[vsl a n n,vsl a2 m c2]) h K:=by
 intro w hs;obtain⟨i,z,hi,hz,rfl,rfl,hzs⟩:=T.el;have hlen:(xs++news).length=(n+m)*i.size:=by rw [bO,hxs,hl,gE]
 have h63:n+m<=maxLen:=by simp only [maxLen];omega
 have hnn:news≠[]:=fun e=>by
  subst e;have h0:m*i.size=0:=by simpa using hl.symm
  rcases pU.1 h0 with h2|h2
  ·omega
  ·have:=T.pos;omega
 obtain⟨b2,o2,rfl,hr2⟩:=(show ∃ b o,a2=some ⟨b,o,none⟩/\h.row b o news.length=some news from H2.resolve_left hnn)
 have hnews:=Qf.cells hs (a:=⟨b2,o2,none⟩) H2;have hno:h w.heap.size=none:=Sub.none hs;have grown:∀ old,old<n+m->Qg h (h.set w.heap.size (.cells (xs.toArray++news.toArray++Builtin.zeroCells z.cells (grownCap w (n+m) old e-(n+m))) e (0,0))) e i.size (some ⟨w.heap.size,0,none⟩) (n+m) (grownCap w (n+m) old e) (xs++news):=by
  intro old ho;have hge:=grownCap_ge w (n+m) old e;have hcm:grownCap w (n+m) old e<=maxLen:=grownCap_le_maxLen w (n+m) old e h63;refine⟨Hp.le_set (Hp.le_refl h) hno _,⟨hlen,.inr ⟨w.heap.size,_,rfl,Hp.set_same _ _ _,hge,hcm,?_,?_⟩⟩,fun g hg=>?_⟩
  ·simp only [kZ,jA,size_zeroCells,hzs,hxs,hl,<-gE];congr 1
   omega
  ·simp only [kE,cG];rw [<-cG,<-hlen];exact mN
  ·cases hg;exact hno
 cases a with
 | none=>
  obtain rfl:=ha rfl;have hx:xs=[]:=dS (by simpa using hxs)
  subst hx;have hr:=run_append_nil (P:=P) w t ty e i z T.sl hi hz ⟨b2,o2,none⟩ m c2 news hl hnews (by omega) (by omega) (by simp only [dY] at hb;omega)
  have hgr:=grown 0 (by omega)
  simp only [dY,dC,Array.empty_append] at hgr hK ⊢;exact⟨_,_,_,hr,Y4 hs _,XD h w _,hK _ _ _ hgr⟩
 | some g=>
  have holds:∀ j u,xs[j]?=some u->w.cell? (g.add j)=some u:=Qf.cells hs H
  have hr:=run_append_grow (P:=P) w t ty e i z T.sl hi hz g n n xs hxs holds ⟨b2,o2,none⟩ m c2 news hl hnews (by omega) (by omega) (growslice_fits (by omega) hb)
  exact⟨_,_,_,hr,Y4 hs _,XD h w _,hK _ _ _ (grown n (by omega))⟩
end
end Go.Vc
namespace Go.Proofs.YthicpjafcpfjoaaGreatDoor
open Go Go.Vc Go.RowKit
def Qrr (n:Int):Nat:=if n<0 then 2*n.natAbs+1 else 2*n.natAbs
theorem Qab:∀(k u:Nat),u<10 ^ (k+1)->Lib.nDigits u<=k+1
 | 0,u,h=>by rw [Lib.nDigits_small (by simpa using h)];exact cJ _
 | k+1,u,h=>by
  by_cases h10:u<10
  ·rw [Lib.nDigits_small h10];omega
  ·rw [Lib.nDigits_big h10];have:=Qab k (u / 10) (by rw [k9 (by decide)];rw [Nat.pow_succ] at h;exact h)
   omega
theorem Qi4 {n:Int}(h0:-1000000000000<=n)(h1:n<=1000000000000):(Lib.itoa n).length<=14:=by
 unfold Lib.itoa;split
 ·rw [cO,Lib.decDigits_length];have:=Qab 12 n.natAbs (by omega)
  omega
 ·rw [Lib.decDigits_length];have:=Qab 12 n.toNat (by omega)
  omega
theorem QeD {n:Int}(h:n<0):Lib.itoa n=45 :: Lib.itoa (-n):=by
 unfold Lib.itoa;rw [bH h,bE (by omega)]
 congr 2
 omega
theorem Qjk {n:Int}(h0:¬ n<0)(h:n<10):Lib.itoa n=[UInt8.ofNat (48+n).toNat]:=by
 unfold Lib.itoa;rw [bE h0,Lib.decDigits_one (by omega)]
 congr 2
 omega
theorem UT {f:FuncId}{args:List Value}{h:Hp}{K:RtT}(H:∀ w,Sub h w->Calls Pg f args.toArray w fun e w'=>∃ v,e=.returned v/\Below w.heap.size w w'/\K v h):Qa Pg f args h K:=by
 intro w hs;refine(H w hs).mono ?_
 rintro e w' ⟨v,he,hB,hK⟩;refine⟨v,h,he,fun b o hb=>?_,⟨hB.os,hB.tape,hB.output,hB.size,fun b hb hn=>⟨hB.block b hb,hn⟩⟩,hK⟩
 have:=hs b o hb;have hlt:=(cT.1 this).1
 rw [hB.block b hlt];exact this
def UV (h:Hp):Prop:=∀ w,Sub h w->Lib.TabIs Pg w "internal/strconv.uint64pow10" .u64 Lib.pow10Tab
theorem sub_le {h h':Hp}{w:World}(hl:h.le h')(hs:Sub h' w):Sub h w:=fun b o ho=>hs b o (hl b o ho)
theorem UV.le {h h':Hp}(T:UV h)(hl:h.le h'):UV h':=fun w hs=>T w (sub_le hl hs)
theorem QeG {W w:World}{name:String}{cs:Array Value}(hT:W.var? Pg name=some cs)(hs:Sub (MJ W) w):w.var? Pg name=some cs:=by
 unfold World.var? at *
 cases hg:Pg.globalNamed name with
 | none=>rw [hg] at hT;cases hT
 | some g=>
  rw [hg] at hT;simp only [jC] at hT ⊢;cases hb:W.heap[g]? with
  | none=>rw [hb] at hT;cases hT
  | some o=>
   rw [hs g o hb];rw [hb] at hT;exact hT
theorem Qo2 {W w:World}{name:String}{k:IntKind}{zs:List Int}(hT:Lib.TabIs Pg W name k zs)(hs:Sub (MJ W) w):Lib.TabIs Pg w name k zs:=QeG hT hs
theorem Qkg (w:World)(k:Nat)(os:Array Obj):Below w.heap.size w (Go.Sort.grow (w.drewN k) os):=by
 refine⟨rfl,rfl,rfl,?_,fun i hi=>?_⟩
 ·show w.heap.size<=(w.heap++os).size;rw [kZ];omega
 ·show (w.heap++os)[i]?=w.heap[i]?;rw [Array.getElem?_append_left hi]
theorem XH {n:Int}(hn:InR n){h:Hp}(T:UV h){R:RtT}(hK:R (vs (bs (Lib.itoa n))) h):Qa Pg 119 [vi n] h R:=
 UT fun w hs=>(Tryz.strconv_Itoa n hn.1 hn.2 w (T w hs)).mono fun e w' ⟨he,k,os,hw⟩=>⟨_,he,by rw [hw];exact Qkg w k os,hK⟩
end Go.Proofs.YthicpjafcpfjoaaGreatDoor
namespace Go.Proofs.YthicpjafcpfjoaaGreatDoor
open Go Go.Vc
theorem Qfe {u0:Int}{u1:Int}{h:Hp}{R:RtT}(H:((decide (u0=0))=true->R (vs ⟨#[110,117,108,108]⟩) h)/\((decide (u0=0))=false->((decide (u0=1))=true->Qa Pg 119 [vi u1] h fun v1 h2=>∃ s3,v1=vs s3/\R (vs s3) h2)/\((decide (u0=1))=false->((decide (u1=0))=true->R (vs ⟨#[102,97,108,115,101]⟩) h)/\((decide (u1=0))=false->R (vs ⟨#[116,114,117,101]⟩) h)))):Qa Pg 120 [vag [vi u0,vi u1]] h R:=callO Tryz.func120 [.ag [.v (vi u0),.v (vi u1)]] H
theorem Qdl {u0:ByteArray}{h:Hp}{R:RtT}(H:∃ p1,RdG .eql 9 (.tmp 6) (.const (vs ⟨#[110,117,108,108]⟩)) (vs u0) (vs ⟨#[110,117,108,108]⟩) h (vb p1)/\(p1=true->Qa Pg 131 [] h fun v2 h3=>∃ x4 x5,v2=vag [vi x4,vi x5]/\R (Qe [vag [vi x4,vi x5],ifv none]) h3)/\(p1=false->∃ p6,RdG .eql 9 (.tmp 6) (.const (vs ⟨#[116,114,117,101]⟩)) (vs u0) (vs ⟨#[116,114,117,101]⟩) h (vb p6)/\let J10:Bool->Prop:=fun p11=>((p11=true->∃ p12,RdG .eql 9 (.tmp 13) (.const (vs ⟨#[116,114,117,101]⟩)) (vs u0) (vs ⟨#[116,114,117,101]⟩) h (vb p12)/\Qa Pg 110 [vb p12] h fun v13 h14=>∃ x15 x16,v13=vag [vi x15,vi x16]/\R (Qe [vag [vi x15,vi x16],ifv none]) h14)/\(p11=false->Qa Pg 145 [vs u0] h fun v18 h19=>∃ x20 e21,v18=Qe [vi x20,ifv e21]/\∃(J22:ShT),((Option.isSome e21)=false->Qa Pg 119 [vi x20] h19 fun v23 h24=>∃ s25,v23=vs s25/\J22 (.t (.one (.v (vs s25)))) h24)/\(¬((Option.isSome e21)=false)->J22 (.t (.one (.v (vs ⟨#[]⟩)))) h19)/\∀ h26 s27,J22 (.t (.one (.v (vs s27)))) h26->∃ p28,((Option.isSome e21)=false->RdG .neq 9 (.tmp 25) (.tmp 26) (vs s27) (vs u0) h26 (vb p28))/\((cond (cond (cond (Option.isSome e21) true p28) true (decide (x20<(-1000000000)))) true (decide (x20>1000000000)))=true->R (Qe [vag [vi 0,vi 0],(ifv (some (119,vi 4)))]) h26)/\((cond (cond (cond (Option.isSome e21) true p28) true (decide (x20<(-1000000000)))) true (decide (x20>1000000000)))=false->Qa Pg 197 [vi x20] h26 fun v30 h31=>∃ x32 x33,v30=vag [vi x32,vi x33]/\R (Qe [vag [vi x32,vi x33],ifv none]) h31)));(p6=true->J10 p6)/\(p6=false->∃ p8,RdG .eql 9 (.tmp 6) (.const (vs ⟨#[102,97,108,115,101]⟩)) (vs u0) (vs ⟨#[102,97,108,115,101]⟩) h (vb p8)/\J10 p8))):Qa Pg 231 [vs u0] h R:=callO Tryz.func231 [.one (.v (vs u0))] H
theorem Qg6 {u0:ByteArray}{h:Hp}{R:RtT}(H:∃ p1,RdG .eql 9 (.tmp 6) (.const (vs ⟨#[110,117,108,108]⟩)) (vs u0) (vs ⟨#[110,117,108,108]⟩) h (vb p1)/\(p1=true->R (Qe [vag [vi 0,vi 0],vi 0]) h)/\(p1=false->∃ p3,RdG .eql 9 (.tmp 9) (.const (vs ⟨#[116,114,117,101]⟩)) (vs u0) (vs ⟨#[116,114,117,101]⟩) h (vb p3)/\∃ p4,(p3=false->RdG .eql 9 (.tmp 12) (.const (vs ⟨#[102,97,108,115,101]⟩)) (vs u0) (vs ⟨#[102,97,108,115,101]⟩) h (vb p4))/\((cond p3 true p4)=true->∃ p5,RdG .eql 9 (.tmp 15) (.const (vs ⟨#[116,114,117,101]⟩)) (vs u0) (vs ⟨#[116,114,117,101]⟩) h (vb p5)/\Qa Pg 211 [vb p5] h fun v6 h7=>∃ x8 x9,v6=vag [vi x8,vi x9]/\R (Qe [vag [vi x8,vi x9],vi 0]) h7)/\((cond p3 true p4)=false->∃ x11,((decide ((((ByteArray.size u0:Nat):Int):Int)>1))=true->Rd Pg (Instr.index 9 (vs u0) (vi 0)) h (vk .u8 x11))/\let J15:ByteArray->Prop:=fun s16=>(Qa Pg 154 [vs s16,vi 1000000000,vb true] h fun v17 h18=>∃ x19,v17=vi x19/\((cond (decide (x19<0)) true (cond (decide ((((ByteArray.size s16:Nat):Int):Int)<((ByteArray.size u0:Nat):Int))) (decide (x19=0)) false))=true->R (Qe [vag [vi 0,vi 0],vi 4]) h18)/\((cond (decide (x19<0)) true (cond (decide ((((ByteArray.size s16:Nat):Int):Int)<((ByteArray.size u0:Nat):Int))) (decide (x19=0)) false))=false->let J24:Int->Prop:=fun x25=>(Qa Pg 161 [vi x25] h18 fun v26 h27=>∃ x28 x29,v26=vag [vi x28,vi x29]/\R (Qe [vag [vi x28,vi x29],vi 0]) h27);((decide ((((ByteArray.size s16:Nat):Int):Int)<((ByteArray.size u0:Nat):Int)))=true->∃ x21,IsW x21 (-x19)/\J24 x21)/\((decide ((((ByteArray.size s16:Nat):Int):Int)<((ByteArray.size u0:Nat):Int)))=false->J24 x19)));((cond (decide ((((ByteArray.size u0:Nat):Int):Int)>1)) (decide (x11=45)) false)=true->∃ s12,Rd Pg (Instr.sliceAt 9 (vs u0) (some (vi 1)) none none) h (vs s12)/\J15 s12)/\((cond (decide ((((ByteArray.size u0:Nat):Int):Int)>1)) (decide (x11=45)) false)=false->J15 u0)))):Qa Pg 206 [vs u0] h R:=callO Tryz.func206 [.one (.v (vs u0))] H
theorem Qho {u0:ByteArray}{u1:Int}{u2:Bool}{h:Hp}{R:RtT}(H:∃ x1,(((decide ((((ByteArray.size u0:Nat):Int):Int)<1))=false/\u2=true)->Rd Pg (Instr.index 9 (vs u0) (vi 0)) h (vk .u8 x1))/\((cond (decide ((((ByteArray.size u0:Nat):Int):Int)<1)) true (cond (cond u2 (decide (x1=48)) false) (decide ((((ByteArray.size u0:Nat):Int):Int)>1)) false))=true->R (vi (-1)) h)/\((cond (decide ((((ByteArray.size u0:Nat):Int):Int)<1)) true (cond (cond u2 (decide (x1=48)) false) (decide ((((ByteArray.size u0:Nat):Int):Int)>1)) false))=false->∃(I4:LtT) (m5:LmT),I4 [vi 0,vi 0] h/\∀ vs6 h7,I4 vs6 h7->∃ x8 x9,vs6=[vi x8,vi x9]/\((decide (x9<((ByteArray.size u0:Nat):Int)))=true->∃ x12,Rd Pg (Instr.index 9 (vs u0) (vi x9)) h7 (vk .u8 x12)/\∃ x13,((decide (x12<48))=false->Rd Pg (Instr.index 9 (vs u0) (vi x9)) h7 (vk .u8 x13))/\((cond (decide (x12<48)) true (decide (x13>57)))=true->R (vi (-1)) h7)/\((cond (decide (x12<48)) true (decide (x13>57)))=false->∃ x15,IsW x15 (10*x8)/\∃ x16,Rd Pg (Instr.index 9 (vs u0) (vi x9)) h7 (vk .u8 x16)/\∃ x17,Rd Pg (binOp .sub 5 (vk .u8 x16) (vk .u8 48)) h7 (vk .u8 x17)/\∃ x18,IsW x18 (x15+(IntKind.wrap .i64 x17))/\((decide (x18>u1))=true->R (vi (-1)) h7)/\((decide (x18>u1))=false->∃ x20,IsW x20 (x9+1)/\I4 [vi x18,vi x20] h7/\m5 [vi x18,vi x20] h7<m5 vs6 h7)))/\((decide (x9<((ByteArray.size u0:Nat):Int)))=false->R (vi x8) h7))):Qa Pg 154 [vs u0,vi u1,vb u2] h R:=callC ⟨[],[(5,([7,8],[.one (.int .i64),.one (.int .i64)],[]))],[]⟩ Tryz.func154 [.one (.v (vs u0)),.one (.v (vi u1)),.one (.v (vb u2))] H
-- FAIL penstock/penstockref.Decimal Fail   no one order: 8 behind 2
theorem QoO {u0:Int}{h:Hp}{R:RtT}(H:((cond (decide (u0<(-1000000000))) true (decide (u0>1000000000)))=true->R (vag [vi 0,vi 0]) h)/\((cond (decide (u0<(-1000000000))) true (decide (u0>1000000000)))=false->R (vag [vi 1,vi u0]) h)):Qa Pg 161 [vi u0] h R:=callO Tryz.func161 [.one (.v (vi u0))] H
theorem Qkw {u0:Bool}{h:Hp}{R:RtT}(H:(u0=true->R (vag [vi 2,vi 1]) h)/\(u0=false->R (vag [vi 2,vi 0]) h)):Qa Pg 211 [vb u0] h R:=callO Tryz.func211 [.one (.v (vb u0))] H
theorem QpN {u0:Int}{u1:Int}{u2:Int}{u3:Int}{u4:Int}{h:Hp}{R:RtT}(H:Qa Pg 211 [vb false] h fun v1 h2=>∃ x3 x4,v1=vag [vi x3,vi x4]/\Qa Pg 211 [vb true] h2 fun v5 h6=>∃ x7 x8,v5=vag [vi x7,vi x8]/\((decide (u0=9))=true->∃ p9,RdG .eql 54 (.tmp 13) (.tmp 14) (vag [vi u1,vi u2]) (vag [vi x3,vi x4]) h6 (vb p9)/\∃ p10,(p9=false->RdG .eql 54 (.tmp 17) (.tmp 18) (vag [vi u3,vi u4]) (vag [vi x3,vi x4]) h6 (vb p10))/\((cond p9 true p10)=true->R (vag [vi x3,vi x4]) h6)/\((cond p9 true p10)=false->((cond (decide (u1=2)) (decide (u3=2)) false)=true->R (vag [vi x7,vi x8]) h6)/\((cond (decide (u1=2)) (decide (u3=2)) false)=false->R (vag [vi 0,vi 0]) h6)))/\((decide (u0=9))=false->((decide (u0=10))=true->((cond (cond (decide (u1=2)) (decide (u2≠0)) false) true (cond (decide (u3=2)) (decide (u4≠0)) false))=true->R (vag [vi x7,vi x8]) h6)/\((cond (cond (decide (u1=2)) (decide (u2≠0)) false) true (cond (decide (u3=2)) (decide (u4≠0)) false))=false->((cond (decide (u1=2)) (decide (u3=2)) false)=true->R (vag [vi x3,vi x4]) h6)/\((cond (decide (u1=2)) (decide (u3=2)) false)=false->R (vag [vi 0,vi 0]) h6)))/\((decide (u0=10))=false->((cond (decide (u1≠1)) true (decide (u3≠1)))=true->R (vag [vi 0,vi 0]) h6)/\((cond (decide (u1≠1)) true (decide (u3≠1)))=false->((decide (u0=6))=true->∃ x18,IsW x18 (u2+u4)/\Qa Pg 161 [vi x18] h6 fun v19 h20=>∃ x21 x22,v19=vag [vi x21,vi x22]/\R (vag [vi x21,vi x22]) h20)/\((decide (u0=6))=false->((decide (u0=7))=true->∃ x23,IsW x23 (u2-u4)/\Qa Pg 161 [vi x23] h6 fun v24 h25=>∃ x26 x27,v24=vag [vi x26,vi x27]/\R (vag [vi x26,vi x27]) h25)/\((decide (u0=7))=false->((decide (u0=8))=true->∃ x28,IsW x28 (u2*u4)/\Qa Pg 161 [vi x28] h6 fun v29 h30=>∃ x31 x32,v29=vag [vi x31,vi x32]/\R (vag [vi x31,vi x32]) h30)/\((decide (u0=8))=false->((decide (u0=11))=true->Qa Pg 211 [(vb (decide (u2<u4)))] h6 fun v33 h34=>∃ x35 x36,v33=vag [vi x35,vi x36]/\R (vag [vi x35,vi x36]) h34)/\((decide (u0=11))=false->((decide (u0=12))=true->Qa Pg 211 [(vb (decide (u2=u4)))] h6 fun v37 h38=>∃ x39 x40,v37=vag [vi x39,vi x40]/\R (vag [vi x39,vi x40]) h38)/\((decide (u0=12))=false->R (vag [vi 0,vi 0]) h6))))))))):Qa Pg 212 [vi u0,vag [vi u1,vi u2],vag [vi u3,vi u4]] h R:=callO Tryz.func212 [.one (.v (vi u0)),.ag [.v (vi u1),.v (vi u2)],.ag [.v (vi u3),.v (vi u4)]] H
theorem YV {n:Int}{h:Hp}{R:RtT}(hK:R (vag (Qq (Xa n))) h):Qa Pg 161 [vi n] h R:=by
 refine QoO ?_
 refine⟨fun e=>?_,fun e=>?_⟩
 ·simp [bT] at e;have:Xa n=(0,0):=by unfold Xa;rw [bH (by omega)]
  rw [this] at hK;exact hK
 ·simp [bT] at e;have:Xa n=(1,n):=by unfold Xa;rw [bE (by omega)]
  rw [this] at hK;exact hK
theorem XO {b:Bool}{h:Hp}{R:RtT}(hK:R (vag (Qq (Zf b))) h):Qa Pg 211 [vb b] h R:=by
 refine Qkw ?_
 cases b with
 | true=>exact⟨fun _=>hK,fun e=>by cases e⟩
 | false=>exact⟨fun e=>by (cases e),fun _=>hK⟩
theorem Qrm (a b:Int × Int):doV 10 a b=if (a.1=2/\a.2≠0)\/(b.1=2/\b.2≠0) then(2,1) else if a.1=2/\b.1=2 then(2,0) else(0,0):=by
 obtain⟨a1,a2⟩:=a;obtain⟨b1,b2⟩:=b;unfold doV Qad JB Zf;by_cases h1:a1=2<;>by_cases h2:b1=2<;>by_cases h3:a2=0<;>by_cases h4:b2=0<;>simp [h1,h2,h3,h4]
theorem Qpl {op:Int}{a b:Int × Int}{h:Hp}{R:RtT}(hK:R (vag (Qq (doV op a b))) h):Qa Pg 212 [vi op,vag (Qq a),vag (Qq b)] h R:=by
 refine QpN ?_
 refine XO ⟨_,_,rfl,XO ⟨_,_,rfl,fun e=>?_,fun e=>⟨fun e2=>?_,fun e2=>?_⟩⟩⟩
 ·obtain rfl:op=9:=bC e;have hd:doV 9 a b=Qad a b:=rfl;rw [hd] at hK;unfold Qad at hK;refine⟨_,XI (b:=Zf false),_,fun _=>XI (b:=Zf false),fun q=>?_,fun q=>?_⟩
  ·rw [bH] at hK
   ·exact hK
   ·by_cases h1:a=(2,0)
    ·exact .inl h1
    ·right;have:decide (a=Zf false)=false:=cE h1;rw [this] at q;exact bC q
  ·have h1:¬(a=(2,0)\/b=(2,0)):=by
    rintro(h1|h1)
    ·have:decide (a=Zf false)=true:=cC h1;rw [this] at q;cases q
    ·have:decide (b=Zf false)=true:=cC h1;rw [this] at q;cases h2:decide (a=Zf false)<;>rw [h2] at q<;>cases q
   rw [bE h1] at hK;refine⟨fun q2=>?_,fun q2=>?_⟩
   ·rw [bH (by simp [bT] at q2;exact q2)] at hK;exact hK
   ·rw [bE (by simp [bT] at q2;omega)] at hK;exact hK
 ·obtain rfl:op=10:=bC e2;rw [Qrm] at hK;refine⟨fun q=>?_,fun q=>?_⟩
  ·rw [bH (by simp [bT] at q;omega)] at hK;exact hK
  ·rw [bE (by simp [bT] at q;omega)] at hK
   refine⟨fun q2=>?_,fun q2=>?_⟩
   ·rw [bH (by simp [bT] at q2;exact q2)] at hK;exact hK
   ·rw [bE (by simp [bT] at q2;omega)] at hK;exact hK
 ·unfold doV at hK;rw [bE (bB e),bE (bB e2)] at hK;refine⟨fun q=>?_,fun q=>?_⟩
  ·rw [bE (by simp [bT] at q;omega)] at hK;exact hK
  rw [bH (by simp [bT] at q;omega)] at hK
  refine⟨fun e=>?_,fun e=>?_⟩
  ·rw [bH (bC e)] at hK;exact⟨_,Jk _,YV ⟨_,_,rfl,hK⟩⟩
  rw [bE (bB e)] at hK;refine⟨fun e=>?_,fun e=>?_⟩
  ·rw [bH (bC e)] at hK;exact⟨_,Jk _,YV ⟨_,_,rfl,hK⟩⟩
  rw [bE (bB e)] at hK;refine⟨fun e=>?_,fun e=>?_⟩
  ·rw [bH (bC e)] at hK;exact⟨_,Jk _,YV ⟨_,_,rfl,hK⟩⟩
  rw [bE (bB e)] at hK;refine⟨fun e=>?_,fun e=>?_⟩
  ·rw [bH (bC e)] at hK;exact XO ⟨_,_,rfl,hK⟩
  rw [bE (bB e)] at hK;refine⟨fun e=>?_,fun e=>?_⟩
  ·rw [bH (bC e)] at hK;exact XO ⟨_,_,rfl,hK⟩
  rw [bE (bB e)] at hK;exact hK
open Go.Txt
structure N9 (h:Hp):Prop where
 a:∃ tp p,∀ w,Sub h w->w.var? Pg "strconv.ErrSyntax"=some #[.iface tp p]
 b:∃ tp p,∀ w,Sub h w->w.var? Pg "strconv.ErrRange"=some #[.iface tp p]
theorem N9.le {h h':Hp}(T:N9 h)(hl:h.le h'):N9 h':=by
 obtain⟨⟨t,p,a⟩,⟨u,q,b⟩⟩:=T;exact⟨⟨t,p,fun w hs=>a w (sub_le hl hs)⟩,⟨u,q,fun w hs=>b w (sub_le hl hs)⟩⟩
theorem strconv_Atoi_ok {l:LuT}(hl:l.length<=1000000){h:Hp}(E:N9 h){R:RtT}(hY:∀ v,Lib.atoiAll l=.ok v->R (Qe [vi v,ifv none]) h)(hN:(∀ v,Lib.atoiAll l≠.ok v)->∀ x e,R (Qe [vi x,ifv (some e)]) h) :
  Qa Pg 145 [vs (bs l)] h R:=by
 have hsz:(bs l).size=l.length:=Zp l;have hdl:(bs l).data.toList=l:=by simp [bs]
 obtain⟨⟨t,p,ha⟩,⟨u,q,hb⟩⟩:=E;refine UT fun w hs=>?_
 cases hA:Lib.atoiAll l
 ·rename_i v;refine(Tryz.strconv_Atoi_ok (bs l) (by omega) v (by rw [hdl];exact hA) w).mono ?_
  rintro e w' ⟨he,hw⟩;refine⟨_,he,?_,hY v hA⟩
  rcases hw with rfl|⟨t,rfl⟩
  ·exact RowKit.Below.refl _ _
  ·exact Lib.bytesWorld_below _ _ _
 ·refine(Any.strconv_Atoi_syntax_var Tryz.laysC172 (bs l) (by omega) (by rw [hdl];exact hA) t p w (ha w hs)).mono ?_
  rintro e w' ⟨N,he,_,_,hB⟩;exact⟨_,he,hB,hN (fun v e=>by rw [hA] at e;cases e) _ (_,_)⟩
 ·refine(Any.strconv_Atoi_range_var Tryz.laysC172 (bs l) (by omega) (by rw [hdl];exact hA) u q w (hb w hs)).mono ?_
  rintro e w' ⟨N,he,_,_,hB⟩;exact⟨_,he,hB,hN (fun v e=>by rw [hA] at e;cases e) _ (_,_)⟩
def Z9 (v:Int × Int):LuT:=if v.1=0 then Wv else if v.1=1 then Lib.itoa v.2 else if v.2=0 then Xp else Xm
theorem JL {v:Int × Int}(hn:InR v.2){h:Hp}(T:UV h){R:RtT}(hK:R (vs (bs (Z9 v))) h):Qa Pg 120 [vag (Qq v)] h R:=by
 refine Qfe ?_
 unfold Z9 at hK;refine⟨fun g=>?_,fun g1=>⟨fun g=>?_,fun g2=>⟨fun g=>?_,fun g3=>?_⟩⟩⟩
 ·rw [bH (bC g)] at hK;exact hK
 ·rw [bE (bB g1),bH (bC g)] at hK;exact XH hn T ⟨_,rfl,hK⟩
 ·rw [bE (bB g1),bE (bB g2),bH (bC g)] at hK;exact hK
 ·rw [bE (bB g1),bE (bB g2),bE (bB g3)] at hK;exact hK
def Wz (l:LuT):(Int × Int) × Int:=
 if l=Wv then((0,0),0) else if l=Xm\/l=Xp then(Zf (decide (l=Xm)),0) else
  match Lib.atoiAll l with
  | .ok v=>if Lib.itoa v=l/\-1000000000<=v/\v<=1000000000 then(Xa v,0) else((0,0),4)
  | _=>((0,0),4)
theorem Qdm {l:LuT}(hl:l.length<=1000000){h:Hp}(T:UV h)(E:N9 h){R:RtT}(hK:R (Qe [vag (Qq (Wz l).1),ifv (QG (Wz l).2)]) h):Qa Pg 231 [vs (bs l)] h R:=by
 refine Qdl ?_
 refine⟨_,QH (b:=Wv),fun g=>?_,fun g1=>?_⟩
 ·have g:=bC g;have:Wz l=((0,0),0):=by unfold Wz;rw [bH g]
  rw [this] at hK;exact Zy ⟨_,_,rfl,hK⟩
 have g1:=bB g1;refine⟨_,QH (b:=Xm),?_⟩
 intro J10;have yes:l=Xm\/l=Xp->J10 true:=by
  intro hw;refine⟨fun _=>⟨_,QH (b:=Xm),?_⟩,fun g=>by cases g⟩
  have:Wz l=(Zf (decide (l=Xm)),0):=by unfold Wz;rw [bE g1,bH hw]
  rw [this] at hK;exact QP ⟨_,_,rfl,hK⟩
 have no:¬(l=Xm\/l=Xp)->J10 false:=by
  intro hw;refine⟨fun g=>by (cases g),fun _=>?_⟩
  have hr:Wz l=match Lib.atoiAll l with
   | .ok v=>if Lib.itoa v=l/\-1000000000<=v/\v<=1000000000 then(Xa v,0) else((0,0),4)
   | _=>((0,0),4):=by unfold Wz;rw [bE g1,bE hw]
  refine strconv_Atoi_ok hl E (fun v hv=>⟨_,_,rfl,?_⟩) fun hn x e=>⟨_,_,rfl,?_⟩
  ·rw [hv] at hr;simp only at hr;have hb:=Lib.atoiAll_bounds hv;refine⟨fun x h'=>h'=h/\x=.t (.one (.v (vs (bs (Lib.itoa v))))),fun _=>XH (by unfold InR;omega) T ⟨_,rfl,rfl,rfl⟩,fun g=>absurd rfl g,?_⟩
   rintro h26 s27 ⟨rfl,e⟩;cases e;refine⟨_,fun _=>YE (a:=Lib.itoa v) (b:=l),fun g=>?_,fun g=>?_⟩
   ·have:¬(Lib.itoa v=l/\-1000000000<=v/\v<=1000000000):=by
     rintro⟨h1,h2,h3⟩;rw [cC h1,cE (show ¬ v < -1000000000 by omega),cE (show ¬ v>1000000000 by omega)] at g
     cases g
    rw [hr,bE this] at hK;exact hK
   ·have:Lib.itoa v=l/\-1000000000<=v/\v<=1000000000:=by obtain⟨g,g3⟩:=ZV g;obtain⟨g,g2⟩:=ZV g;obtain⟨_,g⟩:=ZV g;have g3:=bB g3;have g2:=bB g2;exact⟨by simpa using g,by omega,by omega⟩
    rw [hr,bH this] at hK;exact QK ⟨_,_,rfl,hK⟩
  ·have hr2:Wz l=((0,0),4):=by
    rw [hr];cases hA:Lib.atoiAll l
    ·exact absurd hA (hn _)
    ·rfl
    ·rfl
   rw [hr2] at hK;refine⟨fun x h'=>h'=h/\∃ s,x=.t (.one (.v (vs s))),fun g=>by (cases g),fun _=>⟨rfl,_,rfl⟩,?_⟩
   rintro h26 s27 ⟨rfl,s,e⟩;cases e;exact⟨false,fun g=>by (cases g),fun _=>hK,fun g=>by cases g⟩
 clear_value J10;refine⟨fun g=>?_,fun g2=>⟨_,QH (b:=Xp),?_⟩⟩
 ·rw [g];exact yes (.inl (bC g))
 ·have g2:=bB g2;by_cases hf:l=Xp
  ·rw [cC hf];exact yes (.inr hf)
  ·rw [cE hf];exact no (by rintro(h|h);exact g2 h;exact hf h)
theorem Qn3 {t:TypeId}{h:Hp}{a:Int}(h0:48<=a)(h1:a<=255):Rd Pg (binOp .sub t (vk .u8 a) (vk .u8 48)) h (vk .u8 (a-48)):=by
 intro w _;have e:IntKind.u8.wrap (a-48)=a-48:=by rw [IntKind.wrap_u8];omega
 simp [binOp,Op.intArith,e]
theorem QaS {l:LuT}(hl:l.length<=1000000){most:Int}(hm:0<=most)(hm2:most<=1000000000000){plain:Bool}{h:Hp}{R:RtT}(hK:R (vi (Z4 l most plain)) h):Qa Pg 154 [vs (bs l),vi most,vb plain] h R:=by
 refine Qho ?_
 rw [Zp];refine⟨((l.getD (0:Int).toNat 0).toNat:Int),fun g=>YW (by kernel_rfl) (by decide) (by have:=bB g.1;omega),?_⟩
 have hh:∀ c r,l=c :: r->l.getD (0:Int).toNat 0=c:=by rintro c r rfl;rfl
 have e48:∀ c:UInt8,(c.toNat:Int)=48↔c=48:=by
  intro c;constructor
  ·intro e;have:c.toNat=48:=by omega
   have h2:=congrArg UInt8.ofNat this;simpa using h2
  ·rintro rfl;rfl
 have ep:∀(p:Prop) [Decidable p],(bif plain then decide p else false)=decide (plain=true/\p):=by intro p _;cases plain<;>simp
 have key:(bif (decide ((l.length:Int)<1)) then true else(bif (bif plain then(decide (((l.getD (0:Int).toNat 0).toNat:Int)=48)) else false) then(decide ((l.length:Int)>1)) else false))=decide (l=[]\/(plain=true/\l.head?=some 48/\1<l.length)):=by
  rw [ep,ZP,cor];refine d9.2 ?_
  match l,hh with
  | [],_=>exact⟨fun _=>.inl rfl,fun _=>.inl (by decide)⟩
  | c :: r,hh=>
   rw [hh c r rfl,e48];constructor
   ·rintro(h|⟨⟨h1,h2⟩,h3⟩)
    ·exfalso;have:(c :: r).length=r.length+1:=rfl;omega
    ·exact .inr ⟨h1,by rw [h2];rfl,by omega⟩
   ·rintro(h|⟨h1,h2,h3⟩)
    ·exact absurd h (by simp)
    ·exact .inr ⟨⟨h1,by simpa using h2⟩,by omega⟩
 rw [key];clear key hh;refine⟨fun g=>?_,fun g=>?_⟩
 ·have:Z4 l most plain=-1:=by unfold Z4;rw [bH (bC g)]
  rw [this] at hK;exact hK
 have:Z4 l most plain=VP most 0 l:=by unfold Z4;rw [bE (bB g)]
 rw [this] at hK;clear this g;refine⟨fun vs hh=>hh=h/\∃(a:Int) (i:Nat),vs=[vi a,vi i]/\i<=l.length/\VP most 0 l=VP most a (l.drop i)/\0<=a/\a<=most,fun vs hh=>l.length-(Qm vs 1).toNat,⟨rfl,0,0,rfl,cH _,rfl,fW _,hm⟩,?_⟩
 rintro vs hh ⟨rfl,a,i,rfl,hi,hc,ha,ham⟩;refine⟨a,i,rfl,fun g=>?_,fun g=>?_⟩
 ·have hlt:i<l.length:=by have:=bC g;omega
  have hg:l.getD (i:Int).toNat 0=l[i]:=by rw [bG,bK,bD hlt];rfl
  have hr:Rd Pg (Instr.index 9 (vs (bs l)) (vi i)) hh (vk .u8 ((l[i]).toNat:Nat)):=by
   have:=YW (P:=Pg) (h:=hh) (t:=9) (l:=l) (i:=(i:Int)) (by kernel_rfl) (by omega) (by omega)
   rw [hg] at this;exact this
  rw [dM hlt,VP] at hc;have hb:=j7 l[i];generalize l[i]=c at *
  refine⟨_,hr,_,fun _=>hr,fun q=>?_,fun q=>?_⟩
  ·rw [cor] at q;have q:=bC q;rw [bH (by omega)] at hc
   rw [hc] at hK;exact hK
  ·rw [cor] at q;have q:=bB q;rw [bE (by omega)] at hc
   have e64:IntKind.wrap .i64 ((c.toNat:Int)-48)=(c.toNat:Int)-48:=IntWalk.i64_in _ (by omega)
   refine⟨_,iW,_,hr,_,Qn3 (by omega) (by omega),?_⟩
   rw [e64];refine⟨_,iW,fun q2=>?_,fun q2=>?_⟩
   ·rw [bH (bC q2)] at hc;rw [hc] at hK;exact hK
   ·have q2:=bB q2;rw [bE q2] at hc;exact⟨_,iW,⟨rfl,_,i+1,rfl,by omega,hc,by omega,by omega⟩,by simp [Qm];omega⟩
 ·have hge:i=l.length:=by have:=bB g;omega
  subst hge;rw [fQ (cJ _),VP] at hc;rw [hc] at hK;exact hK
def ZQ (l:LuT):LuT:=if 1<l.length/\l.head?=some 45 then l.drop 1 else l
def Nm (l:LuT):(Int × Int) × Int:=
 if l=Wv then((0,0),0) else if l=Xm\/l=Xp then(Zf (decide (l=Xm)),0) else
  if Z4 (ZQ l) 1000000000 true<0\/((ZQ l).length<l.length/\Z4 (ZQ l) 1000000000 true=0) then((0,0),4)
  else(Xa (if (ZQ l).length<l.length then-Z4 (ZQ l) 1000000000 true else Z4 (ZQ l) 1000000000 true),0)
theorem QlA {l:LuT}{most:Int}(hm:0<=most):Z4 l most true<=most:=by
 by_cases h:0<=Z4 l most true
 ·exact(Qir hm h).2
 ·omega
theorem Qp5 {l:LuT}{most:Int}(hm:0<=most):-1<=Z4 l most true:=by
 unfold Z4;split
 ·omega
 ·have:=Je most l 0 hm;simp only [Int.natCast_zero] at this;rw [this];split<;>omega
theorem Qh2 {l:LuT}(hl:l.length<=1000000){h:Hp}{R:RtT}(hK:R (Qe [vag (Qq (Nm l).1),vi (Nm l).2]) h):Qa Pg 206 [vs (bs l)] h R:=by
 refine Qg6 ?_
 rw [Zp];refine⟨_,QH (b:=Wv),fun g=>?_,fun g1=>⟨_,QH (b:=Xm),_,fun _=>QH (b:=Xp),?_⟩⟩
 ·have:Nm l=((0,0),0):=by unfold Nm;rw [bH (bC g)]
  rw [this] at hK;exact hK
 have g1:=bB g1;rw [cor];refine⟨fun g=>⟨_,QH (b:=Xm),XO ⟨_,_,rfl,?_⟩⟩,fun g2=>?_⟩
 ·have:Nm l=(Zf (decide (l=Xm)),0):=by unfold Nm;rw [bE g1,bH (bC g)]
  rw [this] at hK;exact hK
 have g2:=bB g2;have hr:Nm l=if Z4 (ZQ l) 1000000000 true<0\/((ZQ l).length<l.length/\Z4 (ZQ l) 1000000000 true=0) then((0,0),4)
  else(Xa (if (ZQ l).length<l.length then-Z4 (ZQ l) 1000000000 true else Z4 (ZQ l) 1000000000 true),0):=by unfold Nm;rw [bE g1,bE g2]
 rw [hr] at hK;clear hr;refine⟨((l.getD (0:Int).toNat 0).toNat:Int),fun g=>YW (by kernel_rfl) (by decide) (by have:=bC g;omega),?_⟩
 intro J15;have hJ:∀ t,t=ZQ l->t.length<=l.length->J15 (bs t):=by
  intro t ht htl;refine QaS (by omega) (by decide) (by decide) ⟨_,rfl,?_⟩
  rw [<-ht] at hK;have hb1:=QlA (l:=t) (most:=1000000000) (by decide)
  have hb2:=Qp5 (l:=t) (most:=1000000000) (by decide)
  generalize Z4 t 1000000000 true=n at *
  rw [Zp];have e:(bif (decide ((n:Int)<0)) then true else(bif (decide (((t.length:Nat):Int)<((l.length:Nat):Int))) then(decide ((n:Int)=0)) else false))=decide (n<0\/(t.length<l.length/\n=0)):=by
   rw [ZP,cor];exact d9.2 (by omega)
  rw [e];refine⟨fun g=>?_,fun g=>?_⟩
  ·rw [bH (bC g)] at hK;exact hK
  ·rw [bE (bB g)] at hK;refine⟨fun g=>⟨_,iW,YV ⟨_,_,rfl,?_⟩⟩,fun g=>YV ⟨_,_,rfl,?_⟩⟩
   ·rw [bH (by have:=bC g;omega)] at hK;exact hK
   ·rw [bE (by have:=bB g;omega)] at hK;exact hK
 clear_value J15;have e45:(bif (decide ((l.length:Int)>1)) then(decide (((l.getD (0:Int).toNat 0).toNat:Int)=45)) else false)=decide (1<l.length/\l.head?=some 45):=by
  rw [ZP];refine d9.2 ?_
  match l with
  | []=>simp
  | c :: r=>
   have e:(c.toNat:Int)=45↔c=45:=by
    constructor
    ·intro e;have:c.toNat=45:=by omega
     have h2:=congrArg UInt8.ofNat this;simpa using h2
    ·rintro rfl;rfl
   show _/\(c.toNat:Int)=45↔_;rw [e];simp;omega
 rw [e45];refine⟨fun g=>⟨_,Qo8 (by kernel_rfl) (by decide) (by have:=(bC g).1;omega),?_⟩,fun g=>?_⟩
 ·refine hJ _ ?_ (by simp)
  unfold ZQ;rw [bH (bC g)];rfl
 ·refine hJ _ ?_ (cJ _)
  unfold ZQ;rw [bE (bB g)]
theorem QlT (l:LuT):Wz l=Nm l:=by
 unfold Wz Nm;split
 ·rfl
 ·split
  ·rfl
  ·have hi:=fun h=>Qir (l:=ZQ l) (most:=1000000000) (by decide) h
   have hle:=QlA (l:=ZQ l) (most:=1000000000) (by decide)
   by_cases hc:Z4 (ZQ l) 1000000000 true<0\/((ZQ l).length<l.length/\Z4 (ZQ l) 1000000000 true=0)
   ·rw [bH hc];cases hA:Lib.atoiAll l with
    | ok v=>
     simp only;rw [bE];rintro⟨h1,h2,h3⟩;by_cases hv:v<0
     ·have e:=QeD hv;rw [h1] at e;have hd:=W4 (-v).toNat;have ei:Lib.itoa (-v)=Lib.decDigits (-v).toNat:=by unfold Lib.itoa;rw [bE (by omega)]
      rw [ei] at e;have ht:ZQ l=Lib.decDigits (-v).toNat:=by
       unfold ZQ;have:=List.length_pos_iff.2 hd.2.2.1;rw [bH (by rw [e];exact⟨by simp;omega,rfl⟩),e]
       rfl
      have hn:=QiR (k:=(-v).toNat) (most:=1000000000) (by omega) (by decide)
      rw [<-ht] at hn;omega
     ·have ei:Lib.itoa v=Lib.decDigits v.toNat:=by unfold Lib.itoa;rw [bE hv]
      rw [ei] at h1;have hd:=W4 v.toNat;have ht:ZQ l=l:=by
       unfold ZQ;rw [bE];rintro⟨_,h4⟩;rw [<-h1] at h4;have hm:(45:UInt8) ∈ Lib.decDigits v.toNat:=by
        match hx:Lib.decDigits v.toNat with
        | []=>rw [hx] at h4;cases h4
        | c :: r=>rw [hx] at h4;simp at h4;subst h4;exact bS ..
       exact absurd (hd.1 _ hm) (by decide)
      have hn:=QiR (k:=v.toNat) (most:=1000000000) (by omega) (by decide)
      rw [h1,<-ht] at hn;rw [ht] at hc;rw [ht] at hn;omega
    | _=>rfl
   ·rw [bE hc];have h0:0<=Z4 (ZQ l) 1000000000 true:=by omega
    obtain⟨e1,_⟩:=hi h0;generalize Z4 (ZQ l) 1000000000 true=n at *
    have hl:∃ m:Int,m=(if (ZQ l).length<l.length then -n else n)/\Lib.itoa m=l/\-1000000000<=m/\m<=1000000000:=by
     refine⟨_,rfl,?_,?_,?_⟩
     ·split
      ·rename_i hlt;have hs:1<l.length/\l.head?=some 45:=by
        unfold ZQ at hlt;split at hlt
        ·assumption
        ·omega
       have el:l=45 :: ZQ l:=by
        unfold ZQ;rw [bH hs];match l,hs with
        | c :: r,hs=>simp at hs ⊢;exact hs.2
       have hn0:n≠0:=fun e=>hc (.inr ⟨hlt,e⟩)
       rw [QeD (by omega)]
       have ei:Lib.itoa (- -n)=Lib.decDigits n.toNat:=by
        unfold Lib.itoa;rw [bE (by omega)]
        congr 1
        omega
       rw [ei,<-e1];exact el.symm
      ·rename_i hlt;have:ZQ l=l:=by
        unfold ZQ at hlt ⊢;split
        ·rename_i h;rw [bH h] at hlt;simp at hlt;omega
        ·rfl
       rw [this] at e1;have ei:Lib.itoa n=Lib.decDigits n.toNat:=by unfold Lib.itoa;rw [bE (by omega)]
       rw [ei,<-e1]
     ·split<;>omega
     ·split<;>omega
    obtain⟨m,em,h1,h2,h3⟩:=hl;rw [<-em];have:=Qbt (n:=m) (by omega) (by omega)
    rw [h1] at this;rw [this];simp only;rw [bH ⟨h1,h2,h3⟩]
end Go.Proofs.YthicpjafcpfjoaaGreatDoor
namespace Go.Proofs.YthicpjafcpfjoaaGreatDoor
open Go Go.Vc
theorem Gt {u0 u1:Nat}{u2:OtT}{h:Hp}{R:RtT}(H:∃ e1,Hp.cell h u0 (u1+2)=some (ifv e1)/\let J5:HpT:=fun h6=>(Hp.store h6 u0 u1 [vsl none 0 0] fun h7=>R (Qe []) h7);((Option.isNone e1)=true->Hp.store h u0 (u1+2) [ifv u2] fun h2=>J5 h2)/\((Option.isNone e1)=false->J5 h)):Qa Pg 140 [vhp u0 u1,ifv u2] h R:=callO Tryz.func140 [.one (.hp u0 u1),.one (.ifc u2)] H
theorem No {u0 u1:Nat}{u2:OaT}{u3 u4:Nat}{h:Hp}{R:RtT}(H:∃ a1 n1 c1,Hp.cell h u0 u1=some (vsl a1 n1 c1)/\∃ a2 n2 c2,((decide ((n1:Int)=0))=false->Hp.cell h u0 u1=some (vsl a2 n2 c2))/\∃ b3 o4,((decide ((n1:Int)=0))=false->Ix a2 b3 o4 0 n2)/\∃ s5,((decide ((n1:Int)=0))=false->Hp.cell h b3 (o4+(0:Int).toNat*1)=some (vs s5))/\∃(J6:ShT),((decide ((n1:Int)=0))=false->Qa Pg 142 [vsl u2 u3 u4,vs s5] h fun v7 h8=>∃ p9,v7=vb p9/\J6 (.t (.one (.v (vb p9)))) h8)/\(¬((decide ((n1:Int)=0))=false)->J6 (.t (.one (.v (vb false)))) h)/\∀ h10 p11,J6 (.t (.one (.v (vb p11)))) h10->((cond (decide ((n1:Int)=0)) true (!p11))=true->R (vs ⟨#[]⟩) h10)/\((cond (decide ((n1:Int)=0)) true (!p11))=false->∃ a13 n13 c13,Hp.cell h10 u0 u1=some (vsl a13 n13 c13)/\∃ b14 o15,Ix a13 b14 o15 0 n13/\∃ s16,Hp.cell h10 b14 (o15+(0:Int).toNat*1)=some (vs s16)/\∃ a17 n17 c17,Hp.cell h10 u0 u1=some (vsl a17 n17 c17)/\∃ a18 n18 c18,Rd Pg (Instr.sliceAt 162 (vsl a17 n17 c17) (some (vi 1)) none none) h10 (vsl a18 n18 c18)/\Hp.store h10 u0 u1 [vsl a18 n18 c18] fun h19=>R (vs s16) h19)):Qa Pg 85 [vhp u0 u1,vsl u2 u3 u4] h R:=callO Tryz.func85 [.one (.hp u0 u1),.one (.v (vsl u2 u3 u4))] H
theorem Gz {u0 u1:Nat}{u2:ByteArray}{h:Hp}{R:RtT}(H:∀ b1,h b1=none->let h2:=Hp.set h b1 (Qb [vs u2] 9);Qa Pg 85 [vhp u0 u1,(vsl (some (⟨b1,0,none⟩:Addr)) 1 1)] h2 fun v3 h4=>∃ s5,v3=vs s5/\∃ p6,RdG .eql 9 (.tmp 7) (.const (vs ⟨#[]⟩)) (vs s5) (vs ⟨#[]⟩) h4 (vb p6)/\(p6=true->Qa Pg 140 [vhp u0 u1,(ifv (some (119,vi 4)))] h4 fun v7 h8=>v7=Qe []/\R (Qe []) h8)/\(p6=false->R (Qe []) h4)):Qa Pg 83 [vhp u0 u1,vs u2] h R:=callO Tryz.func83 [.one (.hp u0 u1),.one (.v (vs u2))] H
theorem UZ {u0 u1:Nat}{u2:Int}{h:Hp}{R:RtT}(H:∃ a1 n1 c1,Hp.cell h u0 u1=some (vsl a1 n1 c1)/\((decide ((n1:Int)=0))=true->Qa Pg 140 [vhp u0 u1,(ifv (some (119,vi 4)))] h fun v2 h3=>v2=Qe []/\R (vi 0) h3)/\((decide ((n1:Int)=0))=false->∃ a5 n5 c5,Hp.cell h u0 u1=some (vsl a5 n5 c5)/\∃ b6 o7,Ix a5 b6 o7 0 n5/\∃ s8,Hp.cell h b6 (o7+(0:Int).toNat*1)=some (vs s8)/\Qa Pg 145 [vs s8] h fun v9 h10=>∃ x11 e12,v9=Qe [vi x11,ifv e12]/\∃ a13 n13 c13,((Option.isSome e12)=false->Hp.cell h10 u0 u1=some (vsl a13 n13 c13))/\∃ b14 o15,((Option.isSome e12)=false->Ix a13 b14 o15 0 n13)/\∃ s16,((Option.isSome e12)=false->Hp.cell h10 b14 (o15+(0:Int).toNat*1)=some (vs s16))/\∃ x17,((Option.isSome e12)=false->Rd Pg (Instr.index 9 (vs s16) (vi 0)) h10 (vk .u8 x17))/\∃ a18 n18 c18,((cond (Option.isSome e12) true (decide (x17<48)))=false->Hp.cell h10 u0 u1=some (vsl a18 n18 c18))/\∃ b19 o20,((cond (Option.isSome e12) true (decide (x17<48)))=false->Ix a18 b19 o20 0 n18)/\∃ s21,((cond (Option.isSome e12) true (decide (x17<48)))=false->Hp.cell h10 b19 (o20+(0:Int).toNat*1)=some (vs s21))/\∃ x22,((cond (Option.isSome e12) true (decide (x17<48)))=false->Rd Pg (Instr.index 9 (vs s21) (vi 0)) h10 (vk .u8 x22))/\((cond (cond (cond (Option.isSome e12) true (decide (x17<48))) true (decide (x22>57))) true (decide (x11>u2)))=true->Qa Pg 140 [vhp u0 u1,(ifv (some (119,vi 4)))] h10 fun v23 h24=>v23=Qe []/\R (vi 0) h24)/\((cond (cond (cond (Option.isSome e12) true (decide (x17<48))) true (decide (x22>57))) true (decide (x11>u2)))=false->∃ a26 n26 c26,Hp.cell h10 u0 u1=some (vsl a26 n26 c26)/\∃ a27 n27 c27,Rd Pg (Instr.sliceAt 162 (vsl a26 n26 c26) (some (vi 1)) none none) h10 (vsl a27 n27 c27)/\Hp.store h10 u0 u1 [vsl a27 n27 c27] fun h28=>R (vi x11) h28))):Qa Pg 87 [vhp u0 u1,vi u2] h R:=callO Tryz.func87 [.one (.hp u0 u1),.one (.v (vi u2))] H
theorem Mu {u0 u1:Nat}{h:Hp}{R:RtT}(H:∀ b1,h b1=none->let h2:=Hp.set h b1 (Qb [(vs ⟨#[99,111,117,110,116]⟩),(vs ⟨#[115,117,109]⟩),(vs ⟨#[109,105,110]⟩),(vs ⟨#[109,97,120]⟩)] 9);Qa Pg 85 [vhp u0 u1,(vsl (some (⟨b1,0,none⟩:Addr)) 4 4)] h2 fun v3 h4=>∃ s5,v3=vs s5/\∃ p6,RdG .eql 9 (.tmp 8) (.const (vs ⟨#[]⟩)) (vs s5) (vs ⟨#[]⟩) h4 (vb p6)/\let J11:HpT:=fun h12=>(Qa Pg 83 [vhp u0 u1,(vs ⟨#[40]⟩)] h12 fun v13 h14=>v13=Qe []/\∃ a15 n15 c15,Hp.cell h14 0 0=some (vsl a15 n15 c15)/\Qa Pg 141 [vsl a15 n15 c15,vs s5] h14 fun v16 h17=>∃ x18,v16=vi x18/\let J56:Int->OaT->Nat->Nat->Hp->Prop:=fun x64 a65 n65 c65 h66=>(Qa Pg 83 [vhp u0 u1,(vs ⟨#[41]⟩)] h66 fun v67 h68=>v67=Qe []/\R (vag [vi x64,vsl a65 n65 c65]) h68);∃ p19,RdG .eql 9 (.tmp 23) (.const (vs ⟨#[99,111,117,110,116]⟩)) (vs s5) (vs ⟨#[99,111,117,110,116]⟩) h17 (vb p19)/\(p19=true->∀ b20,h17 b20=none->let h21:=Hp.set h17 b20 (Qb [(vs ⟨#[42]⟩)] 9);∃(J22:ShT),(p19=true->Qa Pg 85 [vhp u0 u1,(vsl (some (⟨b20,0,none⟩:Addr)) 1 1)] h21 fun v23 h24=>∃ s25,v23=vs s25/\J22 (.t (.one (.v (vs s25)))) h24)/\(¬(p19=true)->J22 (.t (.one (.v (vs ⟨#[]⟩)))) h21)/\∀ h26 s27,J22 (.t (.one (.v (vs s27)))) h26->∃ p28,(p19=true->RdG .neq 9 (.tmp 28) (.const (vs ⟨#[]⟩)) (vs s27) (vs ⟨#[]⟩) h26 (vb p28))/\((cond p19 p28 false)=true->J56 x18 none 0 0 h26)/\((cond p19 p28 false)=false->∃ p30,RdG .eql 9 (.tmp 32) (.const (vs ⟨#[99,111,117,110,116]⟩)) (vs s5) (vs ⟨#[99,111,117,110,116]⟩) h26 (vb p30)/\(p30=true->Qa Pg 86 [vhp u0 u1] h26 fun v31 h32=>∃ a33 n33 c33,v31=vsl a33 n33 c33/\J56 2 a33 n33 c33 h32)/\(p30=false->Qa Pg 86 [vhp u0 u1] h26 fun v35 h36=>∃ a37 n37 c37,v35=vsl a37 n37 c37/\J56 x18 a37 n37 c37 h36)))/\(¬(p19=true)->∃(J39:ShT),(p19=true->Qa Pg 85 [vhp u0 u1,vsl none 0 0] h17 fun v40 h41=>∃ s42,v40=vs s42/\J39 (.t (.one (.v (vs s42)))) h41)/\(¬(p19=true)->J39 (.t (.one (.v (vs ⟨#[]⟩)))) h17)/\∀ h43 s44,J39 (.t (.one (.v (vs s44)))) h43->∃ p45,(p19=true->RdG .neq 9 (.tmp 28) (.const (vs ⟨#[]⟩)) (vs s44) (vs ⟨#[]⟩) h43 (vb p45))/\((cond p19 p45 false)=true->J56 x18 none 0 0 h43)/\((cond p19 p45 false)=false->∃ p47,RdG .eql 9 (.tmp 32) (.const (vs ⟨#[99,111,117,110,116]⟩)) (vs s5) (vs ⟨#[99,111,117,110,116]⟩) h43 (vb p47)/\(p47=true->Qa Pg 86 [vhp u0 u1] h43 fun v48 h49=>∃ a50 n50 c50,v48=vsl a50 n50 c50/\J56 2 a50 n50 c50 h49)/\(p47=false->Qa Pg 86 [vhp u0 u1] h43 fun v52 h53=>∃ a54 n54 c54,v52=vsl a54 n54 c54/\J56 x18 a54 n54 c54 h53))));(p6=true->Qa Pg 140 [vhp u0 u1,(ifv (some (119,vi 4)))] h4 fun v7 h8=>v7=Qe []/\J11 h8)/\(p6=false->J11 h4)):Qa Pg 84 [vhp u0 u1] h R:=callO Tryz.func84 [.one (.hp u0 u1)] H
theorem Js {u0 u1:Nat}{u2:ByteArray}{u3:Int}{h:Hp}{R:RtT}(H:∀ b1,h b1=none->let h2:=Hp.set h b1 (Qb [vs u2] 9);Qa Pg 85 [vhp u0 u1,(vsl (some (⟨b1,0,none⟩:Addr)) 1 1)] h2 fun v3 h4=>∃ s5,v3=vs s5/\∃ p6,RdG .eql 9 (.tmp 10) (.const (vs ⟨#[]⟩)) (vs s5) (vs ⟨#[]⟩) h4 (vb p6)/\(p6=true->R (vi u3) h4)/\(p6=false->Qa Pg 87 [vhp u0 u1,vi 1000] h4 fun v8 h9=>∃ x10,v8=vi x10/\R (vi x10) h9)):Qa Pg 88 [vhp u0 u1,vs u2,vi u3] h R:=callO Tryz.func88 [.one (.hp u0 u1),.one (.v (vs u2)),.one (.v (vi u3))] H
theorem QeB {u0:ByteArray}{h:Hp}{R:RtT}(H:Qa Pg 82 [vs u0] h fun v1 h2=>∃ a3 n3 c3 e4,v1=Qe [vsl a3 n3 c3,ifv e4]/\((Option.isSome e4)=true->R (Qe [vag [vsl none 0 0,vsl none 0 0,vsl none 0 0,vi 0,vi 0,vi 0,vi 0],ifv e4]) h2)/\((Option.isSome e4)=false->∀ b6,h2 b6=none->let h7:=Hp.set h2 b6 (Qb [vsl a3 n3 c3,vi 0,ifv none] 167);Qa Pg 83 [vhp b6 0,(vs ⟨#[115,101,108,101,99,116]⟩)] h7 fun v8 h9=>v8=Qe []/\Qa Pg 84 [vhp b6 0] h9 fun v10 h11=>∃ x12 a13 n13 c13,v10=vag [vi x12,vsl a13 n13 c13]/\∀ b14,h11 b14=none->let h15:=Hp.set h11 b14 (Qb [vi x12,vsl a13 n13 c13] 153);Qh Pg (Builtin.append_ #[27,27] 27 #[vsl none 0 0,(vsl (some (⟨b14,0,none⟩:Addr)) 1 1)]) h15 fun v16 h17=>∃ a18 n18 c18,v16=vsl a18 n18 c18/\let J48:OaT->Nat->Nat->OaT->Nat->Nat->OaT->Nat->Nat->Hp->Prop:=fun a256 n256 c256 a257 n257 c257 a258 n258 c258 h259=>(Qa Pg 83 [vhp b6 0,(vs ⟨#[102,114,111,109]⟩)] h259 fun v260 h261=>v260=Qe []/\Qa Pg 83 [vhp b6 0,(vs ⟨#[101,118,101,110,116,115]⟩)] h261 fun v262 h263=>v262=Qe []/\∀ b264,h263 b264=none->let h265:=Hp.set h263 b264 (Qb [(vs ⟨#[119,104,101,114,101]⟩)] 9);Qa Pg 85 [vhp b6 0,(vsl (some (⟨b264,0,none⟩:Addr)) 1 1)] h265 fun v266 h267=>∃ s268,v266=vs s268/\∃ p269,RdG .neq 9 (.tmp 46) (.const (vs ⟨#[]⟩)) (vs s268) (vs ⟨#[]⟩) h267 (vb p269)/\let J275:OaT->Nat->Nat->Hp->Prop:=fun a314 n314 c314 h315=>(∀ b316,h315 b316=none->let h317:=Hp.set h315 b316 (Qb [(vs ⟨#[103,114,111,117,112]⟩)] 9);Qa Pg 85 [vhp b6 0,(vsl (some (⟨b316,0,none⟩:Addr)) 1 1)] h317 fun v318 h319=>∃ s320,v318=vs s320/\∃ p321,RdG .neq 9 (.tmp 53) (.const (vs ⟨#[]⟩)) (vs s320) (vs ⟨#[]⟩) h319 (vb p321)/\let J329:OaT->Nat->Nat->Hp->Prop:=fun a353 n353 c353 h354=>(Qa Pg 83 [vhp b6 0,(vs ⟨#[119,105,110,100,111,119]⟩)] h354 fun v355 h356=>v355=Qe []/\Qa Pg 87 [vhp b6 0,vi 1000] h356 fun v357 h358=>∃ x359,v357=vi x359/\Qa Pg 88 [vhp b6 0,(vs ⟨#[115,108,105,100,101]⟩),vi x359] h358 fun v360 h361=>∃ x362,v360=vi x362/\Qa Pg 88 [vhp b6 0,(vs ⟨#[100,101,108,97,121]⟩),vi 0] h361 fun v363 h364=>∃ x365,v363=vi x365/\Qa Pg 88 [vhp b6 0,(vs ⟨#[108,97,116,101]⟩),vi 0] h364 fun v366 h367=>∃ x368,v366=vi x368/\∃ e369,Hp.cell h367 b6 (0+2)=some (ifv e369)/\∃ a370 n370 c370,((Option.isNone e369)=true->Hp.cell h367 b6 0=some (vsl a370 n370 c370))/\let J374:HpT:=fun h375=>(∃ e376,Hp.cell h375 b6 (0+2)=some (ifv e376)/\let J383:HpT:=fun h384=>(∃ e385,Hp.cell h384 b6 (0+2)=some (ifv e385)/\((Option.isSome e385)=true->∃ e386,Hp.cell h384 b6 (0+2)=some (ifv e386)/\Hp.cell h384 b6 (0+2)=some (ifv e386)/\R (Qe [vag [vsl none 0 0,vsl none 0 0,vsl none 0 0,vi 0,vi 0,vi 0,vi 0],ifv e386]) h384)/\((Option.isSome e385)=false->R (Qe [vag [vsl a256 n256 c256,vsl a314 n314 c314,vsl a353 n353 c353,vi x359,vi x362,vi x365,vi x368],ifv none]) h384));((Option.isNone e376)=true->Qa Pg 89 [vag [vsl a256 n256 c256,vsl a314 n314 c314,vsl a353 n353 c353,vi x359,vi x362,vi x365,vi x368]] h375 fun v377 h378=>∃ e379,v377=ifv e379/\Hp.store h378 b6 (0+2) [ifv e379] fun h380=>J383 h380)/\((Option.isNone e376)=false->J383 h375));((cond (Option.isNone e369) (decide ((n370:Int)>0)) false)=true->Hp.store h367 b6 (0+2) [(ifv (some (119,vi 4)))] fun h371=>J374 h371)/\((cond (Option.isNone e369) (decide ((n370:Int)>0)) false)=false->J374 h367));(p321=true->Qa Pg 83 [vhp b6 0,(vs ⟨#[98,121]⟩)] h319 fun v322 h323=>v322=Qe []/\Qa Pg 86 [vhp b6 0] h323 fun v324 h325=>∃ a326 n326 c326,v324=vsl a326 n326 c326/\J329 a326 n326 c326 h325)/\(p321=false->J329 a258 n258 c258 h319));(p269=true->Qa Pg 86 [vhp b6 0] h267 fun v270 h271=>∃ a272 n272 c272,v270=vsl a272 n272 c272/\J275 a272 n272 c272 h271)/\(p269=false->J275 a257 n257 c257 h267));∃(I20:LtT) (m21:LmT),I20 [vsl a18 n18 c18,vsl none 0 0,vsl none 0 0,vi 0,vi 0,vi 0,vi 0] h17/\∀ vs22 h23,I20 vs22 h23->∃ a24 n24 c24 a25 n25 c25 a26 n26 c26 x27 x28 x29 x30,vs22=[vsl a24 n24 c24,vsl a25 n25 c25,vsl a26 n26 c26,vi x27,vi x28,vi x29,vi x30]/\∀ b31,h23 b31=none->let h32:=Hp.set h23 b31 (Qb [(vs ⟨#[44]⟩)] 9);Qa Pg 85 [vhp b6 0,(vsl (some (⟨b31,0,none⟩:Addr)) 1 1)] h32 fun v33 h34=>∃ s35,v33=vs s35/\∃ p36,RdG .neq 9 (.tmp 31) (.const (vs ⟨#[]⟩)) (vs s35) (vs ⟨#[]⟩) h34 (vb p36)/\(p36=true->Qa Pg 84 [vhp b6 0] h34 fun v39 h40=>∃ x41 a42 n42 c42,v39=vag [vi x41,vsl a42 n42 c42]/\∀ b43,h40 b43=none->let h44:=Hp.set h40 b43 (Qb [vi x41,vsl a42 n42 c42] 153);Qh Pg (Builtin.append_ #[27,27] 27 #[vsl a24 n24 c24,(vsl (some (⟨b43,0,none⟩:Addr)) 1 1)]) h44 fun v45 h46=>∃ a47 n47 c47,v45=vsl a47 n47 c47/\I20 [vsl a47 n47 c47,vsl a25 n25 c25,vsl a26 n26 c26,vi x27,vi x28,vi x29,vi x30] h46/\m21 [vsl a47 n47 c47,vsl a25 n25 c25,vsl a26 n26 c26,vi x27,vi x28,vi x29,vi x30] h46<m21 vs22 h23)/\(p36=false->J48 a24 n24 c24 a25 n25 c25 a26 n26 c26 h34))):Qa Pg 39 [vs u0] h R:=callC ⟨[19],[(8,([],[],[(1,[.slice,.slice,.slice,.int .i64,.int .i64,.int .i64,.int .i64])]))],[(7,[0,1,2,3,4,5,6,7]),(9,[0,1,2,3,4,5,6,7]),(27,[0,1,2,3,4,5,6])]⟩ Tryz.func39 [.one (.v (vs u0))] H
theorem W5 {u0:OaT}{u1 u2:Nat}{u3:ByteArray}{h:Hp}{R:RtT}(H:∃(I2:LtT) (m3:LmT),I2 [vi 0] h/\∀ vs4 h5,I2 vs4 h5->∃ x6,vs4=[vi x6]/\((decide (x6<(u1:Int)))=true->∃ b9 o10,Ix u0 b9 o10 x6 u1/\∃ s11,Hp.cell h5 b9 (o10+x6.toNat*1)=some (vs s11)/\∃ p12,RdG .eql 9 (.tmp 11) (.tmp 15) (vs u3) (vs s11) h5 (vb p12)/\(p12=true->R (vi x6) h5)/\(p12=false->∃ x14,IsW x14 (x6+1)/\I2 [vi x14] h5/\m3 [vi x14] h5<m3 vs4 h5))/\((decide (x6<(u1:Int)))=false->R (vi (-1)) h5)):Qa Pg 141 [vsl u0 u1 u2,vs u3] h R:=callC ⟨[],[(2,([8],[.one (.int .i64)],[]))],[]⟩ Tryz.func141 [.one (.v (vsl u0 u1 u2)),.one (.v (vs u3))] H
theorem Wi {u0:OaT}{u1 u2:Nat}{u3:ByteArray}{h:Hp}{R:RtT}(H:Qa Pg 141 [vsl u0 u1 u2,vs u3] h fun v1 h2=>∃ x3,v1=vi x3/\R (vb (decide (x3>=0))) h2 ):Qa Pg 142 [vsl u0 u1 u2,vs u3] h R:=callO Tryz.func142 [.one (.v (vsl u0 u1 u2)),.one (.v (vs u3))] H
end Go.Proofs.YthicpjafcpfjoaaGreatDoor
namespace Go.Vc
open Go
section
variable {P:Program}
theorem Qa.less {f:FuncId}{vs:List Value}{h:Hp}{R R':RtT}(H:Qa P f vs h R)(hr:∀ v h',R v h'->∃ h2,h2.le h'/\R' v h2):Qa P f vs h R':=
 fun w hs=>(H w hs).mono fun e w' ⟨v,h',h1,h2,h3,h4⟩=>by
  obtain⟨k,hk,hR⟩:=hr v h' h4;refine⟨v,k,h1,fun b o ho=>h2 b o (hk b o ho),⟨h3.os,h3.tape,h3.output,h3.size,fun b hb hn=>⟨(h3.keep b hb hn).1,?_⟩⟩,hR⟩
  cases e:k b with
  | none=>rfl
  | some o=>have:=hk b o e;rw [(h3.keep b hb hn).2] at this;cases this
theorem QlS {h:Hp}{b:Nat}{l:LuT}{tail:Array Value}{e:TypeId}{fz:Nat × Nat}(hb:h b=some (.cells ((l.map fun x=>vk .u8 (x.toNat:Nat)).toArray++tail) e fz)){i m:Nat}(him:i+m<=l.length) :
  h.row b (0+i) ((l.drop i).take m).length=some (((l.drop i).take m).map fun x=>vk .u8 (x.toNat:Nat)):=by
 have hl:((l.drop i).take m).length=m:=by simp;omega
 have hs:((l.map fun x=>vk .u8 (x.toNat:Nat)).toArray++tail).size=l.length+tail.size:=by simp
 unfold Hp.row;rw [hb,hl,dY];simp only;rw [bH (by rw [hs];omega),kE,mD (by simp;omega),gP (by simp;omega),gK,jZ]
theorem Qi3 {h:Hp}{src dst e:TypeId}(hs:P.underlying src=some .string)(hd:P.underlying dst=some (.slice e))(he:P.underlying e=some (.int .u8)){l:LuT}{K:RtT}
  (hK:∀ b cap tail fz,h b=none->l.length<=cap->K (vsl (some ⟨b,0,none⟩) l.length cap) (h.set b (.cells ((l.map fun x=>vk .u8 (x.toNat:Nat)).toArray++tail) e fz))):Qh P (convert src dst (vs (bs l))) h K:=by
 intro w hsub;have hr:=Lib.run_convert_string_bytes (P:=P) w src dst e (bs l) hs hd he;rw [Zp] at hr;have e1:Lib.bytesCells w e (bs l)=(l.map fun x=>vk .u8 (x.toNat:Nat)).toArray++Array.replicate (grownCap w l.length 0 e-l.length) (.int .u8 0):=by
  unfold Lib.bytesCells;rw [Zp];simp [bs]
 have hnew:=Lib.bytesWorld_at_new w e (bs l);rw [e1] at hnew;have hn:h w.heap.size=none:=hsub.none;obtain⟨fz,hnew⟩:∃ fz,(Lib.bytesWorld w e (bs l)).heap[w.heap.size]?=some (.cells ((l.map fun x=>vk .u8 (x.toNat:Nat)).toArray++Array.replicate (grownCap w l.length 0 e-l.length) (.int .u8 0)) e fz):=⟨_,hnew⟩
 refine⟨_,_,_,hr,?_,⟨rfl,rfl,rfl,by rw [Lib.bytesWorld_size];omega,fun b hb hnb=>⟨Lib.bytesWorld_at_old w e (bs l) b hb,?_⟩⟩,hK w.heap.size _ (Array.replicate (grownCap w l.length 0 e-l.length) (.int .u8 0)) fz hn (grownCap_ge w l.length 0 e)⟩
 ·intro b o hb;by_cases hbe:b=w.heap.size
  ·subst hbe;rw [Hp.set_same] at hb;cases hb;exact hnew
  ·rw [Hp.set_other _ _ hbe] at hb;have:=hsub b o hb;rw [Lib.bytesWorld_at_old w e (bs l) b (cT.1 this).1]
   exact this
 ·rw [Hp.set_other _ _ (by omega)]
  exact hnb
end
structure Bes (F:NpT)(h:Hp)(F':NpT)(h' bx:Hp):Prop where
 m:Mut F h F' h'
 al:∀ b,F' b->h' b≠none
 x:bx.le h'
 n:∀ b o,bx b=some o->(h b=none\/F b)/\¬ F' b
section
variable {F F' F2:NpT}{h h' h2 bx:Hp}
theorem Bes.start (al:∀ b,F b->h b≠none):Bes F h F h (fun _=>none):=⟨Mut.of_le (Hp.le_refl h),al,(fun b o ho=>by cases ho),(fun b o ho=>by cases ho)⟩
theorem Bes.call (S:Bes F h F' h' bx)(M:Mut F' h' F2 h2)(al:∀ b,F2 b->h2 b≠none):Bes F h F2 h2 bx:=
 ⟨S.m.trans M,al,(fun b o ho=>M.keep b o (S.n b o ho).2 (S.x b o ho)),(fun b o ho=>⟨(S.n b o ho).1,fun hf=>by
  rcases M.new b hf with h1|h1
  ·exact(S.n b o ho).2 h1
  ·rw [S.x b o ho] at h1;cases h1⟩)⟩
theorem Bes.grow (S:Bes F h F' h' bx)(l:h'.le h2):Bes F h F' h2 bx:=S.call (Mut.of_le l) (fun b hb e=>by
 cases e2:h' b with
 | none=>exact S.al b hb e2
 | some o=>rw [l b o e2] at e;cases e)
theorem Bes.fresh (S:Bes F h F' h' bx){b:Nat}(hb:h' b=none):h b=none\/F b:=by
 by_cases hf:F b
 ·exact .inr hf
 ·left;cases e:h b with
  | none=>rfl
  | some o=>rw [S.m.keep b o hf e] at hb;cases hb
theorem Bes.alloc (S:Bes F h F' h' bx){b:Nat}(hb:h' b=none)(o:Obj):Bes F h F' (h'.set b o) (bx.set b o):=by
 refine⟨(S.grow (Hp.le_set (Hp.le_refl h') hb o)).m,(S.grow (Hp.le_set (Hp.le_refl h') hb o)).al,?_,?_⟩
 ·intro b2 o2 h2;by_cases e:b2=b
  ·subst e;rw [Hp.set_same] at h2 ⊢;exact h2
  ·rw [Hp.set_other _ _ e] at h2 ⊢;exact S.x b2 o2 h2
 ·intro b2 o2 h2;by_cases e:b2=b
  ·subst e;exact⟨S.fresh hb,fun hf=>S.al _ hf hb⟩
  ·rw [Hp.set_other _ _ e] at h2;exact S.n b2 o2 h2
theorem Bes.keepA (S:Bes F h F' h' bx){b b2:Nat}{o o2:Obj}(hx:bx b2=some o2)(hb:h' b=none):(bx.set b o) b2=some o2:=by
 rw [Hp.set_other]
 ·exact hx
 ·intro e;subst e;rw [S.x _ _ hx] at hb;cases hb
theorem Bes.put (S:Bes F h F' h' bx){b:Nat}{u v:Value}{t:TypeId}(hx:bx b=some (Qb [u] t)){K:HpT}(hK:Bes F h F' (h'.set b (Qb [v] t)) (bx.set b (Qb [v] t))->K (h'.set b (Qb [v] t))):h'.store b 0 [v] K:=by
 have hb:=S.x b _ hx;refine QR hb (by simp) ?_
 have e:QJ [u] 0 [v]=[v]:=rfl;rw [e];have hn:=S.n b _ hx;refine hK ⟨⟨fun b2 o hf ho=>?_,S.m.new⟩,fun b2 hf=>?_,?_,?_⟩
 ·rw [Hp.set_other]
  ·exact S.m.keep b2 o hf ho
  ·intro e;subst e;rcases hn.1 with h1|h1
   ·rw [h1] at ho;cases ho
   ·exact hf h1
 ·by_cases e:b2=b
  ·subst e;rw [Hp.set_same];simp
  ·rw [Hp.set_other _ _ e];exact S.al b2 hf
 ·intro b2 o2 h2;by_cases e:b2=b
  ·subst e;rw [Hp.set_same] at h2 ⊢;exact h2
  ·rw [Hp.set_other _ _ e] at h2 ⊢;exact S.x b2 o2 h2
 ·intro b2 o2 h2;by_cases e:b2=b
  ·subst e;exact hn
  ·rw [Hp.set_other _ _ e] at h2;exact S.n b2 o2 h2
theorem Bes.get (S:Bes F h F' h' bx){b:Nat}{u:Value}{t:TypeId}(hx:bx b=some (Qb [u] t)):h'.cell b 0=some u:=Qc (S.x b _ hx) rfl
theorem Mut.trim (M:Mut F h F' h'):∃ h2:Hp,h2.le h'/\Mut F h F' h2/\(∀ b,F' b->∀ o,h' b=some o->h2 b=some o)/\∀ b o,h2 b=some o->(¬ F b/\h b=some o)\/F' b:=by
 classical
 refine⟨fun b=>if (¬ F b/\h b≠none)\/F' b then h' b else none,fun b o ho=>?_,⟨fun b o hf ho=>?_,M.new⟩,fun b hf o ho=>?_,fun b o ho=>?_⟩
 ·simp only at ho;split at ho
  ·exact ho
  ·cases ho
 ·rw [bH (.inl ⟨hf,by rw [ho];simp⟩)];exact M.keep b o hf ho
 ·show (if (¬ F b/\h b≠none)\/F' b then h' b else none)=some o
  rw [bH (Or.inr hf)];exact ho
 ·simp only at ho;split at ho
  ·rename_i hc;rcases hc with ⟨h1,h2⟩|h1
   ·left;refine⟨h1,?_⟩
    cases e:h b with
    | none=>exact absurd e h2
    | some o2=>rw [M.keep b o2 h1 e] at ho;exact ho
   ·exact .inr h1
  ·cases ho
theorem Rec.cells {h:Hp}{g:Nat}{t:TypeId}{fs:List Fld}(R:Rec h g t fs){b:Nat}(hb:ftR g fs b){o:Obj}(ho:h b=some o):o.isCells=true:=by
 rcases hb with rfl|⟨j,f,hf,hb⟩
 ·rw [R.blk] at ho;cases ho;rfl
 ·have O:=R.own j f hf;cases f with
  | v x=>exact hb.elim
  | s e sz a n c xs=>
   rcases O.2 with ⟨h1,_⟩|⟨g',cur,h1,h2,_⟩
   ·have hb':a=some ⟨b,0,none⟩:=hb;rw [h1] at hb';cases hb'
   ·have hb':a=some ⟨b,0,none⟩:=hb;rw [h1] at hb';cases hb';rw [h2] at ho;cases ho;rfl
end
end Go.Vc
namespace Go.Proofs.YthicpjafcpfjoaaGreatDoor
open Go Go.Vc
theorem Qe6 {u0:Int}{h:Hp}{R:RtT}(H:((cond (decide (u0=1)) true (decide (u0=2)))=true->R (vi 0) h)/\((cond (decide (u0=1)) true (decide (u0=2)))=false->((cond (cond (decide (u0=3)) true (decide (u0=4))) true (decide (u0=5)))=true->R (vi 1) h)/\((cond (cond (decide (u0=3)) true (decide (u0=4))) true (decide (u0=5)))=false->((cond (decide (u0>=6)) (decide (u0<=12)) false)=true->R (vi 2) h)/\((cond (decide (u0>=6)) (decide (u0<=12)) false)=false->R (vi (-1)) h)))):Qa Pg 180 [vi u0] h R:=callO Tryz.func180 [.one (.v (vi u0))] H
theorem QfG {u0:Int}{u1:Int}{u2:Int}{u3:Int}{u4:Int}{u5:Int}{u6:Int}{u7:Int}{h:Hp}{R:RtT}(H:Qa Pg 197 [vi u0] h fun v1 h2=>∃ x3 x4,v1=vag [vi x3,vi x4]/\∃ x5 x6,Rd Pg (Instr.index 292 (vag [vi x3,vi x4,vi u1,vi u2,vi u3,vi u4,vi u5,vi u6]) (vi u7)) h2 (vag [vi x5,vi x6])/\R (vag [vi x5,vi x6]) h2):Qa Pg 162 [vag [vi u0,vi u1,vi u2,vi u3,vi u4,vi u5,vi u6],vi u7] h R:=callC ⟨[],[],[(1,[0,1,3,4,5,6,7,8,10,2,9,11,12])]⟩ Tryz.func162 [.ag [.v (vi u0),.v (vi u1),.v (vi u2),.v (vi u3),.v (vi u4),.v (vi u5),.v (vi u6)],.one (.v (vi u7))] H
theorem QgP {u0:OaT}{u1 u2:Nat}{u3:Int}{u4:Int}{u5:Int}{u6:Int}{u7:Int}{u8:Int}{u9:Int}{h:Hp}{R:RtT}(H:Qh Pg (Instr.makeSlice 91 (vi (u1:Int)) (vi (u1:Int))) h fun v1 h2=>∃ a3 n3 c3,v1=vsl a3 n3 c3/\∃(I5:LtT) (m6:LmT),I5 [vi 0] h2/\∀ vs7 h8,I5 vs7 h8->∃ x9,vs7=[vi x9]/\((decide (x9<(u1:Int)))=true->let J83:HpT:=fun h84=>(∃ x85,IsW x85 (x9+1)/\I5 [vi x85] h84/\m6 [vi x85] h84<m6 vs7 h8);∃ b12 o13,Ix u0 b12 o13 x9 u1/\∃ x14 x15 x16 x17 x18 x19,Hp.row h8 b12 (o13+x9.toNat*6) 6=some [vi x14,vi x15,vi x16,vi x17,vi x18,vi x19]/\((decide (x14=1))=true->∃ b20 o21,Ix a3 b20 o21 x9 n3/\Hp.store h8 b20 (o21+x9.toNat*2) [vi x18,vi x19] fun h22=>J83 h22)/\((decide (x14=1))=false->((decide (x14=2))=true->Qa Pg 162 [vag [vi u3,vi u4,vi u5,vi u6,vi u7,vi u8,vi u9],vi x17] h8 fun v24 h25=>∃ x26 x27,v24=vag [vi x26,vi x27]/\∃ b28 o29,Ix a3 b28 o29 x9 n3/\Hp.store h25 b28 (o29+x9.toNat*2) [vi x26,vi x27] fun h30=>J83 h30)/\((decide (x14=2))=false->((decide (x14=3))=true->∃ b32 o33,Ix a3 b32 o33 x15 n3/\∃ x34 x35,Hp.row h8 b32 (o33+x15.toNat*2) 2=some [vi x34,vi x35]/\Qa Pg 163 [vag [vi x34,vi x35]] h8 fun v36 h37=>∃ x38 x39,v36=vag [vi x38,vi x39]/\∃ b40 o41,Ix a3 b40 o41 x9 n3/\Hp.store h37 b40 (o41+x9.toNat*2) [vi x38,vi x39] fun h42=>J83 h42)/\((decide (x14=3))=false->((decide (x14=4))=true->∃ b44 o45,Ix a3 b44 o45 x15 n3/\∃ x46 x47,Hp.row h8 b44 (o45+x15.toNat*2) 2=some [vi x46,vi x47]/\Qa Pg 164 [vag [vi x46,vi x47]] h8 fun v48 h49=>∃ x50 x51,v48=vag [vi x50,vi x51]/\∃ b52 o53,Ix a3 b52 o53 x9 n3/\Hp.store h49 b52 (o53+x9.toNat*2) [vi x50,vi x51] fun h54=>J83 h54)/\((decide (x14=4))=false->((decide (x14=5))=true->∃ b56 o57,Ix a3 b56 o57 x15 n3/\∃ x58,Hp.cell h8 b56 (o57+x15.toNat*2)=some (vi x58)/\Qa Pg 110 [(vb (decide (x58=0)))] h8 fun v59 h60=>∃ x61 x62,v59=vag [vi x61,vi x62]/\∃ b63 o64,Ix a3 b63 o64 x9 n3/\Hp.store h60 b63 (o64+x9.toNat*2) [vi x61,vi x62] fun h65=>J83 h65)/\((decide (x14=5))=false->∃ b67 o68,Ix a3 b67 o68 x15 n3/\∃ x69 x70,Hp.row h8 b67 (o68+x15.toNat*2) 2=some [vi x69,vi x70]/\∃ b71 o72,Ix a3 b71 o72 x16 n3/\∃ x73 x74,Hp.row h8 b71 (o72+x16.toNat*2) 2=some [vi x73,vi x74]/\Qa Pg 165 [vi x14,vag [vi x69,vi x70],vag [vi x73,vi x74]] h8 fun v75 h76=>∃ x77 x78,v75=vag [vi x77,vi x78]/\∃ b79 o80,Ix a3 b79 o80 x9 n3/\Hp.store h76 b79 (o80+x9.toNat*2) [vi x77,vi x78] fun h81=>J83 h81))))))/\((decide (x9<(u1:Int)))=false->∃ x86,IsW x86 ((n3:Int)-1)/\∃ b87 o88,Ix a3 b87 o88 x86 n3/\∃ x89 x90,Hp.row h8 b87 (o88+x86.toNat*2) 2=some [vi x89,vi x90]/\R (vag [vi x89,vi x90]) h8)):Qa Pg 109 [vsl u0 u1 u2,vag [vi u3,vi u4,vi u5,vi u6,vi u7,vi u8,vi u9]] h R:=callC ⟨[],[(3,([13],[.one (.int .i64)],[]))],[(6,[0,1,2,3,4,5,6,7,8,9,10,11,12,13,14,15,16])]⟩ Tryz.func109 [.one (.v (vsl u0 u1 u2)),.ag [.v (vi u3),.v (vi u4),.v (vi u5),.v (vi u6),.v (vi u7),.v (vi u8),.v (vi u9)]] H
theorem QgD {u0:Int}{u1:Int}{h:Hp}{R:RtT}(H:((decide (u0=0))=true->R (Qe [vi u1,vb true]) h)/\((decide (u0=0))=false->let J3:Bool->Prop:=fun p4=>((p4=true->R (Qe [vi u0,vb true]) h)/\(p4=false->R (Qe [vi 0,vb false]) h));((decide (u1=0))=true->J3 (decide (u1=0)))/\((decide (u1=0))=false->J3 (decide (u0=u1))))):Qa Pg 247 [vi u0,vi u1] h R:=callO Tryz.func247 [.one (.v (vi u0)),.one (.v (vi u1))] H
theorem QhX {u0:OaT}{u1 u2:Nat}{h:Hp}{R:RtT}(H:Qh Pg (Instr.makeSlice 46 (vi (u1:Int)) (vi (u1:Int))) h fun v1 h2=>∃ a3 n3 c3,v1=vsl a3 n3 c3/\∃(I5:LtT) (m6:LmT),I5 [vi 0] h2/\∀ vs7 h8,I5 vs7 h8->∃ x9,vs7=[vi x9]/\((decide (x9<(u1:Int)))=true->let J95:HpT:=fun h96=>(∃ x97,IsW x97 (x9+1)/\I5 [vi x97] h96/\m6 [vi x97] h96<m6 vs7 h8);∃ b12 o13,Ix u0 b12 o13 x9 u1/\∃ x14 x15 x16 x17 x18 x19,Hp.row h8 b12 (o13+x9.toNat*6) 6=some [vi x14,vi x15,vi x16,vi x17,vi x18,vi x19]/\let J39:Int->Prop:=fun x60=>(Qa Pg 180 [vi x14] h8 fun v61 h62=>∃ x63,v61=vi x63/\∀ b64,h62 b64=none->let h65:=Hp.set h62 b64 (Qb [vi x15,vi x16] 3);∃ a66 n66 c66,Rd Pg (Instr.sliceAt 46 (vsl (some (⟨b64,0,none⟩:Addr)) 2 2) none (some (vi x63)) none) h65 (vsl a66 n66 c66)/\∃(I68:LtT) (m69:LmT),I68 [vi 0] h65/\∀ vs70 h71,I68 vs70 h71->∃ x72,vs70=[vi x72]/\((decide (x72<(n66:Int)))=true->∃ b75 o76,Ix a66 b75 o76 x72 n66/\∃ x77,Hp.cell h71 b75 (o76+x72.toNat*1)=some (vi x77)/\∃ b78 o79,Ix a3 b78 o79 x77 n3/\∃ x80,Hp.cell h71 b78 (o79+x77.toNat*1)=some (vi x80)/\Qa Pg 247 [vi x60,vi x80] h71 fun v81 h82=>∃ x83 p84,v81=Qe [vi x83,vb p84]/\((!p84)=true->R (Qe [vi 0,(ifv (some (119,vi 3)))]) h82)/\((!p84)=false->∃ x86,IsW x86 (x72+1)/\I68 [vi x86] h82/\m69 [vi x86] h82<m69 vs70 h71))/\((decide (x72<(n66:Int)))=false->∃ b87 o88,Ix a3 b87 o88 x9 n3/\Hp.store h71 b87 (o88+x9.toNat*1) [vi x60] fun h89=>((cond (decide (x14=11)) true (decide (x14=12)))=true->∃ b90 o91,Ix a3 b90 o91 x9 n3/\Hp.store h89 b90 (o91+x9.toNat*1) [vi 2] fun h92=>J95 h92)/\((cond (decide (x14=11)) true (decide (x14=12)))=false->J95 h89)));((decide (x14=1))=true->∃ b20 o21,Ix a3 b20 o21 x9 n3/\Hp.store h8 b20 (o21+x9.toNat*1) [vi x18] fun h22=>J95 h22)/\((decide (x14=1))=false->((decide (x14=2))=true->∃ b24 o25,Ix a3 b24 o25 x9 n3/\Hp.store h8 b24 (o25+x9.toNat*1) [vi 1] fun h26=>J95 h26)/\((decide (x14=2))=false->((decide (x14=5))=true->∃ b28 o29,Ix a3 b28 o29 x9 n3/\Hp.store h8 b28 (o29+x9.toNat*1) [vi 2] fun h30=>J95 h30)/\((decide (x14=5))=false->let J35:Bool->Prop:=fun p36=>((p36=true->J39 2)/\(p36=false->J39 1));((decide (x14=4))=true->J35 (decide (x14=4)))/\((decide (x14=4))=false->((decide (x14=9))=true->J35 (decide (x14=9)))/\((decide (x14=9))=false->J35 (decide (x14=10))))))))/\((decide (x9<(u1:Int)))=false->∃ x98,IsW x98 ((n3:Int)-1)/\∃ b99 o100,Ix a3 b99 o100 x98 n3/\∃ x101,Hp.cell h8 b99 (o100+x98.toNat*1)=some (vi x101)/\R (Qe [vi x101,ifv none]) h8)):Qa Pg 204 [vsl u0 u1 u2] h R:=callC ⟨[],[(18,([56],[.one (.int .i64)],[])),(3,([17],[.one (.int .i64)],[]))],[(17,[0,1,2,3,5,6,10,7,4,8,9])]⟩ Tryz.func204 [.one (.v (vsl u0 u1 u2))] H
theorem Qjo {u0:OaT}{u1 u2:Nat}{u3:Int}{h:Hp}{R:RtT}(H:∃ b1 o2,Ix u0 b1 o2 u3 u1/\∃ x3,Hp.cell h b1 (o2+u3.toNat*6)=some (vi x3)/\Qa Pg 180 [vi x3] h fun v4 h5=>∃ x6,v4=vi x6/\∃(I8:LtT) (m9:LmT),I8 [vi u3,vi x6] h5/\∀ vs10 h11,I8 vs10 h11->∃ x12 x13,vs10=[vi x12,vi x13]/\((decide (x13>0))=true->∃ x16,IsW x16 (x12-1)/\∃ b17 o18,Ix u0 b17 o18 x16 u1/\∃ x19,Hp.cell h11 b17 (o18+x16.toNat*6)=some (vi x19)/\Qa Pg 180 [vi x19] h11 fun v20 h21=>∃ x22,v20=vi x22/\∃ x23,IsW x23 (x22-1)/\∃ x24,IsW x24 (x13+x23)/\I8 [vi x16,vi x24] h21/\m9 [vi x16,vi x24] h21<m9 vs10 h11)/\((decide (x13>0))=false->∃ x25,IsW x25 (u3+1)/\∃ a26 n26 c26,Rd Pg (Instr.sliceAt 28 (vsl u0 u1 u2) (some (vi x12)) (some (vi x25)) none) h11 (vsl a26 n26 c26)/\Qa Pg 260 [vsl a26 n26 c26] h11 fun v27 h28=>∃ a29 n29 c29,v27=vsl a29 n29 c29/\∃(I31:LtT) (m32:LmT),I31 [vi 0] h28/\∀ vs33 h34,I31 vs33 h34->∃ x35,vs33=[vi x35]/\((decide (x35<(n29:Int)))=true->let J70:HpT:=fun h71=>(∃ x72,IsW x72 (x35+1)/\I31 [vi x72] h71/\m32 [vi x72] h71<m32 vs33 h34);∃ b38 o39,Ix a29 b38 o39 x35 n29/\∃ x40,Hp.cell h34 b38 (o39+x35.toNat*6)=some (vi x40)/\Qa Pg 180 [vi x40] h34 fun v41 h42=>∃ x43,v41=vi x43/\let J53:HpT:=fun h54=>(∃ b55 o56,Ix a29 b55 o56 x35 n29/\∃ x57,Hp.cell h54 b55 (o56+x35.toNat*6)=some (vi x57)/\Qa Pg 180 [vi x57] h54 fun v58 h59=>∃ x60,v58=vi x60/\((decide (x60>1))=true->∃ b61 o62,Ix a29 b61 o62 x35 n29/\∃ x63,Hp.cell h59 b61 ((o62+x35.toNat*6)+2)=some (vi x63)/\∃ x64,IsW x64 (x63-x12)/\∃ b65 o66,Ix a29 b65 o66 x35 n29/\Hp.store h59 b65 ((o66+x35.toNat*6)+2) [vi x64] fun h67=>J70 h67)/\((decide (x60>1))=false->J70 h59));((decide (x43>0))=true->∃ b44 o45,Ix a29 b44 o45 x35 n29/\∃ x46,Hp.cell h42 b44 ((o45+x35.toNat*6)+1)=some (vi x46)/\∃ x47,IsW x47 (x46-x12)/\∃ b48 o49,Ix a29 b48 o49 x35 n29/\Hp.store h42 b48 ((o49+x35.toNat*6)+1) [vi x47] fun h50=>J53 h50)/\((decide (x43>0))=false->J53 h42))/\((decide (x35<(n29:Int)))=false->R (vsl a29 n29 c29) h34))):Qa Pg 225 [vsl u0 u1 u2,vi u3] h R:=callC ⟨[],[(2,([5,6],[.one (.int .i64),.one (.int .i64)],[])),(7,([37],[.one (.int .i64)],[]))],[]⟩ Tryz.func225 [.one (.v (vsl u0 u1 u2)),.one (.v (vi u3))] H
theorem Qg8 {u0:Int}{u1:OaT}{u2 u3:Nat}{u4:OaT}{u5 u6:Nat}{h:Hp}{R:RtT}(H:Qa Pg 260 [vsl u1 u2 u3] h fun v1 h2=>∃ a3 n3 c3,v1=vsl a3 n3 c3/\∃ x4,IsW x4 ((u2:Int)-1)/\∃(I6:LtT) (m7:LmT),I6 [vsl a3 n3 c3,vi 0] h2/\∀ vs8 h9,I6 vs8 h9->∃ a10 n10 c10 x11,vs8=[vsl a10 n10 c10,vi x11]/\((decide (x11<(u5:Int)))=true->∃ b14 o15,Ix u4 b14 o15 x11 u5/\∃ x16 x17 x18 x19 x20 x21,Hp.row h9 b14 (o15+x11.toNat*6) 6=some [vi x16,vi x17,vi x18,vi x19,vi x20,vi x21]/\Qa Pg 180 [vi x16] h9 fun v22 h23=>∃ x24,v22=vi x24/\let J28:Int->Prop:=fun x38=>(Qa Pg 180 [vi x16] h23 fun v39 h40=>∃ x41,v39=vi x41/\let J45:Int->Prop:=fun x48=>(∀ b49,h40 b49=none->let h50:=Hp.set h40 b49 (Qb [vi x16,vi x38,vi x48,vi x19,vi x20,vi x21] 250);Qh Pg (Builtin.append_ #[28,28] 28 #[vsl a10 n10 c10,(vsl (some (⟨b49,0,none⟩:Addr)) 1 1)]) h50 fun v51 h52=>∃ a53 n53 c53,v51=vsl a53 n53 c53/\∃ x55,IsW x55 (x11+1)/\I6 [vsl a53 n53 c53,vi x55] h52/\m7 [vsl a53 n53 c53,vi x55] h52<m7 vs8 h9);((decide (x41>1))=true->∃ x42,IsW x42 (x18+(u2:Int))/\J45 x42)/\((decide (x41>1))=false->J45 x18));((decide (x24>0))=true->∃ x25,IsW x25 (x17+(u2:Int))/\J28 x25)/\((decide (x24>0))=false->J28 x17))/\((decide (x11<(u5:Int)))=false->Qa Pg 180 [vi u0] h9 fun v56 h57=>∃ x58,v56=vi x58/\let J62:Int->Prop:=fun x65=>(∀ b66,h57 b66=none->let h67:=Hp.set h57 b66 (Qb [vi u0,vi x4,vi x65,vi 0,vi 0,vi 0] 250);Qh Pg (Builtin.append_ #[28,28] 28 #[vsl a10 n10 c10,(vsl (some (⟨b66,0,none⟩:Addr)) 1 1)]) h67 fun v68 h69=>∃ a70 n70 c70,v68=vsl a70 n70 c70/\R (vsl a70 n70 c70) h69);((decide (x58>1))=true->∃ x59,IsW x59 ((n10:Int)-1)/\J62 x59)/\((decide (x58>1))=false->J62 0))):Qa Pg 223 [vi u0,vsl u1 u2 u3,vsl u4 u5 u6] h R:=callC ⟨[],[(4,([7,20],[.one (.slice),.one (.int .i64)],[]))],[]⟩ Tryz.func223 [.one (.v (vi u0)),.one (.v (vsl u1 u2 u3)),.one (.v (vsl u4 u5 u6))] H
theorem XY {u0:OaT}{u1 u2:Nat}{h:Hp}{R:RtT}(H:∃ p1,RdG .eql 28 (.tmp 3) (.const (vsl none 0 0)) (vsl u0 u1 u2) (vsl none 0 0) h (vb p1)/\(p1=true->R (vsl none 0 0) h)/\(p1=false->∀ b3,h b3=none->let h4:=Hp.set h b3 (Qb [] 250);Qh Pg (Builtin.append_ #[28,28] 28 #[(vsl (some (⟨b3,0,none⟩:Addr)) 0 0),vsl u0 u1 u2]) h4 fun v5 h6=>∃ a7 n7 c7,v5=vsl a7 n7 c7/\R (vsl a7 n7 c7) h6)):Qa Pg 260 [vsl u0 u1 u2] h R:=callO Tryz.func260 [.one (.v (vsl u0 u1 u2))] H
theorem Qj6 {u0:Int}{h:Hp}{R:RtT}(H:((cond (decide (u0=1)) true (decide (u0=2)))=true->R (vi 0) h)/\((cond (decide (u0=1)) true (decide (u0=2)))=false->((cond (decide (u0>=3)) (decide (u0<=5)) false)=true->R (vi 1) h)/\((cond (decide (u0>=3)) (decide (u0<=5)) false)=false->((cond (decide (u0>=6)) (decide (u0<=12)) false)=true->R (vi 2) h)/\((cond (decide (u0>=6)) (decide (u0<=12)) false)=false->R (vi (-1)) h)))):Qa Pg 205 [vi u0] h R:=callO Tryz.func205 [.one (.v (vi u0))] H
theorem Qes {u0:OaT}{u1 u2:Nat}{h:Hp}{R:RtT}(H:((decide ((u1:Int)>40))=true->R (vi 2) h)/\((decide ((u1:Int)>40))=false->∃(I3:LtT) (m4:LmT),I3 [vsl none 0 0,vi 0] h/\∀ vs5 h6,I3 vs5 h6->∃ a7 n7 c7 x8,vs5=[vsl a7 n7 c7,vi x8]/\((decide (x8<(u1:Int)))=true->∃ b11 o12,Ix u0 b11 o12 x8 u1/\∃ x13 x14 x15 x16 x17 x18,Hp.row h6 b11 (o12+x8.toNat*6) 6=some [vi x13,vi x14,vi x15,vi x16,vi x17,vi x18]/\Qa Pg 205 [vi x13] h6 fun v19 h20=>∃ x21,v19=vi x21/\((decide (x21<0))=true->R (vi 3) h20)/\((decide (x21<0))=false->((cond (cond (cond (cond (decide (x13≠1)) (cond (decide (x17≠0)) true (decide (x18≠0))) false) true (cond (decide (x13≠2)) (decide (x16≠0)) false)) true (cond (decide (x21<2)) (decide (x15≠0)) false)) true (cond (decide (x21<1)) (decide (x14≠0)) false))=true->R (vi 3) h20)/\((cond (cond (cond (cond (decide (x13≠1)) (cond (decide (x17≠0)) true (decide (x18≠0))) false) true (cond (decide (x13≠2)) (decide (x16≠0)) false)) true (cond (decide (x21<2)) (decide (x15≠0)) false)) true (cond (decide (x21<1)) (decide (x14≠0)) false))=false->((cond (decide (x16<0)) true (decide (x16>3)))=true->R (vi 1) h20)/\((cond (decide (x16<0)) true (decide (x16>3)))=false->Qa Pg 248 [vag [vi x17,vi x18]] h20 fun v25 h26=>∃ x27,v25=vi x27/\((decide (x27>0))=true->R (vi 3) h26)/\((decide (x27>0))=false->∃ x29,IsW x29 ((n7:Int)-x21)/\∃ b30 o31,(((decide (x29<0))=false/\(decide (x21>0))=true)->Ix a7 b30 o31 x29 n7)/\∃ x32,(((decide (x29<0))=false/\(decide (x21>0))=true)->Hp.cell h26 b30 (o31+x29.toNat*1)=some (vi x32))/\∃ x33,(((cond (decide (x29<0)) true (cond (decide (x21>0)) (decide (x32≠x14)) false))=false/\(decide (x21>1))=true)->IsW x33 (x29+1))/\∃ b34 o35,(((cond (decide (x29<0)) true (cond (decide (x21>0)) (decide (x32≠x14)) false))=false/\(decide (x21>1))=true)->Ix a7 b34 o35 x33 n7)/\∃ x36,(((cond (decide (x29<0)) true (cond (decide (x21>0)) (decide (x32≠x14)) false))=false/\(decide (x21>1))=true)->Hp.cell h26 b34 (o35+x33.toNat*1)=some (vi x36))/\((cond (cond (decide (x29<0)) true (cond (decide (x21>0)) (decide (x32≠x14)) false)) true (cond (decide (x21>1)) (decide (x36≠x15)) false))=true->R (vi 3) h26)/\((cond (cond (decide (x29<0)) true (cond (decide (x21>0)) (decide (x32≠x14)) false)) true (cond (decide (x21>1)) (decide (x36≠x15)) false))=false->∃ a38 n38 c38,Rd Pg (Instr.sliceAt 46 (vsl a7 n7 c7) none (some (vi x29)) none) h26 (vsl a38 n38 c38)/\Qh Pg (Builtin.append_ #[46,46] 46 #[vsl none 0 0,vsl a38 n38 c38]) h26 fun v39 h40=>∃ a41 n41 c41,v39=vsl a41 n41 c41/\∀ b42,h40 b42=none->let h43:=Hp.set h40 b42 (Qb [vi x8] 3);Qh Pg (Builtin.append_ #[46,46] 46 #[vsl a41 n41 c41,(vsl (some (⟨b42,0,none⟩:Addr)) 1 1)]) h43 fun v44 h45=>∃ a46 n46 c46,v44=vsl a46 n46 c46/\∃ x48,IsW x48 (x8+1)/\I3 [vsl a46 n46 c46,vi x48] h45/\m4 [vsl a46 n46 c46,vi x48] h45<m4 vs5 h6))))))/\((decide (x8<(u1:Int)))=false->((decide ((n7:Int)≠1))=true->R (vi 3) h6)/\((decide ((n7:Int)≠1))=false->R (vi 0) h6)))):Qa Pg 207 [vsl u0 u1 u2] h R:=callC ⟨[],[(5,([3,4],[.one (.slice),.one (.int .i64)],[]))],[(18,[0,1,2,3,4,5,6,7,8,9,10,11,12,13,14,15,16,17,18,19,20,21,22,23,24,25,26,27,28])]⟩ Tryz.func207 [.one (.v (vsl u0 u1 u2))] H
theorem QiY {u0:OaT}{u1 u2:Nat}{u3:Int}{h:Hp}{R:RtT}(H:∃ b1 o2,Ix u0 b1 o2 u3 u1/\∃ x3 x4 x5 x6 x7 x8,Hp.row h b1 (o2+u3.toNat*6) 6=some [vi x3,vi x4,vi x5,vi x6,vi x7,vi x8]/\((decide (x3=1))=true->R (Qe [vi x7,vb true]) h)/\((decide (x3=1))=false->((decide (x3=2))=true->R (Qe [vi 1,vb true]) h)/\((decide (x3=2))=false->Qa Pg 249 [vsl u0 u1 u2,vi x4] h fun v11 h12=>∃ x13 p14,v11=Qe [vi x13,vb p14]/\Qa Pg 205 [vi x3] h12 fun v15 h16=>∃ x17,v15=vi x17/\let J24:Int->Bool->Hp->Prop:=fun x34 p35 h36=>(((cond (!p14) true (!p35))=true->R (Qe [vi 0,vb false]) h36)/\((cond (!p14) true (!p35))=false->((decide (x3=5))=true->R (Qe [vi 2,vb true]) h36)/\((decide (x3=5))=false->let J41:Int->Prop:=fun x42=>(((cond (cond (decide (x13≠0)) (decide (x13≠x42)) false) true (cond (decide (x34≠0)) (decide (x34≠x42)) false))=true->R (Qe [vi 0,vb false]) h36)/\((cond (cond (decide (x13≠0)) (decide (x13≠x42)) false) true (cond (decide (x34≠0)) (decide (x34≠x42)) false))=false->let J46:Int->Prop:=fun x47=>R (Qe [vi x47,vb true]) h36;((cond (decide (x3=11)) true (decide (x3=12)))=true->J46 2)/\((cond (decide (x3=11)) true (decide (x3=12)))=false->J46 x42)));((cond (cond (decide (x3=4)) true (decide (x3=9))) true (decide (x3=10)))=true->J41 2)/\((cond (cond (decide (x3=4)) true (decide (x3=9))) true (decide (x3=10)))=false->J41 1))));((decide (x17=2))=true->Qa Pg 249 [vsl u0 u1 u2,vi x5] h16 fun v18 h19=>∃ x20 p21,v18=Qe [vi x20,vb p21]/\J24 x20 p21 h19)/\((decide (x17=2))=false->J24 x13 p14 h16)))):Qa Pg 249 [vsl u0 u1 u2,vi u3] h R:=callO Tryz.func249 [.one (.v (vsl u0 u1 u2)),.one (.v (vi u3))] H
theorem Qmk {u0:OaT}{u1 u2:Nat}{h:Hp}{R:RtT}(H:∃ x1,IsW x1 ((u1:Int)-1)/\Qa Pg 249 [vsl u0 u1 u2,vi x1] h fun v2 h3=>∃ x4 p5,v2=Qe [vi x4,vb p5]/\((!p5)=true->R (Qe [vi 0,vi 3]) h3)/\((!p5)=false->R (Qe [vi x4,vi 0]) h3)):Qa Pg 208 [vsl u0 u1 u2] h R:=callO Tryz.func208 [.one (.v (vsl u0 u1 u2))] H
def ZC (n:Nd):List Value:=[vi n.op,vi n.x,vi n.y,vi n.n,vi n.v.1,vi n.v.2]
theorem QL (n:Nd):(ZC n).length=6:=rfl
theorem VK (n:Nd):∀ u ∈ ZC n,u.oneCell'=true:=by
 intro u hu;simp [ZC] at hu;rcases hu with rfl|rfl|rfl|rfl|rfl|rfl<;>rfl
theorem Qlj (l:List Nd):∀ u ∈ l.flatMap ZC,u.oneCell'=true:=by
 intro u hu;obtain⟨v,_,hv⟩:=fP.1 hu;exact VK v u hv
theorem Ql9:ElT Pg 28 250 6 48:=.of (by kernel_rfl) (by kernel_rfl) (by decide)
theorem NU {op:Int}{h:Hp}{R:RtT}(hK:R (vi (arI op)) h):Qa Pg 205 [vi op] h R:=by
 refine Qj6 ?_
 unfold arI at hK;refine⟨fun e=>?_,fun e=>⟨fun e2=>?_,fun e2=>⟨fun e3=>?_,fun e3=>?_⟩⟩⟩
 ·rw [bH (by simp [bT] at e;omega)] at hK;exact hK
 ·rw [bE (by simp [bT] at e;omega),bH (by simp [bT] at e2;omega)] at hK;exact hK
 ·rw [bE (by simp [bT] at e;omega),bE (by simp [bT] at e2;omega),bH (by simp [bT] at e3;omega)] at hK;exact hK
 ·rw [bE (by simp [bT] at e;omega),bE (by simp [bT] at e2;omega),bE (by simp [bT] at e3;omega)] at hK;exact hK
theorem QcQ (v:Int × Int):(v≠(0,0))=(v.1≠0\/v.2≠0):=by
 refine propext ⟨fun h=>?_,fun h e=>?_⟩
 ·by_cases h1:v.1=0
  ·by_cases h2:v.2=0
   ·exact absurd (Prod.ext h1 h2) h
   ·exact .inr h2
  ·exact .inl h1
 ·rw [e] at h;simp at h
theorem Ub {n:Nd}{st s:List Int}(ha:0<=arI n.op)(h:ZN n st=some s):(s.length:Int)=st.length-arI n.op/\st.reverse.take s.length=s.reverse:=by
 unfold ZN at h;rcases QM ha with h1|h1|h1
 ·rw [bH h1] at h;cases h;refine⟨by omega,?_⟩
  rw [cQ (by simp)]
 ·rw [bE (by omega),bH h1] at h
  match st,h with
  | a :: t,h=>
   simp only at h;split at h
   ·cases h;refine⟨by simp;omega,?_⟩
    rw [fO,jM (by simp)]
   ·cases h
 ·rw [bE (by omega),bE (by omega)] at h
  match st,h with
  | b :: a :: t,h=>
   simp only at h;split at h
   ·cases h;refine⟨by simp;omega,?_⟩
    rw [fO,fO,cG,jM (by simp)]
   ·cases h
theorem QiZ {n:Nd}{l:List Nd}{st:List Int}{i:Nat}(h0:QX n=0)(h:ZN n st=none):Ze st i (n :: l)=3:=by
 rw [Ze,bE (fun q=>q h0),h]
theorem Qix {n:Nd}{l:List Nd}{st s:List Int}{i:Nat}(h0:QX n=0)(h:ZN n st=some s):Ze st i (n :: l)=Ze (i :: s) (i+1) l:=by
 rw [Ze,bE (fun q=>q h0),h]
theorem JN {n:Nd}{l:List Nd}{st:List Int}{i:Nat}{f:Int}(h0:QX n=f)(hf:f≠0):Ze st i (n :: l)=f:=by
 rw [Ze,bH (by rw [h0];exact hf),h0]
theorem QdU {a:OaT}{k c:Nat}{l:List Nd}{h:Hp}{R:RtT}(S:SlP ZC h a k l)(hK:∀ h',h.le h'->R (vi (YN l)) h'):Qa Pg 207 [vsl a k c] h R:=by
 refine Qes ?_
 have hk:=S.1;subst hk;refine⟨fun e=>?_,fun e=>?_⟩
 ·have:YN l=2:=by unfold YN;rw [bH (by have:=bC e;omega)]
  rw [this] at hK;exact hK h (Hp.le_refl h)
 have h40:l.length<=40:=by have:=bB e;omega
 have e1:YN l=Ze [] 0 l:=by unfold YN;rw [bE (by omega)]
 rw [e1] at hK;refine⟨fun vs hh=>∃(i:Nat) (a:OaT) (c:Nat) (st:List Int),vs=[vsl a st.length c,vi i]/\i<=l.length/\st.length<=i/\Ze [] 0 l=Ze st i (l.drop i)/\Qg h hh 3 1 a st.length c (st.reverse.map vi),fun vs hh=>l.length-(Qm vs 1).toNat,
  ⟨0,none,0,[],rfl,cH _,cJ _,rfl,Qg.nil (Hp.le_refl h) _ _⟩,?_⟩
 rintro vs hh ⟨i,a1,c1,st,rfl,hi,hst,hc,O⟩;refine⟨_,_,_,_,rfl,fun q=>?_,fun q=>?_⟩
 ·have hlt:i<l.length:=by have:=bC q;omega
  have hx:l[i]?=some l[i]:=bD hlt
  rw [Qdw hlt] at hc;obtain⟨b,o,ha,hr⟩:=(S.le O.le).get QL (by decide) hx
  generalize l[i]=n at *
  refine⟨b,o,⟨ha,by omega,by omega⟩,_,_,_,_,_,_,hr,NU ⟨_,rfl,fun q2=>?_,fun q2=>⟨fun q3=>?_,fun q3=>⟨fun q4=>?_,fun q4=>QcA (v:=n.v) ⟨_,rfl,fun q5=>?_,fun q5=>?_⟩⟩⟩⟩⟩
  ·have hf:QX n=3:=by unfold QX;rw [bH (bC q2)]
   rw [JN hf (by decide)] at hc
   rw [hc] at hK;exact hK hh O.le
  ·have c2:¬ arI n.op<0:=bB q2;simp only [ZP,cor] at q3;have c3:=bC q3;have hf:QX n=3:=by unfold QX;rw [bE c2,bH (by rw [QcQ];omega)]
   rw [JN hf (by decide)] at hc
   rw [hc] at hK;exact hK hh O.le
  ·have c2:¬ arI n.op<0:=bB q2;simp only [ZP,cor] at q3 q4;have c3:=bB q3;have c4:=bC q4;have hf:QX n=1:=by unfold QX;rw [bE c2,bE (by rw [QcQ];omega),bH (by omega)]
   rw [JN hf (by decide)] at hc
   rw [hc] at hK;exact hK hh O.le
  ·have c2:¬ arI n.op<0:=bB q2;simp only [ZP,cor] at q3 q4;have c3:=bB q3;have c4:=bB q4;have hf:QX n=3:=by
    unfold QX;rw [bE c2,bE (by rw [QcQ];omega),bE (by omega),bH]
    intro hg;rw [bH hg] at q5;cases q5
   rw [JN hf (by decide)] at hc
   rw [hc] at hK;exact hK hh O.le
  have c2:¬ arI n.op<0:=bB q2;simp only [ZP,cor] at q3 q4;have c3:=bB q3;have c4:=bB q4;have hf:QX n=0:=by
   unfold QX;rw [bE c2,bE (by rw [QcQ];omega),bE (by omega),bE]
   intro hg;rw [bE hg] at q5;cases q5
  have har:0<=arI n.op:=by omega
  have SI:SlI hh a1 st.length st.reverse:=by have:=O.sli;exact this
  refine⟨_,isW (by unfold InR;rcases QM har with h|h|h<;>omega),?_⟩
  have hbad:ZN n st=none->R (vi 3) hh:=fun hp=>by
   rw [QiZ hf hp] at hc;rw [hc] at hK;exact hK hh O.le
  have hgood:∀ s,ZN n st=some s->∀ x:Int,x=(st.length:Nat)-arI n.op->∀ K:RtT,(∀(a46:OaT) (n46 c46:Nat) (h45:Hp),Qg h h45 3 1 a46 n46 c46 ((((i:Int) :: s).reverse).map vi)->n46=s.length+1->K (vsl a46 n46 c46) h45) ->
    ∃(a38:OaT) (n38 c38:Nat),(Rd Pg (Instr.sliceAt 46 (vsl a1 st.length c1) none (some (vi x)) none) hh (vsl a38 n38 c38))/\(Qh Pg (Builtin.append_ #[46,46] 46 #[(vsl none 0 0),(vsl a38 n38 c38)]) hh fun v39 h40=>∃(a41:OaT) (n41 c41:Nat),v39=(vsl a41 n41 c41)/\(∀(b42:Nat),h40 b42=none->Qh Pg (Builtin.append_ #[46,46] 46 #[(vsl a41 n41 c41),(vsl (some (⟨b42,0,none⟩:Addr)) 1 1)]) (Hp.set h40 b42 (Qb [(vi i)] 3)) K)):=by
   intro s hs x hx K hK;rw [hx];obtain⟨p1,p2⟩:=Ub har hs;have hcap:=O.own.cap;rw [<-p1];refine⟨_,_,_,XK (e:=3) (by kernel_rfl) (by kernel_rfl) (by omega) (by omega),?_⟩
   rw [bG];have ST:SlI hh a1 s.length s.reverse:=by
    have:=SI.take (i:=s.length) (by omega)
    rw [p2] at this;exact this
   refine Qg.append KQ (Qg.nil O.le _ _) ST.2 (m:=s.length) (by simp) (JT _) (by omega) (by omega) fun a' c' h' O' _ _=>⟨_,_,_,rfl,fun b42 hb42=>?_⟩
   rw [dY,dC] at *
   refine Qg.append KQ (Qg.set hb42 _ O') (Qf.new _ _ [vi i] _) (m:=1) rfl (by simp [Value.oneCell']) (by omega) (by omega) fun a2 c2 h2 O2 _ _=>hK _ _ _ _ ?_ rfl
   rw [fO,cD];exact O2
  have hnext:∀ s,ZN n st=some s->∀(a46:OaT) (n46 c46:Nat) (h45:Hp),Qg h h45 3 1 a46 n46 c46 ((((i:Int) :: s).reverse).map vi)->n46=s.length+1->∃(x48:Int),IsW x48 ((i:Int)+1)/\(∃(i':Nat) (a:OaT) (c:Nat) (st:List Int),[vsl a46 n46 c46,vi x48]=[vsl a st.length c,vi i']/\i'<=l.length/\st.length<=i'/\Ze [] 0 l=Ze st i' (l.drop i')/\Qg h h45 3 1 a st.length c (st.reverse.map vi))/\l.length-(Qm [vsl a46 n46 c46,vi x48] 1).toNat<l.length-(Qm [vsl a1 st.length c1,vi i] 1).toNat:=by
   intro s hs a46 n46 c46 h45 O45 hn;subst hn;obtain⟨p1,p2⟩:=Ub har hs;refine⟨_,iW,⟨i+1,a46,c46,(i:Int) :: s,rfl,by omega,by simp;omega,?_,O45⟩,by simp [Qm];omega⟩
   rw [hc,Qix hf hs]
  rcases QM har with h0|h0|h0
  ·have hs:ZN n st=some st:=by unfold ZN;rw [bH h0]
   rw [h0];refine⟨0,0,fun g=>(by cases g.2),0,fun g=>(by cases g.2),0,fun g=>(by cases g.2),0,0,fun g=>(by cases g.2),0,fun g=>(by cases g.2),fun g=>?_,fun _=>hgood st hs _ (by rw [h0]) _ fun a46 n46 c46 h45 O e=>⟨_,_,_,rfl,hnext st hs a46 n46 c46 h45 O e⟩⟩
   exfalso;simp only [ZP,cor] at g;have:=bC g;omega
  ·match st with
   | []=>
    have hs:ZN n []=none:=by unfold ZN;rw [bE (by omega),bH h0]
    have:=hbad hs;rw [h0];exact⟨0,0,fun g=>(by cases g.1),0,fun g=>(by cases g.1),0,fun g=>(by cases g.1),0,0,fun g=>(by cases g.1),0,fun g=>(by cases g.1),fun _=>this,fun g=>(by cases g)⟩
   | z :: s=>
    obtain⟨q,p,hq,hcell⟩:=SI.get (i:=s.length) (by simp)
    have ez:((z :: s).reverse).getD s.length 0=z:=by
     rw [bK,fO,dA (by simp)]
     simp
    rw [ez] at hcell;have hx29:(((z :: s).length:Nat):Int)-arI n.op=(s.length:Nat):=by rw [h0];simp
    by_cases hz:z=n.x
    ·have hs:ZN n (z :: s)=some s:=by unfold ZN;rw [bE (by omega),bH h0];simp [hz]
     have hx30:=hx29;rw [hx29,h0];refine⟨q,p,fun g=>⟨hq,by omega,by simp;omega⟩,z,fun g=>hcell,0,fun g=>(by cases g.2),0,0,fun g=>(by cases g.2),0,fun g=>(by cases g.2),fun g=>?_,fun _=>hgood s hs _ hx30.symm _ fun a46 n46 c46 h45 O e=>⟨_,_,_,rfl,hnext s hs a46 n46 c46 h45 O e⟩⟩
     exfalso;simp only [ZP,cor] at g;have:=bC g;omega
    ·have hs:ZN n (z :: s)=none:=by unfold ZN;rw [bE (by omega),bH h0];simp [hz]
     have:=hbad hs;rw [hx29,h0];refine⟨q,p,fun g=>⟨hq,by omega,by simp;omega⟩,z,fun g=>hcell,0,fun g=>(by cases g.2),0,0,fun g=>(by cases g.2),0,fun g=>(by cases g.2),fun _=>this,fun g=>?_⟩
     exfalso;simp only [ZP,cor] at g;have:=bB g;omega
  ·match st with
   | []=>
    have hs:ZN n []=none:=by unfold ZN;rw [bE (by omega),bE (by omega)]
    have:=hbad hs;rw [h0];exact⟨0,0,fun g=>(by cases g.1),0,fun g=>(by cases g.1),0,fun g=>(by cases g.1),0,0,fun g=>(by cases g.1),0,fun g=>(by cases g.1),fun _=>this,fun g=>(by cases g)⟩
   | [z]=>
    have hs:ZN n [z]=none:=by unfold ZN;rw [bE (by omega),bE (by omega)]
    have:=hbad hs;rw [h0];exact⟨0,0,fun g=>(by cases g.1),0,fun g=>(by cases g.1),0,fun g=>(by cases g.1),0,0,fun g=>(by cases g.1),0,fun g=>(by cases g.1),fun _=>this,fun g=>(by cases g)⟩
   | z :: y :: s=>
    obtain⟨q,p,hq,hcell⟩:=SI.get (i:=s.length) (by simp;omega)
    obtain⟨q',p',hq',hcell'⟩:=SI.get (i:=s.length+1) (by simp)
    have ey:((z :: y :: s).reverse).getD s.length 0=y:=by
     rw [bK,fO,fO,cG,dA (by simp)]
     simp
    have ez:((z :: y :: s).reverse).getD (s.length+1) 0=z:=by
     rw [bK,fO,fO,cG,dA (by simp)]
     simp
    rw [ey] at hcell;rw [ez] at hcell';have hx29:(((z :: y :: s).length:Nat):Int)-arI n.op=(s.length:Nat):=by rw [h0];simp;omega
    have hw:IsW (((s.length+1:Nat):Int)) ((s.length:Nat)+1):=isW (by have hst2:(z :: y :: s).length<=i:=hst;simp at hst2;unfold InR;omega)
    by_cases hz:y=n.x/\z=n.y
    ·have hs:ZN n (z :: y :: s)=some s:=by unfold ZN;rw [bE (by omega),bE (by omega)];simp [hz.1,hz.2]
     have hx30:=hx29;rw [hx29,h0];refine⟨q,p,fun g=>⟨hq,by omega,by simp;omega⟩,y,fun g=>hcell,((s.length+1:Nat):Int),fun g=>hw,q',p',fun g=>⟨hq',by omega,by simp;omega⟩,z,fun g=>hcell',fun g=>?_,fun _=>hgood s hs _ hx30.symm _ fun a46 n46 c46 h45 O e=>⟨_,_,_,rfl,hnext s hs a46 n46 c46 h45 O e⟩⟩
     exfalso;simp only [ZP,cor] at g;have:=bC g;omega
    ·have hs:ZN n (z :: y :: s)=none:=by unfold ZN;rw [bE (by omega),bE (by omega)];simp;intro h1 h2;exact hz ⟨h1,h2⟩
     have:=hbad hs;rw [hx29,h0];refine⟨q,p,fun g=>⟨hq,by omega,by simp;omega⟩,y,fun g=>hcell,((s.length+1:Nat):Int),fun g=>hw,q',p',fun g=>⟨hq',by omega,by simp;omega⟩,z,fun g=>hcell',fun _=>this,fun g=>?_⟩
     exfalso;simp only [ZP,cor] at g;have:=bB g;omega
 ·have hge:i=l.length:=by have:=bB q;omega
  subst hge;rw [fQ (cJ _),Ze] at hc;refine⟨fun q2=>?_,fun q2=>?_⟩
  ·rw [bE (by have:=bC q2;omega)] at hc
   rw [hc] at hK;exact hK hh O.le
  ·rw [bH (by have:=bB q2;omega)] at hc
   rw [hc] at hK;exact hK hh O.le
theorem Q9 {op:Int}{h:Hp}{R:RtT}(hK:R (vi (arI op)) h):Qa Pg 180 [vi op] h R:=by
 refine Qe6 ?_
 unfold arI at hK;refine⟨fun e=>?_,fun e=>⟨fun e2=>?_,fun e2=>⟨fun e3=>?_,fun e3=>?_⟩⟩⟩
 all_goals simp only [ZP,cor] at *
 ·rw [bH (bC e)] at hK;exact hK
 ·rw [bE (bB e),bH (by have:=bC e2;omega)] at hK;exact hK
 ·rw [bE (bB e),bE (by have:=bB e2;omega),bH (by have:=bC e3;omega)] at hK;exact hK
 ·rw [bE (bB e),bE (by have:=bB e2;omega),bE (by have:=bB e3;omega)] at hK;exact hK
theorem QgE {u0:OaT}{u1 u2:Nat}{u3:Int}{u4:Int}{u5:Int}{u6:Int}{u7:Int}{u8:Int}{u9:Int}{u10:Int}{h:Hp}{R:RtT}(H:∃ b1 o2,Ix u0 b1 o2 u3 u1/\∃ x3 x4 x5 x6 x7 x8,Hp.row h b1 (o2+u3.toNat*6) 6=some [vi x3,vi x4,vi x5,vi x6,vi x7,vi x8]/\((decide (x3=1))=true->R (vag [vi x7,vi x8]) h)/\((decide (x3=1))=false->((decide (x3=2))=true->((decide (x6=0))=true->Qa Pg 161 [vi u4] h fun v9 h10=>∃ x11 x12,v9=vag [vi x11,vi x12]/\R (vag [vi x11,vi x12]) h10)/\((decide (x6=0))=false->((decide (x6=1))=true->R (vag [vi u5,vi u6]) h)/\((decide (x6=1))=false->((decide (x6=2))=true->R (vag [vi u7,vi u8]) h)/\((decide (x6=2))=false->R (vag [vi u9,vi u10]) h))))/\((decide (x3=2))=false->((decide (x3=3))=true->Qa Pg 160 [vsl u0 u1 u2,vi x4,vag [vi u4,vi u5,vi u6,vi u7,vi u8,vi u9,vi u10]] h fun v16 h17=>∃ x18 x19,v16=vag [vi x18,vi x19]/\((decide (x18=1))=true->∃ x20,IsW x20 (-x19)/\Qa Pg 161 [vi x20] h17 fun v21 h22=>∃ x23 x24,v21=vag [vi x23,vi x24]/\R (vag [vi x23,vi x24]) h22)/\((decide (x18=1))=false->R (vag [vi 0,vi 0]) h17))/\((decide (x3=3))=false->((decide (x3=4))=true->Qa Pg 160 [vsl u0 u1 u2,vi x4,vag [vi u4,vi u5,vi u6,vi u7,vi u8,vi u9,vi u10]] h fun v26 h27=>∃ x28 x29,v26=vag [vi x28,vi x29]/\((decide (x28=2))=true->Qa Pg 211 [(vb (decide (x29=0)))] h27 fun v30 h31=>∃ x32 x33,v30=vag [vi x32,vi x33]/\R (vag [vi x32,vi x33]) h31)/\((decide (x28=2))=false->R (vag [vi 0,vi 0]) h27))/\((decide (x3=4))=false->((decide (x3=5))=true->Qa Pg 160 [vsl u0 u1 u2,vi x4,vag [vi u4,vi u5,vi u6,vi u7,vi u8,vi u9,vi u10]] h fun v35 h36=>∃ x37 x38,v35=vag [vi x37,vi x38]/\Qa Pg 211 [(vb (decide (x37=0)))] h36 fun v39 h40=>∃ x41 x42,v39=vag [vi x41,vi x42]/\R (vag [vi x41,vi x42]) h40)/\((decide (x3=5))=false->Qa Pg 160 [vsl u0 u1 u2,vi x4,vag [vi u4,vi u5,vi u6,vi u7,vi u8,vi u9,vi u10]] h fun v44 h45=>∃ x46 x47,v44=vag [vi x46,vi x47]/\Qa Pg 160 [vsl u0 u1 u2,vi x5,vag [vi u4,vi u5,vi u6,vi u7,vi u8,vi u9,vi u10]] h45 fun v48 h49=>∃ x50 x51,v48=vag [vi x50,vi x51]/\Qa Pg 212 [vi x3,vag [vi x46,vi x47],vag [vi x50,vi x51]] h49 fun v52 h53=>∃ x54 x55,v52=vag [vi x54,vi x55]/\R (vag [vi x54,vi x55]) h53)))))):Qa Pg 160 [vsl u0 u1 u2,vi u3,vag [vi u4,vi u5,vi u6,vi u7,vi u8,vi u9,vi u10]] h R:=callC ⟨[],[],[(26,[0,1,2,3,4,5,7,8,9,10,6,11,12,13])]⟩ Tryz.func160 [.one (.v (vsl u0 u1 u2)),.one (.v (vi u3)),.ag [.v (vi u4),.v (vi u5),.v (vi u6),.v (vi u7),.v (vi u8),.v (vi u9),.v (vi u10)]] H
theorem QlN {u0:OaT}{u1 u2:Nat}{u3:Int}{u4:Int}{u5:Int}{u6:Int}{u7:Int}{u8:Int}{u9:Int}{h:Hp}{R:RtT}(H:∃ x1,IsW x1 ((u1:Int)-1)/\Qa Pg 160 [vsl u0 u1 u2,vi x1,vag [vi u3,vi u4,vi u5,vi u6,vi u7,vi u8,vi u9]] h fun v2 h3=>∃ x4 x5,v2=vag [vi x4,vi x5]/\R (vag [vi x4,vi x5]) h3):Qa Pg 105 [vsl u0 u1 u2,vag [vi u3,vi u4,vi u5,vi u6,vi u7,vi u8,vi u9]] h R:=callO Tryz.func105 [.one (.v (vsl u0 u1 u2)),.ag [.v (vi u3),.v (vi u4),.v (vi u5),.v (vi u6),.v (vi u7),.v (vi u8),.v (vi u9)]] H
section
variable {a:OaT}{m c:Nat}{l:List Nd}{h:Hp}
theorem QhZ (S:SlP ZC h a m l)(W:WfL l){e:EvL}:∀(k:Nat) (i:Int),i.toNat=k->0<=i->i<l.length->∀(R:RtT),R (vag (Qq (vAt e l i.toNat))) h->Qa Pg 160 [vsl a m c,vi i,vag (Xo e)] h R:=by
 intro k;induction k using Nat.strongRecOn with
 | _ k ih=>
  intro i hik h0 h1 R hK;refine QgE ?_
  have hm:=S.1;have hx:l[i.toNat]?=some (l[i.toNat]'(by omega)):=bD (by omega)
  have Wn:=W _ _ hx;have hv:vAt e l i.toNat=_:=Ye (YJ e) hx Wn;rw [hv] at hK;clear hv;obtain⟨b,o,ha,hr⟩:=S.get QL (by decide) hx
  generalize l[i.toNat]'(by omega)=n at *
  have hX:1<=arI n.op->∀(R:RtT),R (vag (Qq (vAt e l n.x.toNat))) h->Qa Pg 160 [vsl a m c,vi n.x,vag (Xo e)] h R:=fun h2 R hR=>by
   have:=Wn.x h2;exact ih n.x.toNat (by omega) n.x rfl (by omega) (by omega) R hR
  have hY:2<=arI n.op->∀(R:RtT),R (vag (Qq (vAt e l n.y.toNat))) h->Qa Pg 160 [vsl a m c,vi n.y,vag (Xo e)] h R:=fun h2 R hR=>by
   have:=Wn.y h2;exact ih n.y.toNat (by omega) n.y rfl (by omega) (by omega) R hR
  have ar:=ar0 Wn.a;have hfold:vAt e l=fAt (0,0) (Xi e) l:=rfl;rw [<-hfold] at hK;generalize vAt e l n.x.toNat=vx at *
  generalize vAt e l n.y.toNat=vy at *
  unfold Xi at hK;refine⟨b,o,⟨ha,h0,by omega⟩,_,_,_,_,_,_,hr,fun q=>?_,fun q1=>⟨fun q=>?_,fun q2=>⟨fun q=>?_,fun q3=>⟨fun q=>?_,fun q4=>⟨fun q=>?_,fun q5=>?_⟩⟩⟩⟩⟩
  ·rw [bH (bC q)] at hK;exact hK
  ·rw [bE (bB q1),bH (bC q)] at hK;unfold Nq at hK;refine⟨fun p=>?_,fun p=>⟨fun p2=>?_,fun p2=>⟨fun p3=>?_,fun p3=>?_⟩⟩⟩
   ·rw [bH (bC p)] at hK;exact YV ⟨_,_,rfl,hK⟩
   ·rw [bE (bB p),bH (bC p2)] at hK;exact hK
   ·rw [bE (bB p),bE (bB p2),bH (bC p3)] at hK;exact hK
   ·rw [bE (bB p),bE (bB p2),bE (bB p3)] at hK;exact hK
  ·rw [bE (bB q1),bE (bB q2),bH (bC q)] at hK;have:=bC q;refine hX (by omega) _ ⟨_,_,rfl,fun p=>?_,fun p=>?_⟩
   ·unfold Qar at hK;rw [bH (bC p)] at hK;exact⟨_,Jk _,YV ⟨_,_,rfl,hK⟩⟩
   ·unfold Qar at hK;rw [bE (bB p)] at hK;exact hK
  ·rw [bE (bB q1),bE (bB q2),bE (bB q3),bH (bC q)] at hK;have:=bC q;refine hX (by omega) _ ⟨_,_,rfl,fun p=>?_,fun p=>?_⟩
   ·unfold JB at hK;rw [bH (bC p)] at hK;exact XO ⟨_,_,rfl,hK⟩
   ·unfold JB at hK;rw [bE (bB p)] at hK;exact hK
  ·rw [bE (bB q1),bE (bB q2),bE (bB q3),bE (bB q4),bH (bC q)] at hK;have:=bC q;exact hX (by omega) _ ⟨_,_,rfl,XO ⟨_,_,rfl,hK⟩⟩
  ·have p1:=bB q1;have p2:=bB q2;have p3:=bB q3;have p4:=bB q4;have p5:=bB q5;rw [bE p1,bE p2,bE p3,bE p4,bE p5] at hK;have h2:arI n.op=2:=by rcases QM Wn.a with h|h|h<;>omega
   exact hX (by omega) _ ⟨_,_,rfl,hY (by omega) _ ⟨_,_,rfl,Qpl ⟨_,_,rfl,hK⟩⟩⟩
theorem QlZ (S:SlP ZC h a m l)(W:WfL l)(hl:0<l.length)(hm:l.length<=1000000){e:EvL}{R:RtT}(hK:R (vag (Qq (ZG e l))) h):Qa Pg 105 [vsl a m c,vag (Xo e)] h R:=by
 refine QlN ?_
 have hm:=S.1;refine⟨_,iW,QhZ S W _ ((m:Int)-1) rfl (by omega) (by omega) _ ⟨_,_,rfl,?_⟩⟩
 have e1:((m:Int)-1).toNat=l.length-1:=by omega
 rw [e1];exact hK
end
section
variable {a:OaT}{m c:Nat}{l:List Nd}{h:Hp}
theorem QdE (op a b:Int):tyG op (some a) (some b)=if op=5 then some 2 else if (a≠0/\a≠Wy op)\/(b≠0/\b≠Wy op) then none else if op=11\/op=12 then some 2 else some (Wy op):=rfl
def Qdr:Option Int->Value
 | some t=>Qe [vi t,vb true]
 | none=>Qe [vi 0,vb false]
theorem QiF (S:SlP ZC h a m l)(W:WfL l):∀(k:Nat) (i:Int),i.toNat=k->0<=i->i<l.length->∀(R:RtT),R (Qdr (tAt l i.toNat)) h->Qa Pg 249 [vsl a m c,vi i] h R:=by
 intro k;induction k using Nat.strongRecOn with
 | _ k ih=>
  intro i hik h0 h1 R hK;refine QiY ?_
  have hm:=S.1;have hx:l[i.toNat]?=some (l[i.toNat]'(by omega)):=bD (by omega)
  have Wn:=W _ _ hx;have hv:tAt l i.toNat=_:=Ye YQ hx Wn;rw [hv] at hK;clear hv;obtain⟨b,o,ha,hr⟩:=S.get QL (by decide) hx
  generalize l[i.toNat]'(by omega)=n at *
  have hX:1<=arI n.op->∀(R:RtT),R (Qdr (tAt l n.x.toNat)) h->Qa Pg 249 [vsl a m c,vi n.x] h R:=fun h2 R hR=>by
   have:=Wn.x h2;exact ih n.x.toNat (by omega) n.x rfl (by omega) (by omega) R hR
  have hY:2<=arI n.op->∀(R:RtT),R (Qdr (tAt l n.y.toNat)) h->Qa Pg 249 [vsl a m c,vi n.y] h R:=fun h2 R hR=>by
   have:=Wn.y h2;exact ih n.y.toNat (by omega) n.y rfl (by omega) (by omega) R hR
  have ar:=ar0 Wn.a;have hfold:tAt l=fAt none tyF l:=rfl;rw [<-hfold] at hK;generalize tAt l n.x.toNat=vx at *
  generalize tAt l n.y.toNat=vy at *
  refine⟨b,o,⟨ha,h0,by omega⟩,_,_,_,_,_,_,hr,fun q=>?_,fun q1=>⟨fun q=>?_,fun q2=>?_⟩⟩
  ·unfold tyF at hK;rw [bH (bC q)] at hK;exact hK
  ·unfold tyF at hK;rw [bE (bB q1),bH (bC q)] at hK;exact hK
  have p1:=bB q1;have p2:=bB q2;rw [WL p1 p2] at hK;have h1:1<=arI n.op:=by rcases QM Wn.a with h|h|h<;>omega
  -- what is done once both kinds are there
  have hJ:∀(x:Option Int) (p14 p35:Bool) (x13 x34:Int),Qdr vx=Qe [vi x13,vb p14]->Qdr x=Qe [vi x34,vb p35]->R (Qdr (tyG n.op vx x)) h ->
    (((bif (!p14) then true else(!p35))=true->R (Qe [(vi 0),(vb false)]) h)/\((bif (!p14) then true else(!p35))=false->(((decide ((n.op:Int)=5))=true->R (Qe [(vi 2),(vb true)]) h)/\((decide ((n.op:Int)=5))=false->(let J41:Int->Prop:=fun(x42:Int)=>(((bif (bif (decide ((x13:Int)≠0)) then(decide ((x13:Int)≠x42)) else false) then true else(bif (decide ((x34:Int)≠0)) then(decide ((x34:Int)≠x42)) else false))=true->R (Qe [(vi 0),(vb false)]) h)/\((bif (bif (decide ((x13:Int)≠0)) then(decide ((x13:Int)≠x42)) else false) then true else(bif (decide ((x34:Int)≠0)) then(decide ((x34:Int)≠x42)) else false))=false->(let J46:Int->Prop:=fun(x47:Int)=>R (Qe [(vi x47),(vb true)]) h;(((bif (decide ((n.op:Int)=11)) then true else(decide ((n.op:Int)=12)))=true->(J46 2))/\((bif (decide ((n.op:Int)=11)) then true else(decide ((n.op:Int)=12)))=false->(J46 x42))))));(((bif (bif (decide ((n.op:Int)=4)) then true else(decide ((n.op:Int)=9))) then true else(decide ((n.op:Int)=10)))=true->(J41 2))/\((bif (bif (decide ((n.op:Int)=4)) then true else(decide ((n.op:Int)=9))) then true else(decide ((n.op:Int)=10)))=false->(J41 1)))))))):=by
   intro x p14 p35 x13 x34 e1 e2 hR;match vx,x,e1,e2,hR with
   | none,x,e1,e2,hR=>
    cases e1;rw [(GN n.op x).1] at hR;exact⟨fun _=>hR,fun g=>(by cases g)⟩
   | some t,none,e1,e2,hR=>
    cases e1;cases e2;rw [(GN n.op _).2] at hR;exact⟨fun _=>hR,fun g=>(by cases g)⟩
   | some t,some u,e1,e2,hR=>
    cases e1;cases e2;rw [QdE] at hR;refine⟨fun g=>(by cases g),fun _=>⟨fun g=>?_,fun g=>?_⟩⟩
    ·rw [bH (bC g)] at hR;exact hR
    rw [bE (bB g)] at hR;intro J41;have hw:J41 (Wy n.op):=by
     refine⟨fun g=>?_,fun g=>?_⟩
     ·simp only [ZP,cor] at g;rw [bH (bC g)] at hR;exact hR
     ·simp only [ZP,cor] at g;rw [bE (bB g)] at hR;intro J46;refine⟨fun g=>?_,fun g=>?_⟩
      ·simp only [ZP,cor] at g;rw [bH (bC g)] at hR;exact hR
      ·simp only [ZP,cor] at g;rw [bE (bB g)] at hR;exact hR
    clear_value J41;unfold Wy at hw;refine⟨fun g=>?_,fun g=>?_⟩
    ·simp only [ZP,cor] at g;have:=bC g;rw [bH (by omega)] at hw;exact hw
    ·simp only [ZP,cor] at g;have:=bB g;rw [bE (by omega)] at hw;exact hw
  have out:∀ x:Option Int,∃(t:Int) (p:Bool),Qdr x=Qe [vi t,vb p]:=by
   intro x;cases x with
   | none=>exact⟨_,_,rfl⟩
   | some t=>exact⟨_,_,rfl⟩
  obtain⟨t1,p1',o1⟩:=out vx;refine hX h1 _ ⟨t1,p1',o1,NU ⟨_,rfl,?_⟩⟩
  intro J24;refine⟨fun g=>?_,fun g=>?_⟩
  ·have h2:=bC g;obtain⟨t2,p2',o2⟩:=out vy;rw [bH h2] at hK;exact hY (by omega) _ ⟨t2,p2',o2,hJ _ _ _ _ _ o1 o2 hK⟩
  ·rw [bE (bB g)] at hK;exact hJ _ _ _ _ _ o1 o1 hK
theorem Ql1 (S:SlP ZC h a m l)(W:WfL l)(hl:0<l.length)(hm:l.length<=1000000){R:RtT}(hK:R (Qe [vi (Zn l).1,vi (Zn l).2]) h):Qa Pg 208 [vsl a m c] h R:=by
 refine Qmk ?_
 have hm:=S.1;refine⟨_,iW,QiF S W _ ((m:Int)-1) rfl (by omega) (by omega) _ ?_⟩
 have e1:((m:Int)-1).toNat=l.length-1:=by omega
 rw [e1];unfold Zn at hK;cases ht:tAt l (l.length-1) with
 | none=>
  rw [ht] at hK;exact⟨_,_,rfl,fun _=>hK,fun g=>(by cases g)⟩
 | some t=>
  rw [ht] at hK;exact⟨_,_,rfl,fun g=>(by cases g),fun _=>hK⟩
end
end Go.Proofs.YthicpjafcpfjoaaGreatDoor
