/-
  Laws and contracts on which the statement's proof stands, part 2. Conditions: those stated at each.
-/
import Derived.Laws.Externs
import Derived.Laws.Strings2
import Derived.Laws.CopyRow
import Derived.Laws.IdiomStrings
import Derived.Laws.Shifts
import Derived.Laws.MathBits
import Derived.Laws.Cover3
import Derived.WalkSmall
import Derived.LaidMore
import Derived.Stop.LaidErr
import Derived.ChangeArms
import Derived.ChangeBears2
import Derived.Test.YthicpjafcpfjoaaGreatDoorProg
import Derived.Lib.ItoaNum
import Derived.Lib.AtoiAll
import Derived.Shelf.SlSortCmp.NoneTotal
import Derived.Shelf.Strings.Builder1
import Derived.Shelf.Strings.Builder2
import Derived.Shelf.Strings.OnBuilder
import Derived.Shelf.Small.Bits
import Derived.Shelf.Small.Strs
import Derived.Shelf.Small.Wraps
import Derived.Shelf.Strconv.Atoi
import Derived.Shelf.Strconv.Itoa0
import Derived.Shelf.Strconv.Itoa1
import Derived.Shelf.LaysM
import Derived.Shelf.Strconv.Itoa2
import Derived.Shelf.Strconv.Itoa3
import Derived.Shelf.Strconv.AtoiErrFast
import Derived.Shelf.Strconv.ParseIntEmpty
import Derived.Shelf.Strconv.AtoiFail
import Derived.Shelf.Strconv.Clone
import Derived.Shelf.Strconv.SyntaxError
import Derived.Shelf.LaysC
import Derived.Shelf.Strconv.ToError
import Derived.Shelf.Strconv.AtoiErr
import Derived.Shelf.Strconv.ErrVar
import Derived.Shelf.Strconv.Lower
import Derived.Shelf.Strconv.ParseUint10
import Derived.Shelf.Strconv.ParseUint10Empty
import Derived.Shelf.Strconv.ParseUint10Any
import Derived.Shelf.Strconv.ParseInt10
import Derived.Shelf.Strconv.AtoiLong
import Derived.Shelf.Strconv.AtoiInnerAll
import Derived.Shelf.Strconv.RangeError
import Derived.Shelf.Strconv.ToErrorRange
import Derived.Shelf.Strconv.AtoiAll
import Derived.Shelf.Strconv.ErrVarAll
import Derived.Shelf.Strconv.ParseUintEmpty
import Derived.Shelf.Strconv.ParseUint10b64
import Derived.Shelf.Strconv.ParseUint10b32
import Derived.Shelf.Strconv.ParseUint10b16
import Derived.Shelf.Strconv.ParseUint10b8
import Derived.Shelf.Strconv.ParseUint10At
import Derived.Shelf.Strconv.ParseInt10At64
import Derived.Shelf.Strconv.ParseInt10At32
import Derived.Shelf.Strings.Search1
import Derived.Shelf.Strings.Search2
import Derived.Shelf.Strings.Search3
import Derived.Shelf.Strings.Count
import Derived.Shelf.Strings.Shaped
import Derived.Shelf.Strings.Split
import Derived.Shelf.Strings.SplitShaped
import Derived.Shelf.Unicode.Decode
import Derived.Shelf.Strings.RuneCount
import Derived.Shelf.Strings.Explode
import Derived.Shelf.Bits.Mul64
import Derived.Shelf.Unicode.DecodeSlow
import Derived.WalkKit
import Derived.Deep.RegionWith
import Derived.Below
import Derived.Lib.AtoiErrMem
import Derived.Lib.ConvBytes
import Derived.MapKept
import Derived.Test.YthicpjafcpfjoaaGreatDoorRp1
set_option linter.unusedVariables false
set_option maxRecDepth 100000
namespace Go.Vc
open Go
structure QpI {H:Type}(Sm:DataW H->Prop)(N:NpT):Prop where
 zero:N 0
 slice:∀ es sp,Sm (.slice es sp)->N es.length/\∀ x ∈ es,Sm x
 agg:∀ xs,Sm (.agg xs)->∀ x ∈ xs,Sm x
 str:∀ l,Sm (.lit (.string l))->N l.length
 ptr:∀ x,Sm (.ptr x)->Sm x
theorem Gv {H:Type}:QpI (H:=H) (fun _=>True) (fun _=>True):=⟨trivial,fun _ _ _=>⟨trivial,fun _ _=>trivial⟩,fun _ _ _ _=>trivial,fun _ _=>trivial,fun _ _=>trivial⟩
section
variable {P:Program}{H:Type}{enc0:TypeId × Value->H}{w:World}{Sm:DataW H->Prop}{N:NpT}
def Qc5 (P:Program)(enc0:TypeId × Value->H)(w:World)(Sm:DataW H->Prop)(t:TypeId)(cs:List Value):Prop:=
 ∃ fuel d ps,DataW.trod enc0 P w 0 (fun _=>true) true fuel t cs=some (d,ps)/\Sm d
theorem QiC {t:TypeId}{k:IntKind}(hu:P.underlying t=some (.int k)){cs:List Value}(L:Qc5 P enc0 w Sm t cs):∃ n,cs=[.int k n]/\(Lit.int k n).wf=true:=by
 obtain⟨fuel,d,ps,h,_⟩:=L;cases fuel with
 | zero=>simp [DataW.trod] at h
 | succ fuel=>
  unfold DataW.trod at h;rw [hu] at h;split at h<;>first|(cases h;done)|skip
  all_goals simp_all
theorem WK {t:TypeId}(hu:P.underlying t=some (.int .i64)){cs:List Value}(L:Qc5 P enc0 w Sm t cs):∃ n,cs=[vi n]/\InR n:=by
 obtain⟨n,rfl,h⟩:=QiC hu L;exact⟨n,rfl,by simpa [Lit.wf,IntKind.min,IntKind.max,IntKind.signed,IntKind.bits,InR] using h⟩
theorem MA (hS:QpI Sm N){t:TypeId}(hu:P.underlying t=some .string){cs:List Value}(L:Qc5 P enc0 w Sm t cs):∃ s,cs=[vs s]/\N s.size/\s.size<=maxLen:=by
 obtain⟨fuel,d,ps,h,hm⟩:=L;cases fuel with
 | zero=>simp [DataW.trod] at h
 | succ fuel=>
  unfold DataW.trod at h;rw [hu] at h;split at h<;>first|(rename_i hx;cases hx;done)|(cases h;done)|skip
  split at h
  ·rename_i sz hsz;simp only [bH,fC] at h;obtain⟨rfl,rfl⟩:=h;have:=hS.str _ hm;exact⟨_,rfl,by simpa using this,hsz⟩
  ·cases h
theorem Qqg {n:Int}(h:(Lit.int .u64 n).wf=true):0<=n/\n<=18446744073709551615:=by simpa [Lit.wf,IntKind.min,IntKind.max,IntKind.signed,IntKind.bits] using h
theorem QaN {b o:Nat}{xs:List Value}(hne:xs≠[])(h:∀ j x,xs[j]?=some x->w.cell? ⟨b,o+j,none⟩=some x):(G9 w).row b o xs.length=some xs:=by
 obtain⟨x0,l0,rfl⟩:=List.exists_cons_of_ne_nil hne;have h0:=h 0 x0 rfl;unfold World.cell? at h0;simp only at h0;cases hb:w.heap[b]? with
 | none=>rw [hb] at h0;cases h0
 | some ob=>
  cases ob with
  | cells c t f=>
   have hc:∀ j x,(x0 :: l0)[j]?=some x->c[o+j]?=some x:=by intro j x hx;have:=h j x hx;unfold World.cell? at this;simp only [hb] at this;simpa using this
   refine Hp.row_spec.2 ⟨c,t,f,hb,?_,?_⟩
   ·have:=hc l0.length ((x0 :: l0)[l0.length]) (by rw [bD (by simp)])
    have:=(bV.1 this).1
    simp only [cH];omega
   ·apply fR;intro j;rw [gE]
    split
    ·rename_i hj;rw [fP]
     have:=hc j ((x0 :: l0)[j]) (bD hj)
     rw [bD hj]
     simpa using this.symm
    ·rename_i hj;exact gI (by omega)
  | _=>rw [hb] at h0;simp at h0
theorem Qfn {α β:Type}{f:α->Option β}:∀{l:List α} {ys:List β},l.mapM f=some ys->∀(i:Nat)(x:α),l[i]?=some x->∃ y,ys[i]?=some y/\f x=some y
 | [],ys,h,i,x,hx=>by simp at hx
 | a :: l,ys,h,i,x,hx=>by
  rw [gT] at h;simp only [kQ,dZ,mL,bH] at h;obtain⟨y,hy,zs,hzs,rfl⟩:=h;cases i with
  | zero=>simp at hx;subst hx;exact⟨y,rfl,hy⟩
  | succ i=>simpa using Qfn hzs i x (by simpa using hx)
theorem Qgc {w:World}{base:Nat}{a:Addr}{n:Nat}{cs:List Value}(h:w.cells? base a n=some cs):cs.length=n/\∀ j x,cs[j]?=some x->w.cell? (a.add j)=some x:=by
 unfold World.cells? at h;split at h
 ·have hl:=Kv h;rw [pA] at hl;refine⟨hl,fun j x hx=>?_⟩
  have hj:j<n:=by rw [<-hl];exact(bG.1 hx).1
  obtain⟨y,h1,h2⟩:=Qfn h j j (by simp [hj])
  rw [hx] at h1;cases h1;exact h2
 ·cases h
theorem N4 {α:Type}{enc:α->List Value}{sz:Nat}{good:α->Prop}(hS:QpI Sm N){t e:TypeId}(hu:P.underlying t=some (.slice e))(hsz:P.cellsOf e=sz)(hz:0<sz)(he:∀ x,(enc x).length=sz)
  (hel:∀ cs,Qc5 P enc0 w Sm e cs->∃ y,cs=enc y/\good y) {cs:List Value} (L:Qc5 P enc0 w Sm t cs) :
  ∃ a n c l,cs=[vsl a n c]/\SlP enc (G9 w) a n l/\n<=c/\c<=maxLen/\N n/\∀ y ∈ l,good y:=by
 obtain⟨fuel,d,ps,h,hm⟩:=L;cases fuel with
 | zero=>simp [DataW.trod] at h
 | succ fuel=>
  unfold DataW.trod at h;rw [hu] at h;split at h<;>first|(rename_i hx;cases hx;done)|(cases h;done)|skip
  ·exact⟨none,0,0,[],rfl,⟨rfl,.inl rfl⟩,cB _,cE _,hS.zero,by simp⟩
  ·rename_i e' a len cap hx;cases hx;split at h
   ·rename_i hc;simp only [dZ,dF] at h;obtain⟨elems,he1,rest,hr,hx⟩:=h;simp only [fC] at hx;obtain⟨rfl,rfl⟩:=hx;have hel1:elems.length=len:=by have:=Kv he1;simpa using this
    have hm1:=hS.slice _ _ hm;rw [bQ,hel1] at hm1;have each:∀ i:Nat,i<len->∃ y,good y/\w.cells? 0 (a.add (i*sz)) sz=some (enc y):=by
     intro i hi;obtain⟨x,h1,h2⟩:=Qfn he1 i i (by simp [hi])
     simp only [dZ] at h2;obtain⟨cs,h3,h4⟩:=h2;rw [hsz] at h3;obtain⟨y,rfl,hg⟩:=hel cs ⟨fuel,x.1,x.2,h4,hm1.2 x.1 (cZ.2 ⟨x,cF h1,rfl⟩)⟩;exact⟨y,hg,h3⟩
    have all:∃ l:List α,l.length=len/\(∀ y ∈ l,good y)/\∀ i y,l[i]?=some y->w.cells? 0 (a.add (i*sz)) sz=some (enc y):=by
     clear hm hm1 he1 hr hel1 hc;induction len with
     | zero=>exact⟨[],rfl,by simp,by simp⟩
     | succ n ih=>
      obtain⟨l,h1,h2,h3⟩:=ih (fun i hi=>each i (by omega))
      obtain⟨y,h4,h5⟩:=each n (by omega)
      refine⟨l++[y],by simp [h1],?_,?_⟩
      ·intro z hz';rcases bU.1 hz' with h6|h6
       ·exact h2 z h6
       ·simp at h6;subst h6;exact h4
      ·intro i z hz';rcases kM i n with h6|h6
       ·rw [dO (by omega)] at hz'
        exact h3 i z hz'
       ·rw [dP (by omega)] at hz'
        have:i=n:=by
         have:=(bG.1 hz').1
         simp at this;omega
        subst this;rw [h1,fT] at hz';simp at hz';subst hz';exact h5
    obtain⟨l,hl,hg,hcs⟩:=all;refine⟨some a,len,cap,l,rfl,⟨hl.symm,?_⟩,hc.2.1,hc.2.2,hm1.1,hg⟩
    cases l with
    | nil=>exact .inl rfl
    | cons y l=>
     refine .inr ?_
     have c0:=(Qgc (hcs 0 y rfl)).2;have hx0:∃ x,(enc y)[0]?=some x:=⟨_,bD (by rw [he];exact hz)⟩
     obtain⟨x0,hx0⟩:=hx0;have a0:=c0 0 x0 hx0;obtain⟨b,o,spot⟩:=a;have hs:spot=none:=by
      cases spot with
      | none=>rfl
      | some s=>
       simp only [Nat.zero_mul,Addr.add] at a0;unfold World.cell? at a0;simp at a0;split at a0<;>simp at a0
     subst hs;refine⟨b,o,rfl,QaN (by
      intro hn;have:=congrArg List.length hn;rw [dI,bO,he] at this;simp at this;omega) ?_⟩
     intro j x hx;have ad:∀ o k,(⟨b,o,none⟩:Addr).add k=⟨b,o+k,none⟩:=by intro o k;unfold Addr.add;split<;>simp_all
     have hlen:=Qi he (y :: l);have hj:j<(y :: l).length*sz:=by rw [<-hlen];exact(bG.1 hx).1
     have hq:j / sz<(y :: l).length:=(mC hz).2 hj;have hd:sz*(j / sz)+j % sz=j:=Nat.div_add_mod j sz;have hr':j % sz<sz:=mD _ hz;have key:((y :: l).flatMap enc)[j]?=(enc ((y :: l)[j / sz]))[j % sz]?:=by
      have h1:=Wo he (j / sz) (y :: l);have h2:((y :: l).flatMap enc)[j]?=(((y :: l).flatMap enc).drop ((j / sz)*sz))[j % sz]?:=by
       rw [fP]
       congr 1
       rw [j9];exact hd.symm
      rw [h2,h1,dS hq,dI,dO (by rw [he];exact hr')]
     rw [key] at hx;have:=(Qgc (hcs (j / sz) _ (bD hq))).2 _ _ hx
     rw [ad,ad] at this;have e3:o+j / sz*sz+j % sz=o+j:=by
      rw [j9 (j / sz) sz];omega
     rw [e3] at this;exact this
   ·cases h
def JS (P:Program):Nat->TypeId->List TypeId
 | 0,t=>[t]
 | n+1,t=>match P.underlying t with
  | some (.struct fs)=>fs.toList.flatMap fun f=>JS P n f.type
  | _=>[t]
def GS (P:Program)(N:Nat):Nat->List Field->Bool
 | o,[]=>Nat.beq o N
 | o,f :: l=>Nat.beq f.offset o&&GS P N (o+P.cellsOf f.type) l
def Qe5 (P:Program):Nat->TypeId->Bool
 | 0,_=>false
 | n+1,t=>match P.underlying t with
  | some (.struct fs)=>GS P (P.cellsOf t) 0 fs.toList&&fs.toList.all fun f=>Qe5 P n f.type
  | some (.array _ _)=>false
  | some _=>Nat.beq (P.cellsOf t) 1
  | none=>false
def QcO (P:Program)(enc0:TypeId × Value->H)(w:World)(Sm:DataW H->Prop):List TypeId->List Value->Prop
 | [],[]=>True
 | t :: ts,v :: vs=>Qc5 P enc0 w Sm t [v]/\QcO P enc0 w Sm ts vs
 | _,_=>False
theorem QbI:∀{ts ts':List TypeId} {vs vs':List Value},QcO P enc0 w Sm ts vs->QcO P enc0 w Sm ts' vs'->QcO P enc0 w Sm (ts++ts') (vs++vs')
 | [],_,[],_,_,h=>h
 | _ :: _,_,_ :: _,_,h1,h2=>⟨h1.1,QbI h1.2 h2⟩
 | [],_,_ :: _,_,h,_=>h.elim
 | _ :: _,_,[],_,h,_=>h.elim
theorem Qna {fuel:Nat}{t:TypeId}{cs:List Value}{x:DataW H × List MemPlace}(h:DataW.trod enc0 P w 0 (fun _=>true) true fuel t cs=some x):(∃ v,cs=[v])\/cs.length=P.cellsOf t:=by
 cases fuel with
 | zero=>simp [DataW.trod] at h
 | succ fuel=>
  unfold DataW.trod at h;split at h<;>first|exact .inl ⟨_,rfl⟩|skip
  ·split at h
   ·exact .inr (by assumption)
   ·cases h
  ·split at h
   ·exact .inr (by assumption)
   ·cases h
  ·cases h
theorem Qcf (hS:QpI Sm N):∀(n:Nat) {t:TypeId} {cs:List Value},Qe5 P n t=true->Qc5 P enc0 w Sm t cs->QcO P enc0 w Sm (JS P n t) cs
 | 0,t,cs,h,_=>by simp [Qe5] at h
 | n+1,t,cs,h,L=>by
  unfold Qe5 at h;unfold JS;split at h
  ·rename_i fs hu;simp only [hu];obtain⟨fuel,d,ps,ht,hm⟩:=L;cases fuel with
   | zero=>simp [DataW.trod] at ht
   | succ fuel=>
    unfold DataW.trod at ht;rw [hu] at ht;simp only at ht;split at ht
    ·rename_i hlen;simp only [dF] at ht;obtain⟨xs,hx,he⟩:=ht;simp only [fC] at he;obtain⟨rfl,rfl⟩:=he;have hm':=hS.agg _ hm;simp only [cG] at h;have go:∀(l:List Field)(o:Nat)(xs:List (DataW H × List MemPlace)),GS P (P.cellsOf t) o l=true->(∀ f ∈ l,Qe5 P n f.type=true) ->
       (l.mapM fun f=>DataW.trod enc0 P w 0 (fun _=>true) true fuel f.type ((cs.drop f.offset).take (P.cellsOf f.type)))=some xs->(∀ x ∈ xs,Sm x.1)->o<=cs.length->QcO P enc0 w Sm (l.flatMap fun f=>JS P n f.type) (cs.drop o):=by
      intro l;induction l with
      | nil=>
       intro o xs hc _ _ _ _;simp only [GS,pO] at hc;rw [List.flatMap_nil,gG (by rw [hlen,hc];exact cB _)]
       trivial
      | cons f l ih=>
       intro o xs hc hk hmm hsm ho;simp only [GS,cG,pO] at hc;rw [gT] at hmm;simp only [kQ,dZ,mL,bH] at hmm;obtain⟨y,hy,zs,hzs,rfl⟩:=hmm;rw [hc.1] at hy;have h1:=Qcf hS n (hk f (by simp)) ⟨fuel,y.1,y.2,hy,hsm y (by simp)⟩
       have hle:o+P.cellsOf f.type<=cs.length:=by
        have:∀(l:List Field)(o:Nat),GS P (P.cellsOf t) o l=true->o<=P.cellsOf t:=by
         intro l;induction l with
         | nil=>intro o hc;simp only [GS,pO] at hc;omega
         | cons g l ih=>intro o hc;simp only [GS,cG] at hc;have:=ih _ hc.2;omega
        rw [hlen];exact this l _ hc.2
       have h2:=ih (o+P.cellsOf f.type) zs hc.2 (fun g hg=>hk g (by simp [hg])) hzs (fun x hx=>hsm x (by simp [hx])) hle
       have:=QbI h1 h2;rw [dI];rw [<-gY,dX] at this;exact this
     have:=go fs.toList 0 xs h.1 (fun f hf=>j0.1 h.2 f hf) hx (fun x hx=>hm' x.1 (cZ.2 ⟨x,hx,rfl⟩)) (cE _)
     simpa using this
    ·cases ht
  ·cases h
  ·rename_i u hu hns hna;have hl:∃ v,cs=[v]:=by
    obtain⟨fuel,d,ps,ht,hm⟩:=L;rcases Qna ht with h1|h1
    ·exact h1
    ·rw [pO] at h;rw [h] at h1;exact List.length_eq_one_iff.1 h1
   obtain⟨v,rfl⟩:=hl;split
   ·rename_i fs' e9;exfalso;simp_all;rename_i e10;first|exact hu _ e10.symm|exact hu _ hna.symm|exact hu _ e9.symm
   ·exact⟨L,trivial⟩
  ·cases h
theorem QbK {t:TypeId}{v:Value}{d:DataW H}{ps:List MemPlace}(h:DataW.Trod enc0 P w 0 (fun _=>true) true t v d ps)(hm:Sm d):Qc5 P enc0 w Sm t v.cells.toList:=by
 obtain⟨fuel,h⟩:=h;exact⟨fuel,d,ps,h,hm⟩
end
section
variable {P:Program}{h:Hp}
theorem Qek {ts:Array TypeId}{t:TypeId}{a b:Int}:Rd P (Builtin.max_ ts t #[vi a,vi b]) h (vi (max a b)):=by
 intro w _;simp [Builtin.max_,Builtin.max2];by_cases h:a<b<;>simp [h]<;>omega
theorem QmK {a b:ByteArray}(h:a.toList=b.toList):a=b:=by
 rw [ByteArray.toList_eq,ByteArray.toList_eq] at h;exact qG (jR h)
theorem QgF (a b:ByteArray):(a.toList == b.toList)=decide (a=b):=by
 by_cases h:a=b
 ·subst h;simp
 ·have:¬ a.toList=b.toList:=fun e=>h (QmK e)
  simp [h,this]
theorem Qp1 {t:TypeId}{x y:Operand}{a b:ByteArray} :Rd P (eqGuard .eql t x y (vs a) (vs b) >>= fun _=>binOp .eql t (vs a) (vs b)) h (vb (decide (a=b))):=by
 intro w _;simp [binOp,eqGuard,Op.stringOp,QgF]
theorem Qp3 {t:TypeId}{x y:Operand}{a b:ByteArray} :Rd P (eqGuard .neq t x y (vs a) (vs b) >>= fun _=>binOp .neq t (vs a) (vs b)) h (vb (!decide (a=b))):=by
 intro w _;simp [binOp,eqGuard,Op.stringOp,QgF]
theorem QkP {t:TypeId}{a:Int}:Rd P (binOp .and t (vi a) (vi 1023)) h (vi (a % 1024)):=by
 intro w _;have h127:(BitVec.ofInt 64 1023).toNat=2 ^ 10-1:=by decide
 have key:(BitVec.ofInt 64 a &&& BitVec.ofInt 64 1023).toNat=(a % ((2 ^ 64:Nat):Int)).toNat % 2 ^ 10:=by rw [BitVec.toNat_and,BitVec.toNat_ofInt,h127,Nat.and_two_pow_sub_one_eq_mod]
 have e:bits .and .i64 a 1023=a % 1024:=by show IntKind.i64.wrap ((BitVec.ofInt 64 a &&& BitVec.ofInt 64 1023).toNat:Nat)=a % 1024;rw [key,IntKind.wrap_i64];omega
 simp [binOp,intBits_and,e]
end
def Hp.del (h:Hp)(g:Nat):Hp:=fun i=>if i=g then none else h i
theorem Hp.del_le (h:Hp)(g:Nat):(h.del g).le h:=fun b o e=>by
 unfold Hp.del at e;split at e
 ·cases e
 ·exact e
theorem Qe.del {h:Hp}{a:OaT}{xs:List Value}(H:Qe h a xs){g:Nat}(hg:∀ b o,a=some ⟨b,o,none⟩->b≠g):Qe (h.del g) a xs:=by
 rcases H with rfl|⟨b,o,rfl,e⟩
 ·exact .inl rfl
 ·refine .inr ⟨b,o,rfl,?_⟩
  unfold Hp.row Hp.del at *
  rw [bE (hg b o rfl)];exact e
theorem QT.at0 {h:Hp}{e:TypeId}{sz n c:Nat}{a:OaT}{xs:List Value}(H:QT h e sz a n c xs):∀ b o,a=some ⟨b,o,none⟩->o=0:=by
 rintro b o rfl;rcases H.2 with ⟨h1,_⟩|⟨g,cur,h1,_⟩
 ·cases h1
 ·cases h1;rfl
theorem Qg.trans {h0 h1 h:Hp}(l:h0.le h1){e:TypeId}{sz n c:Nat}{a:OaT}{xs:List Value}(O:Qg h1 h e sz a n c xs):Qg h0 h e sz a n c xs:=
 ⟨qP l O.le,O.own,fun g hg=>qR l (O.new g hg)⟩
theorem Yz {α:Type}(l:List α)(o:Nat)(vs:List α)(h:o+vs.length<=l.length):(QP l o vs).length=l.length:=by
 unfold QP;simp;omega
theorem Qcs {α:Type}(l:List α)(o:Nat)(vs:List α)(m:Nat)(h:o+vs.length<=m)(hm:m<=l.length):(QP l o vs).take m=QP (l.take m) o vs:=by
 unfold QP;have h1:(l.take m).take o=l.take o:=by rw [jP];congr 1;omega
 have h2:(l.take m).drop (o+vs.length)=(l.drop (o+vs.length)).take (m-(o+vs.length)):=List.drop_take ..;have h3:(l.take o++vs).length=o+vs.length:=by simp;omega
 rw [h1,h2,List.take_append,h3,cY (by rw [h3];exact h)]
theorem Jy {α:Type}(l:List α)(o:Nat)(v:α)(h:o<l.length):QP l o [v]=l.set o v:=by
 unfold QP;rw [jS,bJ h];simp
theorem Qg.store {h0 h:Hp}{e:TypeId}{sz n c:Nat}{a:OaT}{xs:List Value}(O:Qg h0 h e sz a n c xs){j:Nat}{vs:List Value}(hv:0<vs.length)(hj:j+vs.length<=n*sz){K:HpT}{b o:Nat}(ha:a=some ⟨b,o,none⟩)
  (hK:∀ ob,Qg h0 (h.set b ob) e sz a n c (QP xs j vs)->K (h.set b ob)):h.store b (o+j) vs K:=by
 obtain rfl:=O.own.at0 b o ha;obtain⟨hl,h1⟩:=O.own;rcases h1 with ⟨h1,h2,h3⟩|⟨g,cur,h1,hg,hn,hc,hs,ht⟩
 ·rw [h1] at ha;cases ha
 ·rw [h1] at ha;cases ha;have hcur:n*sz<=cur.size:=by rw [hs];exact d9 _ hn
  refine⟨cur,e,hg,by omega,?_⟩
  rw [dW];refine hK _ ⟨?_,⟨?_,.inr ⟨b,_,h1,by simp [Hp.set];rfl,hn,hc,?_,?_⟩⟩,O.new⟩
  ·intro i p hp;have hne:i≠b:=fun hib=>by rw [hib,O.new b h1] at hp;cases hp
   simp [Hp.set,hne,O.le i p hp]
  ·rw [Yz _ _ _ (by omega)];exact hl
  ·show (QP cur.toList j vs).length=_;have h9:cur.toList.length=cur.size:=fE;rw [Yz _ _ _ (by omega),h9];exact hs
  ·show (QP cur.toList j vs).take (n*sz)=_;rw [Qcs _ _ _ _ hj (by rw [fE];exact hcur),ht]
theorem Qg.store_i {h0 h:Hp}{e:TypeId}{n c:Nat}{a:OaT}{l:List Int}(O:Qg h0 h e 1 a n c (l.map vi)){i:Nat}{x:Int}(hi:i<n){K:HpT}{b o:Nat}(ha:a=some ⟨b,o,none⟩)
  (hK:∀ ob,Qg h0 (h.set b ob) e 1 a n c ((l.set i x).map vi)->K (h.set b ob)):h.store b (o+i*1) [vi x] K:=by
 rw [fZ];refine O.store (by simp) (by simp;omega) ha fun ob O'=>hK ob ?_
 have hl:i<l.length:=by have:=O.sli.1;omega
 rw [Jy _ _ _ (by simpa using hl),<-gM] at O'
 exact O'
theorem Qc {h:Hp}{b:Nat}{l:List Value}{t:TypeId}(hb:h b=some (Qb l t)){o:Nat}{v:Value}(hv:l[o]?=some v):h.cell b o=some v:=by
 unfold Hp.cell;rw [hb];simpa using hv
theorem QO {h:Hp}{b:Nat}{l:List Value}{t:TypeId}(hb:h b=some (Qb l t)){o n:Nat}(hn:o+n<=l.length):h.row b o n=some ((l.drop o).take n):=by
 unfold Hp.row;rw [hb];simp [hn]
theorem Zu {h:Hp}{b:Nat}{l:List Value}{t:TypeId}(hb:h b=some (Qb l t)){o:Nat}{vs:List Value}(ho:o+vs.length<=l.length){K:HpT}(hK:K (h.set b (Qb (QP l o vs) t))):h.store b o vs K:=by
 refine⟨_,_,hb,by simpa using ho,?_⟩
 simpa using hK
section
variable {P:Program}
theorem QlX {h:Hp}{t ty e:TypeId}{sz bytes:Nat}(T:ElT P t e sz bytes){a2:OaT}{m c2:Nat}{news:List Value}(H:Qe h a2 news)(hl:news.length=m*sz)(h1:∀ u ∈ news,u.oneCell'=true)
  (hb:m*bytes<=140737488355328) (hm:m<=140737488355328) {K:RtT} (hK:∀ a' c' h',Qg h h' e sz a' m c' news->K (vsl a' m c') h') :
  Qh P (Builtin.append_ #[t,t] ty #[vsl none 0 0,vsl a2 m c2]) h K:=by
 refine q8 T (qY (qO h) e sz) H hl h1 (by simpa using hb) (by simpa using hm) fun a' c' h' O _ _=>?_
 rw [dW,dE] at *
 exact hK a' c' h' O
end
def bs (l:LuT):ByteArray:=⟨l.toArray⟩
theorem Yh (l:LuT):(bs l).size=l.length:=by simp [bs,ByteArray.size]
theorem Qn3 {l m:LuT}:bs l=bs m↔l=m:=by
 constructor
 ·intro h;have:=congrArg (fun b=>b.data.toList) h
  simpa [bs] using this
 ·rintro rfl;rfl
theorem QeX (l:LuT)(i j:Nat):(bs l).extract i j=bs ((l.drop i).take (j-i)):=by
 apply qG;rw [ByteArray.data_extract];simp [bs,mZ]
theorem QmJ (l m:LuT):bs l++bs m=bs (l++m):=by
 apply qG;simp [bs]
section
variable {P:Program}{h:Hp}
theorem KU {t:TypeId}(ht:P.underlying t=some .string){l:LuT}{i:Int}(h0:0<=i)(h1:i<l.length):Rd P (Instr.index t (vs (bs l)) (vi i)) h (vk .u8 ((l.getD i.toNat 0).toNat:Nat)):=by
 intro w _;have h2:i<(bs l).size:=by rw [Yh];exact h1
 rw [run_index_string w t _ _ _ ht,dif_pos ⟨h0,h2⟩];have h3:i.toNat<l.length:=by omega
 have:(bs l)[i.toNat]'(by omega)=l.getD i.toNat 0:=by
  rw [bI,bD h3]
  simp [bs,ByteArray.getElem_eq_getElem_data]
 rw [this]
theorem QkT {t:TypeId}(ht:P.underlying t=some .string){l:LuT}{i j:Int}(h0:0<=i)(h1:i<=j)(h2:j<=l.length):Rd P (Instr.sliceAt t (vs (bs l)) (some (vi i)) (some (vi j)) none) h (vs (bs ((l.drop i.toNat).take (j.toNat-i.toNat)))):=by
 intro w _;rw [run_sliceAt_string w t _ _ _ _ ht,run_slice_string w t _ _ _ i j ht h0 h1 (by rw [Yh];exact h2),QeX]
theorem Qhj {t:TypeId}{x y:Operand}{l m:LuT}(hl:l.length+m.length<=maxLen):Rd P (eqGuard .add t x y (vs (bs l)) (vs (bs m)) >>= fun _=>binOp .add t (vs (bs l)) (vs (bs m))) h (vs (bs (l++m))):=by
 intro w _;rw [eqGuard_add];have h1:¬(((bs l).size+(bs m).size:Nat):Int)>IntKind.i64.max:=by
  rw [Yh,Yh,IntKind.max_i64];simp only [maxLen] at hl;omega
 simp only [binOp,Op.stringOp,Sem.run_bind,Sem.run_pure,Result.andThen_ok];rw [bE h1,QmJ];rfl
theorem QZ {t:TypeId}{x y:Operand}{a b:LuT}:Rd P (eqGuard .eql t x y (vs (bs a)) (vs (bs b)) >>= fun _=>binOp .eql t (vs (bs a)) (vs (bs b))) h (vb (decide (a=b))):=by
 have:=Qp1 (P:=P) (h:=h) (t:=t) (x:=x) (y:=y) (a:=bs a) (b:=bs b);rwa [show decide (bs a=bs b)=decide (a=b) from fN.2 Qn3] at this
theorem Uc {t:TypeId}{x y:Operand}{a b:LuT}:Rd P (eqGuard .neq t x y (vs (bs a)) (vs (bs b)) >>= fun _=>binOp .neq t (vs (bs a)) (vs (bs b))) h (vb (!decide (a=b))):=by
 have:=Qp3 (P:=P) (h:=h) (t:=t) (x:=x) (y:=y) (a:=bs a) (b:=bs b);rwa [show decide (bs a=bs b)=decide (a=b) from fN.2 Qn3] at this
theorem Qga {f:FuncId}{fn:Func}(hf:P.funcs[f]?=some fn)(hname:(fn.name == "runtime.NumGoroutine")=false)(hb:fn.body.isNone=true)(hn:Extern.findNext fn=none)(he:Extern.find fn=some Extern.BytealgIndexByte.indexByte)
  {s:ByteArray} {c:Int} {K:RtT} (hK:K (vi (firstIdx s c.toNat.toUInt8)) h):Qbk P f [vs s,vk .u8 c] h K:=by
 intro w hs;refine⟨_,w,h,?_,hs,Fr.refl h w,hK⟩
 rw [run_callFunc_extern hf hname hb hn he];show ((Extern.BytealgIndexByte.indexByte #[.string s,.int .u8 c]).run P w).andThen _=_;rw [run_indexByte_string];rfl
end
def Yj (l:LuT):List Value:=[vs (bs l)]
theorem Z4 (l:LuT):(Yj l).length=1:=rfl
theorem Qfk (l:List (LuT)):∀ u ∈ l.flatMap Yj,u.oneCell'=true:=by
 intro u hu;obtain⟨x,_,hx⟩:=fI.1 hu;simp [Yj] at hx;subst hx;rfl
abbrev SlB:=@SlP (LuT) Yj
theorem SlP.get1 {h:Hp}{a:OaT}{n:Nat}{l:List (LuT)}(H:SlB h a n l){i:Nat}(hi:i<n):∃ b o,a=some ⟨b,o,none⟩/\h.cell b (o+i*1)=some (vs (bs (l.getD i []))):=by
 have hl:=H.1;have hx:l[i]?=some (l.getD i []):=by rw [bI,bD (by omega)];rfl
 obtain⟨b,o,e,hr⟩:=H.get Z4 (by decide) hx
 exact⟨b,o,e,qT hr (i:=0) rfl⟩
variable {P:Program}{h:Hp}
theorem Qo4 {t:TypeId}(ht:P.underlying t=some .string){l:LuT}{j:Int}(h0:0<=j)(h2:j<=l.length):Rd P (Instr.sliceAt t (vs (bs l)) none (some (vi j)) none) h (vs (bs (l.take j.toNat))):=by
 intro w _;rw [run_sliceAt_string w t _ _ _ _ ht,run_slice_string_h w t (bs l) ht .i64 j h0 (by rw [Yh];exact h2),QeX]
 simp
theorem QT.cut {e:TypeId}{sz n c m:Nat}{a:OaT}{xs:List Value}(O:QT h e sz a n c xs)(hm:m<=n):QT h e sz a m c (xs.take (m*sz)):=by
 obtain⟨hl,O⟩:=O;have h1:m*sz<=n*sz:=d9 _ hm;refine⟨by rw [bZ];omega,?_⟩
 rcases O with ⟨ha,hn,hc⟩|⟨g,cur,ha,hg,h2,h3,h4,h5⟩
 ·exact .inl ⟨ha,by omega,hc⟩
 ·refine .inr ⟨g,cur,ha,hg,by omega,h3,h4,?_⟩
  rw [<-h5,jP,dU h1]
theorem Qg.cut {h0:Hp}{e:TypeId}{sz n c m:Nat}{a:OaT}{xs:List Value}(O:Qg h0 h e sz a n c xs)(hm:m<=n):Qg h0 h e sz a m c (xs.take (m*sz)):=⟨O.le,O.own.cut hm,O.new⟩
theorem QT.cap {e:TypeId}{sz n c:Nat}{a:OaT}{xs:List Value}(O:QT h e sz a n c xs):n<=c:=by
 rcases O.2 with ⟨ha,hn,hc⟩|⟨g,cur,ha,hg,h2,h3,h4,h5⟩<;>omega
theorem Qer (l:List Int):l.flatMap (fun x=>[vi x])=l.map vi:=by
 induction l with
 | nil=>rfl
 | cons x l ih=>rw [dI,ih];rfl
theorem SlI.slp {a:OaT}{n:Nat}{l:List Int}(S:SlI h a n l):SlP (fun x=>[vi x]) h a n l:=⟨S.1,by rw [Qer];exact S.2⟩
theorem SlI.of_slp {a:OaT}{n:Nat}{l:List Int}(S:SlP (fun x=>[vi x]) h a n l):SlI h a n l:=⟨S.1,by rw [<-Qer];exact S.2⟩
theorem SlI.drop {a:OaT}{n i c:Nat}{l:List Int}(S:SlI h a n l)(hi:i<=n)(hc:n<=c):SlI h (VZ a i c 1) (n-i) (l.drop i):=.of_slp (S.slp.drop (sz:=1) (fun _=>rfl) hi hc)
theorem KS (p q:Prop)[Decidable p][Decidable q]:(bif decide p then decide q else false)=decide (p/\q):=by
 by_cases h:p<;>simp [h]
theorem cor (p q:Prop)[Decidable p][Decidable q]:(bif decide p then true else decide q)=decide (p\/q):=by
 by_cases h:p<;>simp [h]
theorem Qmb (p:Prop)[Decidable p]:(!decide p)=decide (¬ p):=by
 by_cases h:p<;>simp [h]
theorem YP {a b:Bool}(h:(bif a then true else b)=false):a=false/\b=false:=by
 cases a
 ·exact⟨rfl,h⟩
 ·cases h
end Go.Vc
namespace Go.Vc
open Go
inductive Fld where
 | v (x:Value)|s (e:TypeId) (sz:Nat) (a:OaT) (n c:Nat) (xs:List Value)
def Fld.val:Fld->Value
 | .v x=>x
 | .s _ _ a n c _=>vsl a n c
def Fld.at (f:Fld)(b:Nat):Prop:=match f with
 | .v _=>False
 | .s _ _ a _ _ _=>a=some ⟨b,0,none⟩
def Fld.own (h:Hp):Fld->Prop
 | .v _=>True
 | .s e sz a n c xs=>QT h e sz a n c xs
theorem Fld.at_al {h:Hp}{f:Fld}{b:Nat}(O:f.own h)(hb:f.at b):h b≠none:=by
 cases f with
 | v x=>exact hb.elim
 | s e sz a n c xs=>
  rcases O.2 with ⟨h1,_⟩|⟨g,cur,h1,h2,_⟩
  ·rw [h1] at hb;cases hb
  ·rw [h1] at hb;cases hb;rw [h2];simp
theorem Fld.own_keep {h h':Hp}{f:Fld}(O:f.own h)(hk:∀ b,f.at b->∀ o,h b=some o->h' b=some o):f.own h':=by
 cases f with
 | v x=>trivial
 | s e sz a n c xs=>exact QT.keep O fun g o ha ho=>hk g ha o ho
structure Rec (h:Hp)(g:Nat)(t:TypeId)(fs:List Fld):Prop where
 blk:h g=some (Qb (fs.map Fld.val) t)
 own:∀(j:Nat)(f:Fld),fs[j]?=some f->f.own h
 ne:∀(j:Nat)(f:Fld),fs[j]?=some f->¬ f.at g
 dj:∀(j k:Nat)(f f':Fld)(b:Nat),fs[j]?=some f->fs[k]?=some f'->f.at b->f'.at b->j=k
def ftR (g:Nat)(fs:List Fld):NpT:=fun b=>b=g\/∃(j:Nat)(f:Fld),fs[j]?=some f/\f.at b
theorem Rec.al {h:Hp}{g:Nat}{t:TypeId}{fs:List Fld}(R:Rec h g t fs):∀ b,ftR g fs b->h b≠none:=by
 rintro b (rfl|⟨j,f,hf,hb⟩)
 ·rw [R.blk];simp
 ·exact Fld.at_al (R.own j f hf) hb
theorem Rec.keep {h h':Hp}{g:Nat}{t:TypeId}{fs:List Fld}(R:Rec h g t fs)(hk:∀ b,ftR g fs b->∀ o,h b=some o->h' b=some o):Rec h' g t fs where
 blk:=hk g (.inl rfl) _ R.blk
 own:=fun j f hf=>Fld.own_keep (R.own j f hf) fun b hb o ho=>hk b (.inr ⟨j,f,hf,hb⟩) o ho
 ne:=R.ne
 dj:=R.dj
structure Mut (F:NpT)(h:Hp)(F':NpT)(h':Hp):Prop where
 keep:∀ b o,¬ F b->h b=some o->h' b=some o
 new:∀ b,F' b->F b\/h b=none
theorem Mut.trans {F G F':NpT}{h k h':Hp}(x:Mut F h G k)(y:Mut G k F' h'):Mut F h F' h' where
 keep:=fun b o hb ho=>y.keep b o (fun hg=>by
  rcases x.new b hg with h1|h1
  ·exact hb h1
  ·rw [ho] at h1;cases h1) (x.keep b o hb ho)
 new:=fun b hb=>by
  rcases y.new b hb with h1|h1
  ·exact x.new b h1
  ·by_cases hF:F b
   ·exact .inl hF
   ·right;cases ho:h b with
    | none=>rfl
    | some o=>rw [x.keep b o hF ho] at h1;cases h1
theorem Mut.of_le {F:NpT}{h h':Hp}(hl:h.le h'):Mut F h F h':=⟨fun b o _ ho=>hl b o ho,fun b hb=>.inl hb⟩
theorem Mut.old {F F':NpT}{h0 h h':Hp}(M:Mut F h F' h')(hl:h0.le h)(hd:∀ b,F b->h0 b=none):h0.le h'/\∀ b,F' b->h0 b=none:=
 ⟨fun b o ho=>M.keep b o (fun hF=>by rw [hd b hF] at ho;cases ho) (hl b o ho),fun b hb=>by
  rcases M.new b hb with h1|h1
  ·exact hd b h1
  ·exact qR hl h1⟩
theorem Mut.apart {F F' G:NpT}{h h':Hp}(M:Mut F h F' h')(hG:∀ b,G b->h b≠none)(hd:∀ b,F b->¬ G b):(∀ b,G b->∀ o,h b=some o->h' b=some o)/\∀ b,F' b->¬ G b:=
 ⟨fun b hb o ho=>M.keep b o (fun hF=>hd b hF hb) ho,fun b hb hg=>by
  rcases M.new b hb with h1|h1
  ·exact hd b h1 hg
  ·exact hG b hg h1⟩
theorem map_set {α β:Type}(f:α->β)(l:List α)(i:Nat)(x:α):(l.set i x).map f=(l.map f).set i (f x):=by rw [gM]
theorem Rec.put {h h':Hp}{g:Nat}{t:TypeId}{fs:List Fld}(R:Rec h g t fs){j:Nat}{f f':Fld}(hf:fs[j]?=some f)(hk:∀ b o,h b=some o->¬ f.at b->h' b=some o)(O:f'.own h')(hn:∀ b,f'.at b->f.at b\/h b=none){K:HpT}
  (hK:∀ h'',h''=h'.set g (Qb ((fs.set j f').map Fld.val) t)->Rec h'' g t (fs.set j f')->Mut (ftR g fs) h (ftR g (fs.set j f')) h''->K h'') {o:Nat} (ho:o=j):h'.store g o [f'.val] K:=by
 subst ho;have hj:o<fs.length:=(bG.1 hf).1
 have hg':h' g=some (Qb (fs.map Fld.val) t):=hk g _ R.blk (R.ne o f hf);refine Zu hg' (by rw [bQ];simp;omega) ?_
 rw [Jy _ _ _ (by simpa using hj),<-map_set]
 have hng:¬ f'.at g:=fun e=>by
  rcases hn g e with h1|h1
  ·exact R.ne o f hf h1
  ·rw [R.blk] at h1;cases h1
 have key:∀ k fk,(fs.set o f')[k]?=some fk->(k=o/\fk=f')\/(k≠o/\fs[k]?=some fk):=by
  intro k fk h1;by_cases hko:k=o
  ·subst hko;rw [fG hj] at h1
   exact .inl ⟨rfl,(cU h1).symm⟩
  ·rw [gK (fun e=>hko e.symm)] at h1
   exact .inr ⟨hko,h1⟩
 refine hK _ rfl ⟨qK _ _ _,?_,?_,?_⟩ ⟨?_,?_⟩
 ·intro k fk h1;rcases key k fk h1 with ⟨rfl,rfl⟩|⟨hko,h2⟩
  ·exact Fld.own_keep O fun b hb p hp=>(qL h' _ (fun e=>hng (by rw [<-e];exact hb))).trans hp
  ·refine Fld.own_keep (R.own k fk h2) fun b hb p hp=>(qL h' _ (fun e=>R.ne k fk h2 (by rw [<-e];exact hb))).trans (hk b p hp fun hb'=>hko ?_)
   exact R.dj k o fk f b h2 hf hb hb'
 ·intro k fk h1;rcases key k fk h1 with ⟨rfl,rfl⟩|⟨hko,h2⟩
  ·exact hng
  ·exact R.ne k fk h2
 ·intro k m fk fm b h1 h2 hb1 hb2;have one:∀ m fm,m≠o->fs[m]?=some fm->f'.at b->fm.at b->False:=by
   intro m fm hmo h2 hb1 hb2;rcases hn b hb1 with h3|h3
   ·exact hmo (R.dj m o fm f b h2 hf hb2 h3)
   ·exact Fld.at_al (R.own m fm h2) hb2 h3
  rcases key k fk h1 with ⟨rfl,rfl⟩|⟨hko,h1'⟩
  ·rcases key m fm h2 with ⟨rfl,rfl⟩|⟨hmo,h2'⟩
   ·rfl
   ·exact(one m fm hmo h2' hb1 hb2).elim
  ·rcases key m fm h2 with ⟨rfl,rfl⟩|⟨hmo,h2'⟩
   ·exact(one k fk hko h1' hb2 hb1).elim
   ·exact R.dj k m fk fm b h1' h2' hb1 hb2
 ·intro b p hb hp;have h1:b≠g:=fun e=>hb (.inl e)
  exact(qL h' _ h1).trans (hk b p hp fun e=>hb (.inr ⟨o,f,hf,e⟩))
 ·rintro b (rfl|⟨k,fk,h1,hb⟩)
  ·exact .inl (.inl rfl)
  ·rcases key k fk h1 with ⟨rfl,rfl⟩|⟨hko,h2⟩
   ·rcases hn b hb with h3|h3
    ·exact .inl (.inr ⟨k,f,hf,h3⟩)
    ·exact .inr h3
   ·exact .inl (.inr ⟨k,fk,h2,hb⟩)
theorem Rec.inner {h:Hp}{g:Nat}{t:TypeId}{fs:List Fld}(R:Rec h g t fs){j:Nat}{e:TypeId}{sz n c:Nat}{a:OaT}{xs ys:List Value}(hf:fs[j]?=some (.s e sz a n c xs)){b:Nat}(ha:a=some ⟨b,0,none⟩){ob:Obj}(O':QT (h.set b ob) e sz a n c ys) :
  Rec (h.set b ob) g t (fs.set j (.s e sz a n c ys))/\Mut (ftR g fs) h (ftR g (fs.set j (.s e sz a n c ys))) (h.set b ob):=by
 have O:QT h e sz a n c xs:=R.own j _ hf;have hj:j<fs.length:=(bG.1 hf).1
 have hbg:b≠g:=fun e=>R.ne j _ hf (by rw [e] at ha;exact ha)
 have hkeep:∀ b' p,b'≠b->h b'=some p->(h.set b ob) b'=some p:=fun b' p hne hp=>(qL h _ hne).trans hp
 have hval:(fs.set j (.s e sz a n c ys)).map Fld.val=fs.map Fld.val:=by
  rw [map_set];apply fR;intro k;by_cases hk:k=j
  ·subst hk;rw [fG (by simpa using hj),cC,hf]
   rfl
  ·rw [gK (fun e=>hk e.symm)]
 have key:∀ k fk,(fs.set j (.s e sz a n c ys))[k]?=some fk->(k=j/\fk=.s e sz a n c ys)\/(k≠j/\fs[k]?=some fk):=by
  intro k fk h1;by_cases hko:k=j
  ·subst hko;rw [fG hj] at h1
   exact .inl ⟨rfl,(cU h1).symm⟩
  ·rw [gK (fun e=>hko e.symm)] at h1
   exact .inr ⟨hko,h1⟩
 have same:∀ b',(Fld.s e sz a n c ys).at b'↔(Fld.s e sz a n c xs).at b':=fun _=>dY
 have old:∀(k:Nat)(fk:Fld),(fs.set j (.s e sz a n c ys))[k]?=some fk->∃ f0:Fld,fs[k]?=some f0/\∀ b',fk.at b'↔f0.at b':=by
  intro k fk h1;rcases key k fk h1 with ⟨rfl,rfl⟩|⟨_,h2⟩
  ·exact⟨_,hf,same⟩
  ·exact⟨fk,h2,fun _=>dY⟩
 refine⟨⟨?_,?_,?_,?_⟩,?_,?_⟩
 ·rw [hval];exact hkeep g _ (fun e=>hbg e.symm) R.blk
 ·intro k fk h1;rcases key k fk h1 with ⟨rfl,rfl⟩|⟨hko,h2⟩
  ·exact O'
  ·exact Fld.own_keep (R.own k fk h2) fun b' hb' p hp=>hkeep b' p (fun e=>hko (R.dj k j fk _ b' h2 hf hb' (by subst e;exact ha))) hp
 ·intro k fk h1;obtain⟨f0,h2,h3⟩:=old k fk h1;rw [h3];exact R.ne k f0 h2
 ·intro k m fk fm b' h1 h2 hb1 hb2;obtain⟨f1,q1,q2⟩:=old k fk h1;obtain⟨f2,q3,q4⟩:=old m fm h2;exact R.dj k m f1 f2 b' q1 q3 ((q2 b').1 hb1) ((q4 b').1 hb2)
 ·intro b' p hb' hp;exact hkeep b' p (fun e=>hb' (.inr ⟨j,_,hf,by subst e;exact ha⟩)) hp
 ·rintro b' (rfl|⟨k,fk,h1,hb⟩)
  ·exact .inl (.inl rfl)
  ·obtain⟨f0,h2,h3⟩:=old k fk h1;exact .inl (.inr ⟨k,f0,h2,(h3 b').1 hb⟩)
theorem Rec.elem {h:Hp}{g:Nat}{t:TypeId}{fs:List Fld}(R:Rec h g t fs){j:Nat}{e:TypeId}{sz n c:Nat}{a:OaT}{xs:List Value}(hf:fs[j]?=some (.s e sz a n c xs)){i:Nat}{vs:List Value}(hv:0<vs.length)(hi:i+vs.length<=n*sz){b o:Nat}(ha:a=some ⟨b,o,none⟩){K:HpT}
  (hK:∀ h',h' g=h g->Rec h' g t (fs.set j (.s e sz a n c (QP xs i vs)))->Mut (ftR g fs) h (ftR g (fs.set j (.s e sz a n c (QP xs i vs)))) h'->K h'):h.store b (o+i) vs K:=by
 have O:QT h e sz a n c xs:=R.own j _ hf;obtain rfl:=O.at0 b o ha;have Ow:Qg (h.del b) h e sz a n c xs:=⟨Hp.del_le h b,O,fun g' hg'=>by rw [ha] at hg';cases hg';simp [Hp.del]⟩
 refine Ow.store hv hi ha fun ob O'=>?_
 obtain⟨q1,q2⟩:=R.inner hf ha O'.own;exact hK _ (qL h _ fun e=>R.ne j _ hf (by rw [e];exact ha)) q1 q2
theorem Rec.cell {h:Hp}{g:Nat}{t:TypeId}{fs:List Fld}(R:Rec h g t fs){j:Nat}{f:Fld}(hf:fs[j]?=some f):h.cell g j=some f.val:=Qc R.blk (by rw [cC,hf];rfl)
theorem Rec.new {h:Hp}{g:Nat}{t:TypeId}{fs:List Fld}(hg:h g=none)(O:∀(j:Nat)(f:Fld),fs[j]?=some f->f.own h)(hd:∀(j k:Nat)(f f':Fld)(b:Nat),fs[j]?=some f->fs[k]?=some f'->f.at b->f'.at b->j=k):Rec (h.set g (Qb (fs.map Fld.val) t)) g t fs where
 blk:=qK _ _ _
 own:=fun j f hf=>Fld.own_keep (O j f hf) fun b hb o ho=>(qL h _ (fun e=>by rw [e,hg] at ho;cases ho)).trans ho
 ne:=fun j f hf hb=>Fld.at_al (O j f hf) hb hg
 dj:=hd
section
variable {P:Program}
theorem Gi {h:Hp}{t e:TypeId}{sz bytes:Nat}(T:ElT P t e sz bytes){z:List Value}(hz:(Xg P e).map Qn=some z){n:Nat}(hn:n<=1000000)(hb:n*bytes<=140737488355328){K:RtT}
  (hK:∀ b,h b=none->K (vsl (some ⟨b,0,none⟩) n n) (h.set b (Qb ((List.replicate n z).flatten) e))):Qh P (Instr.makeSlice t (vi n) (vi n)) h K:=by
 intro w hs;obtain⟨i,zv,hi,hiz,hsz,hby,hzs⟩:=T.el;have hzl:z=zv.cells.toList:=by
  unfold Xg at hz;rw [hi] at hz;simp only [gX,hiz,fD,bH] at hz;rw [<-hz,JZ]
 have hr:=run_make (P:=P) w t e i zv T.sl hi hiz .i64 .i64 n n (by omega) (by omega) (by
  rw [hby];have:((bytes:Int)*(n:Int))=((n*bytes:Nat):Int):=by rw [j9];exact(qB _ _).symm
  omega) (by omega)
 have hm:madeCells zv.cells (n*i.size)=((List.replicate n z).flatten).toArray:=by rw [hzl];unfold madeCells;rw [hsz,<-hzs];exact MG zv.cells n (by rw [hzs];exact T.pos)
 rw [bF,hm] at hr;exact⟨_,_,_,hr,Sub.pushSet hs _,Fr.pushSet h w _,hK _ hs.none⟩
end
abbrev _root_.rA:=@Mut.of_le
section
variable {P:Program}{h:Hp}
theorem Qcz {t:TypeId}{a:Nat}(ha:a<4294967296):Rd P (binOp .and t (vk .u64 a) (vk .u64 4294967295)) h (vk .u64 a):=by
 intro w _;have e:bits .and .u64 (a:Int) 4294967295=(a:Int):=by rw [and_low32 _ (by omega) (by omega)];omega
 simp [binOp,intBits_and,e]
theorem GC {t:TypeId}{a:Nat}(ha:a<4294967296):Rd P (binOp .shr t (vk .u64 a) (vk .u64 32)) h (vk .u64 0):=by
 intro w _;simp [binOp,shift_shr_any,IntKind.bits];omega
theorem V7 {t:TypeId}{a b:Nat}(hab:a*b<4294967296):Rd P (binOp .mul t (vk .u64 a) (vk .u64 b)) h (vk .u64 (a*b:Nat)):=by
 intro w _;simp [binOp,Op.intArith,IntKind.wrap_u64];omega
theorem QaS {t:TypeId}{a b:Nat}(hab:a+b<4294967296):Rd P (binOp .add t (vk .u64 a) (vk .u64 b)) h (vk .u64 (a+b:Nat)):=by
 intro w _;simp [binOp,Op.intArith,IntKind.wrap_u64];omega
theorem Qpb {t:TypeId}{x y:Operand}{k:Int}{j:Nat}(hj:j<64)(hk:0<=k):Rd P (eqGuard .shr t x y (vk .u64 k) (vi j) >>= fun _=>binOp .shr t (vk .u64 k) (vi j)) h (vk .u64 (k / 2 ^ j)):=by
 intro w _;rw [eqGuard_shr];have e:min ((j:Nat):Int).toNat IntKind.u64.bits=j:=by simp only [IntKind.bits,bF];omega
 simp only [binOp,shift_shr_any _ _ _ _ (show (0:Int)<=(j:Nat) by omega),Sem.run_bind,Sem.run_pure,Result.andThen_ok,e]
theorem QoG {t:TypeId}{k:Int}{j:Nat}(hj:j<64)(hk:0<=k):Rd P (binOp .shr t (vk .u64 k) (vk .u64 j)) h (vk .u64 (k / 2 ^ j)):=by
 intro w _;have e:min ((j:Nat):Int).toNat IntKind.u64.bits=j:=by simp only [IntKind.bits,bF];omega
 simp only [binOp,shift_shr_any _ _ _ _ (show (0:Int)<=(j:Nat) by omega),Sem.run_pure,e]
theorem Qpi {t:TypeId}{a:Int}(h0:0<=a)(h1:a<=18446744073709551615):Rd P (binOp .and t (vk .u64 a) (vk .u64 1)) h (vk .u64 (a % 2)):=by
 intro w _;simp [binOp,intBits_and,and_one_u64 a h0 h1]
theorem Jj {t e:TypeId}(ht:P.underlying t=some (.slice e)){x y:Operand}{a:OaT}{n c:Nat}:Rd P (eqGuard .eql t x y (vsl a n c) (vsl none 0 0) >>= fun _=>binOp .eql t (vsl a n c) (vsl none 0 0)) h (vb a.isNone):=by
 intro w _;simp [eqGuard,binOp,run_equal_slice_nil w t e a n c ht]
theorem MQ {t e:TypeId}(ht:P.underlying t=some (.pointer e)){x y:Operand}{p:OaT}:Rd P (eqGuard .eql t x y (vp p) (vp none) >>= fun _=>binOp .eql t (vp p) (vp none)) h (vb p.isNone):=by
 intro w _;have:=run_eql_pointer_nil (P:=P) w t p (by simp [Program.pointee,ht])
 simp [eqGuard,this]
theorem Qfi {src dst e:TypeId}(hs:P.underlying src=some (.slice e))(he:P.underlying e=some (.int .u8))(hd:P.underlying dst=some .string){b o c:Nat}{l:LuT}(H:h.row b o l.length=some (l.map fun x=>vk .u8 (x.toNat:Nat))) :
  Rd P (convert src dst (vsl (some ⟨b,o,none⟩) l.length c)) h (vs (bs l)):=by
 intro w hsub;exact run_convert_bytes_back w src dst e ⟨b,o,none⟩ c l hs he hd fun j hj=>by
  have:=qT H (i:=j) (x:=vk .u8 (l[j].toNat:Nat)) (by rw [cC,bD hj];rfl)
  rw [Yo];exact ZA this hsub
theorem Qbl {dT sT ty e:TypeId}(hu:P.underlying dT=some (.slice e))(hi:(P.info? e).map (·.size)=some 1){a a2:OaT}{n c c2:Nat}{xs ys:List Value}(O:QT h e 1 a n c xs)(H:Qe h a2 ys)(hl:ys.length=n)(h1:∀ u ∈ ys,u.oneCell'=true){K:RtT}
  (hK:∀ b ob,a=some ⟨b,0,none⟩->QT (h.set b ob) e 1 a n c ys->K (vi n) (h.set b ob)) (hK0:n=0->K (vi 0) h):Qh P (Builtin.copy_ #[dT,sT] ty #[vsl a n c,vsl a2 n c2]) h K:=by
 intro w hs;by_cases hn:n=0
 ·subst hn;exact⟨_,w,h,run_copy_none w dT sT ty e a a2 0 c 0 c2 hu hi (by simp),hs,Fr.refl h w,hK0 rfl⟩
 ·obtain⟨hxl,h2⟩:=O;rcases h2 with ⟨_,h3,_⟩|⟨g,cur,ha,hg,hnc,hc,hcs,ht⟩
  ·exact absurd h3 hn
  ·subst ha;rcases H with h4|⟨b2,o2,rfl,hr⟩
   ·rw [h4] at hl;exact absurd hl.symm hn
   ·have hcur:n<=cur.size:=by rw [hcs,fZ];exact hnc
    have hrun:=run_copy_row (P:=P) w dT sT ty e g 0 n c ⟨b2,o2,none⟩ n c2 cur e ys hu hi (hs g _ hg) (by simp [hl]) (fun j v hj=>by rw [Yo];exact ZA (qT hr hj) hs) (by rw [dW,hl];exact hcur) h1
    refine⟨_,_,_,hrun,JC hs hg,UO hg,?_⟩
    have hv:(goInt ys.length:Value)=vi n:=by rw [hl];rfl
    rw [hv];refine hK g _ rfl ⟨by rw [hl,fZ],.inr ⟨g,_,rfl,qK _ _ _,hnc,hc,?_,?_⟩⟩
    ·have:cur.toList.length=cur.size:=fE;simp only [gZ,bO,bZ,d5,this,hl];omega
    ·rw [fZ];simp only [jG,dE,dW];rw [gP (by omega),cY (by omega)]
theorem Qgr {dT sT ty e:TypeId}(hu:P.underlying dT=some (.slice e))(hi:(P.info? e).map (·.size)=some 1){g o dLen dCap:Nat}{a2:OaT}{sLen c2:Nat}{L ys:List Value}{t:TypeId}(hg:h g=some (Qb L t))(H:Qe h a2 ys)(hl:ys.length=min sLen dLen)(hfit:o+ys.length<=L.length)
  (h1:∀ u ∈ ys,u.oneCell'=true) (hne:ys≠[]) {K:RtT} (hK:K (vi ys.length) (h.set g (Qb (QP L o ys) t))):Qh P (Builtin.copy_ #[dT,sT] ty #[vsl (some ⟨g,o,none⟩) dLen dCap,vsl a2 sLen c2]) h K:=by
 intro w hs;rcases H with h4|⟨b2,o2,rfl,hr⟩
 ·exact absurd h4 hne
 ·have hrun:=run_copy_row (P:=P) w dT sT ty e g o dLen dCap ⟨b2,o2,none⟩ sLen c2 L.toArray t ys hu hi (hs g _ hg) hl (fun j v hj=>by rw [Yo];exact ZA (qT hr hj) hs) (by simpa using hfit) h1
  exact⟨_,_,_,hrun,JC hs hg,UO hg,hK⟩
end
theorem Hp.set_set (h:Hp)(b:Nat)(o o':Obj):(h.set b o).set b o'=h.set b o':=by
 funext i
 unfold Hp.set;split<;>simp_all
theorem QiF (m:Nat):(List.replicate m [vk .u8 0]).flatten=(List.replicate m (0:UInt8)).map fun x=>vk .u8 (x.toNat:Nat):=by
 induction m with
 | zero=>rfl
 | succ m ih=>rw [fS,kZ,ih,fS,dD];rfl
abbrev _root_.rB:=@Hp.set_set
abbrev JF (α:Type):=(OaT × Nat) × List α
section
variable {α:Type}(enc:α->List Value)(sz:Nat)(e T:TypeId)
def QoM (r:JF α):Fld:=.s e sz r.1.1 r.2.length r.1.2 (r.2.flatMap enc)
def QcD (r:JF α):Value:=vsl r.1.1 r.2.length r.1.2
def Qav (R:List (JF α)):List Fld:=R.map (QoM enc sz e)
theorem Qjv (R:List (JF α)):(Qav enc sz e R).map Fld.val=R.map QcD:=by
 unfold Qav;rw [fH];rfl
theorem Qij {R:List (JF α)}(ex:List Value){j:Nat}{r:JF α}(hr:R[j]?=some r):(Qav enc sz e R++ex.map Fld.v)[j]?=some (QoM enc sz e r):=by
 rw [dO (by rw [Qav,bQ];exact(bG.1 hr).1),Qav,cC,hr]
 rfl
def WH (h:Hp)(F:NpT)(t:Nat)(L:List (List α)):Prop:=∃(R:List (JF α))(ex:List Value),R.map Prod.snd=L/\F=ftR t (Qav enc sz e R++ex.map Fld.v)/\Rec h t T (Qav enc sz e R++ex.map Fld.v)
def Qp0 (h:Hp)(a:OaT)(n:Nat)(L:List (List α)):Prop:=∃ R:List (JF α),R.map Prod.snd=L/\n=L.length/\Qe h a (R.map QcD)/\∀(j:Nat)(r:JF α),R[j]?=some r->Qe h r.1.1 (r.2.flatMap enc)
end
section
variable {α:Type}{enc:α->List Value}{sz:Nat}{e T:TypeId}{h:Hp}{F:NpT}{t:Nat}{L:List (List α)}
theorem WH.al (D:WH enc sz e T h F t L):∀ b,F b->h b≠none:=by
 obtain⟨R,ex,rfl,rfl,D⟩:=D;exact D.al
theorem WH.keep {h':Hp}(D:WH enc sz e T h F t L)(hk:∀ b,F b->∀ o,h b=some o->h' b=some o):WH enc sz e T h' F t L:=by
 obtain⟨R,ex,rfl,rfl,D⟩:=D;exact⟨R,ex,rfl,rfl,D.keep hk⟩
theorem WH.le {h':Hp}(D:WH enc sz e T h F t L)(hl:h.le h'):WH enc sz e T h' F t L:=D.keep fun b _ o ho=>hl b o ho
theorem WH.cell (D:WH enc sz e T h F t L){j:Nat}{l:List α}(hl:L[j]?=some l):∃ a c,h.cell t (0+j*1)=some (vsl a l.length c)/\SlP enc h a l.length l:=by
 obtain⟨R,ex,rfl,rfl,D⟩:=D;rw [cC,dF] at hl
 obtain⟨r,hr,rfl⟩:=hl;have hf:=Qij enc sz e ex hr;rw [dW,fZ];have O:QT h e sz r.1.1 r.2.length r.1.2 (r.2.flatMap enc):=D.own j _ hf;exact⟨r.1.1,r.1.2,D.cell hf,rfl,O.row⟩
theorem Qe.get1 {h:Hp}{a:OaT}{xs:List Value}(H:Qe h a xs){j:Nat}{v:Value}(hv:xs[j]?=some v):∃ b o,a=some ⟨b,o,none⟩/\h.cell b (o+j*1)=some v:=by
 rcases H with rfl|⟨b,o,ha,hr⟩
 ·cases hv
 ·refine⟨b,o,ha,?_⟩
  rw [fZ];exact qT hr hv
theorem WH.r (D:WH enc sz e T h F t L):Qp0 enc h (some ⟨t,0,none⟩) L.length L:=by
 obtain⟨R,ex,rfl,rfl,D⟩:=D;refine⟨R,rfl,rfl,?_,fun j r hr=>?_⟩
 ·refine .inr ⟨t,0,rfl,?_⟩
  have:=D.blk;rw [cJ,Qjv] at this;rw [QO this (by rw [bO];omega),qD,jT rfl]
 ·have hf:=Qij enc sz e ex hr;exact(D.own j _ hf:QT h e sz r.1.1 r.2.length r.1.2 (r.2.flatMap enc)).row
variable {P:Program}
theorem WH.app {tS:TypeId}{bytes:Nat}(E:ElT P tS e sz bytes)(he:∀ x,(enc x).length=sz)(h1:∀ x,∀ u ∈ enc x,u.oneCell'=true)(D:WH enc sz e T h F t L){j:Nat}{l:List α}(hl:L[j]?=some l)(hb:(l.length+1)*bytes<=140737488355328)(hb2:l.length+1<=140737488355328){x:α}{a:OaT}{c:Nat}(hc:h.cell t (0+j*1)=some (vsl a l.length c)){b:Nat}(hbn:h b=none){ty:TypeId}{K:RtT}
  (hK:∀ a' c' h',(∀ b' o,(¬ F b'\/b'=t)->h b'=some o->h' b'=some o)->(∀ K2:HpT,(∀ h'' F',WH enc sz e T h'' F' t (L.set j (l++[x]))->Mut F h F' h''->K2 h'')->h'.store t (0+j*1) [vsl a' (l.length+1) c'] K2)->K (vsl a' (l.length+1) c') h') :
  Qh P (Builtin.append_ #[tS,tS] ty #[vsl a l.length c,vsl (some ⟨b,0,none⟩) 1 1]) (h.set b (Qb (enc x) e)) K:=by
 obtain⟨R,ex,rfl,rfl,D⟩:=D;rw [cC,dF] at hl
 obtain⟨r,hr,rfl⟩:=hl;have hf:=Qij enc sz e ex hr;rw [dW,fZ,D.cell hf] at hc;simp only [QoM,Fld.val,bH,Value.slice.injEq] at hc;obtain⟨rfl,_,rfl⟩:=hc;have hle:h.le (h.set b (Qb (enc x) e)):=qQ (qO h) hbn _;have O:QT (h.set b (Qb (enc x) e)) e sz r.1.1 r.2.length r.1.2 (r.2.flatMap enc):=(D.own j _ hf:QT h e sz r.1.1 r.2.length r.1.2 (r.2.flatMap enc)).le hle;have hj:j<R.length:=(bG.1 hr).1
 refine Qab E O (qW _ _ (enc x) _) (m:=1) (by rw [he,j7]) (h1 x) hb hb2 fun a' c' h' O' k1 k2 _ _=>hK a' c' h' (fun b' o hb' ho=>k1 b' o (hle b' o ho) fun hat=>?_) fun K2 hK2=>?_
 ·rcases hb' with h2|rfl
  ·exact h2 (.inr ⟨j,_,hf,hat⟩)
  ·exact D.ne j _ hf hat
 ·have e1:Qav enc sz e (R.set j ((a',c'),r.2++[x]))++ex.map Fld.v=(Qav enc sz e R++ex.map Fld.v).set j (.s e sz a' (r.2.length+1) c' (r.2.flatMap enc++enc x)):=by
   rw [List.set_append_left _ _ (by rw [Qav,bQ];exact hj)]
   unfold Qav;rw [gM];congr 2
   unfold QoM;simp
  have e2:(R.set j ((a',c'),r.2++[x])).map Prod.snd=(R.map Prod.snd).set j (r.2++[x]):=by rw [gM]
  rw [dW,fZ];refine D.put (h':=h') (j:=j) (f':=.s e sz a' (r.2.length+1) c' (r.2.flatMap enc++enc x)) hf (fun b' o ho hat=>k1 b' o (hle b' o ho) hat) O' (fun b' hb'=>?_) (fun h'' _ R' M=>by rw [<-e1] at R' M;exact hK2 h'' _ ⟨_,ex,e2,rfl,R'⟩ M) rfl
  rcases k2 b' hb' with e|e
  ·exact .inl (e.trans hb')
  ·exact .inr (qR hle e)
theorem WH.new {b:Nat}(hb:h b=none)(n:Nat):WH enc sz e T (h.set b (Qb ((List.replicate n [vsl none 0 0]).flatten) T)) (fun x=>x=b) b (List.replicate n []):=by
 refine⟨List.replicate n ((none,0),[]),[],by rw [gW],?_,?_⟩<;>rw [kC,dH]
 ·funext x
  refine propext ⟨fun hx=>.inl hx,?_⟩
  rintro(hx|⟨j,f,hf,hat⟩)
  ·exact hx
  ·rw [Qav,gW,jJ] at hf
   split at hf
   ·cases hf;cases hat
   ·cases hf
 ·have e1:(Qav enc sz e (List.replicate n (((none,0),[]):JF α))).map Fld.val=(List.replicate n [vsl none 0 0]).flatten:=by
   rw [Qjv,gW];induction n with
   | zero=>rfl
   | succ n ih=>rw [fS,fS,kZ,<-ih];rfl
  have hno:∀(j:Nat)(f:Fld),(Qav enc sz e (List.replicate n (((none,0),[]):JF α)))[j]?=some f->f=.s e sz none 0 0 []:=by
   intro j f hf;rw [Qav,gW,jJ] at hf
   split at hf
   ·cases hf;rfl
   ·cases hf
  rw [<-e1];refine Rec.new hb (fun j f hf=>?_) fun j k f f' b' hf hf' hat _=>?_
  ·rw [hno j f hf];exact qX h e sz
  ·rw [hno j f hf] at hat;cases hat
end
section
variable {α:Type}(enc:α->List Value)(T:TypeId)
def Qo8 (h0 h:Hp)(a:OaT)(c:Nat)(L:List (List α)):Prop:=
 ∃(R:List (JF α))(hd:Hp),R.map Prod.snd=L/\Qg h0 h T 1 a L.length c (R.map QcD)/\hd.le h/\(∀ g,a=some ⟨g,0,none⟩->hd g=none)/\∀(j:Nat)(r:JF α),R[j]?=some r->Qe hd r.1.1 (r.2.flatMap enc)
end
section
variable {α:Type}{enc:α->List Value}{T:TypeId}{h0 h:Hp}{a:OaT}{c:Nat}{L:List (List α)}
theorem Qo8.nil (hl:h0.le h):Qo8 enc T h0 h none 0 []:=
 ⟨[],h,rfl,qY hl _ _,qO h,(fun g hg=>by cases hg),(fun j r hr=>by cases hr)⟩
theorem Qo8.r (B:Qo8 enc T h0 h a c L):Qp0 enc h a L.length L:=by
 obtain⟨R,hd,e,O,hl,_,hr⟩:=B;exact⟨R,e,rfl,O.own.row,fun j r h1=>(hr j r h1).le hl⟩
variable {P:Program}
end
theorem Qk5 {β:Type}(a b:List β)(k:Nat)(vs:List β)(h:k+vs.length<=a.length):QP (a++b) k vs=QP a k vs++b:=by
 unfold QP;rw [gP (by omega),mG (by omega)]
 simp
theorem XX {β:Type}(a b:List β)(k:Nat)(vs:List β):QP (a++b) (a.length+k) vs=a++QP b k vs:=by
 unfold QP;rw [show a.length+k+vs.length=a.length+(k+vs.length) by omega,List.take_length_add_append,List.drop_length_add_append]
 simp
theorem Qb2 {α:Type}{enc:α->List Value}{sz:Nat}(he:∀ x,(enc x).length=sz){k:Nat}{vs:List Value}(hk:k+vs.length<=sz):∀(l:List α)(i:Nat)(x x':α),l[i]?=some x->enc x'=QP (enc x) k vs->QP (l.flatMap enc) (i*sz+k) vs=(l.set i x').flatMap enc
 | [],i,x,x',h,_=>by cases h
 | y :: l,0,x,x',h,hx=>by
  cases h;rw [dI,dJ,dI,Nat.zero_mul,dW,Qk5 _ _ _ _ (by rw [he];exact hk),hx]
 | y :: l,i+1,x,x',h,hx=>by
  rw [dI,d6,dI,show (i+1)*sz+k=(enc y).length+(i*sz+k) by rw [he,kA];omega,XX,Qb2 he hk l i x x' h hx]
def Vec {α:Type}(enc:α->List Value)(sz:Nat)(T:TypeId)(h0 h:Hp)(a:OaT)(c:Nat)(l:List α):Prop:=Qg h0 h T sz a l.length c (l.flatMap enc)
section
variable {α:Type}{enc:α->List Value}{sz:Nat}{T:TypeId}{h0 h:Hp}{a:OaT}{c:Nat}{l:List α}
theorem Vec.le0 (V:Vec enc sz T h0 h a c l):h0.le h:=Qg.le V
theorem Vec.slp (he:∀ x,(enc x).length=sz)(hz:0<sz)(V:Vec enc sz T h0 h a c l):SlP enc h a l.length l:=Qg.slp he hz V
theorem Vec.put (he:∀ x,(enc x).length=sz)(V:Vec enc sz T h0 h a c l){i:Nat}{x x':α}(hx:l[i]?=some x){k:Nat}{vs:List Value}(hv:0<vs.length)(hk:k+vs.length<=sz)(hx':enc x'=QP (enc x) k vs) :
  ∃ b o,a=some ⟨b,o,none⟩/\∀ K:HpT,(∀ h',Vec enc sz T h0 h' a c (l.set i x')->K h')->h.store b (o+i*sz+k) vs K:=by
 have hi:i<l.length:=(bG.1 hx).1
 have hb:(i+1)*sz<=l.length*sz:=d9 _ hi;rw [kA] at hb;rcases V.own.2 with ⟨ha,hn,_⟩|⟨g,cur,ha,_⟩
 ·omega
 ·refine⟨g,0,ha,fun K hK=>?_⟩
  rw [kG];refine Qg.store V (j:=i*sz+k) hv (by omega) ha fun ob V'=>hK _ ?_
  unfold Vec;rw [<-Qb2 he hk l i x x' hx hx',dL];exact V'
theorem Vec.keep0 {h1:Hp}(V:Vec enc sz T h0 h a c l)(hl:h.le h1):Vec enc sz T h0 h1 a c l:=⟨qP V.le0 hl,(Qg.own V).le hl,Qg.new V⟩
variable {P:Program}
theorem Vec.app {t ty:TypeId}{bytes:Nat}(E:ElT P t T sz bytes)(he:∀ x,(enc x).length=sz)(h1:∀ x,∀ u ∈ enc x,u.oneCell'=true)(V:Vec enc sz T h0 h a c l)(hb:(l.length+1)*bytes<=140737488355328)(hb2:l.length+1<=140737488355328){x:α}{b:Nat}(hbn:h b=none){K:RtT}
  (hK:∀ a' c' h',Vec enc sz T h0 h' a' c' (l++[x])->K (vsl a' (l++[x]).length c') h'):Qh P (Builtin.append_ #[t,t] ty #[vsl a l.length c,vsl (some ⟨b,0,none⟩) 1 1]) (h.set b (Qb (enc x) T)) K:=by
 refine q8 E (Qg.set hbn _ V) (qW _ _ (enc x) _) (m:=1) (by rw [he,j7]) (h1 x) hb hb2 fun a' c' h' O' _ _=>?_
 have:=hK a' c' h' (by
  unfold Vec;rw [bO,cP,dN];exact O')
 rw [bO] at this;exact this
theorem Vec.make {t:TypeId}{bytes:Nat}(E:ElT P t T sz bytes){z:List Value}(hz:(Xg P T).map Qn=some z){x:α}(hx:enc x=z)(hzl:z.length=sz){n:Nat}(hn:n<=1000000)(hb:n*bytes<=140737488355328){K:RtT}
  (hK:∀ a h',Vec enc sz T h h' a n (List.replicate n x)->K (vsl a n n) h'):Qh P (Instr.makeSlice t (vi n) (vi n)) h K:=by
 refine Gi E hz hn hb fun b hb=>hK _ _ ?_
 unfold Vec;have e:(List.replicate n x).flatMap enc=(List.replicate n z).flatten:=by rw [List.flatMap_replicate,hx]
 rw [e,dQ];exact qZ (qO h) hb _ _ (by rw [jZ];simp [hzl]) (by simp only [maxLen];omega)
end
structure Fp (P:Hp->(Nat->Prop)->Prop):Prop where
 al:∀{h F},P h F->∀ b,F b->h b≠none
 keep:∀{h h' F},P h F->(∀ b,F b->∀ o,h b=some o->h' b=some o)->P h' F
structure QqX (h0 h:Hp)(F1 F2:NpT)(P Q:Hp->(Nat->Prop)->Prop):Prop where
 le:h0.le h
 n1:∀ b,F1 b->h0 b=none
 n2:∀ b,F2 b->h0 b=none
 d:∀ b,F1 b->¬ F2 b
 p:P h F1
 q:Q h F2
abbrev Xt (α β:Type):=β × (OaT × Nat) × List α
section
variable {α β:Type}(enc:α->List Value)(rw_:β->Value->List Value)(sz:Nat)(T:TypeId)
def QV (r:Xt α β):List Value:=rw_ r.1 (vsl r.2.1.1 r.2.2.length r.2.1.2)
def Qv (R:List (Xt α β)):List (β × List α):=R.map fun r=>(r.1,r.2.2)
def Ke (h:Hp)(a:OaT)(n:Nat)(L:List (β × List α)):Prop:=∃ R:List (Xt α β),Qv R=L/\n=L.length/\Qe h a (R.flatMap (QV rw_))/\∀ r ∈ R,Qe h r.2.1.1 (r.2.2.flatMap enc)
def Y4 (G:NpT)(h0 h:Hp)(a:OaT)(c:Nat)(L:List (β × List α)):Prop:=
 ∃(R:List (Xt α β))(hd:Hp),Qv R=L/\Qg h0 h T sz a L.length c (R.flatMap (QV rw_))/\hd.le h/\(∀ g,a=some ⟨g,0,none⟩->hd g=none/\¬ G g)/\(∀ b,G b->hd b=none)/\∀ r ∈ R,Qe hd r.2.1.1 (r.2.2.flatMap enc)
end
section
variable {α β:Type}{enc:α->List Value}{rw_:β->Value->List Value}{sz:Nat}{T:TypeId}{G:NpT}{h0 h:Hp}{a:OaT}{c:Nat}{L:List (β × List α)}
theorem Ke.le {h':Hp}{n:Nat}(D:Ke enc rw_ h a n L)(hl:h.le h'):Ke enc rw_ h' a n L:=by
 obtain⟨R,e,hn,D,D2⟩:=D;exact⟨R,e,hn,D.le hl,fun r hr=>(D2 r hr).le hl⟩
theorem Y4.nil (hl:h0.le h):Y4 enc rw_ sz T G h0 h none 0 []:=
 ⟨[],fun _=>none,rfl,qY hl _ _,(fun b o hb=>by cases hb),(fun g hg=>by cases hg),(fun b _=>rfl),(fun r hr=>by cases hr)⟩
theorem Y4.le0 (B:Y4 enc rw_ sz T G h0 h a c L):h0.le h:=by
 obtain⟨R,hd,_,O,_⟩:=B;exact O.le
theorem Y4.ne (B:Y4 enc rw_ sz T G h0 h a c L){g:Nat}(hg:G g):a≠some ⟨g,0,none⟩:=by
 obtain⟨R,hd,_,_,_,hn,_⟩:=B;exact fun e=>(hn g e).2 hg
theorem Y4.tab (B:Y4 enc rw_ sz T G h0 h a c L):Ke enc rw_ h a L.length L:=by
 obtain⟨R,hd,e,O,hl,_,_,hr⟩:=B;exact⟨R,e,rfl,O.own.row,fun r h1=>(hr r h1).le hl⟩
theorem Y4.keep {h':Hp}(B:Y4 enc rw_ sz T G h0 h a c L)(hG:∀ b,G b->h0 b=none)(hk:∀ b o,¬ G b->h b=some o->h' b=some o):Y4 enc rw_ sz T G h0 h' a c L:=by
 obtain⟨R,hd,e,O,hl,hn,hg,hr⟩:=B;refine⟨R,hd,e,⟨fun b o hb=>hk b o (fun q=>by rw [hG b q] at hb;cases hb) (O.le b o hb),O.own.keep fun g o ha hb=>hk g o (hn g ha).2 hb,O.new⟩,fun b o hb=>hk b o (fun q=>by rw [hg b q] at hb;cases hb) (hl b o hb),hn,hg,hr⟩
theorem Y4.grow {h':Hp}(B:Y4 enc rw_ sz T G h0 h a c L)(hl:h.le h'):Y4 enc rw_ sz T G h0 h' a c L:=by
 obtain⟨R,hd,e,O,hl2,hn,hg,hr⟩:=B;exact⟨R,hd,e,O.mono hl,qP hl2 hl,hn,hg,hr⟩
theorem Y4.al (B:Y4 enc rw_ sz T G h0 h a c L){g:Nat}(ha:a=some ⟨g,0,none⟩):h g≠none:=by
 obtain⟨R,hd,e,O,_⟩:=B;rcases O.own.2 with ⟨q1,_⟩|⟨g',cur,q1,q2,_⟩
 ·rw [q1] at ha;cases ha
 ·rw [q1] at ha;cases ha;rw [q2];simp
theorem Ke.row {n:Nat}(he:∀ x v,(rw_ x v).length=sz)(hz:0<sz)(D:Ke enc rw_ h a n L){j:Nat}{x:β}{l:List α}(hl:L[j]?=some (x,l)):∃ b o a' c',a=some ⟨b,o,none⟩/\h.row b (o+j*sz) sz=some (rw_ x (vsl a' l.length c'))/\SlP enc h a' l.length l:=by
 obtain⟨R,rfl,hn,D,D2⟩:=D;unfold Qv at hl;rw [cC,dF] at hl
 obtain⟨r,hr,e⟩:=hl;have S:SlP (QV rw_) h a R.length R:=⟨rfl,D⟩;obtain⟨b,o,ha,hrow⟩:=S.get (fun r=>he _ _) hz hr
 cases e;exact⟨b,o,r.2.1.1,r.2.1.2,ha,hrow,rfl,D2 r (cF hr)⟩
theorem Ke.len {n:Nat}(D:Ke enc rw_ h a n L):n=L.length:=by
 obtain⟨R,_,hn,_⟩:=D;exact hn
theorem QmD {R:List (Xt α β)}(e:Qv R=L):R.length=L.length:=by rw [<-e];simp [Qv]
variable {P:Program}
theorem Y4.app {tS:TypeId}{bytes:Nat}(E:ElT P tS T sz bytes)(B:Y4 enc rw_ sz T G h0 h a c L){hB h1:Hp}(hl1:h.le h1)(hBG:∀ b,G b->hB b≠none)(hBa:∀ g,a=some ⟨g,0,none⟩->hB g≠none)
  {x:β} {a2:OaT} {c2:Nat} {l:List α} (H:Qe h1 a2 (l.flatMap enc)) (nw:∀ b o,a2=some ⟨b,o,none⟩->hB b=none) (h1c:∀ u ∈ rw_ x (vsl a2 l.length c2),u.oneCell'=true) (hsz:(rw_ x (vsl a2 l.length c2)).length=sz)
  (hG1:∀ b,G b->h1 b≠none) (hb:(L.length+1)*bytes<=140737488355328) (hb2:L.length+1<=140737488355328) {b:Nat} (hbn:h1 b=none) {ty:TypeId} {K:RtT}
  (hK:∀ a' c' h',Y4 enc rw_ sz T G h0 h' a' c' (L++[(x,l)])->(∀ b o,h1 b=some o->a≠some ⟨b,0,none⟩->h' b=some o)->K (vsl a' (L.length+1) c') h') :
  Qh P (Builtin.append_ #[tS,tS] ty #[vsl a L.length c,vsl (some ⟨b,0,none⟩) 1 1]) (h1.set b (Qb (rw_ x (vsl a2 l.length c2)) T)) K:=by
 obtain⟨R,hd,eR,OT,hl,hn,hg,hr⟩:=B;have l2:h1.le (h1.set b (Qb (rw_ x (vsl a2 l.length c2)) T)):=qQ (qO h1) hbn _;have OT2:Qg h0 (h1.set b (Qb (rw_ x (vsl a2 l.length c2)) T)) T sz a L.length c (R.flatMap (QV rw_)):=⟨qP (qP OT.le hl1) l2,(OT.own.le hl1).le l2,OT.new⟩;refine q8 E OT2 (qW _ _ (rw_ x (vsl a2 l.length c2)) _) (m:=1) (by rw [hsz,j7]) h1c hb hb2 fun a' c' h' O' k1 k2=>hK a' c' h' ?_ fun b' o hb' hne=>k1 b' o (l2 b' o hb') hne
 refine⟨R++[(x,(a2,c2),l)],fun y=>if hd y≠none then hd y else if hB y=none then(if a=some ⟨y,0,none⟩ then none else h1 y) else none,by unfold Qv at eR ⊢;rw [cJ,eR];rfl,?_,?_,?_,?_,?_⟩
 ·rw [cP,bO];simp only [dI,List.flatMap_nil,dH];exact O'
 ·intro y o ho;simp only at ho;split at ho
  ·rename_i hne;refine k1 y o (l2 y o (hl1 y o (hl y o ho))) fun e=>?_
   exact hne (hn y e).1
  ·split at ho
   ·split at ho
    ·cases ho
    ·rename_i hne;exact k1 y o (l2 y o ho) hne
   ·cases ho
 ·intro g hga;simp only;rcases k2 g hga with e1|e1
  ·have ha:a=some ⟨g,0,none⟩:=e1.trans hga;obtain⟨q1,q2⟩:=hn g ha;rw [q1];refine⟨?_,q2⟩
   rw [bE (fun q=>q rfl),bE (hBa g ha)]
  ·have e2:h1 g=none:=qR l2 e1;have e3:hd g=none:=by
    cases q:hd g with
    | none=>rfl
    | some o=>rw [hl1 g o (hl g o q)] at e2;cases e2
   rw [e3];refine⟨?_,fun q=>hG1 g q e2⟩
   rw [bE (fun q=>q rfl),e2]
   split
   ·split<;>rfl
   ·rfl
 ·intro y hy;simp only;rw [hg y hy,bE (fun q=>q rfl),bE (hBG y hy)]
 ·intro r hr2;rcases bU.1 hr2 with h3|h3
  ·refine(hr r h3).le fun y o ho=>?_
   rw [ho,bJ (by simp)]
  ·rw [cD.1 h3];rcases H with q|⟨b',o',ha2,hrow⟩
   ·exact .inl q
   ·refine .inr ⟨b',o',ha2,?_⟩
    have q1:=nw b' o' ha2;have q2:¬ a=some ⟨b',0,none⟩:=fun e=>hBa b' e q1
    unfold Hp.row at hrow ⊢;simp only;by_cases q3:hd b'≠none
    ·rw [bJ q3];cases q4:hd b' with
     | none=>exact absurd q4 q3
     | some o=>
      rw [hl1 b' o (hl b' o q4)] at hrow;exact hrow
    ·rw [bE q3,bJ q1,bE q2];exact hrow
end
theorem QeQ {P:Program}{n:String}{texts:List (LuT)}{r:List (String × DataW Unit)}{W:World}{g:Nat}{t e:TypeId}(h:laidMet P ((n,.slice (texts.map fun l=>.lit (.string l)) []) :: r) W)
  (hg:P.globalNamed n=some g) (ht:(P.globals[g]?).map (·.type)=some t) (hu:P.underlying t=some (.slice e)) (he:P.underlying e=some .string) (hc:P.cellsOf e=1) (hne:0<texts.length) :
  ∃ a c,(G9 W).cell g 0=some (vsl a texts.length c)/\SlB (G9 W) a texts.length texts:=by
 obtain⟨ps,⟨g0,t0,cs0,f0,p0,q0,hg0,ht0,hv0,hd0,_,e0⟩,_,_⟩:=h;obtain rfl:=cU (hg.symm.trans hg0);obtain rfl:=cU (ht.symm.trans ht0);obtain⟨a,cap,hcs,hcap,hel⟩:=open_row hu hc hd0;rw [bQ] at hcs hcap;have hcell:(G9 W).cell g 0=some (vsl (some a) texts.length cap):=by
  unfold World.var? at hv0;rw [hg] at hv0;simp only [gX] at hv0;unfold Hp.cell G9;cases hb:W.heap[g]? with
  | none=>rw [hb] at hv0;cases hv0
  | some ob=>
   cases ob with
   | cells c tt f=>
    rw [hb] at hv0;simp only [bH] at hv0;subst hv0;simp only;rw [<-jB,hcs]
    rfl
   | _=>rw [hb] at hv0;cases hv0
 have cells:∀ i l,texts[i]?=some l->W.cell? (a.add i)=some (vs (bs l)):=by
  intro i l hl;obtain⟨v,m,q,h1,h2⟩:=hel i (.lit (.string l)) (by rw [cC,hl];rfl)
  obtain⟨s,hs,hx,_⟩:=DataW.trod_string he h2;cases hs;have:s.data.toList=l:=by
   have:=congrArg Prod.fst hx;simp at this;exact this.symm
  rw [h1,<-this];simp [bs]
 obtain⟨l0,hl0⟩:∃ l0,texts[0]?=some l0:=⟨_,bD hne⟩
 have c0:=cells 0 l0 hl0;obtain⟨b,o,spot⟩:=a;have hs:spot=none:=by
  cases spot with
  | none=>rfl
  | some s=>
   simp only [Addr.add] at c0;unfold World.cell? at c0;simp at c0;split at c0<;>simp at c0
 subst hs;refine⟨_,_,hcell,rfl,.inr ⟨b,o,rfl,?_⟩⟩
 refine QaN (by
  intro hn;have:=congrArg List.length hn;rw [Qi Z4,fB,fZ] at this;omega) ?_
 intro j x hx;have ad:∀ o k,(⟨b,o,none⟩:Addr).add k=⟨b,o+k,none⟩:=by intro o k;unfold Addr.add;split<;>simp_all
 have key:(texts.map fun l=>vs (bs l))[j]?=some x:=by
  have:(texts.flatMap Yj)=texts.map fun l=>vs (bs l):=by
   clear hx cells hel hcell hcs hcap hd0 hne hl0;induction texts with
   | nil=>rfl
   | cons t l ih=>rw [dI,ih];rfl
  rw [<-this];exact hx
 rw [cC,dF] at key
 obtain⟨l,hl,rfl⟩:=key;have:=cells j l hl;rw [ad] at this;exact this
end Go.Vc
namespace Go.Proofs.YthicpjafcpfjoaaGreatDoor
noncomputable abbrev Pg:=Tryz.prog
open Go Go.Vc
theorem Qi6:WZ Pg:=by
 have h:(Pg.funcs.all fun fn=>!(fn.name == "runtime.NumGoroutine"))=true:=by kernel_rfl
 intro f fn hf;rw [Array.all_eq_true] at h;obtain⟨hlt,he⟩:=bV.mp hf
 have:=h f hlt;rw [he] at this;simpa using this
theorem mixed:Pg.follows .mixedOrders=true:=by kernel_rfl
theorem big:Jh Pg:=QhJ (by kernel_rfl) (by kernel_rfl)
theorem QeT:ElT Pg 46 3 1 8:=.of (by kernel_rfl) (by kernel_rfl) (by decide)
abbrev Ix (a:OaT)(b o:Nat)(x:Int)(n:Nat):Prop:=a=some ⟨b,o,none⟩/\(0:Int)<=x/\x<(n:Int)
abbrev RdG (o:BinOp)(t:TypeId)(x y:Operand)(v w:Value)(h:Hp)(r:Value):Prop:=Rd Pg (eqGuard o t x y v w >>= fun _=>binOp o t v w) h r
theorem callC (cfg:Cfg){f:FuncId}{fn:Func}(hf:Pg.funcs[f]?=some fn)(args:List TW){vs:List Value}{h:Hp}{R:RtT}{V:Prop}(H:V)(hn:Nat.ble args.length fn.ntmps=true:=by kernel_rfl)(hv:vs=args.map TW.val:=by rfl)(hV:V=Qif Pg cfg fn args h R:=by kernel_rfl):Qa Pg f vs h R:=Ud Qi6 mixed hf args hn hv hV H
theorem callO {f:FuncId}{fn:Func}(hf:Pg.funcs[f]?=some fn)(args:List TW){vs:List Value}{h:Hp}{R:RtT}{V:Prop}(H:V)(hn:Nat.ble args.length fn.ntmps=true:=by kernel_rfl)(hv:vs=args.map TW.val:=by rfl)(hV:V=Qif Pg ⟨[],[],[]⟩ fn args h R:=by kernel_rfl):Qa Pg f vs h R:=Ud Qi6 mixed hf args hn hv hV H
theorem Qed {u0:OaT}{u1 u2:Nat}{u3:OaT}{u4 u5:Nat}{u6:OaT}{u7 u8:Nat}{u9:Int}{u10:Int}{u11:Int}{u12:Int}{u13 u14:Nat}{u15 u16:Nat}{h:Hp}{R:RtT}(H:Qa Pg 53 [vhp u13 u14] h fun v1 h2=>∃ x3,v1=vi x3/\Qa Pg 59 [vag [vsl u0 u1 u2,vsl u3 u4 u5,vsl u6 u7 u8,vi u9,vi u10,vi u11,vi u12],vi x3] h2 fun v4 h5=>∃ q6 e7,v4=Qf [vp q6,ifv e7]/\((Option.isSome e7)=true->R (Qf [vp none,ifv e7]) h5)/\((Option.isSome e7)=false->Qa Pg 60 [vhp u15 u16] h5 fun v9 h10=>∃ s11 e12,v9=Qf [vs s11,ifv e12]/\((Option.isSome e12)=true->R (Qf [vp none,ifv e12]) h10)/\((Option.isSome e12)=false->∃ p14,RdG .neq 9 (.tmp 29) (.const (vs ⟨#[]⟩)) (vs s11) (vs ⟨#[]⟩) h10 (vb p14)/\let J24:OaT->Hp->Prop:=fun q26 h27=>(∃ b28 o29,q26=some ⟨b28,o29,none⟩/\∃ a30 n30 c30,Hp.cell h27 b28 (o29+12)=some (vsl a30 n30 c30)/\Qa Pg 58 [vsl a30 n30 c30] h27 fun v31 h32=>∃ a33 n33 c33,v31=vsl a33 n33 c33/\∀ b34,h32 b34=none->let h35:=Hp.set h32 b34 (Qb [vsl u0 u1 u2,vsl u3 u4 u5,vsl u6 u7 u8,vi u9,vi u10,vi u11,vi u12,vhp u13 u14,vhp u15 u16,vp q26,vsl a33 n33 c33] 123);R (Qf [vhp b34 0,ifv none]) h35);(p14=true->Qa Pg 53 [vhp u13 u14] h10 fun v15 h16=>∃ x17,v15=vi x17/\Qa Pg 61 [vs s11,vag [vsl u0 u1 u2,vsl u3 u4 u5,vsl u6 u7 u8,vi u9,vi u10,vi u11,vi u12],vi x17] h16 fun v18 h19=>∃ q20 e21,v18=Qf [vp q20,ifv e21]/\((Option.isSome e21)=true->R (Qf [vp none,ifv e21]) h19)/\((Option.isSome e21)=false->J24 q20 h19))/\(p14=false->J24 q6 h10)))):Qa Pg 18 [vag [vsl u0 u1 u2,vsl u3 u4 u5,vsl u6 u7 u8,vi u9,vi u10,vi u11,vi u12],vhp u13 u14,vhp u15 u16] h R:=callC ⟨[52],[],[(1,[0,1,2,3,4,5,6,7,8]),(8,[0,1,2,3,4,5,6,7,8,9]),(11,[0,1,2,3,4,5,6,7,8,9,10,11,12])]⟩ Tryz.func18 [.ag [.v (vsl u0 u1 u2),.v (vsl u3 u4 u5),.v (vsl u6 u7 u8),.v (vi u9),.v (vi u10),.v (vi u11),.v (vi u12)],.one (.hp u13 u14),.one (.hp u15 u16)] H
theorem Qcd {u0:OaT}{u1 u2:Nat}{h:Hp}{R:RtT}(H:Qa Pg 122 [vsl u0 u1 u2] h fun v1 h2=>∃ a3 n3 c3,v1=vsl a3 n3 c3/\∃(I5:LtT)(m6:LmT),I5 [vi 0] h2/\∀ vs7 h8,I5 vs7 h8->∃ x9,vs7=[vi x9]/\((decide (x9<(n3:Int)))=true->∃ b12 o13,Ix a3 b12 o13 x9 n3/\∃ a14 n14 c14,Hp.cell h8 b12 (((o13+x9.toNat*5)+1)+3)=some (vsl a14 n14 c14)/\Qa Pg 123 [vsl a14 n14 c14] h8 fun v15 h16=>∃ a17 n17 c17,v15=vsl a17 n17 c17/\∃ b18 o19,Ix a3 b18 o19 x9 n3/\Hp.store h16 b18 (((o19+x9.toNat*5)+1)+3) [vsl a17 n17 c17] fun h20=>∃ x22,IsW x22 (x9+1)/\I5 [vi x22] h20/\m6 [vi x22] h20<m6 vs7 h8)/\((decide (x9<(n3:Int)))=false->R (vsl a3 n3 c3) h8)):Qa Pg 58 [vsl u0 u1 u2] h R:=callC ⟨[],[(3,([8],[.one (.int .i64)],[]))],[]⟩ Tryz.func58 [.one (.v (vsl u0 u1 u2))] H
theorem VP {u0 u1:Nat}{u2:Int}{h:Hp}{R:RtT}(H:∃ q1,((decide (u2<0))=false->Hp.cell h u0 (u1+7)=some (vp q1))/\∃(J2:ShT),((decide (u2<0))=false->Qa Pg 53 [vp q1] h fun v3 h4=>∃ x5,v3=vi x5/\J2 (.t (.one (.v (vi x5)))) h4)/\(¬((decide (u2<0))=false)->J2 (.t (.one (.v (vi 0)))) h)/\∀ h6 x7,J2 (.t (.one (.v (vi x7)))) h6->((cond (decide (u2<0)) true (decide (u2>=x7)))=true->R (ifv (some (119,vi 5))) h6)/\((cond (decide (u2<0)) true (decide (u2>=x7)))=false->∃ q9,Hp.cell h6 u0 (u1+7)=some (vp q9)/\∃ q10,Hp.cell h6 u0 (u1+9)=some (vp q10)/\∃ b11 o12,q10=some ⟨b11,o12,none⟩/\∃ a13 n13 c13,Hp.cell h6 b11 (o12+8)=some (vsl a13 n13 c13)/\∃ b14 o15,Ix a13 b14 o15 u2 n13/\∃ x16,Hp.cell h6 b14 (o15+u2.toNat*1)=some (vi x16)/\Qa Pg 54 [vp q9,vi u2,vi x16] h6 fun v17 h18=>∃ x19 x20 x21 x22 x23 x24 x25 p26,v17=Qf [vag [vi x19,vi x20,vi x21,vi x22,vi x23,vi x24,vi x25],vb p26]/\((!p26)=true->R (ifv (some (119,vi 8))) h18)/\((!p26)=false->∃ q28,Hp.cell h18 u0 (u1+9)=some (vp q28)/\Qa Pg 55 [vp q28,vi u2,vag [vi x19,vi x20,vi x21,vi x22,vi x23,vi x24,vi x25]] h18 fun v29 h30=>v29=Qf []/\R (ifv none) h30))):Qa Pg 16 [vhp u0 u1,vi u2] h R:=callC ⟨[],[],[(3,[0,1,2,3,4,5,6,7,8,9,10,11,12,13,14,15,16,17,18,19,20,21]),(6,[0,1,2,3,4,5,6])]⟩ Tryz.func16 [.one (.hp u0 u1),.one (.v (vi u2))] H
theorem V4 {u0 u1:Nat}{h:Hp}{R:RtT}(H:∃ q1,Hp.cell h u0 (u1+8)=some (vp q1)/\∃ q2,Hp.cell h u0 (u1+9)=some (vp q2)/\Qa Pg 57 [vp q2] h fun v3 h4=>∃ s5,v3=vs s5/\Hp.cell h4 u0 (u1+8)=some (vp q1)/\Qa Pg 56 [vp q1,vs s5] h4 fun v6 h7=>∃ e8,v6=ifv e8/\let J19:HpT:=fun h20=>R (ifv e8) h20;((Option.isNone e8)=true->∃ q9,Hp.cell h7 u0 (u1+9)=some (vp q9)/\∃ b10 o11,q9=some ⟨b10,o11,none⟩/\∃ a12 n12 c12,Hp.cell h7 b10 (o11+12)=some (vsl a12 n12 c12)/\Qa Pg 58 [vsl a12 n12 c12] h7 fun v13 h14=>∃ a15 n15 c15,v13=vsl a15 n15 c15/\Hp.store h14 u0 (u1+10) [vsl a15 n15 c15] fun h16=>J19 h16)/\((Option.isNone e8)=false->J19 h7)):Qa Pg 17 [vhp u0 u1] h R:=callC ⟨[],[],[(1,[0,1,2,3,4,5,6,7,8,9,10])]⟩ Tryz.func17 [.one (.hp u0 u1)] H
theorem VK {u0 u1:Nat}{h:Hp}{R:RtT}(H:∃ a1 n1 c1,Hp.cell h u0 (u1+10)=some (vsl a1 n1 c1)/\Qa Pg 58 [vsl a1 n1 c1] h fun v2 h3=>∃ a4 n4 c4,v2=vsl a4 n4 c4/\R (vsl a4 n4 c4) h3):Qa Pg 22 [vhp u0 u1] h R:=callO Tryz.func22 [.one (.hp u0 u1)] H
theorem Us {u0 u1:Nat}{h:Hp}{R:RtT}(H:∃ q1,Hp.cell h u0 (u1+9)=some (vp q1)/\∃ b2 o3,q1=some ⟨b2,o3,none⟩/\∃ a4 n4 c4,Hp.cell h b2 (o3+12)=some (vsl a4 n4 c4)/\∃ a5 n5 c5,Hp.cell h u0 (u1+10)=some (vsl a5 n5 c5)/\∃ x6,IsW x6 ((n4:Int)-(n5:Int))/\R (vi x6) h):Qa Pg 23 [vhp u0 u1] h R:=callC ⟨[],[],[(1,[0,1,2,3,4,5,6,7,8,9,10,11,12,13,14])]⟩ Tryz.func23 [.one (.hp u0 u1)] H
theorem VV {u0 u1:Nat}{h:Hp}{R:RtT}(H:∃ q1,Hp.cell h u0 (u1+9)=some (vp q1)/\∃ b2 o3,q1=some ⟨b2,o3,none⟩/\∃ x4,Hp.cell h b2 (o3+11)=some (vi x4)/\R (vi x4) h):Qa Pg 26 [vhp u0 u1] h R:=callO Tryz.func26 [.one (.hp u0 u1)] H
theorem VL {u0 u1:Nat}{h:Hp}{R:RtT}(H:∃ q1,Hp.cell h u0 (u1+9)=some (vp q1)/\∃ b2 o3,q1=some ⟨b2,o3,none⟩/\∃ a4 n4 c4,Hp.row h b2 (o3+9) 1=some [vsl a4 n4 c4]/\∃ x5,Hp.cell h u0 (u1+5)=some (vi x5)/\Qa Pg 62 [vag [vsl a4 n4 c4],vi x5] h fun v6 h7=>∃ x8 p9,v6=Qf [vi x8,vb p9]/\R (Qf [vi x8,vb p9]) h7):Qa Pg 19 [vhp u0 u1] h R:=callC ⟨[],[],[(1,[0,1,2,3,4,5,6,7,8,9,10,11,12,13,14,15,16])]⟩ Tryz.func19 [.one (.hp u0 u1)] H
theorem WM {u0:OaT}{u1 u2:Nat}{h:Hp}{R:RtT}(H:∃ p1,RdG .eql 48 (.tmp 3) (.const (vsl none 0 0)) (vsl u0 u1 u2) (vsl none 0 0) h (vb p1)/\(p1=true->R (vsl none 0 0) h)/\(p1=false->∀ b3,h b3=none->let h4:=Hp.set h b3 (Qb [] 95);Qh Pg (Builtin.append_ #[48,48] 48 #[(vsl (some ⟨b3,0,none⟩) 0 0),vsl u0 u1 u2]) h4 fun v5 h6=>∃ a7 n7 c7,v5=vsl a7 n7 c7/\R (vsl a7 n7 c7) h6)):Qa Pg 122 [vsl u0 u1 u2] h R:=callO Tryz.func122 [.one (.v (vsl u0 u1 u2))] H
theorem XI {u0:OaT}{u1 u2:Nat}{h:Hp}{R:RtT}(H:∃ p1,RdG .eql 91 (.tmp 3) (.const (vsl none 0 0)) (vsl u0 u1 u2) (vsl none 0 0) h (vb p1)/\(p1=true->R (vsl none 0 0) h)/\(p1=false->∀ b3,h b3=none->let h4:=Hp.set h b3 (Qb [] 54);Qh Pg (Builtin.append_ #[91,91] 91 #[(vsl (some ⟨b3,0,none⟩) 0 0),vsl u0 u1 u2]) h4 fun v5 h6=>∃ a7 n7 c7,v5=vsl a7 n7 c7/\R (vsl a7 n7 c7) h6)):Qa Pg 123 [vsl u0 u1 u2] h R:=callO Tryz.func123 [.one (.v (vsl u0 u1 u2))] H
theorem Qd1 {u0:Bool}{h:Hp}{R:RtT}(H:(u0=true->R (vag [vi 2,vi 1]) h)/\(u0=false->R (vag [vi 2,vi 0]) h)):Qa Pg 110 [vb u0] h R:=callO Tryz.func110 [.one (.v (vb u0))] H
theorem Qb9 {u0:Int}{u1:Int}{u2:Int}{u3:Int}{h:Hp}{R:RtT}(H:R (vb (cond (decide (u0=1)) (decide (u2=1)) false)) h):Qa Pg 214 [vag [vi u0,vi u1],vag [vi u2,vi u3]] h R:=callO Tryz.func214 [.ag [.v (vi u0),.v (vi u1)],.ag [.v (vi u2),.v (vi u3)]] H
theorem Qjg {u0:Int}{u1:Int}{u2:Int}{u3:Int}{u4:Int}{h:Hp}{R:RtT}(H:((decide (u0=9))=true->Qa Pg 213 [vag [vi u1,vi u2],vag [vi u3,vi u4]] h fun v1 h2=>∃ x3 x4,v1=vag [vi x3,vi x4]/\R (vag [vi x3,vi x4]) h2)/\((decide (u0=9))=false->((decide (u0=10))=true->Qa Pg 164 [vag [vi u1,vi u2]] h fun v5 h6=>∃ x7 x8,v5=vag [vi x7,vi x8]/\Qa Pg 164 [vag [vi u3,vi u4]] h6 fun v9 h10=>∃ x11 x12,v9=vag [vi x11,vi x12]/\Qa Pg 213 [vag [vi x7,vi x8],vag [vi x11,vi x12]] h10 fun v13 h14=>∃ x15 x16,v13=vag [vi x15,vi x16]/\Qa Pg 164 [vag [vi x15,vi x16]] h14 fun v17 h18=>∃ x19 x20,v17=vag [vi x19,vi x20]/\R (vag [vi x19,vi x20]) h18)/\((decide (u0=10))=false->Qa Pg 214 [vag [vi u1,vi u2],vag [vi u3,vi u4]] h fun v22 h23=>∃ p24,v22=vb p24/\((!p24)=true->Qa Pg 131 [] h23 fun v25 h26=>∃ x27 x28,v25=vag [vi x27,vi x28]/\R (vag [vi x27,vi x28]) h26)/\((!p24)=false->((decide (u0=6))=true->∃ x30,IsW x30 (u2+u4)/\Qa Pg 197 [vi x30] h23 fun v31 h32=>∃ x33 x34,v31=vag [vi x33,vi x34]/\R (vag [vi x33,vi x34]) h32)/\((decide (u0=6))=false->((decide (u0=7))=true->∃ x35,IsW x35 (u2-u4)/\Qa Pg 197 [vi x35] h23 fun v36 h37=>∃ x38 x39,v36=vag [vi x38,vi x39]/\R (vag [vi x38,vi x39]) h37)/\((decide (u0=7))=false->((decide (u0=8))=true->∃ x40,IsW x40 (u2*u4)/\Qa Pg 197 [vi x40] h23 fun v41 h42=>∃ x43 x44,v41=vag [vi x43,vi x44]/\R (vag [vi x43,vi x44]) h42)/\((decide (u0=8))=false->((decide (u0=11))=true->Qa Pg 110 [(vb (decide (u2<u4)))] h23 fun v45 h46=>∃ x47 x48,v45=vag [vi x47,vi x48]/\R (vag [vi x47,vi x48]) h46)/\((decide (u0=11))=false->((decide (u0=12))=true->Qa Pg 110 [(vb (decide (u2=u4)))] h23 fun v49 h50=>∃ x51 x52,v49=vag [vi x51,vi x52]/\R (vag [vi x51,vi x52]) h50)/\((decide (u0=12))=false->Qa Pg 131 [] h23 fun v54 h55=>∃ x56 x57,v54=vag [vi x56,vi x57]/\R (vag [vi x56,vi x57]) h55))))))))):Qa Pg 165 [vi u0,vag [vi u1,vi u2],vag [vi u3,vi u4]] h R:=callC ⟨[],[],[(5,[0,2,1,3,4,5,6])]⟩ Tryz.func165 [.one (.v (vi u0)),.ag [.v (vi u1),.v (vi u2)],.ag [.v (vi u3),.v (vi u4)]] H
theorem Qib {u0:Int}{u1:Int}{u2:Int}{u3:Int}{h:Hp}{R:RtT}(H:Qa Pg 110 [vb false] h fun v1 h2=>∃ x3 x4,v1=vag [vi x3,vi x4]/\∃ p5,RdG .eql 54 (.tmp 8) (.tmp 9) (vag [vi u0,vi u1]) (vag [vi x3,vi x4]) h2 (vb p5)/\∃ p6,(p5=false->RdG .eql 54 (.tmp 12) (.tmp 13) (vag [vi u2,vi u3]) (vag [vi x3,vi x4]) h2 (vb p6))/\((cond p5 true p6)=true->R (vag [vi x3,vi x4]) h2)/\((cond p5 true p6)=false->((cond (decide (u0=2)) (decide (u2=2)) false)=true->Qa Pg 110 [vb true] h2 fun v7 h8=>∃ x9 x10,v7=vag [vi x9,vi x10]/\R (vag [vi x9,vi x10]) h8)/\((cond (decide (u0=2)) (decide (u2=2)) false)=false->Qa Pg 131 [] h2 fun v12 h13=>∃ x14 x15,v12=vag [vi x14,vi x15]/\R (vag [vi x14,vi x15]) h13))):Qa Pg 213 [vag [vi u0,vi u1],vag [vi u2,vi u3]] h R:=callO Tryz.func213 [.ag [.v (vi u0),.v (vi u1)],.ag [.v (vi u2),.v (vi u3)]] H
theorem Qh4 {u0:Int}{u1:Int}{h:Hp}{R:RtT}(H:((decide (u0≠2))=true->Qa Pg 131 [] h fun v1 h2=>∃ x3 x4,v1=vag [vi x3,vi x4]/\R (vag [vi x3,vi x4]) h2)/\((decide (u0≠2))=false->Qa Pg 110 [(vb (decide (u1=0)))] h fun v6 h7=>∃ x8 x9,v6=vag [vi x8,vi x9]/\R (vag [vi x8,vi x9]) h7)):Qa Pg 164 [vag [vi u0,vi u1]] h R:=callO Tryz.func164 [.ag [.v (vi u0),.v (vi u1)]] H
theorem QhK {u0:Int}{u1:Int}{h:Hp}{R:RtT}(H:((decide (u0≠1))=true->Qa Pg 131 [] h fun v1 h2=>∃ x3 x4,v1=vag [vi x3,vi x4]/\R (vag [vi x3,vi x4]) h2)/\((decide (u0≠1))=false->∃ x6,IsW x6 (-u1)/\Qa Pg 197 [vi x6] h fun v7 h8=>∃ x9 x10,v7=vag [vi x9,vi x10]/\R (vag [vi x9,vi x10]) h8)):Qa Pg 163 [vag [vi u0,vi u1]] h R:=callO Tryz.func163 [.ag [.v (vi u0),.v (vi u1)]] H
theorem Qf6 {h:Hp}{R:RtT}(H:R (vag [vi 0,vi 0]) h):Qa Pg 131 [] h R:=callO Tryz.func131 [] H
theorem Qdg {u0:Int}{h:Hp}{R:RtT}(H:((cond (decide (u0<(-1000000000))) true (decide (u0>1000000000)))=true->R (vag [vi 0,vi 0]) h)/\((cond (decide (u0<(-1000000000))) true (decide (u0>1000000000)))=false->R (vag [vi 1,vi u0]) h)):Qa Pg 197 [vi u0] h R:=callO Tryz.func197 [.one (.v (vi u0))] H
def Qu (v:Int × Int):List Value:=[vi v.1,vi v.2]
theorem YO (v:Int × Int):(Qu v).length=2:=rfl
def Kd (n:Int):Int × Int:=if n < -1000000000\/n>1000000000 then(0,0) else(1,n)
theorem QJ {n:Int}{h:Hp}{R:RtT}(hK:R (vag (Qu (Kd n))) h):Qa Pg 197 [vi n] h R:=by
 refine Qdg ?_
 refine⟨fun e=>?_,fun e=>?_⟩
 ·simp [cQ] at e;have:Kd n=(0,0):=by unfold Kd;rw [bJ (by omega)]
  rw [this] at hK;exact hK
 ·simp [cQ] at e;have:Kd n=(1,n):=by unfold Kd;rw [bE (by omega)]
  rw [this] at hK;exact hK
theorem Zc {h:Hp}{R:RtT}(hK:R (vag (Qu (0,0))) h):Qa Pg 131 [] h R:=Qf6 hK
theorem Qow (a b c d:Int):Md Pg 8 54 [vi a,vi b] [vi c,vi d]=some (decide (a=c)&&(decide (b=d)&&true)):=by kernel_rfl
theorem QpM (a b:Int × Int):(decide (a.1=b.1)&&(decide (a.2=b.2)&&true))=decide (a=b):=by
 obtain⟨a1,a2⟩:=a;obtain⟨b1,b2⟩:=b;rw [Bool.eq_iff_iff];simp [Prod.ext_iff]
theorem Xz {h:Hp}{x y:Operand}{a b:Int × Int}:Rd Pg (eqGuard .eql 54 x y (vag (Qu a)) (vag (Qu b)) >>= fun _=>binOp .eql 54 (vag (Qu a)) (vag (Qu b))) h (vb (decide (a=b))):=by
 rw [<-QpM];exact Qqf (Qow _ _ _ _) (by kernel_rfl) (by kernel_rfl)
theorem QdF {h:Hp}{x y:Operand}{a b:Int × Int}:Rd Pg (eqGuard .neq 54 x y (vag (Qu a)) (vag (Qu b)) >>= fun _=>binOp .neq 54 (vag (Qu a)) (vag (Qu b))) h (vb (!decide (a=b))):=by
 rw [<-QpM];exact QpY (Qow _ _ _ _) (by kernel_rfl) (by kernel_rfl)
def Xd (v:Int × Int):Prop:=-1000000000<=v.2/\v.2<=1000000000
def Qq (v:Int × Int):Prop:=(v.1=0/\v.2=0)\/(v.1=1/\-1000000000<=v.2/\v.2<=1000000000)\/(v.1=2/\(v.2=0\/v.2=1))
instance (v:Int × Int):Decidable (Qq v):=by unfold Qq;infer_instance
theorem Qq.small {v:Int × Int}(h:Qq v):Xd v:=by
 unfold Qq at h;unfold Xd;omega
def QA (f:Int):OtT:=if f=0 then none else some (119,vi f)
theorem YR {f:Int}:(QA f).isNone=decide (f=0):=by
 unfold QA;by_cases h:f=0<;>simp [h]
theorem QR {f:Int}:(QA f).isSome=!decide (f=0):=by
 unfold QA;by_cases h:f=0<;>simp [h]
def w64 (x:Int):Int:=IntKind.i64.wrap x
theorem QdH (x:Int):IsW (w64 x) x:=rfl
theorem QpU {x:Int}(h:InR x):w64 x=x:=(isW h).symm
def Ya (b:Bool):Int × Int:=(2,if b then 1 else 0)
def Qdk (a b:Int × Int):Int × Int:=if a=(2,0)\/b=(2,0) then(2,0) else if a.1=2/\b.1=2 then(2,1) else(0,0)
def VW (a:Int × Int):Int × Int:=if a.1=2 then Ya (decide (a.2=0)) else(0,0)
def Qds (a:Int × Int):Int × Int:=if a.1=1 then Kd (w64 (-a.2)) else(0,0)
def doV (op:Int)(a b:Int × Int):Int × Int:=
 if op=9 then Qdk a b else if op=10 then VW (Qdk (VW a) (VW b)) else if a.1=1/\b.1=1 then
  (if op=6 then Kd (w64 (a.2+b.2)) else if op=7 then Kd (w64 (a.2-b.2)) else if op=8 then Kd (w64 (a.2*b.2)) else if op=11 then Ya (decide (a.2<b.2)) else if op=12 then Ya (decide (a.2=b.2)) else(0,0))
 else(0,0)
def QaL (x y:Int):Int:=if x<y then -1 else if x>y then 1 else 0
def QmC (a b:Int × Int):Int:=if QaL a.1 b.1≠0 then QaL a.1 b.1 else QaL a.2 b.2
theorem QN {b:Bool}{h:Hp}{R:RtT}(hK:R (vag (Qu (Ya b))) h):Qa Pg 110 [vb b] h R:=by
 refine Qd1 ?_
 cases b with
 | true=>exact⟨fun _=>hK,fun e=>by cases e⟩
 | false=>exact⟨fun e=>by (cases e),fun _=>hK⟩
theorem QbL {a b:Int × Int}{h:Hp}{R:RtT}(hK:R (vb (decide (a.1=1/\b.1=1))) h):Qa Pg 214 [vag (Qu a),vag (Qu b)] h R:=by
 refine Qb9 ?_
 have:(bif (decide (a.1=1)) then(decide (b.1=1)) else false)=decide (a.1=1/\b.1=1):=by by_cases h1:a.1=1<;>by_cases h2:b.1=1<;>simp [h1,h2]
 rw [this];exact hK
theorem Qbj {a b:Int × Int}{h:Hp}{R:RtT}(hK:R (vag (Qu (Qdk a b))) h):Qa Pg 213 [vag (Qu a),vag (Qu b)] h R:=by
 refine Qib ?_
 refine QN ⟨_,_,rfl,_,Xz (a:=a) (b:=(2,0)),_,fun _=>Xz (a:=b) (b:=(2,0)),fun e=>?_,fun e=>⟨fun e2=>?_,fun e2=>?_⟩⟩
 ·have:a=(2,0)\/b=(2,0):=by simpa [cQ] using e
  unfold Qdk at hK;rw [bJ this] at hK;exact hK
 all_goals have h1:¬(a=(2,0)\/b=(2,0)):=by simpa [cQ] using e
 all_goals unfold Qdk at hK
 all_goals rw [bE h1] at hK
 ·rw [bJ (by simpa [cQ] using e2)] at hK
  exact QN ⟨_,_,rfl,hK⟩
 ·rw [bE (by simpa [cQ] using e2)] at hK
  exact Zc ⟨_,_,rfl,hK⟩
theorem K9 {a:Int × Int}{h:Hp}{R:RtT}(hK:R (vag (Qu (VW a))) h):Qa Pg 164 [vag (Qu a)] h R:=by
 refine Qh4 ?_
 unfold VW at hK;refine⟨fun e=>?_,fun e=>?_⟩
 ·rw [bE (by simpa using e)] at hK
  exact Zc ⟨_,_,rfl,hK⟩
 ·rw [bJ (by simpa using e)] at hK
  exact QN ⟨_,_,rfl,hK⟩
theorem QhS {a:Int × Int}{h:Hp}{R:RtT}(hK:R (vag (Qu (Qds a))) h):Qa Pg 163 [vag (Qu a)] h R:=by
 refine QhK ?_
 unfold Qds at hK;refine⟨fun e=>?_,fun e=>?_⟩
 ·rw [bE (by simpa using e)] at hK
  exact Zc ⟨_,_,rfl,hK⟩
 ·rw [bJ (by simpa using e)] at hK
  exact⟨_,QdH _,QJ ⟨_,_,rfl,hK⟩⟩
theorem Qda {op:Int}{a b:Int × Int}{h:Hp}{R:RtT}(hK:R (vag (Qu (doV op a b))) h):Qa Pg 165 [vi op,vag (Qu a),vag (Qu b)] h R:=by
 refine Qjg ?_
 unfold doV at hK;refine⟨fun e=>?_,fun e=>?_⟩
 ·rw [bJ (bC e)] at hK;exact Qbj ⟨_,_,rfl,hK⟩
 rw [bE (bB e)] at hK;refine⟨fun e=>?_,fun e=>?_⟩
 ·rw [bJ (bC e)] at hK;exact K9 ⟨_,_,rfl,K9 ⟨_,_,rfl,Qbj ⟨_,_,rfl,K9 ⟨_,_,rfl,hK⟩⟩⟩⟩
 rw [bE (bB e)] at hK;refine QbL ⟨_,rfl,fun e=>?_,fun e=>?_⟩
 ·rw [bE (by simp at e;omega)] at hK
  exact Zc ⟨_,_,rfl,hK⟩
 rw [bJ (by simpa using e)] at hK
 refine⟨fun e=>?_,fun e=>?_⟩
 ·rw [bJ (bC e)] at hK;exact⟨_,QdH _,QJ ⟨_,_,rfl,hK⟩⟩
 rw [bE (bB e)] at hK;refine⟨fun e=>?_,fun e=>?_⟩
 ·rw [bJ (bC e)] at hK;exact⟨_,QdH _,QJ ⟨_,_,rfl,hK⟩⟩
 rw [bE (bB e)] at hK;refine⟨fun e=>?_,fun e=>?_⟩
 ·rw [bJ (bC e)] at hK;exact⟨_,QdH _,QJ ⟨_,_,rfl,hK⟩⟩
 rw [bE (bB e)] at hK;refine⟨fun e=>?_,fun e=>?_⟩
 ·rw [bJ (bC e)] at hK;exact QN ⟨_,_,rfl,hK⟩
 rw [bE (bB e)] at hK;refine⟨fun e=>?_,fun e=>?_⟩
 ·rw [bJ (bC e)] at hK;exact QN ⟨_,_,rfl,hK⟩
 rw [bE (bB e)] at hK;exact Zc ⟨_,_,rfl,hK⟩
abbrev EvL:=Int × (Int × Int) × (Int × Int) × (Int × Int)
def Xk (e:EvL):List Value:=[vi e.1,vi e.2.1.1,vi e.2.1.2,vi e.2.2.1.1,vi e.2.2.1.2,vi e.2.2.2.1,vi e.2.2.2.2]
theorem Qjc (e:EvL):(Xk e).length=7:=rfl
theorem Qm3 (e:EvL):∀ u ∈ Xk e,u.oneCell'=true:=by
 intro u hu;simp [Xk] at hu;rcases hu with rfl|rfl|rfl|rfl|rfl|rfl|rfl<;>rfl
def Qdn (v:Int × Int):Int:=if ¬ Qq v\/v.1=2 then 3 else if v.2 < -1000\/v.2>1000 then 1 else 0
def QkN:List (Int × Int)->Int
 | []=>0
 | v :: l=>if Qdn v=0 then QkN l else Qdn v
def K5 (e:EvL):Int:=if e.1<0\/e.1>9999 then 1 else QkN [e.2.1,e.2.2.1,e.2.2.2]
theorem Qj0 {α:Type}{l:List α}{i:Nat}(h:i<l.length):l.drop i=l[i] :: l.drop (i+1):=dS h
structure Nd where
 op:Int
 x:Int
 y:Int
 n:Int
 v:Int × Int
deriving DecidableEq
def arI (op:Int):Int:=if op=1\/op=2 then 0 else if 3<=op/\op<=5 then 1 else if 6<=op/\op<=12 then 2 else -1
def ZH (n:Nd):Int:=
 if arI n.op<0 then 3 else if (n.op≠1/\n.v≠(0,0))\/(n.op≠2/\n.n≠0)\/(arI n.op<2/\n.y≠0)\/(arI n.op<1/\n.x≠0) then 3 else if n.op=2/\(n.n<0\/n.n>3) then 1 else if ¬ Qq n.v then 3 else 0
def Wi (n:Nd)(st:List Int):Option (List Int):=
 if arI n.op=0 then some st else if arI n.op=1 then
  match st with
  | a :: s=>if a=n.x then some s else none
  | []=>none
 else
  match st with
  | b :: a :: s=>if a=n.x/\b=n.y then some s else none
  | _=>none
def ZO (st:List Int)(i:Nat):List Nd->Int
 | []=>if st.length=1 then 0 else 3
 | n :: l=>if ZH n≠0 then ZH n else match Wi n st with
  | none=>3
  | some s=>ZO (i :: s) (i+1) l
def K3 (l:List Nd):Int:=if l.length>40 then 2 else ZO [] 0 l
inductive Blk (l:List Nd):Nat->Nat->Prop where
 | leaf {i:Nat} {n:Nd}:l[i]?=some n->arI n.op=0->Blk l i (i+1)
 | one {f i:Nat} {n:Nd}:Blk l f i->l[i]?=some n->arI n.op=1->n.x=(i:Int)-1->Blk l f (i+1)
 | two {f g i:Nat} {n:Nd}:Blk l f g->Blk l g i->l[i]?=some n->arI n.op=2->n.x=(g:Int)-1->n.y=(i:Int)-1->Blk l f (i+1)
theorem Blk.lt {l:List Nd}{f e:Nat}(B:Blk l f e):f<e/\e<=l.length:=by
 induction B with
 | leaf h _=>exact⟨jO _,(bG.1 h).1⟩
 | one _ h _ _ ih=>exact⟨by omega,(bG.1 h).1⟩
 | two _ _ h _ _ _ ih1 ih2=>exact⟨by omega,(bG.1 h).1⟩
inductive Stk (l:List Nd):List Int->Nat->Prop where
 | nil:Stk l [] 0
 | push {s:List Int} {f e:Nat}:Stk l s f->Blk l f e->Stk l (((e:Int)-1) :: s) e
theorem Zb {op:Int}(h:0<=arI op):arI op=0\/arI op=1\/arI op=2:=by
 unfold arI at *
 split<;>(try split)<;>(try split)<;>simp_all
theorem Qa1 {n:Nd}(h:ZH n=0):0<=arI n.op:=by
 unfold ZH at h;split at h
 ·cases h
 ·omega
theorem Qoa {l:List Nd}{st s:List Int}{i:Nat}{n:Nd}(hn:l[i]?=some n)(h0:ZH n=0)(S:Stk l st i)(h:Wi n st=some s):Stk l ((i:Int) :: s) (i+1):=by
 have key:∀{f:Nat} {s:List Int},Stk l s f->Blk l f (i+1)->Stk l ((i:Int) :: s) (i+1):=by
  intro f s S B;have:=Stk.push S B;rw [show ((i+1:Nat):Int)-1=i by omega] at this
  exact this
 unfold Wi at h;rcases Zb (Qa1 h0) with h1|h1|h1
 ·rw [bJ h1] at h;cases h;exact key S (.leaf hn h1)
 ·rw [bE (by omega),bJ h1] at h
  cases S with
  | nil=>cases h
  | push S B=>
   simp only at h;split at h
   ·rename_i hx;cases h;exact key S (.one B hn h1 hx.symm)
   ·cases h
 ·rw [bE (by omega),bE (by omega)] at h
  cases S with
  | nil=>cases h
  | push S B=>
   cases S with
   | nil=>cases h
   | push S B'=>
    simp only at h;split at h
    ·rename_i hx;cases h;exact key S (.two B' B hn h1 hx.1.symm hx.2.symm)
    ·cases h
theorem QiU (l:List Nd):∀(r:List Nd)(st:List Int)(i:Nat),l.drop i=r->i<=l.length->Stk l st i->ZO st i r=0->(∀ n ∈ r,ZH n=0)/\∃ z,Stk l [z] l.length
 | [],st,i,hr,hi,S,h=>by
  have:i=l.length:=by have:=congrArg List.length hr;simp at this;omega
  subst this;rw [ZO] at h;split at h
  ·rename_i h1;match st,h1 with
   | [z],_=>exact⟨by simp,z,S⟩
  ·cases h
 | n :: r,st,i,hr,hi,S,h=>by
  have hlt:i<l.length:=by have:=congrArg List.length hr;simp at this;omega
  have hn:l[i]?=some n:=by
   have:=congrArg List.head? hr;rw [kW] at this
   exact this
  have hr':l.drop (i+1)=r:=by rw [<-gY,hr];rfl
  rw [ZO] at h;split at h
  ·rename_i h1;exact absurd h h1
  ·rename_i h1;have h0:ZH n=0:=by simpa using h1
   split at h
   ·cases h
   ·rename_i s hs;obtain⟨q1,q2⟩:=QiU l r _ (i+1) hr' hlt (Qoa hn h0 S hs) h;refine⟨fun m hm=>?_,q2⟩
    rcases bS.1 hm with rfl|hm
    ·exact h0
    ·exact q1 m hm
theorem Qpq {l:List Nd}{z:Int}{e:Nat}(S:Stk l [z] e):Blk l 0 e:=by
 cases S with
 | push S B=>
  cases S with
  | nil=>exact B
structure OkE (l:List Nd):Prop where
 n:∀ n ∈ l,ZH n=0
 b:Blk l 0 l.length
theorem Jk {l:List Nd}(h:ZO [] 0 l=0):OkE l:=by
 obtain⟨h1,z,h2⟩:=QiU l l [] 0 rfl (cE _) .nil h;exact⟨h1,Qpq h2⟩
theorem Yq {l:List Nd}(h:K3 l=0):OkE l/\l.length<=40:=by
 unfold K3 at h;split at h
 ·cases h
 ·exact⟨Jk h,by omega⟩
theorem OkE.pos {l:List Nd}(O:OkE l):0<l.length:=O.b.lt.1
theorem Blk.sub {l:List Nd}{f e:Nat}(B:Blk l f e):∀ i,f<=i->i<e->∃ g,f<=g/\Blk l g (i+1):=by
 induction B with
 | @leaf j n h h0=>
   intro i h1 h2;obtain rfl:i=j:=by omega
   exact⟨i,cB _,.leaf h h0⟩
 | @one f j n B h h0 hx ih=>
  intro i h1 h2;by_cases hij:i=j
  ·subst hij;exact⟨f,cB _,.one B h h0 hx⟩
  ·exact ih i h1 (by omega)
 | @two f g j n B B' h h0 hx hy ih1 ih2=>
  intro i h1 h2;have:=B.lt;by_cases hij:i=j
  ·subst hij;exact⟨f,cB _,.two B B' h h0 hx hy⟩
  ·by_cases hg:i<g
   ·exact ih1 i h1 hg
   ·obtain⟨k,hk,hb⟩:=ih2 i (by omega) (by omega)
    exact⟨k,by omega,hb⟩
structure WfN (i:Nat)(n:Nd):Prop where
 a:0<=arI n.op
 f:n.op=2->0<=n.n/\n.n<=3
 x:1<=arI n.op->0<=n.x/\n.x<i
 y:2<=arI n.op->0<=n.y/\n.y<i
def WfL (l:List Nd):Prop:=∀(i:Nat)(n:Nd),l[i]?=some n->WfN i n
theorem Qpr {n:Nd}(h:ZH n=0)(h2:n.op=2):0<=n.n/\n.n<=3:=by
 unfold ZH at h;split at h
 ·cases h
 ·split at h
  ·cases h
  ·split at h
   ·cases h
   ·omega
theorem OkE.wf {l:List Nd}(O:OkE l):WfL l:=by
 intro i n hn;have hlt:=(bG.1 hn).1
 have h0:=O.n n (cF hn);obtain⟨g,_,B⟩:=O.b.sub i (cE _) hlt;refine⟨Qa1 h0,Qpr h0,fun h1=>?_,fun h1=>?_⟩
 ·cases B with
  | leaf h ha=>rw [hn] at h;cases h;omega
  | one B h ha hx=>rw [hn] at h;cases h;have:=B.lt;omega
  | two B B' h ha hx hy=>rw [hn] at h;cases h;have:=B.lt;have:=B'.lt;omega
 ·cases B with
  | leaf h ha=>rw [hn] at h;cases h;omega
  | one B h ha hx=>rw [hn] at h;cases h;omega
  | two B B' h ha hx hy=>rw [hn] at h;cases h;have:=B.lt;have:=B'.lt;omega
def shN (d:Int)(n:Nd):Nd:={ n with x:=if 0<arI n.op then n.x+d else n.x,y:=if 1<arI n.op then n.y+d else n.y }
theorem Qir (d:Int)(n:Nd):(shN d n).op=n.op:=rfl
theorem QqK (n:Nd):shN 0 n=n:=by
 unfold shN;simp
theorem Qn9 {d:Int}{n:Nd}(h:ZH n=0):ZH (shN d n)=0:=by
 have ha:=Qa1 h;have hy:(arI n.op<2/\(shN d n).y≠0)↔(arI n.op<2/\n.y≠0):=by unfold shN;simp only;constructor<;>(rintro⟨h1,h2⟩;rw [bE (by omega)] at *;exact⟨h1,h2⟩)
 have hx:(arI n.op<1/\(shN d n).x≠0)↔(arI n.op<1/\n.x≠0):=by unfold shN;simp only;constructor<;>(rintro⟨h1,h2⟩;rw [bE (by omega)] at *;exact⟨h1,h2⟩)
 have e:ZH (shN d n)=ZH n:=by unfold ZH;rw [Qir];simp only [hx,hy];rfl
 rw [e];exact h
def seg (l:List Nd)(f e:Nat):List Nd:=(l.drop f).take (e-f)
theorem Qe4 {l:List Nd}{f i:Nat}{n:Nd}(hf:f<=i)(h:l[i]?=some n):seg l f (i+1)=seg l f i++[n]:=by
 unfold seg;rw [show i+1-f=(i-f)+1 by omega,k8,fP,show f+(i-f)=i by omega,h]
 rfl
theorem Qo5 {l:List Nd}{f:Nat}:seg l f f=[]:=by unfold seg;simp
theorem Qpf {l:List Nd}{f g e:Nat}(h1:f<=g)(h2:g<=e):seg l f e=seg l f g++seg l g e:=by
 unfold seg;rw [show e-f=(g-f)+(e-g) by omega,List.take_add,gY,show f+(g-f)=g by omega]
theorem Qo0 (l:List Nd):seg l 0 l.length=l:=by unfold seg;simp
theorem Blk.chk {l:List Nd}(hN:∀ n ∈ l,ZH n=0){f e:Nat}(B:Blk l f e):∀(st:List Int)(i:Nat)(r:List Nd),
  ZO st i ((seg l f e).map (shN ((i:Int)-f))++r)=ZO ((((i+(e-f):Nat):Int)-1) :: st) (i+(e-f)) r:=by
 induction B with
 | @leaf j n h h0=>
  intro st i r;rw [Qe4 (cB _) h,Qo5];simp only [dE,dD,kC,dA];rw [ZO,bE (by simp [Qn9 (hN n (cF h))])]
  unfold Wi;rw [Qir,bJ h0];simp only;rw [show j+1-j=1 by omega,show ((i+1:Nat):Int)-1=i by omega]
 | @one f j n B h h0 hx ih=>
  intro st i r;have hlt:=B.lt;rw [Qe4 (by omega) h,cJ,bX,ih]
  simp only [dD,kC,dA,dE];rw [ZO,bE (by simp [Qn9 (hN n (cF h))])]
  unfold Wi;rw [Qir,bE (by omega),bJ h0]
  have e1:(((i+(j-f):Nat):Int)-1)=(shN ((i:Int)-f) n).x:=by
   unfold shN;simp only;rw [bJ (by omega),hx]
   omega
  simp only;rw [bJ e1,show j+1-f=(j-f)+1 by omega]
  simp only;rw [show ((i+(j-f+1):Nat):Int)-1=((i+(j-f):Nat):Int) by omega,<-kG]
 | @two f g j n B B' h h0 hx hy ih1 ih2=>
  intro st i r;have hlt:=B.lt;have hlt':=B'.lt;rw [Qe4 (by omega) h,Qpf (g:=g) (by omega) (by omega),cJ,cJ,bX,bX,ih1]
  have e0:((i:Int)-f)=(((i+(g-f):Nat):Int)-g):=by omega
  have e00:(seg l g j).map (shN ((i:Int)-f))=(seg l g j).map (shN (((i+(g-f):Nat):Int)-g)):=by rw [e0]
  rw [e00,ih2];simp only [dD,kC,dA,dE];rw [ZO,bE (by simp [Qn9 (hN n (cF h))])]
  unfold Wi;rw [Qir,bE (by omega),bE (by omega)]
  have e1:(((i+(g-f):Nat):Int)-1)=(shN ((i:Int)-f) n).x:=by
   unfold shN;simp only;rw [bJ (by omega),hx]
   omega
  have e2:(((i+(g-f)+(j-g):Nat):Int)-1)=(shN ((i:Int)-f) n).y:=by
   unfold shN;simp only;rw [bJ (by omega),hy]
   omega
  simp only;rw [bJ ⟨e1,e2⟩];simp only;rw [show i+(g-f)+(j-g)+1=i+(j+1-f) by omega,show ((i+(g-f)+(j-g):Nat):Int)=((i+(j+1-f):Nat):Int)-1 by omega]
def Z0 (l:List Nd)(f e:Nat):List Nd:=(seg l f e).map (shN (-(f:Int)))
theorem Qok {l:List Nd}(hN:∀ n ∈ l,ZH n=0){f e:Nat}(B:Blk l f e):ZO [] 0 (Z0 l f e)=0:=by
 have:=B.chk hN [] 0 [];rw [dH,show ((0:Nat):Int)-f=-(f:Int) by omega] at this
 unfold Z0;rw [this];rfl
theorem Mr {l:List Nd}{f e:Nat}(B:Blk l f e):(Z0 l f e).length=e-f:=by
 have:=B.lt;unfold Z0 seg;rw [bQ,bZ,d5];omega
def Ye (op:Int)(l m:List Nd):List Nd:=l++m.map (shN l.length)++[⟨op,(l.length:Int)-1,if 1<arI op then((l.length+m.length:Nat):Int)-1 else 0,0,(0,0)⟩]
theorem ZB (op:Int)(l m:List Nd):(Ye op l m).length=l.length+m.length+1:=by simp [Ye];omega
theorem OkE.chk {l:List Nd}(O:OkE l)(st:List Int)(i:Nat)(r:List Nd):ZO st i (l.map (shN (i:Int))++r)=ZO ((((i+l.length:Nat):Int)-1) :: st) (i+l.length) r:=by
 have:=O.b.chk O.n st i r;rw [Qo0,pM,show ((i:Int)-(0:Nat))=i by omega] at this
 exact this
theorem QhV (l:List Nd):l.map (shN ((0:Nat):Int))=l:=by
 have:shN ((0:Nat):Int)=id:=by funext n;exact QqK n
 rw [this,j8]
theorem QnX:Qq (0,0):=by unfold Qq;simp
theorem Qkp {op:Int}(ho:arI op=2){l m:List Nd}(O:OkE l)(O':OkE m):ZO [] 0 (Ye op l m)=0:=by
 have h1:=O.chk [] 0 (m.map (shN (l.length:Int))++[⟨op,(l.length:Int)-1,if 1<arI op then((l.length+m.length:Nat):Int)-1 else 0,0,(0,0)⟩])
 rw [QhV,dW] at h1;unfold Ye;rw [bX,h1,O'.chk];have hF:ZH ⟨op,(l.length:Int)-1,if 1<arI op then((l.length+m.length:Nat):Int)-1 else 0,0,(0,0)⟩=0:=by
  unfold ZH;simp only;rw [bE (by omega),bE (by rintro(⟨_,h⟩|⟨_,h⟩|⟨h,_⟩|⟨h,_⟩)<;>first|exact h rfl|omega),bE (by omega),bE (by simp [QnX])]
 have hp:Wi ⟨op,(l.length:Int)-1,if 1<arI op then((l.length+m.length:Nat):Int)-1 else 0,0,(0,0)⟩ [((l.length+m.length:Nat):Int)-1,(l.length:Int)-1]=some []:=by
  unfold Wi;rw [bE (by omega:¬ arI op=0),bE (by omega:¬ arI op=1)]
  exact bJ ⟨rfl,by simp only;rw [bJ (by omega)]⟩
 rw [ZO,bE (fun h=>h hF),hp]
 rfl
theorem Qkt {op:Int}(ho:arI op=1){l:List Nd}(O:OkE l):ZO [] 0 (Ye op l [])=0:=by
 have h1:=O.chk [] 0 ([⟨op,(l.length:Int)-1,if 1<arI op then((l.length+([]:List Nd).length:Nat):Int)-1 else 0,0,(0,0)⟩])
 rw [QhV,dW] at h1;unfold Ye;rw [kC,dH,h1];have hF:ZH ⟨op,(l.length:Int)-1,if 1<arI op then((l.length+([]:List Nd).length:Nat):Int)-1 else 0,0,(0,0)⟩=0:=by
  unfold ZH;simp only;rw [bE (by omega),bE (by rw [bE (by omega)];rintro(⟨_,h⟩|⟨_,h⟩|⟨_,h⟩|⟨h,_⟩)<;>first|exact h rfl|omega),bE (by omega),bE (by simp [QnX])]
 have hp:Wi ⟨op,(l.length:Int)-1,if 1<arI op then((l.length+([]:List Nd).length:Nat):Int)-1 else 0,0,(0,0)⟩ [(l.length:Int)-1]=some []:=by
  unfold Wi;rw [bE (by omega:¬ arI op=0),bJ ho]
  exact bJ rfl
 rw [ZO,bE (fun h=>h hF),hp]
 rfl
section
variable {β:Type}(d:β)(F:Nd->β->β->β)
def fwd (l:List Nd):List β:=l.foldl (fun outs n=>outs++[F n (outs.getD n.x.toNat d) (outs.getD n.y.toNat d)]) []
def fAt (l:List Nd)(i:Nat):β:=(fwd d F l).getD i d
def Qos:Prop:=∀(n:Nd)(a b a' b':β),0<=arI n.op->(1<=arI n.op->a=a')->(2<=arI n.op->b=b')->F n a b=F n a' b'
end
section
variable {β:Type}{d:β}{F:Nd->β->β->β}
theorem QdO (l:List Nd)(n:Nd):fwd d F (l++[n])=fwd d F l++[F n ((fwd d F l).getD n.x.toNat d) ((fwd d F l).getD n.y.toNat d)]:=by
 unfold fwd;rw [fM];rfl
theorem W7 (l:List Nd):(fwd d F l).length=l.length:=by
 have key:∀(l:List Nd)(o:List β),(l.foldl (fun outs n=>outs++[F n (outs.getD n.x.toNat d) (outs.getD n.y.toNat d)]) o).length=o.length+l.length:=by
  intro l;induction l with
  | nil=>intro o;rfl
  | cons n l ih=>intro o;rw [fW,ih];simp;omega
 have:=key l [];simpa [fwd] using this
theorem Qpw (l r:List Nd):∃ t,fwd d F (l++r)=fwd d F l++t:=by
 have key:∀(l:List Nd)(o:List β),∃ t,l.foldl (fun outs n=>outs++[F n (outs.getD n.x.toNat d) (outs.getD n.y.toNat d)]) o=o++t:=by
  intro l;induction l with
  | nil=>intro o;exact⟨[],by simp⟩
  | cons n l ih=>
   intro o;rw [fW];obtain⟨t,ht⟩:=ih (o++[F n (o.getD n.x.toNat d) (o.getD n.y.toNat d)]);exact⟨_,by rw [ht,bX]⟩
 unfold fwd;rw [fM];exact key r _
theorem Qhm (l r:List Nd){i:Nat}(h:i<l.length):fAt d F (l++r) i=fAt d F l i:=by
 obtain⟨t,ht⟩:=Qpw (d:=d) (F:=F) l r;unfold fAt;rw [ht,bI,dO (by rw [W7];exact h),<-bI]
theorem UH (l:List Nd){i k:Nat}(h:i<k)(hk:k<=l.length):(fwd d F (l.take k)).getD i d=fAt d F l i:=by
 have:=Qhm (d:=d) (F:=F) (l.take k) (l.drop k) (i:=i) (by rw [bZ];omega)
 rw [dX] at this;rw [this];rfl
theorem QmY (l:List Nd){i:Nat}{n:Nd}(hn:l[i]?=some n):fwd d F (l.take (i+1))=fwd d F (l.take i)++[fAt d F l i]:=by
 have hlt:=(bG.1 hn).1
 have e:l.take (i+1)=l.take i++[n]:=by rw [k8,hn];rfl
 have e2:fAt d F l i=F n ((fwd d F (l.take i)).getD n.x.toNat d) ((fwd d F (l.take i)).getD n.y.toNat d):=by
  rw [<-UH l (jO i) hlt,e,QdO,bI,dP (by rw [W7,bZ];omega)]
  rw [W7,bZ,dU (by omega),fT]
  rfl
 rw [e,QdO,<-e2]
theorem YX (hF:Qos F){l:List Nd}{i:Nat}{n:Nd}(hn:l[i]?=some n)(W:WfN i n):fAt d F l i=F n (fAt d F l n.x.toNat) (fAt d F l n.y.toNat):=by
 have hlt:=(bG.1 hn).1
 have e:l.take (i+1)=l.take i++[n]:=by rw [k8,hn];rfl
 rw [<-UH l (jO i) hlt,e,QdO,bI,dP (by rw [W7,bZ];omega)]
 rw [W7,bZ,dU (by omega),fT]
 refine hF n _ _ _ _ W.a (fun h=>?_) fun h=>?_
 ·have:=W.x h;exact UH l (by omega) (by omega)
 ·have:=W.y h;exact UH l (by omega) (by omega)
theorem WfN.sh {i d:Nat}{n:Nd}(W:WfN i n):WfN (d+i) (shN d n) where
 a:=W.a
 f:=W.f
 x:=fun h=>by
  have h:1<=arI n.op:=h;have:=W.x h;unfold shN;simp only;rw [bJ (by omega)]
  omega
 y:=fun h=>by
  have h:2<=arI n.op:=h;have:=W.y h;unfold shN;simp only;rw [bJ (by omega)]
  omega
theorem Qoh (hF:Qos F)(hS:∀(k:Int) n a b,F (shN k n) a b=F n a b){m:List Nd}(W:WfL m)(l r:List Nd):∀ k,k<m.length->fAt d F (l++m.map (shN l.length)++r) (l.length+k)=fAt d F m k:=by
 intro k;induction k using Nat.strongRecOn with
 | _ k ih=>
  intro hk;have hm:m[k]?=some m[k]:=bD hk
  have hj:(l++m.map (shN l.length)++r)[l.length+k]?=some (shN l.length m[k]):=by
   rw [bX,dP (by omega),show l.length+k-l.length=k by omega,dO (by simpa using hk),cC,hm]
   rfl
  have Wk:=W k _ hm;rw [YX hF hj Wk.sh,YX hF hm Wk,hS];refine hF _ _ _ _ _ Wk.a (fun h=>?_) fun h=>?_
  ·have hx:=Wk.x h;have:(shN (l.length:Int) m[k]).x.toNat=l.length+m[k].x.toNat:=by
    unfold shN;simp only;rw [bJ (by omega)]
    omega
   rw [this];exact ih _ (by omega) (by omega)
  ·have hy:=Wk.y h;have:(shN (l.length:Int) m[k]).y.toNat=l.length+m[k].y.toNat:=by
    unfold shN;simp only;rw [bJ (by omega)]
    omega
   rw [this];exact ih _ (by omega) (by omega)
end
def Qch (e:EvL)(n:Int):Int × Int:=if n=0 then Kd e.1 else if n=1 then e.2.1 else if n=2 then e.2.2.1 else e.2.2.2
def Wf (e:EvL)(n:Nd)(a b:Int × Int):Int × Int:=
 if n.op=1 then n.v else if n.op=2 then Qch e n.n else if n.op=3 then Qds a else if n.op=4 then VW a else if n.op=5 then Ya (decide (a.1=0)) else doV n.op a b
abbrev vAt (e:EvL)(l:List Nd)(i:Nat):Int × Int:=fAt (0,0) (Wf e) l i
def Ju (op:Int):Int:=if op=4\/op=9\/op=10 then 2 else 1
def tyG (op:Int):Option Int->Option Int->Option Int
 | some a,some b=>if op=5 then some 2 else if (a≠0/\a≠Ju op)\/(b≠0/\b≠Ju op) then none else if op=11\/op=12 then some 2 else some (Ju op)
 | _,_=>none
def tyF (n:Nd)(a b:Option Int):Option Int:=if n.op=1 then some n.v.1 else if n.op=2 then some 1 else tyG n.op a (if arI n.op=2 then b else a)
abbrev tAt (l:List Nd)(i:Nat):Option Int:=fAt none tyF l i
theorem ar0 {op:Int}(h:0<=arI op):(arI op=0↔op=1\/op=2)/\(arI op=1↔op=3\/op=4\/op=5)/\(arI op=2↔6<=op/\op<=12):=by
 unfold arI at *
 split
 ·omega
 ·split
  ·omega
  ·split
   ·omega
   ·rename_i h1 h2 h3;rw [bE h1,bE h2,bE h3] at h;cases h
theorem Xp (e:EvL):Qos (Wf e):=by
 intro n a b a' b' h ha hb;have:=ar0 h;unfold Wf;split
 ·rfl
 ·split
  ·rfl
  ·have h1:1<=arI n.op:=by rcases Zb h with q|q|q<;>omega
   rw [ha h1];split
   ·rfl
   ·split
    ·rfl
    ·split
     ·rfl
     ·rw [hb (by rcases Zb h with q|q|q<;>omega)]
theorem XU:Qos tyF:=by
 intro n a b a' b' h ha hb;have:=ar0 h;unfold tyF;split
 ·rfl
 ·split
  ·rfl
  ·have h1:1<=arI n.op:=by rcases Zb h with q|q|q<;>omega
   rw [ha h1];split
   ·rename_i h2;rw [hb (by omega)]
   ·rfl
theorem QjC (e:EvL)(k:Int)(n:Nd)(a b:Int × Int):Wf e (shN k n) a b=Wf e n a b:=rfl
theorem KQ {n:Nd}(h1:¬ n.op=1)(h2:¬ n.op=2)(a b:Option Int):tyF n a b=tyG n.op a (if arI n.op=2 then b else a):=by
 unfold tyF;rw [bE h1,bE h2]
theorem Qnn (e:EvL){n:Nd}(h:6<=n.op)(a b:Int × Int):Wf e n a b=doV n.op a b:=by
 unfold Wf;rw [bE (by omega),bE (by omega),bE (by omega),bE (by omega),bE (by omega)]
theorem QeN (op:Int)(b:Option Int):tyG op none b=none/\tyG op b none=none:=by
 cases b<;>exact⟨rfl,rfl⟩
theorem Blk.ty {l:List Nd}(W:WfL l){f e:Nat}(B:Blk l f e):tAt l (e-1)≠none->∀ i,f<=i->i<e->tAt l i≠none:=by
 induction B with
 | @leaf j n h h0=>
   intro ht i h1 h2;obtain rfl:i=j:=by omega
   exact ht
 | @one f j n B h h0 hx ih=>
  intro ht i h1 h2;by_cases hij:i=j
  ·subst hij;exact ht
  ·have hw:=W j n h;have:=ar0 hw.a;have hlt:=B.lt;refine ih (fun hn=>ht ?_) i h1 (by omega)
   rw [jE,tAt,YX XU h hw];rw [KQ (by omega) (by omega),show n.x.toNat=j-1 by omega,(show fAt none tyF l _=none from hn)]
   exact(QeN _ _).1
 | @two f g j n B B' h h0 hx hy ih1 ih2=>
  intro ht i h1 h2;have hlt:=B.lt;have hlt':=B'.lt;have hw:=W j n h;have:=ar0 hw.a;by_cases hij:i=j
  ·subst hij;exact ht
  ·by_cases hg:i<g
   ·refine ih1 (fun hn=>ht ?_) i h1 hg
    rw [jE,tAt,YX XU h hw];rw [KQ (by omega) (by omega),show n.x.toNat=g-1 by omega,(show fAt none tyF l _=none from hn)]
    exact(QeN _ _).1
   ·refine ih2 (fun hn=>ht ?_) i (by omega) (by omega)
    rw [jE,tAt,YX XU h hw];rw [KQ (by omega) (by omega),bJ h0,show n.y.toNat=j-1 by omega,(show fAt none tyF l _=none from hn)]
    exact(QeN _ _).2
def ZM (e:EvL)(l:List Nd):Int × Int:=vAt e l (l.length-1)
def ZJ (l:List Nd):Int × Int:=match tAt l (l.length-1) with
 | some t=>(t,0)
 | none=>(0,3)
theorem WfL.join {op:Int}(ho:0<=arI op){l m:List Nd}(W:WfL l)(W':WfL m)(hl:0<l.length)(hm:2<=arI op->0<m.length)(h2:op≠2):WfL (Ye op l m):=by
 intro i n hn;unfold Ye at hn;by_cases h1:i<l.length
 ·rw [bX,dO h1] at hn
  exact W i n hn
 ·rw [bX,dP (by omega)] at hn
  by_cases h3:i-l.length<m.length
  ·rw [dO (by simpa using h3),cC,dF] at hn
   obtain⟨n',hn',rfl⟩:=hn;have:=(W' _ _ hn').sh (d:=l.length);rw [show l.length+(i-l.length)=i by omega] at this
   exact this
  ·rw [dP (by simp;omega),List.getElem?_singleton] at hn
   split at hn
   ·rename_i h4;cases hn;rw [bQ] at h4;refine⟨ho,fun h=>absurd h h2,fun h=>?_,fun h=>?_⟩
    ·simp only;omega
    ·simp only at h ⊢;have:=hm h;rw [bJ (by omega)]
     omega
   ·cases hn
theorem QkK (e:EvL){op:Int}(ho:arI op=2){l m:List Nd}(W:WfL l)(W':WfL m)(hl:0<l.length)(hm:0<m.length):ZM e (Ye op l m)=doV op (ZM e l) (ZM e m):=by
 have ha:=ar0 (op:=op) (by omega)
 have WJ:=WfL.join (op:=op) (by omega) W W' hl (fun _=>hm) (by omega)
 unfold ZM;rw [ZB,show l.length+m.length+1-1=l.length+m.length by omega]
 have hj:(Ye op l m)[l.length+m.length]?=some ⟨op,(l.length:Int)-1,if 1<arI op then((l.length+m.length:Nat):Int)-1 else 0,0,(0,0)⟩:=by
  unfold Ye;rw [dP (by simp)]
  simp
 rw [vAt,YX (Xp e) hj (WJ _ _ hj)];rw [Qnn e (by simp only;omega)]
 simp only;rw [bJ (by omega:1<arI op)]
 have e1:((l.length:Int)-1).toNat=l.length-1:=by omega
 have e2:(((l.length+m.length:Nat):Int)-1).toNat=l.length+(m.length-1):=by omega
 rw [e1,e2];have q1:fAt (0,0) (Wf e) (Ye op l m) (l.length-1)=fAt (0,0) (Wf e) l (l.length-1):=by
  unfold Ye;rw [bX];exact Qhm _ _ (by omega)
 have q2:fAt (0,0) (Wf e) (Ye op l m) (l.length+(m.length-1))=fAt (0,0) (Wf e) m (m.length-1):=
  Qoh (Xp e) (QjC e) W' l _ _ (by omega)
 rw [q1,q2]
end Go.Proofs.YthicpjafcpfjoaaGreatDoor
namespace Go.Txt
open Go.Lib
def isD (c:UInt8):Prop:=48<=c.toNat/\c.toNat<=57
instance (c:UInt8):Decidable (isD c):=by unfold isD;infer_instance
def dv (c:UInt8):Nat:=c.toNat-48
def K4:Nat->LuT->Nat
 | a,[]=>a
 | a,c :: l=>K4 (10*a+dv c) l
theorem QgG:∀(l:LuT)(a:Nat)(c:UInt8),K4 a (l++[c])=10*K4 a l+dv c
 | [],a,c=>rfl
 | x :: l,a,c=>by
  exact QgG l (10*a+dv x) c
theorem QhX:∀(l:LuT)(a:Nat),a<=K4 a l
 | [],a=>cB _
 | c :: l,a=>by
  have:=QhX l (10*a+dv c);have e:K4 a (c :: l)=K4 (10*a+dv c) l:=rfl;omega
theorem ofNat_toNat {d:Nat}(h:d<10):(UInt8.ofNat (48+d)).toNat=48+d:=by
 simp;omega
theorem GU:∀ u:Nat,(∀ c ∈ decDigits u,isD c)/\K4 0 (decDigits u)=u/\decDigits u≠[]/\((decDigits u).head?=some 48->u=0):=by
 intro u;induction u using Nat.strongRecOn with
 | _ u ih=>
  by_cases h:u<10
  ·rw [decDigits_one h];have e:=ofNat_toNat h;refine⟨fun c hc=>?_,?_,by simp,fun hh=>?_⟩
   ·rw [cD] at hc;subst hc;unfold isD;omega
   ·show 10*0+dv (UInt8.ofNat (48+u))=u;unfold dv;omega
   ·simp only [List.head?_cons,bH] at hh
    have:=congrArg UInt8.toNat hh;rw [e] at this;simp at this;omega
  ·obtain⟨h1,h2,h3,h4⟩:=ih (u / 10) (by omega)
   have hd:decDigits u=decDigits (u / 10)++[UInt8.ofNat (48+u % 10)]:=by rw [decDigits,dif_neg h]
   have e:=ofNat_toNat (d:=u % 10) (by omega)
   rw [hd];refine⟨fun c hc=>?_,?_,by simp,fun hh=>?_⟩
   ·rcases bU.1 hc with hc|hc
    ·exact h1 c hc
    ·rw [cD] at hc;subst hc;unfold isD;omega
   ·rw [QgG,h2];unfold dv;omega
   ·match hx:decDigits (u / 10),h3 with
    | x :: l,_=>
     rw [hx] at hh h4;have:=h4 hh;omega
def QgK (most:Int):Int->LuT->Int
 | a,[]=>a
 | a,c :: l=>if c.toNat<48\/c.toNat>57 then -1 else if 10*a+((c.toNat:Int)-48)>most then -1 else QgK most (10*a+((c.toNat:Int)-48)) l
def Qas (l:LuT)(most:Int)(plain:Bool):Int:=if l=[]\/(plain=true/\l.head?=some 48/\1<l.length) then -1 else QgK most 0 l
theorem QdZ (most:Int):∀(l:LuT)(a:Nat),(a:Int)<=most->QgK most a l=if (∀ c ∈ l,isD c)/\(K4 a l:Int)<=most then(K4 a l:Int) else -1
 | [],a,ha=>by
  have hv0:K4 a []=a:=rfl;rw [QgK,hv0,bJ ⟨by simp,ha⟩]
 | c :: l,a,ha=>by
  have hv0:K4 a (c :: l)=K4 (10*a+dv c) l:=rfl;rw [QgK,hv0];by_cases hc:isD c
  ·have hc':=hc;unfold isD at hc';have e:(10*(a:Int)+((c.toNat:Int)-48))=((10*a+dv c:Nat):Int):=by unfold dv;omega
   rw [bE (by omega),e]
   by_cases hm:((10*a+dv c:Nat):Int)>most
   ·rw [bJ hm,bE];rintro⟨_,h⟩;have:=QhX l (10*a+dv c);omega
   ·rw [bE hm,QdZ most l _ (by omega)]
    have:(∀ x ∈ c :: l,isD x)↔∀ x ∈ l,isD x:=⟨fun h x hx=>h x (bT _ hx),fun h x hx=>by
     rcases bS.1 hx with rfl|hx
     ·exact hc
     ·exact h x hx⟩
    simp only [this]
  ·have hc':=hc;unfold isD at hc';rw [bJ (by omega),bE]
   rintro⟨h,_⟩;exact hc (h c (bY ..))
theorem Vb:∀(l:LuT)(a:Nat),(∀ c ∈ l,isD c)->K4 a l<1844674407370955162->parseUint10 a l=.ok (K4 a l)
 | [],a,_,_=>rfl
 | c :: l,a,hd,hv=>by
  have hc:=hd c (bY ..);have hc':=hc;unfold isD at hc';have hv0:K4 a (c :: l)=K4 (10*a+dv c) l:=rfl;rw [hv0] at hv ⊢;have hg:=QhX l (10*a+dv c);have ed:dv c=c.toNat-48:=rfl;rw [parseUint10,bJ hc',bE (by omega),bE (by omega)]
  have:=Vb l (10*a+dv c) (fun x hx=>hd x (bT _ hx)) hv
  rw [ed,j9] at this;rw [this,ed,j9]
theorem Qgj {n:Int}(h0:-1000000000000<=n)(h1:n<=1000000000000):atoiAll (itoa n)=.ok n:=by
 unfold itoa;split
 ·rename_i hn;obtain⟨d1,d2,d3,d4⟩:=GU n.natAbs;unfold atoiAll;simp only;rw [bJ (.inr (by decide))]
  unfold parseMag;rw [bE d3,Vb _ _ d1 (by rw [d2];omega),d2]
  simp only;rw [bE (by intro h;exact h.1 (by decide)),bE (by omega),bJ (by decide)]
  congr 1
  omega
 ·rename_i hn;obtain⟨d1,d2,d3,d4⟩:=GU n.toNat;have hp:parseMag (decDigits n.toNat)=.ok n.toNat:=by
   unfold parseMag;rw [bE d3,Vb _ _ d1 (by rw [d2];omega),d2]
  unfold atoiAll;match hx:decDigits n.toNat,d3 with
  | c :: r,_=>
   rw [hx] at d1 hp;have hc:=d1 c (bY ..);unfold isD at hc;simp only;rw [bE (by omega),hp]
   simp only;rw [bE (by omega),bE (by omega),bE (by omega)]
   congr 1
   omega
end Go.Txt
namespace Go.Proofs.YthicpjafcpfjoaaGreatDoor
def JT:LuT:=[110,117,108,108]
def KW:LuT:=[116,114,117,101]
def Wr:LuT:=[102,97,108,115,101]
open Go Go.Txt Go.Vc
abbrev Wd:=LuT
structure RS where
 ws:List Wd
 deep:Int
 f:Int
def RS.fail (s:RS)(f:Int):RS:=⟨[],s.deep,if s.f=0 then f else s.f⟩
def RS.is (s:RS)(l:List Wd):Wd × RS:=
 match s.ws with
 | []=>([],s)
 | w :: r=>if w ∈ l then(w,⟨r,s.deep,s.f⟩) else([],s)
def RS.must (s:RS)(w:Wd):RS:=if (s.is [w]).1=[] then(s.is [w]).2.fail 4 else(s.is [w]).2
def RS.number (s:RS)(most:Int):Int × RS:=
 match s.ws with
 | []=>(0,s.fail 4)
 | w :: r=>if Qas w most false<0 then(0,s.fail 4) else(Qas w most false,⟨r,s.deep,s.f⟩)
def QiD:Nd:=⟨1,0,0,0,(0,0)⟩
def ZI (op:Int)(x y:List Nd)(s:RS):List Nd × RS:=if x.length+y.length>=40 then([QiD],s.fail 2) else(Ye op x y,s)
abbrev Ps:=RS->List Nd × RS
def KF (p:Ps):Ps:=fun s=>
 let s1:RS:=⟨s.ws,s.deep+1,s.f⟩
 let s2:RS:=if s.deep+1>12 then s1.fail 2 else s1
 let r:=p s2
 (r.1,⟨r.2.ws,r.2.deep-1,r.2.f⟩)
def Xx:Wd:=[40]
def Qb4:Wd:=[41]
def Np:Wd:=[110,111,116]
def wIs:Wd:=[105,115]
def QqO:Wd:=[97,110,100]
def wOr:Wd:=[111,114]
def Gn:Wd:=[42]
def Qgf:Wd:=[43]
def Xy:Wd:=[45]
def wLt:Wd:=[60]
def wGt:Wd:=[62]
def wLe:Wd:=[60,61]
def wGe:Wd:=[62,61]
def wEq:Wd:=[61]
def wNe:Wd:=[60,62]
def YA:List Wd:=[[116],[107],[97],[98]]
def Qil (w:Wd):Int × Int:=if w=JT then(0,0) else(2,if w=KW then 1 else 0)
def YC:List Wd:=[JT,KW,Wr]
def Qet (orP:Ps):Ps:=fun s=>
 let w:=(s.is ([Xx]++YC++YA)).1
 let s1:=(s.is ([Xx]++YC++YA)).2
 if w=Xx then((KF orP s1).1,(KF orP s1).2.must Qb4)
 else if w ∈ YC then([⟨1,0,0,0,Qil w⟩],s1)
 else if w=[] then([⟨1,0,0,0,(1,(s1.number 1000000000).1)⟩],(s1.number 1000000000).2)
 else([⟨2,0,0,YA.idxOf w,(0,0)⟩],s1)
def Qau (un atom:Ps):Ps:=fun s=>
 if (s.is [Xy]).1=[] then atom s else
  ZI 3 (KF un (s.is [Xy]).2).1 [] (KF un (s.is [Xy]).2).2
def QjL (ops:List (Wd × Int))(w:Wd):Int:=((ops.find? fun p=>p.1=w).map (·.2)).getD 0
def Qg6 (next:Ps)(ops:List (Wd × Int)):Nat->List Nd->Ps
 | 0,x,s=>(x,s)
 | k+1,x,s=>if s.f≠0 then(x,s) else
  let w:=(s.is (ops.map (·.1))).1
  let s1:=(s.is (ops.map (·.1))).2
  if w=[] then(x,s1) else
   let j:=ZI (QjL ops w) x (next s1).1 (next s1).2
   Qg6 next ops k j.1 j.2
def UY (next:Ps)(ops:List (Wd × Int)):Ps:=fun s=>Qg6 next ops ((next s).2.ws.length+1) (next s).1 (next s).2
def Qkn (sum:Ps):Ps:=fun s=>
 let x:=(sum s).1
 let s0:=(sum s).2
 let w:=(s0.is [wLt,wGt,wLe,wGe,wEq,wNe,wIs]).1
 let s1:=(s0.is [wLt,wGt,wLe,wGe,wEq,wNe,wIs]).2
 let y:=(sum s1).1
 let s2:=(sum s1).2
 if w=wLt then ZI 11 x y s2
 else if w=wGt then ZI 11 y x s2
 else if w=wLe then ZI 4 (ZI 11 y x s2).1 [] (ZI 11 y x s2).2
 else if w=wGe then ZI 4 (ZI 11 x y s2).1 [] (ZI 11 x y s2).2
 else if w=wEq then ZI 12 x y s2
 else if w=wNe then ZI 4 (ZI 12 x y s2).1 [] (ZI 12 x y s2).2
 else if w=wIs then
  let n:=(s1.is [Np]).1
  let s3:=(s1.is [Np]).2.must JT
  let j:=ZI 5 x [] s3
  if n≠[] then ZI 4 j.1 [] j.2 else j
 else(x,s1)
def Qkd (no cmp:Ps):Ps:=fun s=>
 if (s.is [Np]).1=[] then cmp s else
  ZI 4 (KF no (s.is [Np]).2).1 [] (KF no (s.is [Np]).2).2
structure Mi where
 o:Ps
 n:Ps
 u:Ps
def unS (t:Mi):Ps:=Qau t.u (Qet t.o)
def Qlf (t:Mi):Ps:=UY (unS t) [(Gn,8)]
def Qnj (t:Mi):Ps:=UY (Qlf t) [(Qgf,6),(Xy,7)]
def QoF (t:Mi):Ps:=Qkn (Qnj t)
def Qhz (t:Mi):Ps:=Qkd t.n (QoF t)
def Qo9 (t:Mi):Ps:=UY (Qhz t) [(QqO,9)]
def orS (t:Mi):Ps:=UY (Qo9 t) [(wOr,10)]
def noP:Ps:=fun s=>([QiD],s)
def W6:Nat->Mi
 | 0=>⟨noP,noP,noP⟩
 | n+1=>⟨orS (W6 n),Qhz (W6 n),unS (W6 n)⟩
theorem QmV (op:Int)(x y:List Nd):1<=(Ye op x y).length:=by rw [ZB];omega
def RS.good (s:RS):Prop:=s.f≠0->s.ws=[]
structure Xw (r:List Nd × RS)(s:RS):Prop where
 len:r.2.ws.length<=s.ws.length
 ok:r.2.good
 deep:r.2.deep=s.deep
 pos:1<=r.1.length
 le:r.1.length<=40
 wf:WfL r.1
 fst:s.f≠0->r.2.f=s.f
def KP (p:Ps)(n:Nat):Prop:=∀ s:RS,s.good->s.ws.length<=n->Xw (p s) s
theorem RS.fail_good (s:RS)(f:Int):(s.fail f).good:=fun _=>rfl
theorem RS.fail_f (s:RS)(f:Int)(h:s.f≠0):(s.fail f).f=s.f:=bE h
theorem RS.is_spec (s:RS)(l:List Wd):((s.is l).1=[]/\(s.is l).2=s)\/(∃ w r,s.ws=w :: r/\w ∈ l/\(s.is l).1=w/\(s.is l).2=⟨r,s.deep,s.f⟩):=by
 unfold RS.is;split
 ·exact .inl ⟨rfl,rfl⟩
 ·rename_i w r h;split
  ·rename_i hm;exact .inr ⟨w,r,h,hm,rfl,rfl⟩
  ·exact .inl ⟨rfl,rfl⟩
structure XD (t s:RS):Prop where
 len:t.ws.length<=s.ws.length
 ok:t.good
 deep:t.deep=s.deep
 fst:s.f≠0->t.f=s.f
theorem XD.refl {s:RS}(h:s.good):XD s s:=⟨cB _,h,rfl,fun _=>rfl⟩
theorem XD.trans {t s u:RS}(a:XD t s)(b:XD u t):XD u s:=⟨dK b.len a.len,b.ok,b.deep.trans a.deep,fun h=>(b.fst (by rw [a.fst h];exact h)).trans (a.fst h)⟩
theorem W5 (s:RS)(f:Int):XD (s.fail f) s:=⟨cE _,fun _=>rfl,rfl,fun h=>s.fail_f f h⟩
theorem Ze {s:RS}(h:s.good)(l:List Wd):XD (s.is l).2 s:=by
 rcases s.is_spec l with ⟨_,e⟩|⟨w,r,h1,_,_,e⟩
 ·rw [e];exact XD.refl h
 ·rw [e];refine⟨by rw [h1];simp,fun hf=>?_,rfl,fun _=>rfl⟩
  have:=h hf;rw [h1] at this;cases this
theorem ZY {s:RS}(h:s.good)(w:Wd):XD (s.must w) s:=by
 unfold RS.must;split
 ·exact(Ze h _).trans (W5 _ _)
 ·exact Ze h _
theorem Gk {s:RS}(h:s.good)(m:Int):XD (s.number m).2 s:=by
 unfold RS.number;split
 ·exact W5 _ _
 ·rename_i w r e;split
  ·exact W5 _ _
  ·refine⟨by rw [e];simp,fun hf=>?_,rfl,fun _=>rfl⟩
   have:=h hf;rw [e] at this;cases this
theorem QcJ {s:RS}{l:List Wd}(h:(s.is l).1≠[]):(s.is l).2.ws.length+1=s.ws.length:=by
 rcases s.is_spec l with ⟨e,_⟩|⟨w,r,h1,_,_,e⟩
 ·exact absurd e h
 ·rw [e,h1];rfl
theorem Xw.goes {r:List Nd × RS}{s:RS}(k:Xw r s):XD r.2 s:=⟨k.len,k.ok,k.deep,k.fst⟩
theorem Xw.mk2 {l:List Nd}{t s:RS}(g:XD t s)(h1:1<=l.length)(h2:l.length<=40)(h3:WfL l):Xw (l,t) s:=⟨g.len,g.ok,g.deep,h1,h2,h3,g.fst⟩
theorem Qqk (n:Nd)(h:arI n.op=0)(h2:n.op=2->0<=n.n/\n.n<=3):WfL [n]:=by
 intro i m hm;match i,hm with
 | 0,hm=>
  cases hm;exact⟨by omega,h2,fun h3=>by omega,fun h3=>by omega⟩
theorem JI {t s:RS}(g:XD t s)(n:Nd)(h:arI n.op=0)(h2:n.op=2->0<=n.n/\n.n<=3):Xw ([n],t) s:=Xw.mk2 g (by simp) (by simp) (Qqk n h h2)
def Opr (op:Int):Prop:=0<=arI op/\op≠2
instance (op:Int):Decidable (Opr op):=by unfold Opr;infer_instance
theorem Qpv {op:Int}(ho:Opr op){x y:List Nd}(hx:WfL x)(hy:WfL y)(h1:1<=x.length)(h2:1<arI op->1<=y.length):WfL (Ye op x y):=
 WfL.join ho.1 hx hy h1 (fun h=>h2 (by omega)) ho.2
theorem Q9 {op:Int}(ho:Opr op){x y:List Nd}{t s:RS}(g:XD t s)(hx:WfL x)(hy:WfL y)(h1:1<=x.length)(h2:1<arI op->1<=y.length):Xw (ZI op x y t) s:=by
 unfold ZI;split
 ·exact JI (g.trans (W5 _ _)) QiD (by decide) (by decide)
 ·exact Xw.mk2 g (QmV _ _ _) (by rw [ZB];omega) (Qpv ho hx hy h1 h2)
theorem Wc:WfL []:=fun i n h=>by simp at h
theorem Kg {p:Ps}{n:Nat}(hp:KP p n){t s:RS}(g:XD t s)(hl:t.ws.length<=n):Xw (KF p t) s:=by
 unfold KF;have key:∀ u:RS,u.good->u.ws.length<=n->XD u ⟨t.ws,t.deep+1,t.f⟩->Xw ((p u).1,⟨(p u).2.ws,(p u).2.deep-1,(p u).2.f⟩) s:=by
  intro u hu hul gu;have k:=hp u hu hul;refine⟨dK k.len (dK gu.len g.len),k.ok,?_,k.pos,k.le,k.wf,fun h=>?_⟩
  ·have e1:=k.deep;have e2:=gu.deep;have e3:=g.deep;simp only at e2 ⊢;omega
  ·have e1:=g.fst h;have e2:=gu.fst (by show t.f≠0;rw [e1];exact h)
   have e3:=k.fst (by rw [e2];show t.f≠0;rw [e1];exact h)
   exact e3.trans (e2.trans e1)
 by_cases hd:t.deep+1>12
 ·simp only [bJ hd];exact key _ (RS.fail_good _ _) (cE _) (W5 _ _)
 ·simp only [bE hd];exact key _ g.ok hl (XD.refl g.ok)
theorem QkG {o:Ps}{n:Nat}(ho:KP o n):KP (Qet o) (n+1):=by
 intro s hs hl;have g:=Ze hs ([Xx]++YC++YA);have tk:=@QcJ s ([Xx]++YC++YA);unfold Qet;simp only;split
 ·rename_i hw;have k:=Kg ho g (by have:=tk (by rw [hw];decide);omega)
  have gm:=ZY k.ok Qb4;exact Xw.mk2 (k.goes.trans gm) k.pos k.le k.wf
 ·split
  ·exact JI g _ (by simp [arI]) (by simp)
  ·split
   ·exact JI (g.trans (Gk g.ok _)) _ (by simp [arI]) (by simp)
   ·rename_i h1 h2 h3;refine JI g _ (by simp [arI]) (fun _=>?_)
    have hw:(s.is ([Xx]++YC++YA)).1 ∈ YA:=by
     rcases s.is_spec ([Xx]++YC++YA) with ⟨e,_⟩|⟨w,r,_,hm,e,_⟩
     ·exact absurd e h3
     ·rw [e] at h1 h2 ⊢;rcases bU.1 hm with h4|h4
      ·rcases bU.1 h4 with h5|h5
       ·exact absurd (by simpa using h5) h1
       ·exact absurd h5 h2
      ·exact h4
    have:=List.idxOf_lt_length_of_mem hw;have e4:YA.length=4:=rfl;constructor<;>simp only<;>omega
theorem Qjj {u a:Ps}{n:Nat}(hu:KP u n)(ha:KP a (n+1)):KP (Qau u a) (n+1):=by
 intro s hs hl;have g:=Ze hs [Xy];have tk:=@QcJ s [Xy];unfold Qau;split
 ·exact ha s hs hl
 ·rename_i hw;have k:=Kg hu g (by have:=tk hw;omega)
  exact Q9 (by decide) k.goes k.wf Wc k.pos (by decide)
theorem QmL {u a:Ps}{n:Nat}(hu:KP u n)(ha:KP a (n+1)):KP (Qkd u a) (n+1):=by
 intro s hs hl;have g:=Ze hs [Np];have tk:=@QcJ s [Np];unfold Qkd;split
 ·exact ha s hs hl
 ·rename_i hw;have k:=Kg hu g (by have:=tk hw;omega)
  exact Q9 (by decide) k.goes k.wf Wc k.pos (by decide)
theorem Qiv {ops:List (Wd × Int)}(ho:∀ q ∈ ops,Opr q.2){w:Wd}(hw:w ∈ ops.map (·.1)):Opr (QjL ops w):=by
 unfold QjL;cases h:ops.find? (fun p=>p.1=w) with
 | none=>
  obtain⟨q,hq,rfl⟩:=cZ.1 hw;have:=List.find?_eq_none.1 h q hq
  simp at this
 | some q=>exact ho q (mX h)
theorem Qk4 {s:RS}{l:List Wd}(h:(s.is l).1≠[]):(s.is l).1 ∈ l:=by
 rcases s.is_spec l with ⟨e,_⟩|⟨w,r,_,hm,e,_⟩
 ·exact absurd e h
 ·rw [e];exact hm
theorem Qfd {p:Ps}{n:Nat}(hp:KP p n){ops:List (Wd × Int)}(ho:∀ q ∈ ops,Opr q.2):∀(k:Nat)(x:List Nd)(t s:RS),XD t s->t.ws.length<=n->1<=x.length->x.length<=40->WfL x->Xw (Qg6 p ops k x t) s
 | 0,x,t,s,g,_,h1,h2,h3=>Xw.mk2 g h1 h2 h3
 | k+1,x,t,s,g,hl,h1,h2,h3=>by
  have gi:=Ze g.ok (ops.map (·.1))
  have gm:=@Qk4 t (ops.map (·.1))
  rw [Qg6];by_cases hf:t.f≠0
  ·rw [bJ hf];exact Xw.mk2 g h1 h2 h3
  ·rw [bE hf];simp only;generalize t.is (ops.map (·.1))=A at gi gm ⊢
   obtain⟨w,s1⟩:=A;simp only at gi gm ⊢;by_cases hw:w=[]
   ·rw [bJ hw];exact Xw.mk2 (g.trans gi) h1 h2 h3
   ·rw [bE hw];have hop:=Qiv ho (gm hw);have kn:=hp s1 gi.ok (dK gi.len hl);generalize QjL ops w=op at hop ⊢;generalize p s1=r at kn ⊢;have kj:Xw (ZI op x r.1 r.2) s:=Q9 hop ((g.trans gi).trans kn.goes) h3 kn.wf h1 (fun _=>kn.pos)
    have ka:Xw (ZI op x r.1 r.2) t:=Q9 hop (gi.trans kn.goes) h3 kn.wf h1 (fun _=>kn.pos)
    generalize ZI op x r.1 r.2=j at kj ka ⊢;exact Qfd hp ho k j.1 j.2 s kj.goes (dK ka.len hl) kj.pos kj.le kj.wf
theorem MN {p:Ps}{n:Nat}(hp:KP p n){ops:List (Wd × Int)}(ho:∀ q ∈ ops,Opr q.2):KP (UY p ops) n:=by
 intro s hs hl;have k:=hp s hs hl;exact Qfd hp ho _ _ _ _ k.goes (dK k.len hl) k.pos k.le k.wf
theorem Qmm {p:Ps}{n:Nat}(hp:KP p n):KP (Qkn p) n:=by
 intro s hs hl;have k:=hp s hs hl;have g:=Ze k.ok [wLt,wGt,wLe,wGe,wEq,wNe,wIs];have k2:=hp _ g.ok (dK g.len (dK k.len hl));have gg:=(k.goes.trans g).trans k2.goes;unfold Qkn;simp only;split
 ·exact Q9 (by decide) gg k.wf k2.wf k.pos (fun _=>k2.pos)
 ·split
  ·exact Q9 (by decide) gg k2.wf k.wf k2.pos (fun _=>k.pos)
  ·split
   ·have j:=Q9 (op:=11) (by decide) gg k2.wf k.wf k2.pos (fun _=>k.pos)
    exact Q9 (by decide) j.goes j.wf Wc j.pos (by decide)
   ·split
    ·have j:=Q9 (op:=11) (by decide) gg k.wf k2.wf k.pos (fun _=>k2.pos)
     exact Q9 (by decide) j.goes j.wf Wc j.pos (by decide)
    ·split
     ·exact Q9 (by decide) gg k.wf k2.wf k.pos (fun _=>k2.pos)
     ·split
      ·have j:=Q9 (op:=12) (by decide) gg k.wf k2.wf k.pos (fun _=>k2.pos)
       exact Q9 (by decide) j.goes j.wf Wc j.pos (by decide)
      ·split
       ·have g3:=Ze g.ok [Np];have g4:=ZY g3.ok JT;have j:=Q9 (op:=5) (by decide) (((k.goes.trans g).trans g3).trans g4) k.wf Wc k.pos (by decide)
        split
        ·exact Q9 (by decide) j.goes j.wf Wc j.pos (by decide)
        ·exact j
       ·exact Xw.mk2 (k.goes.trans g) k.pos k.le k.wf
theorem Qlz {t:Mi}{n:Nat}(h:KP t.o n/\KP t.n n/\KP t.u n):KP (orS t) (n+1)/\KP (Qhz t) (n+1)/\KP (unS t) (n+1)/\KP (Qlf t) (n+1)/\KP (Qnj t) (n+1)/\KP (QoF t) (n+1)/\KP (Qo9 t) (n+1):=by
 have h1:KP (unS t) (n+1):=Qjj h.2.2 (QkG h.1);have h2:KP (Qlf t) (n+1):=MN h1 (by decide)
 have h3:KP (Qnj t) (n+1):=MN h2 (by decide)
 have h4:KP (QoF t) (n+1):=Qmm h3;have h5:KP (Qhz t) (n+1):=QmL h.2.1 h4;have h6:KP (Qo9 t) (n+1):=MN h5 (by decide)
 exact⟨MN h6 (by decide),h5,h1,h2,h3,h4,h6⟩
theorem Qct (n:Nat):KP noP n:=fun s hs _=>JI (XD.refl hs) QiD (by decide) (by decide)
theorem Qcv (n:Nat):W6 (n+1)=⟨orS (W6 n),Qhz (W6 n),unS (W6 n)⟩:=rfl
theorem Qcy (n:Nat):KP (W6 n).o n/\KP (W6 n).n n/\KP (W6 n).u n:=by
 induction n with
 | zero=>exact⟨Qct 0,Qct 0,Qct 0⟩
 | succ n ih=>
  have h:=Qlz ih;rw [Qcv];exact⟨h.1,h.2.1,h.2.2.1⟩
def ZF:Wd:=[99,111,117,110,116]
def V1:Wd:=[115,117,109]
def VM:Wd:=[109,105,110]
def V6:Wd:=[109,97,120]
def XA:Wd:=[44]
def U7:Wd:=[115,101,108,101,99,116]
def Qgm:Wd:=[102,114,111,109]
def QbJ:Wd:=[101,118,101,110,116,115]
def KM:Wd:=[119,104,101,114,101]
def WT:Wd:=[103,114,111,117,112]
def wBy:Wd:=[98,121]
def MI:Wd:=[119,105,110,100,111,119]
def Qcm:Wd:=[115,108,105,100,101]
def Qck:Wd:=[100,101,108,97,121]
def Qgv:Wd:=[108,97,116,101]
abbrev Ag:=Int × List Nd
structure Qy where
 aggs:List Ag
 wh:List Nd
 by_:List Nd
 size:Int
 slide:Int
 delay:Int
 late:Int
def noQ:Qy:=⟨[],[],[],0,0,0,0⟩
def QdE (w:Wd):Int:=if w=ZF then 1 else if w=V1 then 3 else if w=VM then 4 else if w=V6 then 5 else 0
def UR (o:Ps)(s:RS):Ag × RS:=
 let w:=(s.is [ZF,V1,VM,V6]).1
 let s1:=(s.is [ZF,V1,VM,V6]).2
 let s2:=(if w=[] then s1.fail 4 else s1).must Xx
 if w=ZF/\(s2.is [Gn]).1≠[] then((1,[]),(s2.is [Gn]).2.must Qb4)
 else((if w=ZF then 2 else QdE w,(o s2).1),(o s2).2.must Qb4)
def UT (o:Ps):Nat->List Ag->RS->List Ag × RS
 | 0,l,s=>(l,s)
 | k+1,l,s=>if (s.is [XA]).1=[] then(l,s) else UT o k (l++[(UR o (s.is [XA]).2).1]) (UR o (s.is [XA]).2).2
def Nm (w:Wd)(p:RS->List Nd × RS)(s:RS):List Nd × RS:=if (s.is [w]).1=[] then([],s) else p (s.is [w]).2
def Qbm (w:Wd)(d:Int)(s:RS):Int × RS:=if (s.is [w]).1=[] then(d,s) else(s.is [w]).2.number 1000
def Qc3 (ws:List Wd):Qy × RS:=
 let o:=(W6 (ws.length+1)).o
 let a:=UR o ((⟨ws,0,0⟩:RS).must U7)
 let l:=UT o (a.2.ws.length+1) [a.1] a.2
 let e:=(l.2.must Qgm).must QbJ
 let w:=Nm KM o e
 let g:=Nm WT (fun s=>o (s.must wBy)) w.2
 let z:=(g.2.must MI).number 1000
 let sl:=Qbm Qcm z.1 z.2
 let d:=Qbm Qck 0 sl.2
 let t:=Qbm Qgv 0 d.2
 (⟨l.1,w.1,g.1,z.1,sl.1,d.1,t.1⟩,if t.2.f=0/\t.2.ws≠[] then t.2.fail 4 else t.2)
def QcZ (l:List Nd):Prop:=l.length<=40/\WfL l
theorem Xw.nds {r:List Nd × RS}{s:RS}(k:Xw r s):QcZ r.1:=⟨k.le,k.wf⟩
theorem QhZ:QcZ []:=⟨by simp,Wc⟩
theorem Qbi {o:Ps}{n:Nat}(ho:KP o n){s:RS}(hs:s.good)(hl:s.ws.length<=n):XD (UR o s).2 s/\QcZ (UR o s).1.2:=by
 have g1:=Ze hs [ZF,V1,VM,V6];have g2:XD ((if (s.is [ZF,V1,VM,V6]).1=[] then(s.is [ZF,V1,VM,V6]).2.fail 4 else(s.is [ZF,V1,VM,V6]).2).must Xx) s:=by
  split
  ·exact(g1.trans (W5 _ _)).trans (ZY (RS.fail_good _ _) _)
  ·exact g1.trans (ZY g1.ok _)
 unfold UR;simp only;generalize (if (s.is [ZF,V1,VM,V6]).1=[] then(s.is [ZF,V1,VM,V6]).2.fail 4 else(s.is [ZF,V1,VM,V6]).2).must Xx=s2 at g2 ⊢
 have g3:=Ze g2.ok [Gn];have k:=ho s2 g2.ok (dK g2.len hl);split
 ·exact⟨(g2.trans g3).trans (ZY g3.ok _),QhZ⟩
 ·exact⟨(g2.trans k.goes).trans (ZY k.ok _),k.nds⟩
theorem QgE {o:Ps}{n:Nat}(ho:KP o n):∀(k:Nat)(l:List Ag) {s:RS},s.good->s.ws.length<=n->(∀ a ∈ l,QcZ a.2)->XD (UT o k l s).2 s/\∀ a ∈ (UT o k l s).1,QcZ a.2
 | 0,l,s,hs,_,hL=>⟨XD.refl hs,hL⟩
 | k+1,l,s,hs,hl,hL=>by
  rw [UT];split
  ·exact⟨XD.refl hs,hL⟩
  ·have g1:=Ze hs [XA];have g2:=Qbi ho g1.ok (dK g1.len hl);have g3:=QgE ho k (l++[(UR o (s.is [XA]).2).1]) g2.1.ok (dK (dK g2.1.len g1.len) hl) (by
    intro a ha;rcases bU.1 ha with h1|h1
    ·exact hL a h1
    ·rw [cD.1 h1];exact g2.2)
   exact⟨(g1.trans g2.1).trans g3.1,g3.2⟩
end Go.Proofs.YthicpjafcpfjoaaGreatDoor
namespace Go.Proofs.YthicpjafcpfjoaaGreatDoor
open Go Go.Vc
theorem QfP {u0:Int}{h:Hp}{R:RtT}(H:((cond (decide (u0>=97)) (decide (u0<=122)) false)=true->R (vk .u8 97) h)/\((cond (decide (u0>=97)) (decide (u0<=122)) false)=false->((cond (decide (u0>=48)) (decide (u0<=57)) false)=true->R (vk .u8 48) h)/\((cond (decide (u0>=48)) (decide (u0<=57)) false)=false->Qa Pg 198 [(vs ⟨#[40,41,44,42,43,45,60,62,61]⟩),(vk .u8 u0)] h fun v1 h2=>∃ x3,v1=vi x3/\((decide (x3>=0))=true->R (vk .u8 40) h2)/\((decide (x3>=0))=false->R (vk .u8 32) h2)))):Qa Pg 138 [(vk .u8 u0)] h R:=callO Tryz.func138 [.one (.v (vk .u8 u0))] H
theorem Qg4 {u0:ByteArray}{u1:Int}{h:Hp}{R:RtT}(H:∃ x1,Rd Pg (Instr.index 9 (vs u0) (vi u1)) h (vk .u8 x1)/\Qa Pg 138 [(vk .u8 x1)] h fun v2 h3=>∃ x4,v2=vk .u8 x4/\∃ x5,IsW x5 (u1+1)/\((decide (x4=40))=true->∃ x6,((decide (x5<((ByteArray.size u0:Nat):Int)))=true->Rd Pg (Instr.index 9 (vs u0) (vi u1)) h3 (vk .u8 x6))/\∃ x7,(((decide (x5<((ByteArray.size u0:Nat):Int)))=true/\(decide (x6=60))=true)->Rd Pg (Instr.index 9 (vs u0) (vi x5)) h3 (vk .u8 x7))/\∃ x8,((((decide (x5<((ByteArray.size u0:Nat):Int)))=true/\(decide (x6=60))=true)/\(decide (x7=61))=false)->Rd Pg (Instr.index 9 (vs u0) (vi x5)) h3 (vk .u8 x8))/\∃ x9,(((decide (x5<((ByteArray.size u0:Nat):Int)))=true/\(cond (decide (x6=60)) (cond (decide (x7=61)) true (decide (x8=62))) false)=false)->Rd Pg (Instr.index 9 (vs u0) (vi u1)) h3 (vk .u8 x9))/\∃ x10,((((decide (x5<((ByteArray.size u0:Nat):Int)))=true/\(cond (decide (x6=60)) (cond (decide (x7=61)) true (decide (x8=62))) false)=false)/\(decide (x9=62))=true)->Rd Pg (Instr.index 9 (vs u0) (vi x5)) h3 (vk .u8 x10))/\let J14:Int->Prop:=fun x15=>R (vi x15) h3;((cond (decide (x5<((ByteArray.size u0:Nat):Int))) (cond (cond (decide (x6=60)) (cond (decide (x7=61)) true (decide (x8=62))) false) true (cond (decide (x9=62)) (decide (x10=61)) false)) false)=true->∃ x11,IsW x11 (x5+1)/\J14 x11)/\((cond (decide (x5<((ByteArray.size u0:Nat):Int))) (cond (cond (decide (x6=60)) (cond (decide (x7=61)) true (decide (x8=62))) false) true (cond (decide (x9=62)) (decide (x10=61)) false)) false)=false->J14 x5))/\((decide (x4=40))=false->∃(I18:LtT)(m19:LmT),I18 [vi x5] h3/\∀ vs20 h21,I18 vs20 h21->∃ x22,vs20=[vi x22]/\∃ x23,((decide (x22<((ByteArray.size u0:Nat):Int)))=true->Rd Pg (Instr.index 9 (vs u0) (vi x22)) h21 (vk .u8 x23))/\∃(J24:ShT),((decide (x22<((ByteArray.size u0:Nat):Int)))=true->Qa Pg 138 [(vk .u8 x23)] h21 fun v25 h26=>∃ x27,v25=vk .u8 x27/\J24 (.t (.one (.v (vk .u8 x27)))) h26)/\(¬((decide (x22<((ByteArray.size u0:Nat):Int)))=true)->J24 (.t (.one (.v (vk .u8 0)))) h21)/\∀ h28 x29,J24 (.t (.one (.v (vk .u8 x29)))) h28->((cond (decide (x22<((ByteArray.size u0:Nat):Int))) (decide (x29=x4)) false)=true->∃ x32,IsW x32 (x22+1)/\I18 [vi x32] h28/\m19 [vi x32] h28<m19 vs20 h21)/\((cond (decide (x22<((ByteArray.size u0:Nat):Int))) (decide (x29=x4)) false)=false->R (vi x22) h28))):Qa Pg 139 [vs u0,vi u1] h R:=callC ⟨[],[(7,([6],[.one (.int .i64)],[]))],[]⟩ Tryz.func139 [.one (.v (vs u0)),.one (.v (vi u1))] H
theorem QdJ {u0:ByteArray}{h:Hp}{R:RtT}(H:((decide ((((ByteArray.size u0:Nat):Int):Int)>240))=true->R (Qf [vsl none 0 0,(ifv (some (119,vi 2)))]) h)/\((decide ((((ByteArray.size u0:Nat):Int):Int)>240))=false->∃(I3:LtT)(m4:LmT),I3 [vsl none 0 0,vi 0] h/\∀ vs5 h6,I3 vs5 h6->∃ a7 n7 c7 x8,vs5=[vsl a7 n7 c7,vi x8]/\((decide (x8<((ByteArray.size u0:Nat):Int)))=true->∃ x11,Rd Pg (Instr.index 9 (vs u0) (vi x8)) h6 (vk .u8 x11)/\((decide (x11=32))=true->∃ x12,IsW x12 (x8+1)/\I3 [vsl a7 n7 c7,vi x12] h6/\m4 [vsl a7 n7 c7,vi x12] h6<m4 vs5 h6)/\((decide (x11=32))=false->∃ x14,Rd Pg (Instr.index 9 (vs u0) (vi x8)) h6 (vk .u8 x14)/\Qa Pg 138 [(vk .u8 x14)] h6 fun v15 h16=>∃ x17,v15=vk .u8 x17/\((decide (x17=32))=true->R (Qf [vsl none 0 0,(ifv (some (119,vi 4)))]) h16)/\((decide (x17=32))=false->Qa Pg 139 [vs u0,vi x8] h16 fun v19 h20=>∃ x21,v19=vi x21/\∃ s22,Rd Pg (Instr.sliceAt 9 (vs u0) (some (vi x8)) (some (vi x21)) none) h20 (vs s22)/\∀ b23,h20 b23=none->let h24:=Hp.set h20 b23 (Qb [vs s22] 9);Qh Pg (Builtin.append_ #[162,162] 162 #[vsl a7 n7 c7,(vsl (some ⟨b23,0,none⟩) 1 1)]) h24 fun v25 h26=>∃ a27 n27 c27,v25=vsl a27 n27 c27/\((decide ((n27:Int)>80))=true->R (Qf [vsl none 0 0,(ifv (some (119,vi 2)))]) h26)/\((decide ((n27:Int)>80))=false->I3 [vsl a27 n27 c27,vi x21] h26/\m4 [vsl a27 n27 c27,vi x21] h26<m4 vs5 h6))))/\((decide (x8<((ByteArray.size u0:Nat):Int)))=false->R (Qf [vsl a7 n7 c7,ifv none]) h6))):Qa Pg 82 [vs u0] h R:=callC ⟨[],[(5,([4,5],[.one (.slice),.one (.int .i64)],[]))],[]⟩ Tryz.func82 [.one (.v (vs u0))] H
theorem Gl {u0:ByteArray}{u1:Int}{h:Hp}{R:RtT}(H:Qa Pg 237 [vs u0,(vk .u8 u1)] h fun v1 h2=>∃ x3,v1=vi x3/\R (vi x3) h2 ):Qa Pg 198 [vs u0,(vk .u8 u1)] h R:=callO Tryz.func198 [.one (.v (vs u0)),.one (.v (vk .u8 u1))] H
theorem Wj {u0:ByteArray}{u1:Int}{h:Hp}{R:RtT}(H:Qbk Pg 266 [vs u0,(vk .u8 u1)] h fun v1 h2=>∃ x3,v1=vi x3/\R (vi x3) h2 ):Qa Pg 237 [vs u0,(vk .u8 u1)] h R:=callO Tryz.func237 [.one (.v (vs u0)),.one (.v (vk .u8 u1))] H
theorem QpS:ElT Pg 162 9 1 16:=.of (by kernel_rfl) (by kernel_rfl) (by decide)
def isL (c:UInt8):Bool:=decide (97<=c.toNat)&&decide (c.toNat<=122)
def Qm9 (c:UInt8):Bool:=decide (48<=c.toNat)&&decide (c.toNat<=57)
def isS (c:UInt8):Bool:=c == 40||c == 41||c == 44||c == 42||c == 43||c == 45||c == 60||c == 62||c == 61
def K1 (c:UInt8):Nat:=if isL c then 97 else if Qm9 c then 48 else if isS c then 40 else 32
def Qho (p:UInt8->Bool)(l:LuT):Nat:=(l.takeWhile p).length
def Qdd (l:LuT)(i:Nat):Nat:=
 if K1 (l.getD i 0)=40 then(if i+1<l.length/\(l.getD i 0=60/\(l.getD (i+1) 0=61\/l.getD (i+1) 0=62)\/l.getD i 0=62/\l.getD (i+1) 0=61) then i+2 else i+1)
 else i+1+Qho (fun c=>K1 c == K1 (l.getD i 0)) (l.drop (i+1))
def Qe9 (l:LuT):Nat->Nat->List (LuT)->List (LuT) × Int
 | 0,_,acc=>(acc,0)
 | k+1,i,acc=>if l.length<=i then(acc,0) else if l.getD i 0=32 then Qe9 l k (i+1) acc else if K1 (l.getD i 0)=32 then([],4) else
   if acc.length+1>80 then([],2) else Qe9 l k (Qdd l i) (acc++[(l.drop i).take (Qdd l i-i)])
def XZ (l:LuT):List (LuT) × Int:=if l.length>240 then([],2) else Qe9 l (l.length+1) 0 []
theorem Qgt {l:LuT}{n:Nat}(h:n<l.length):l.drop n=l.getD n 0 :: l.drop (n+1):=by
 rw [dS h,bI,bD h]
 rfl
theorem Qny {p:UInt8->Bool}{l:LuT}{n:Nat}(h:n<l.length)(hp:p (l.getD n 0)=true):Qho p (l.drop n)=1+Qho p (l.drop (n+1)):=by
 unfold Qho;rw [Qgt h,List.takeWhile_cons,bJ hp,cH,mQ]
theorem QlL {p:UInt8->Bool}{l:LuT}{n:Nat}(hp:n<l.length->p (l.getD n 0)=false):Qho p (l.drop n)=0:=by
 unfold Qho;by_cases h:n<l.length
 ·rw [Qgt h,List.takeWhile_cons,bE (by rw [hp h];simp)]
  rfl
 ·rw [gL (by omega)]
  rfl
theorem Qpu (p:UInt8->Bool)(l:LuT):Qho p l<=l.length:=(List.takeWhile_sublist _).length_le
theorem QoN (l:LuT)(i:Nat):i<Qdd l i:=by
 unfold Qdd;split
 ·split<;>omega
 ·omega
theorem Qpa {l:LuT}{i:Nat}(h:i<l.length):Qdd l i<=l.length:=by
 unfold Qdd;have:=Qpu (fun c=>K1 c == K1 (l.getD i 0)) (l.drop (i+1))
 rw [d5] at this;split
 ·split<;>omega
 ·omega
theorem Qjz {c d:UInt8}:((c.toNat:Nat):Int)=(d.toNat:Nat)↔c=d:=by
 constructor
 ·intro h;exact UInt8.toNat_inj.1 (by omega)
 ·rintro rfl;rfl
theorem Qo6:∀ n:Fin 256,(decide (firstIdx (bs [40,41,44,42,43,45,60,62,61]) (UInt8.ofNat n.val)>=0))=isS (UInt8.ofNat n.val):=by decide +kernel
theorem Um {c:UInt8}{h:Hp}{R:RtT}(hK:R (vk .u8 ((K1 c:Nat):Int)) h):Qa Pg 138 [vk .u8 ((c.toNat:Nat):Int)] h R:=by
 refine QfP ?_
 unfold K1 at hK;refine⟨fun e=>?_,fun e=>⟨fun e2=>?_,fun e2=>?_⟩⟩
 ·have:isL c=true:=by unfold isL;simp [cQ] at e ⊢;omega
  rw [bJ this] at hK;exact hK
 ·have h1:¬ isL c=true:=by unfold isL;simp [cQ] at e ⊢;omega
  have h2:Qm9 c=true:=by unfold Qm9;simp [cQ] at e2 ⊢;omega
  rw [bE h1,bJ h2] at hK;exact hK
 ·have h1:¬ isL c=true:=by unfold isL;simp [cQ] at e ⊢;omega
  have h2:¬ Qm9 c=true:=by unfold Qm9;simp [cQ] at e2 ⊢;omega
  rw [bE h1,bE h2] at hK;refine Gl (Wj (Qga Tryz.func266 (by kernel_rfl) (by kernel_rfl) (by kernel_rfl) (by kernel_rfl) ⟨_,rfl,_,rfl,_,rfl,?_⟩))
  have key:decide (firstIdx ⟨#[40,41,44,42,43,45,60,62,61]⟩ ((c.toNat:Nat):Int).toNat.toUInt8>=0)=isS c:=by
   have:=Qo6 ⟨c.toNat,c.toNat_lt⟩;simp only [UInt8.ofNat_toNat] at this;rw [<-this];congr 2
   simp;rfl
  refine⟨fun e3=>?_,fun e3=>?_⟩
  ·rw [key] at e3;rw [bJ e3] at hK;exact hK
  ·rw [key] at e3;rw [bE (by rw [e3];simp)] at hK
   exact hK
theorem Qhe {l:LuT}{i:Nat}{h:Hp}{R:RtT}(hi:i<l.length)(hl:l.length<=1000000)(hK:R (vi (Qdd l i:Nat)) h):Qa Pg 139 [vs (bs l),vi i] h R:=by
 refine Qg4 ?_
 rw [Yh];refine⟨_,KU (by kernel_rfl) (by omega) (by omega),Um ⟨_,rfl,_,iW,?_⟩⟩
 rw [bF];have e1:((i:Nat):Int)+1=((i+1:Nat):Int):=by omega
 rw [e1];refine⟨fun e=>?_,fun e=>?_⟩
 ·have hk:K1 (l.getD i 0)=40:=by have:=bC e;omega
  unfold Qdd at hK;rw [bJ hk] at hK;have r0:Rd Pg (Instr.index 9 (vs (bs l)) (vi i)) h (vk .u8 ((l.getD i 0).toNat:Nat)):=by
   have:=KU (P:=Pg) (h:=h) (t:=9) (by kernel_rfl) (l:=l) (i:=i) (by omega) (by omega)
   rwa [bF] at this
  have r1:∀{b:Prop},(b->i+1<l.length)->b->Rd Pg (Instr.index 9 (vs (bs l)) (vi ((i+1:Nat):Int))) h (vk .u8 ((l.getD (i+1) 0).toNat:Nat)):=by
   intro b hb hb';have:=hb hb';have:=KU (P:=Pg) (h:=h) (t:=9) (by kernel_rfl) (l:=l) (i:=((i+1:Nat):Int)) (by omega) (by omega)
   rwa [bF] at this
  refine⟨_,fun _=>r0,_,r1 (fun e=>by have:=bC e.1;omega),_,r1 (fun e=>by have:=bC e.1.1;omega),_,fun _=>r0,_,r1 (fun e=>by have:=bC e.1.1;omega),?_⟩
  have h60:decide ((((l.getD i 0).toNat:Nat):Int)=60)=decide (l.getD i 0=60):=fN.2 (Qjz (d:=60));have h62:decide ((((l.getD i 0).toNat:Nat):Int)=62)=decide (l.getD i 0=62):=fN.2 (Qjz (d:=62));have g61:decide ((((l.getD (i+1) 0).toNat:Nat):Int)=61)=decide (l.getD (i+1) 0=61):=fN.2 (Qjz (d:=61));have g62:decide ((((l.getD (i+1) 0).toNat:Nat):Int)=62)=decide (l.getD (i+1) 0=62):=fN.2 (Qjz (d:=62));rw [h60,h62,g61,g62];intro J14;refine⟨fun e=>?_,fun e=>?_⟩
  ·rw [bJ (by
    simp only [cQ] at e;generalize l.getD i 0=c0 at e ⊢;generalize l.getD (i+1) 0=c1 at e ⊢;by_cases q1:c0=60<;>by_cases q2:c1=61<;>by_cases q3:c1=62<;>by_cases q4:c0=62<;>simp [q1,q2,q3,q4] at e ⊢<;>omega)] at hK
   exact⟨_,iW,hK⟩
  ·rw [bE (by
    simp only [cQ] at e;generalize l.getD i 0=c0 at e ⊢;generalize l.getD (i+1) 0=c1 at e ⊢;by_cases q1:c0=60<;>by_cases q2:c1=61<;>by_cases q3:c1=62<;>by_cases q4:c0=62<;>simp [q1,q2,q3,q4] at e ⊢<;>omega)] at hK
   exact hK
 ·have hk:¬ K1 (l.getD i 0)=40:=by have:=bB e;omega
  unfold Qdd at hK;rw [bE hk] at hK;generalize K1 (l.getD i 0)=k at *
  refine⟨fun vs hh=>hh=h/\∃ n:Nat,vs=[vi n]/\n<=l.length/\n+Qho (fun c=>K1 c == k) (l.drop n)=i+1+Qho (fun c=>K1 c == k) (l.drop (i+1)),fun vs hh=>l.length-(Qo vs 0).toNat,⟨rfl,i+1,rfl,hi,rfl⟩,?_⟩
  rintro vs hh ⟨rfl,n,rfl,hn,hr⟩;refine⟨n,rfl,?_⟩
  by_cases hlt:n<l.length
  ·refine⟨_,fun _=>KU (by kernel_rfl) (by omega) (by omega),fun x h'=>h'=hh/\x=.t (.one (.v (vk .u8 ((K1 (l.getD n 0):Nat):Int)))),fun _=>by rw [bF];exact Um ⟨_,rfl,rfl,rfl⟩,fun e=>absurd (by simp;exact hlt) e,?_⟩
   rintro h28 x29 ⟨rfl,e29⟩;cases e29;refine⟨fun e=>?_,fun e=>?_⟩
   ·have hkk:K1 (l.getD n 0)=k:=by rw [cL (show ((n:Nat):Int)<(l.length:Nat) by omega),cX] at e;have:=bC e;omega
    refine⟨_,iW,⟨rfl,n+1,rfl,hlt,?_⟩,by simp [Qo];omega⟩
    rw [Qny hlt (by simp only [pP];exact hkk)] at hr
    omega
   ·have hkk:¬ K1 (l.getD n 0)=k:=by rw [cL (show ((n:Nat):Int)<(l.length:Nat) by omega),cX] at e;have:=bB e;omega
    rw [QlL (fun _=>by simp only [beq_eq_false_iff_ne,ne_eq];exact hkk)] at hr
    rw [<-hr] at hK;exact hK
  ·refine⟨0,fun e=>absurd hlt (by simpa using e),fun x h'=>h'=hh,fun e=>absurd hlt (by simpa using e),fun _=>rfl,?_⟩
   rintro h28 x29 rfl;refine⟨fun e=>?_,fun e=>?_⟩
   ·simp [cQ,hlt] at e
   ·rw [QlL (fun h=>absurd h hlt)] at hr
    rw [<-hr] at hK;exact hK
theorem Qfu {l:LuT}{h:Hp}{R:RtT}(hK:∀ a n c h',Qg h h' 9 1 a n c ((XZ l).1.flatMap Yj)->R (Qf [vsl a n c,ifv (if (XZ l).2=0 then none else some (119,vi (XZ l).2))]) h') :
  Qa Pg 82 [vs (bs l)] h R:=by
 refine QdJ ?_
 rw [Yh];refine⟨fun e=>?_,fun e=>?_⟩
 ·have:XZ l=([],2):=by unfold XZ;rw [bJ (by simp at e;omega)]
  rw [this] at hK;exact hK none 0 0 h (qY (qO h) _ _)
 have hl:l.length<=240:=by simp at e;omega
 have hw:XZ l=Qe9 l (l.length+1) 0 []:=by unfold XZ;rw [bE (by omega)]
 refine⟨fun vs hh=>∃(k i:Nat)(acc:List (LuT))(a:OaT)(n c:Nat),vs=[vsl a n c,vi i]/\l.length<i+k/\i<=l.length/\Qe9 l k i acc=XZ l/\Qg h hh 9 1 a n c (acc.flatMap Yj)/\acc.length<=80,
  fun vs hh=>l.length-(Qo vs 1).toNat,⟨l.length+1,0,[],none,0,0,rfl,by omega,by omega,hw.symm,qY (qO h) _ _,by simp⟩,?_⟩
 rintro vs hh ⟨k,i,acc,a,n,c,rfl,hk,hi,hf,O,hacc⟩;have hn:n=acc.length:=(O.slp Z4 (by decide)).1
 refine⟨a,n,c,i,rfl,fun e=>?_,fun e=>?_⟩
 ·have hlt:i<l.length:=by simpa using e
  obtain⟨k,rfl⟩:∃ k',k=k'+1:=⟨k-1,by omega⟩
  rw [Qe9,bE (by omega)] at hf
  refine⟨_,KU (by kernel_rfl) (by omega) (by omega),?_⟩
  rw [bF];have h32:decide ((((l.getD i 0).toNat:Nat):Int)=32)=decide (l.getD i 0=32):=fN.2 (Qjz (d:=32));rw [h32];refine⟨fun e=>?_,fun e=>?_⟩
  ·rw [bJ (by simpa using e)] at hf
   exact⟨_,iW,⟨k,i+1,acc,a,n,c,rfl,by omega,by omega,hf,O,hacc⟩,by simp [Qo];omega⟩
  rw [bE (by simpa using e)] at hf
  refine⟨_,KU (by kernel_rfl) (by omega) (by omega),?_⟩
  rw [bF];refine Um ⟨_,rfl,fun e=>?_,fun e=>?_⟩
  ·rw [bJ (by have:=bC e;omega)] at hf
   rw [<-hf] at hK;exact hK none 0 0 hh (qY O.le _ _)
  rw [bE (by have:=bB e;omega)] at hf
  have g1:=QoN l i;have g2:=Qpa hlt;refine Qhe hlt (by omega) ⟨_,rfl,_,QkT (by kernel_rfl) (by omega) (by omega) (by omega),?_⟩
  rw [bF,bF];intro b hb h24;refine q8 QpS (Qg.set hb _ O) (qW _ _ [vs (bs ((l.drop i).take (Qdd l i-i)))] _) (m:=1) rfl (by simp [Value.oneCell']) (by omega) (by omega) fun a' c' h' O' _ _=>⟨_,_,_,rfl,fun e=>?_,fun e=>?_⟩
  ·rw [bJ (by simp at e;omega)] at hf
   rw [<-hf] at hK;exact hK none 0 0 h' (qY O'.le _ _)
  ·have h80:¬ acc.length+1>80:=by simp at e;omega
   rw [bE h80] at hf;refine⟨⟨k,Qdd l i,acc++[(l.drop i).take (Qdd l i-i)],a',_,c',rfl,by omega,g2,hf,?_,by simp;omega⟩,by simp [Qo];omega⟩
   rw [cP];exact O'
 ·have hge:i=l.length:=by simp at e;omega
  have:Qe9 l k i acc=(acc,0):=by
   cases k with
   | zero=>rfl
   | succ k=>rw [Qe9,bJ (by omega)]
  rw [this] at hf;rw [<-hf] at hK;exact hK a n c hh O
open Go.Txt
def YY (l:List Nd)(kind:Int):Int:=if K3 l≠0 then K3 l else if (ZJ l).2≠0 then(ZJ l).2 else if kind≠0/\(ZJ l).1≠kind/\(ZJ l).1≠0 then 3 else 0
def VB (q:Qy):Int:=
 if q.size<1\/q.size>1000\/q.slide<1\/q.slide>1000\/q.delay<0\/q.delay>1000\/q.late<0\/q.late>1000 then 1
 else if q.slide>q.size\/q.size>4*q.slide then 3 else 0
def VO (a:Ag):Int:=if a.1<1\/a.1>5\/(a.1=1/\a.2≠[]) then 3 else if a.1=1 then 0 else YY a.2 (if a.1=2 then 0 else 1)
def Z9:List Int->Int
 | []=>0
 | f :: l=>if f≠0 then f else Z9 l
def QlB (q:Qy):Int:=Z9 [if q.wh=[] then 0 else YY q.wh 2,if q.by_=[] then 0 else YY q.by_ 0,VB q]
def Qdo (q:Qy):Int:=if q.aggs.length<1\/q.aggs.length>4 then 2 else if Z9 (q.aggs.map VO)≠0 then Z9 (q.aggs.map VO) else QlB q
def Qkj (ws:List Wd):Qy × Int:=if (Qc3 ws).2.f≠0 then(noQ,(Qc3 ws).2.f) else if Qdo (Qc3 ws).1≠0 then(noQ,Qdo (Qc3 ws).1) else((Qc3 ws).1,0)
def YV (s:LuT):Qy × Int:=if (XZ s).2≠0 then(noQ,(XZ s).2) else Qkj (XZ s).1
theorem QiV {l:List Int}{f:Int}{r:List Int}(h:∀ x ∈ l,x=0)(hf:f≠0):Z9 (l++f :: r)=f:=by
 induction l with
 | nil=>rw [dE,Z9,bJ hf]
 | cons x l ih=>
  have hx:=h x (bY ..);rw [dA,Z9,bE (by rw [hx];decide)]
  exact ih fun y hy=>h y (bT _ hy)
theorem GR {l:List Int}(h:∀ x ∈ l,x=0):Z9 l=0:=by
 induction l with
 | nil=>rfl
 | cons x l ih=>
  rw [Z9,bE (by rw [h x (bY ..)];decide)]
  exact ih fun y hy=>h y (bT _ hy)
theorem QeR {l:List Int}(h:Z9 l=0):∀ x ∈ l,x=0:=by
 induction l with
 | nil=>intro x hx;cases hx
 | cons y l ih=>
  rw [Z9] at h;intro x hx;split at h
  ·rename_i q;exact absurd h q
  ·rename_i q;rcases bS.1 hx with rfl|hx
   ·omega
   ·exact ih h x hx
theorem QmQ {α:Type}{g:α->Int}{l:List α}{i:Nat}{x:α}(h:∀ y ∈ l.take i,g y=0)(hx:l[i]?=some x)(hf:g x≠0):Z9 (l.map g)=g x:=by
 obtain⟨hi,rfl⟩:=bG.1 hx
 have e:l=l.take i++l[i] :: l.drop (i+1):=by rw [<-dS,dX]
 have e2:=congrArg (List.map g) e;rw [cJ,dD] at e2;rw [e2];have h2:=QiV (l:=(l.take i).map g) (f:=g l[i]) (r:=(l.drop (i+1)).map g) (fun y hy=>by
  obtain⟨z,hz,rfl⟩:=cZ.1 hy;exact h z hz) hf
 exact h2
def Qqu (L:List Ag)(wh by_:List Nd)(s:RS):Qy × RS:=
 let z:=(s.must MI).number 1000
 let sl:=Qbm Qcm z.1 z.2
 let d:=Qbm Qck 0 sl.2
 let t:=Qbm Qgv 0 d.2
 (⟨L,wh,by_,z.1,sl.1,d.1,t.1⟩,if t.2.f=0/\t.2.ws≠[] then t.2.fail 4 else t.2)
def byQ (o:Ps)(L:List Ag)(wh:List Nd)(s:RS):Qy × RS:=
 let g:=Nm WT (fun s=>o (s.must wBy)) s
 Qqu L wh g.1 g.2
def QpN (o:Ps)(L:List Ag)(s:RS):Qy × RS:=
 let w:=Nm KM o ((s.must Qgm).must QbJ)
 byQ o L w.1 w.2
def QcH (o:Ps)(ws:List Wd):Ag × RS:=UR o ((⟨ws,0,0⟩:RS).must U7)
def QpE (o:Ps)(ws:List Wd):List Ag × RS:=UT o ((QcH o ws).2.ws.length+1) [(QcH o ws).1] (QcH o ws).2
theorem Qjd (ws:List Wd):Qc3 ws=QpN (W6 (ws.length+1)).o (QpE (W6 (ws.length+1)).o ws).1 (QpE (W6 (ws.length+1)).o ws).2:=by
 unfold Qc3;generalize (W6 (ws.length+1)).o=o;rfl
theorem N9 (l:LuT):∀(k i:Nat)(acc:List (LuT)),acc.length<=80->(∀ w ∈ acc,w.length<=l.length)->(Qe9 l k i acc).1.length<=80/\∀ w ∈ (Qe9 l k i acc).1,w.length<=l.length
 | 0,i,acc,h1,h2=>⟨h1,h2⟩
 | k+1,i,acc,h1,h2=>by
  rw [Qe9];split
  ·exact⟨h1,h2⟩
  ·split
   ·exact N9 l k _ acc h1 h2
   ·split
    ·exact⟨by simp,by simp⟩
    ·split
     ·exact⟨by simp,by simp⟩
     ·refine N9 l k _ _ (by rw [bO];simp;omega) fun w hw=>?_
      rcases bU.1 hw with h3|h3
      ·exact h2 w h3
      ·rw [cD.1 h3,bZ,d5];omega
theorem Qh9 (l:LuT):(XZ l).1.length<=80/\∀ w ∈ (XZ l).1,w.length<=240:=by
 unfold XZ;split
 ·exact⟨by simp,by simp⟩
 ·have:=N9 l (l.length+1) 0 [] (by simp) (by simp)
  exact⟨this.1,fun w hw=>dK (this.2 w hw) (by omega)⟩
theorem QbQ {s:RS}(h:s.good)(w:Wd)(d:Int):XD (Qbm w d s).2 s:=by
 unfold Qbm;split
 ·exact XD.refl h
 ·exact(Ze h _).trans (Gk (Ze h _).ok _)
theorem QpJ (ws:List Wd):(∀ a ∈ (QpE (W6 (ws.length+1)).o ws).1,QcZ a.2):=by
 have ho:=(Qcy (ws.length+1)).1;have g0:(⟨ws,0,0⟩:RS).good:=fun h=>absurd rfl h
 have g1:=ZY g0 U7;have l1:((⟨ws,0,0⟩:RS).must U7).ws.length<=ws.length+1:=dK g1.len (Nat.le_succ _);have g2:=Qbi ho g1.ok l1;have g3:=QgE ho ((QcH (W6 (ws.length+1)).o ws).2.ws.length+1) [(QcH (W6 (ws.length+1)).o ws).1] g2.1.ok (dK g2.1.len l1) (by
  intro a ha;rw [cD.1 ha];exact g2.2)
 exact g3.2
end Go.Proofs.YthicpjafcpfjoaaGreatDoor
namespace Go.Proofs.YthicpjafcpfjoaaGreatDoor
open Go Go.Vc
theorem Qb6 {u0:Int}{u1:Int}{u2:Int}{h:Hp}{R:RtT}(H:(u2≠0/\InR (Int.tdiv u0 u2))/\∃ x1,IsW x1 ((Int.tdiv u0 u2)*u2)/\let J5:Int->Prop:=fun x7=>(∃(I9:LtT)(m10:LmT),I9 [vsl none 0 0,vi x7] h/\∀ vs11 h12,I9 vs11 h12->∃ a13 n13 c13 x14,vs11=[vsl a13 n13 c13,vi x14]/\∃ x15,IsW x15 (u0-u1)/\((decide (x14>x15))=true->∀ b18,h12 b18=none->let h19:=Hp.set h12 b18 (Qb [vi x14] 3);Qh Pg (Builtin.append_ #[46,46] 46 #[(vsl (some ⟨b18,0,none⟩) 1 1),vsl a13 n13 c13]) h19 fun v20 h21=>∃ a22 n22 c22,v20=vsl a22 n22 c22/\∃ x24,IsW x24 (x14-u2)/\I9 [vsl a22 n22 c22,vi x24] h21/\m10 [vsl a22 n22 c22,vi x24] h21<m10 vs11 h12)/\((decide (x14>x15))=false->R (vsl a13 n13 c13) h12));((decide (u0<x1))=true->∃ x2,IsW x2 (x1-u2)/\J5 x2)/\((decide (u0<x1))=false->J5 x1)):Qa Pg 71 [vi u0,vi u1,vi u2] h R:=callC ⟨[],[(6,([7,9],[.one (.slice),.one (.int .i64)],[]))],[]⟩ Tryz.func71 [.one (.v (vi u0)),.one (.v (vi u1)),.one (.v (vi u2))] H
def XN (slide x:Int):Bool:=decide (x.tmod slide=0)
def Zx (at_ size slide:Int):List Int:=upto (XN slide) (at_-size) size.toNat
theorem YQ {slide x:Int}:XN slide x=true↔slide ∣ x:=by
 unfold XN;rw [decide_eq_true_iff];exact(Int.dvd_iff_tmod_eq_zero).symm
theorem Uf {slide x y:Int}(hs:1<=slide)(hx:XN slide x=true)(h1:x<y)(h2:y<x+slide):XN slide y=false:=by
 rw [<-Bool.not_eq_true];intro hy;rw [YQ] at hx hy;obtain⟨u,rfl⟩:=hx;obtain⟨v,rfl⟩:=hy;have h3:u<v:=by
  rcases Int.lt_or_le u v with h|h
  ·exact h
  ·have:=mI h (show (0:Int)<=slide by omega);omega
 have h4:slide*(u+1)<=slide*v:=mI h3 (by omega)
 rw [Int.mul_add] at h4;omega
theorem Qf4 {u0:Int}{h:Hp}{R:RtT}(H:R (vag [vi u0,vi 0,vi 0,vi 0]) h):Qa Pg 76 [vi u0] h R:=callO Tryz.func76 [.one (.v (vi u0))] H
theorem Qbd {u0:Int}{u1:Int}{u2:Int}{u3:Int}{u4:Int}{u5:Int}{h:Hp}{R:RtT}(H:((cond (decide (u0≠1)) (decide (u4=0)) false)=true->R (vag [vi u0,vi u1,vi u2,vi u3]) h)/\((cond (decide (u0≠1)) (decide (u4=0)) false)=false->let J4:Int->Prop:=fun x7=>(∃ x8,IsW x8 (u1+1)/\∃ x9,IsW x9 (u2+u5)/\R (vag [vi u0,vi x8,vi x9,vi x7]) h);((cond (cond (decide (u1=0)) true (cond (decide (u0=4)) (decide (u5<u3)) false)) true (cond (decide (u0=5)) (decide (u5>u3)) false))=true->J4 u5)/\((cond (cond (decide (u1=0)) true (cond (decide (u0=4)) (decide (u5<u3)) false)) true (cond (decide (u0=5)) (decide (u5>u3)) false))=false->J4 u3))):Qa Pg 132 [vag [vi u0,vi u1,vi u2,vi u3],vag [vi u4,vi u5]] h R:=callO Tryz.func132 [.ag [.v (vi u0),.v (vi u1),.v (vi u2),.v (vi u3)],.ag [.v (vi u4),.v (vi u5)]] H
theorem MY {u0:Int}{u1:Int}{u2:Int}{u3:Int}{h:Hp}{R:RtT}(H:((cond (decide (u0=1)) true (decide (u0=2)))=true->Qa Pg 197 [vi u1] h fun v1 h2=>∃ x3 x4,v1=vag [vi x3,vi x4]/\R (vag [vi x3,vi x4]) h2)/\((cond (decide (u0=1)) true (decide (u0=2)))=false->((decide (u1=0))=true->Qa Pg 131 [] h fun v5 h6=>∃ x7 x8,v5=vag [vi x7,vi x8]/\R (vag [vi x7,vi x8]) h6)/\((decide (u1=0))=false->((decide (u0=3))=true->Qa Pg 197 [vi u2] h fun v9 h10=>∃ x11 x12,v9=vag [vi x11,vi x12]/\R (vag [vi x11,vi x12]) h10)/\((decide (u0=3))=false->Qa Pg 197 [vi u3] h fun v14 h15=>∃ x16 x17,v14=vag [vi x16,vi x17]/\R (vag [vi x16,vi x17]) h15)))):Qa Pg 137 [vag [vi u0,vi u1,vi u2,vi u3]] h R:=callO Tryz.func137 [.ag [.v (vi u0),.v (vi u1),.v (vi u2),.v (vi u3)]] H
def Zt (k:Int)(s:Int × Int × Int)(v:Int × Int):Int × Int × Int:=
 if k≠1/\v.1=0 then s else(s.1+1,s.2.1+v.2,if s.1=0\/(k=4/\v.2<s.2.2)\/(k=5/\v.2>s.2.2) then v.2 else s.2.2)
def Qhc (k:Int)(s:Int × Int × Int):Int × Int:=
 if k=1\/k=2 then Kd s.1 else if s.1=0 then(0,0) else if k=3 then Kd s.2.1 else Kd s.2.2
def QfD (k:Int)(s:Int × Int × Int):List Value:=[vi k,vi s.1,vi s.2.1,vi s.2.2]
theorem NJ {k:Int}{h:Hp}{R:RtT}(hK:R (vag (QfD k (0,0,0))) h):Qa Pg 76 [vi k] h R:=Qf4 hK
def QhQ (k:Int)(s:Int × Int × Int)(v:Int × Int):Int × Int × Int:=
 if k≠1/\v.1=0 then s else(IntKind.i64.wrap (s.1+1),IntKind.i64.wrap (s.2.1+v.2),if s.1=0\/(k=4/\v.2<s.2.2)\/(k=5/\v.2>s.2.2) then v.2 else s.2.2)
theorem Qmj {k:Int}{s:Int × Int × Int}{v:Int × Int}(h1:InR (s.1+1))(h2:InR (s.2.1+v.2)):QhQ k s v=Zt k s v:=by
 unfold QhQ Zt;rw [<-(isW h1:_=_),<-(isW h2:_=_)]
theorem QeO {k:Int}{s:Int × Int × Int}{v:Int × Int}{h:Hp}{R:RtT}(hK:R (vag (QfD k (QhQ k s v))) h) :
  Qa Pg 132 [vag (QfD k s),vag (Qu v)] h R:=by
 obtain⟨n,sum,best⟩:=s;obtain⟨vk,vn⟩:=v;refine Qbd ?_
 simp only [QhQ] at hK;refine⟨fun e=>?_,fun e=>?_⟩
 ·simp [cQ] at e;rw [bJ e] at hK;exact hK
 ·have e':¬(k≠1/\vk=0):=by simpa [cQ] using e
  rw [bE e'] at hK;refine⟨fun e=>?_,fun e=>?_⟩
  ·have e2:n=0\/(k=4/\vn<best)\/(k=5/\vn>best):=by simp [cQ] at e;omega
   rw [bJ e2] at hK;exact⟨_,rfl,_,rfl,hK⟩
  ·have e2:¬(n=0\/(k=4/\vn<best)\/(k=5/\vn>best)):=by simp [cQ] at e;omega
   rw [bE e2] at hK;exact⟨_,rfl,_,rfl,hK⟩
theorem NF {k:Int}{s:Int × Int × Int}{v:Int × Int}{h:Hp}{R:RtT}(h1:InR (s.1+1))(h2:InR (s.2.1+v.2))(hK:R (vag (QfD k (Zt k s v))) h) :
  Qa Pg 132 [vag (QfD k s),vag (Qu v)] h R:=QeO (by rw [Qmj h1 h2];exact hK)
theorem Qdw {k:Int}{s:Int × Int × Int}{h:Hp}{R:RtT}(hK:R (vag (Qu (Qhc k s))) h):Qa Pg 137 [vag (QfD k s)] h R:=by
 obtain⟨n,sum,best⟩:=s;refine MY ?_
 simp only [Qhc] at hK;refine⟨fun e=>?_,fun e=>⟨fun e2=>?_,fun e2=>⟨fun e3=>?_,fun e3=>?_⟩⟩⟩
 ·have e:k=1\/k=2:=by simp [cQ] at e;omega
  rw [bJ e] at hK;exact QJ ⟨_,_,rfl,hK⟩
 all_goals have e:¬(k=1\/k=2):=by simp [cQ] at e;omega
 all_goals rw [bE e] at hK
 ·have e2:n=0:=by simpa using e2
  rw [bJ e2] at hK;exact Zc ⟨_,_,rfl,hK⟩
 all_goals have e2:¬ n=0:=by simpa using e2
 all_goals rw [bE e2] at hK
 ·have e3:k=3:=by simpa using e3
  rw [bJ e3] at hK;exact QJ ⟨_,_,rfl,hK⟩
 ·have e3:¬ k=3:=by simpa using e3
  rw [bE e3] at hK;exact QJ ⟨_,_,rfl,hK⟩
theorem Qc9 {k:Int}:∀(l:List (Int × Int))(s:Int × Int × Int),(∀ v ∈ l,Xd v)->0<=s.1 ->
  s.1<=(l.foldl (Zt k) s).1/\(l.foldl (Zt k) s).1<=s.1+l.length/\s.2.1-l.length*1000000000<=(l.foldl (Zt k) s).2.1/\(l.foldl (Zt k) s).2.1<=s.2.1+l.length*1000000000
 | [],s,_,h0=>by simp
 | v :: l,s,hv,h0=>by
  have h1:=hv v (by simp)
  unfold Xd at h1;have h2:s.1<=(Zt k s v).1/\(Zt k s v).1<=s.1+1/\s.2.1-1000000000<=(Zt k s v).2.1/\(Zt k s v).2.1<=s.2.1+1000000000:=by
   unfold Zt;split<;>simp<;>omega
  have h3:=Qc9 (k:=k) l (Zt k s v) (fun u hu=>hv u (by simp [hu])) (by omega)
  rw [fW,cH];push_cast;omega
abbrev Vl:=Int × Int
abbrev PK:=Int × Vl
abbrev Ad:=PK × List Vl
def Qbn (q:Qy)(e:EvL):Bool:=decide (q.wh=[])||decide (ZM e q.wh=Ya true)
def Q3 (q:Qy)(e:EvL):Vl:=if q.by_=[] then(0,0) else ZM e q.by_
def Qp (q:Qy)(e:EvL):List Vl:=q.aggs.map fun a=>if a.1=1 then(0,0) else ZM e a.2
def WP (q:Qy)(far s:Int):Bool:=decide (0<=far)&&decide (s+q.size+q.late<=far-q.delay)
def ZX (l:List EvL):Int:=l.foldl (fun m e=>max m e.1) (-1)
def JN (q:Qy)(far:Int)(e:EvL)(ss:List Int):List Ad:=(ss.filter fun s=>!WP q far s).map fun s=>((s,Q3 q e),Qp q e)
def VG (q:Qy)(far:Int)(ss:List Int):Nat:=(ss.filter (WP q far)).length
def V9 (q:Qy)(far:Int)(e:EvL):List Ad:=if Qbn q e then JN q far e (Zx e.1 q.size q.slide) else []
def UK (q:Qy)(far:Int)(e:EvL):Nat:=if Qbn q e then VG q far (Zx e.1 q.size q.slide) else 0
def Ux (q:Qy):Int->List EvL->List Ad
 | _,[]=>[]
 | far,e :: l=>V9 q far e++Ux q (max far e.1) l
def K0 (q:Qy):Int->List EvL->Nat
 | _,[]=>0
 | far,e :: l=>UK q far e+K0 q (max far e.1) l
def KG (q:Qy)(ps:List (List EvL)):List Ad:=ps.flatMap (Ux q (-1))
def Ky (q:Qy)(ps:List (List EvL)):Nat:=(ps.map (K0 q (-1))).sum
theorem Qcx (q:Qy):∀(l:List EvL)(far:Int)(e:EvL),Ux q far (l++[e])=Ux q far l++V9 q (l.foldl (fun m e=>max m e.1) far) e
 | [],far,e=>by simp [Ux]
 | x :: l,far,e=>by rw [dA,Ux,Qcx q l,Ux,bX];rfl
theorem Qaw (q:Qy):∀(l:List EvL)(far:Int)(e:EvL),K0 q far (l++[e])=K0 q far l+UK q (l.foldl (fun m e=>max m e.1) far) e
 | [],far,e=>by simp [K0]
 | x :: l,far,e=>by rw [dA,K0,Qaw q l,K0,kG];rfl
theorem QgD (q:Qy)(ps:List (List EvL))(p:List EvL):KG q (ps++[p])=KG q ps++Ux q (-1) p:=by simp [KG]
theorem QdY (q:Qy)(ps:List (List EvL))(p:List EvL):Ky q (ps++[p])=Ky q ps+K0 q (-1) p:=by simp [Ky]
theorem QgQ (q:Qy)(far:Int)(e:EvL)(ss:List Int)(s:Int):JN q far e (ss++[s])=JN q far e ss++if WP q far s then [] else [((s,Q3 q e),Qp q e)]:=by
 unfold JN;rw [gV,cJ];cases h:WP q far s<;>simp [h]
theorem QeF (q:Qy)(far:Int)(ss:List Int)(s:Int):VG q far (ss++[s])=VG q far ss+if WP q far s then 1 else 0:=by
 unfold VG;rw [gV,bO];cases h:WP q far s<;>simp [h]
def YN (A:List Ad):List PK:=A.foldl (fun ks a=>if a.1 ∈ ks then ks else ks++[a.1]) []
theorem JA (A:List Ad)(a:Ad):YN (A++[a])=if a.1 ∈ YN A then YN A else YN A++[a.1]:=by
 unfold YN;rw [fM];rfl
def QD (A:List Ad)(k:PK):List (List Vl):=(A.filter fun a=>a.1=k).map (·.2)
theorem Xf (A:List Ad)(a:Ad)(k:PK):QD (A++[a]) k=QD A k++if a.1=k then [a.2] else []:=by
 unfold QD;rw [gV,cJ];by_cases h:a.1=k<;>simp [h]
theorem Y0 {α:Type}{P:List α->Prop}(h0:P [])(h1:∀ l x,P l->P (l++[x]))(l:List α):P l:=by
 have key:∀ l:List α,P l.reverse:=by
  intro l;induction l with
  | nil=>exact h0
  | cons x l ih=>rw [gR];exact h1 _ _ ih
 have:=key l.reverse;rwa [mF] at this
theorem QcR (A:List Ad):(YN A).Nodup:=by
 induction A using Y0 with
 | h0=>exact j6
 | h1 A a ih=>
  rw [JA];split
  ·exact ih
  ·rename_i h;refine jV.2 ⟨ih,by simp,?_⟩
   intro x hx y hy;rw [cD.1 hy];intro e;exact h (e▸hx)
theorem Qb0 (A:List Ad)(k:PK):k ∈ YN A↔∃ a ∈ A,a.1=k:=by
 induction A using Y0 with
 | h0=>simp [YN]
 | h1 A a ih=>
  rw [JA];by_cases h:a.1 ∈ YN A
  ·rw [bJ h,ih];constructor
   ·rintro⟨x,hx,e⟩;exact⟨x,fF _ hx,e⟩
   ·rintro⟨x,hx,e⟩;rcases bU.1 hx with h2|h2
    ·exact⟨x,h2,e⟩
    ·rw [cD.1 h2] at e;rw [e] at h;exact ih.1 h
  ·rw [bE h,bU,ih];constructor
   ·rintro(⟨x,hx,e⟩|h2)
    ·exact⟨x,fF _ hx,e⟩
    ·exact⟨a,by simp,(cD.1 h2).symm⟩
   ·rintro⟨x,hx,e⟩;rcases bU.1 hx with h2|h2
    ·exact .inl ⟨x,h2,e⟩
    ·rw [cD.1 h2] at e;exact .inr (by rw [e];simp)
theorem QdP {A:List Ad}{k:PK}(h:k ∉ YN A):QD A k=[]:=by
 unfold QD;rw [List.map_eq_nil_iff,List.filter_eq_nil_iff];intro a ha e;exact h ((Qb0 A k).2 ⟨a,ha,by simpa using e⟩)
def Qt (a b:PK):Prop:=a.1<b.1\/(a.1=b.1/\(a.2.1<b.2.1\/(a.2.1=b.2.1/\a.2.2<b.2.2)))
instance (a b:PK):Decidable (Qt a b):=by unfold Qt;infer_instance
theorem Z5 (a:PK):¬ Qt a a:=by unfold Qt;omega
theorem Xo {a b c:PK}(h:Qt a b)(h2:Qt b c):Qt a c:=by unfold Qt at *;omega
theorem Qaa {a b:PK}(h:¬ Qt a b)(h2:¬ Qt b a):a=b:=by
 obtain⟨a1,a2,a3⟩:=a;obtain⟨b1,b2,b3⟩:=b;unfold Qt at h h2;simp only at h h2;have e1:a1=b1:=by omega
 have e2:a2=b2:=by omega
 have e3:a3=b3:=by omega
 rw [e1,e2,e3]
def Vj (k:PK):List PK->List PK
 | []=>[k]
 | x :: l=>if Qt x k then x :: Vj k l else if x=k then x :: l else k :: x :: l
def Zi (A:List Ad):List PK:=A.foldl (fun ks a=>Vj a.1 ks) []
theorem NX (A:List Ad)(a:Ad):Zi (A++[a])=Vj a.1 (Zi A):=by
 unfold Zi;rw [fM];rfl
theorem XM (k x:PK):∀ l,x ∈ Vj k l↔x=k\/x ∈ l
 | []=>by simp [Vj]
 | y :: l=>by
  rw [Vj];split
  ·rw [bS,XM k x l,bS];constructor
   ·rintro(h|h|h)
    ·exact .inr (.inl h)
    ·exact .inl h
    ·exact .inr (.inr h)
   ·rintro(h|h|h)
    ·exact .inr (.inl h)
    ·exact .inl h
    ·exact .inr (.inr h)
  ·split
   ·rename_i h1 h2;subst h2;simp
   ·rw [bS]
theorem Y8 (k:PK):∀{l:List PK},l.Pairwise Qt->(Vj k l).Pairwise Qt
 | [],_=>by simp [Vj]
 | y :: l,h=>by
  obtain⟨h1,h2⟩:=fA.1 h;rw [Vj];split
  ·rename_i hy;refine fA.2 ⟨fun x hx=>?_,Y8 k h2⟩
   rcases (XM k x l).1 hx with e|hx
   ·rw [e];exact hy
   ·exact h1 x hx
  ·split
   ·exact h
   ·rename_i h3 h4;have hk:Qt k y:=jA fun q=>h4 (Qaa h3 q)
    refine fA.2 ⟨fun x hx=>?_,h⟩
    rcases bS.1 hx with rfl|hx
    ·exact hk
    ·exact Xo hk (h1 x hx)
theorem YH (A:List Ad):(Zi A).Pairwise Qt:=by
 induction A using Y0 with
 | h0=>exact List.Pairwise.nil
 | h1 A a ih=>rw [NX];exact Y8 _ ih
theorem MP (A:List Ad)(k:PK):k ∈ Zi A↔∃ a ∈ A,a.1=k:=by
 induction A using Y0 with
 | h0=>simp [Zi]
 | h1 A a ih=>
  rw [NX,XM,ih];constructor
  ·rintro(e|⟨x,hx,e⟩)
   ·exact⟨a,by simp,e.symm⟩
   ·exact⟨x,fF _ hx,e⟩
  ·rintro⟨x,hx,e⟩;rcases bU.1 hx with h2|h2
   ·exact .inr ⟨x,h2,e⟩
   ·rw [cD.1 h2] at e;exact .inl e.symm
theorem Xj {l:List PK}(h:l.Pairwise Qt):l.Nodup:=by
 unfold List.Nodup;refine List.Pairwise.imp (fun {a b} (hab:Qt a b)=>?_) h
 intro e;rw [e] at hab;exact Z5 b hab
theorem QbS (A:List Ad):(Zi A).Perm (YN A):=(mT (Xj (YH A)) (QcR A)).2 fun k=>by rw [MP,Qb0]
theorem Qme {A:List Ad}{l:List PK}(p:l.Perm (YN A))(h:l.Pairwise fun x y=>¬ Qt y x):l=Zi A:=by
 have p2:=p.trans (QbS A).symm;have h2:(Zi A).Pairwise fun x y=>¬ Qt y x:=(YH A).imp fun {a b} hab q=>Z5 a (Xo hab q)
 exact p2.eq_of_pairwise (fun a b _ _ h1 h2=>Qaa h2 h1) h h2
abbrev AcS:=Int × (Int × Int × Int)
def Za (acs:List AcS)(r:List Vl):List AcS:=List.zipWith (fun a v=>(a.1,Zt a.1 a.2 v)) acs r
def ZP (ks:List Int):List AcS:=ks.map fun k=>(k,(0,0,0))
def Yl (ks:List Int)(rs:List (List Vl)):List AcS:=rs.foldl Za (ZP ks)
def YW (ks:List Int)(rs:List (List Vl)):List Vl:=(Yl ks rs).map fun a=>Qhc a.1 a.2
def QmA (cs:List (List Vl))(r:List Vl):List (List Vl):=List.zipWith (fun c v=>c++[v]) cs r
def KV (n:Nat)(rs:List (List Vl)):List (List Vl):=rs.foldl QmA (List.replicate n [])
def QoZ (k:Int)(c:List Vl):AcS:=(k,c.foldl (Zt k) (0,0,0))
theorem Kr (ks:List Int)(rs:List (List Vl))(r:List Vl):Yl ks (rs++[r])=Za (Yl ks rs) r:=by unfold Yl;rw [fM];rfl
theorem GK (n:Nat)(rs:List (List Vl))(r:List Vl):KV n (rs++[r])=QmA (KV n rs) r:=by unfold KV;rw [fM];rfl
theorem QoD {cs:List (List Vl)}{r:List Vl}(h:r.length=cs.length):(QmA cs r).length=cs.length:=by unfold QmA;rw [g7];omega
theorem Qex {n:Nat}{rs:List (List Vl)}(h:∀ r ∈ rs,r.length=n):(KV n rs).length=n:=by
 induction rs using Y0 with
 | h0=>simp [KV]
 | h1 rs r ih=>
  have h2:=ih fun x hx=>h x (fF _ hx)
  rw [GK,QoD (by rw [h2];exact h r (by simp)),h2]
theorem QiG (ks:List Int){rs:List (List Vl)}(h:∀ r ∈ rs,r.length=ks.length):Yl ks rs=List.zipWith QoZ ks (KV ks.length rs):=by
 induction rs using Y0 with
 | h0=>
  show ZP ks=List.zipWith QoZ ks (List.replicate ks.length []);induction ks with
  | nil=>rfl
  | cons k ks ih=>
   simp only [ZP,dD,cH,fS,kX];rw [show List.map (fun k=>((k,(0,0,0)):AcS)) ks=ZP ks from rfl,ih (fun r hr=>by cases hr)]
   rfl
 | h1 rs r ih=>
  have h2:=ih fun x hx=>h x (fF _ hx)
  have hl:=Qex (n:=ks.length) (rs:=rs) fun x hx=>h x (fF _ hx)
  have hr:=h r (by simp)
  rw [Kr,GK,h2];generalize KV ks.length rs=cs at hl;clear ih h2 h;unfold Za QmA;induction ks generalizing cs r with
  | nil=>rfl
  | cons k ks ih=>
   match cs,r,hl,hr with
   | c :: cs,v :: r,hl,hr=>
    simp only [kX,cH,Nat.add_right_cancel_iff] at hl hr ⊢;rw [ih r (by omega) cs (by omega)]
    congr 1
    unfold QoZ;rw [fM];rfl
def Qd (q:Qy):List Int:=q.aggs.map (·.1)
def QhC (q:Qy)(A:List Ad):List (PK × List Vl):=(Zi A).map fun k=>(k,YW (Qd q) (QD A k))
def WV (q:Qy)(ps:List (List EvL)):List (PK × List Vl):=QhC q (KG q ps)
theorem QjX {q:Qy}{far:Int}{e:EvL}{ss:List Int}:∀ a ∈ JN q far e ss,a.2.length=q.aggs.length:=by
 intro a ha;unfold JN at ha;obtain⟨s,_,rfl⟩:=cZ.1 ha;simp [Qp]
end Go.Proofs.YthicpjafcpfjoaaGreatDoor
namespace Go.Proofs
open Go.Shelf
def Tryz.lays156_ren:Go.Shelf.Ren:=⟨fun|156=>121|165=>177|166=>178|169=>179|240=>219|241=>220|276=>258|277=>259|n=>n,fun|31=>162|9=>9|3=>3|4=>4|0=>0|20=>20|72=>264|76=>237|70=>262|37=>207|75=>59|127=>299|164=>336|5=>5|80=>240|n=>n,fun|n=>n⟩
theorem Tryz.lays156:Go.Proofs.Lays.n156 Tryz.prog Tryz.lays156_ren:={
 mixed:=by kernel_rfl
 f156:=Tryz.func121.trans (congrArg some (by kernel_rfl))
 f165:=Tryz.func177.trans (congrArg some (by kernel_rfl))
 f166:=Tryz.func178.trans (congrArg some (by kernel_rfl))
 f169:=Tryz.func179.trans (congrArg some (by kernel_rfl))
 f240:=Tryz.func219.trans (congrArg some (by kernel_rfl))
 f241:=Tryz.func220.trans (congrArg some (by kernel_rfl))
 f276:=Tryz.func258.trans (congrArg some (by kernel_rfl))
 f277:=Tryz.func259.trans (congrArg some (by kernel_rfl))
 t0:=Tryz.underlying0
 a0:=Tryz.isAgg0
 z0:=Tryz.sizeOf0
 v0:=Tryz.zeroValue0
 t3:=Tryz.underlying3
 a3:=Tryz.isAgg3
 z3:=Tryz.sizeOf3
 v3:=Tryz.zeroValue3
 t4:=Tryz.underlying4
 a4:=Tryz.isAgg4
 z4:=Tryz.sizeOf4
 v4:=Tryz.zeroValue4
 t9:=Tryz.underlying9
 a9:=Tryz.isAgg9
 z9:=Tryz.sizeOf9
 v9:=Tryz.zeroValue9
 t20:=Tryz.underlying20
 a20:=Tryz.isAgg20
 z20:=Tryz.sizeOf20
 v20:=Tryz.zeroValue20
 t31:=Tryz.underlying162
 a31:=Tryz.isAgg162
 z31:=Tryz.sizeOf162
 v31:=Tryz.zeroValue162
 t37:=Tryz.underlying207
 a37:=Tryz.isAgg207
 z37:=Tryz.sizeOf207
 v37:=Tryz.zeroValue207
 t70:=Tryz.underlying262
 a70:=Tryz.isAgg262
 z70:=Tryz.sizeOf262
 v70:=Tryz.zeroValue262
 t72:=Tryz.underlying264
 a72:=Tryz.isAgg264
 z72:=Tryz.sizeOf264
 v72:=Tryz.zeroValue264
 t75:=Tryz.underlying59
 a75:=Tryz.isAgg59
 z75:=Tryz.sizeOf59
 v75:=Tryz.zeroValue59
 t76:=Tryz.underlying237
 a76:=Tryz.isAgg237
 z76:=Tryz.sizeOf237
 v76:=Tryz.zeroValue237
 t127:=Tryz.underlying299
 a127:=Tryz.isAgg299
 z127:=Tryz.sizeOf299
 v127:=Tryz.zeroValue299
 t164:=Tryz.underlying336
 a164:=Tryz.isAgg336
 z164:=Tryz.sizeOf336
 v164:=Tryz.zeroValue336 }
theorem Tryz.Builder_Extra_156:Builder.Extra Tryz.prog Tryz.lays156_ren:={
 sizeBuilder:=by kernel_rfl
 liesBuilder:=by kernel_rfl
 t5:=Tryz.underlying5
 a5:=Tryz.isAgg5
 z5:=Tryz.sizeOf5
 v5:=Tryz.zeroValue5
 infoByte:=by kernel_rfl
 cellsByte:=by kernel_rfl
 sizeByte:=by kernel_rfl
 neB5:=by decide }
open Go.RowKit in
theorem Tryz.strings_Join (bk o c:Nat)(xs:List ByteArray)(sep:ByteArray)(w:World)(hcells:∀(j:Nat) x,xs[j]?=some x->w.cell? ⟨bk,o+j,none⟩=some (.string x))(hbk:bk<w.heap.size)(hN:xs.length<=140737488355328)(hcap:xs.length<=c)(hlen:(Lib.join (xs.map (·.data.toList)) sep.data.toList).length<=140737488355328) :
  Calls Tryz.prog 121 #[.slice (some ⟨bk,o,none⟩) xs.length c,.string sep] w fun e w'=>e=.returned (.string ⟨(Lib.join (xs.map (·.data.toList)) sep.data.toList).toArray⟩)/\Below w.heap.size w w':=Any.strings_Join Tryz.lays156 Tryz.Builder_Extra_156 bk o c xs sep w hcells hbk hN hcap hlen
def Tryz.lays172_ren:Go.Shelf.Ren:=⟨fun|172=>145|244=>201|245=>202|247=>241|279=>242|280=>243|281=>244|282=>245|287=>268|316=>269|171=>119|205=>270|321=>281|322=>282|243=>176|246=>218|283=>254|284=>255|285=>256|286=>257|129=>195|317=>272|318=>273|319=>274|320=>275|337=>284|338=>285|n=>n,fun|9=>9|3=>3|75=>59|76=>237|4=>4|5=>5|167=>319|37=>207|0=>0|85=>320|2=>2|168=>322|53=>43|175=>343|46=>229|210=>346|127=>299|145=>353|143=>351|21=>21|171=>332|173=>334|212=>349|51=>276|20=>20|213=>350|232=>360|233=>361|80=>240|n=>n,fun|15=>1|16=>2|17=>3|18=>7|19=>8|n=>n⟩
def Tryz.laysM246_ren:Go.Shelf.Ren:=⟨fun|246=>218|283=>254|284=>255|285=>256|286=>257|129=>195|317=>272|318=>273|319=>274|320=>275|337=>284|338=>285|n=>n,fun|2=>2|3=>3|9=>9|4=>4|171=>332|0=>0|53=>43|37=>207|5=>5|173=>334|212=>349|51=>276|20=>20|213=>350|46=>229|232=>360|233=>361|n=>n,fun|17=>3|18=>7|19=>8|n=>n⟩
def Tryz.laysM243_ren:Go.Shelf.Ren:=⟨fun|243=>176|246=>218|283=>254|284=>255|285=>256|286=>257|129=>195|317=>272|318=>273|319=>274|320=>275|337=>284|338=>285|n=>n,fun|3=>3|9=>9|2=>2|4=>4|171=>332|0=>0|53=>43|37=>207|5=>5|173=>334|212=>349|51=>276|20=>20|213=>350|46=>229|232=>360|233=>361|n=>n,fun|17=>3|18=>7|19=>8|n=>n⟩
def Tryz.laysM171_ren:Go.Shelf.Ren:=⟨fun|171=>119|243=>176|246=>218|283=>254|284=>255|285=>256|286=>257|129=>195|317=>272|318=>273|319=>274|320=>275|337=>284|338=>285|n=>n,fun|3=>3|9=>9|2=>2|4=>4|171=>332|0=>0|53=>43|37=>207|5=>5|173=>334|212=>349|51=>276|20=>20|213=>350|46=>229|232=>360|233=>361|n=>n,fun|17=>3|18=>7|19=>8|n=>n⟩
theorem Tryz.laysM171:Go.Proofs.LaysM.n171 Tryz.prog Tryz.laysM171_ren:={
 mixed:=by kernel_rfl
 f129:=Tryz.func195.trans (congrArg some (by kernel_rfl))
 f171:=Tryz.func119.trans (congrArg some (by kernel_rfl))
 f243:=Tryz.func176.trans (congrArg some (by kernel_rfl))
 f246:=Tryz.func218.trans (congrArg some (by kernel_rfl))
 f283:=Tryz.func254.trans (congrArg some (by kernel_rfl))
 f284:=Tryz.func255.trans (congrArg some (by kernel_rfl))
 f285:=Tryz.func256.trans (congrArg some (by kernel_rfl))
 f286:=Tryz.func257.trans (congrArg some (by kernel_rfl))
 f317:=Tryz.func272.trans (congrArg some (by kernel_rfl))
 f318:=Tryz.func273.trans (congrArg some (by kernel_rfl))
 f319:=Tryz.func274.trans (congrArg some (by kernel_rfl))
 f320:=Tryz.func275.trans (congrArg some (by kernel_rfl))
 f337:=Tryz.func284.trans (congrArg some (by kernel_rfl))
 f338:=Tryz.func285.trans (congrArg some (by kernel_rfl))
 t0:=Tryz.underlying0
 a0:=Tryz.isAgg0
 z0:=Tryz.sizeOf0
 v0:=Tryz.zeroValue0
 t2:=Tryz.underlying2
 a2:=Tryz.isAgg2
 z2:=Tryz.sizeOf2
 v2:=Tryz.zeroValue2
 t3:=Tryz.underlying3
 a3:=Tryz.isAgg3
 z3:=Tryz.sizeOf3
 v3:=Tryz.zeroValue3
 t4:=Tryz.underlying4
 a4:=Tryz.isAgg4
 z4:=Tryz.sizeOf4
 v4:=Tryz.zeroValue4
 t5:=Tryz.underlying5
 a5:=Tryz.isAgg5
 z5:=Tryz.sizeOf5
 v5:=Tryz.zeroValue5
 t9:=Tryz.underlying9
 a9:=Tryz.isAgg9
 z9:=Tryz.sizeOf9
 v9:=Tryz.zeroValue9
 t20:=Tryz.underlying20
 a20:=Tryz.isAgg20
 z20:=Tryz.sizeOf20
 v20:=Tryz.zeroValue20
 t37:=Tryz.underlying207
 a37:=Tryz.isAgg207
 z37:=Tryz.sizeOf207
 v37:=Tryz.zeroValue207
 t46:=Tryz.underlying229
 a46:=Tryz.isAgg229
 z46:=Tryz.sizeOf229
 v46:=Tryz.zeroValue229
 t51:=Tryz.underlying276
 a51:=Tryz.isAgg276
 z51:=Tryz.sizeOf276
 v51:=Tryz.zeroValue276
 t53:=Tryz.underlying43
 a53:=Tryz.isAgg43
 z53:=Tryz.sizeOf43
 v53:=Tryz.zeroValue43
 t171:=Tryz.underlying332
 a171:=Tryz.isAgg332
 z171:=Tryz.sizeOf332
 v171:=Tryz.zeroValue332
 t173:=Tryz.underlying334
 a173:=Tryz.isAgg334
 z173:=Tryz.sizeOf334
 v173:=Tryz.zeroValue334
 t212:=Tryz.underlying349
 a212:=Tryz.isAgg349
 z212:=Tryz.sizeOf349
 v212:=Tryz.zeroValue349
 t213:=Tryz.underlying350
 a213:=Tryz.isAgg350
 z213:=Tryz.sizeOf350
 t232:=Tryz.underlying360
 a232:=Tryz.isAgg360
 z232:=Tryz.sizeOf360
 v232:=Tryz.zeroValue360
 t233:=Tryz.underlying361
 a233:=Tryz.isAgg361
 z233:=Tryz.sizeOf361
 v233:=Tryz.zeroValue361
 g17:=by kernel_rfl
 g18:=by kernel_rfl
 g19:=by kernel_rfl
 i0:=by kernel_rfl
 i2:=by kernel_rfl
 i3:=by kernel_rfl
 i4:=by kernel_rfl
 i5:=by kernel_rfl
 i9:=by kernel_rfl
 i20:=by kernel_rfl
 i37:=by kernel_rfl
 i46:=by kernel_rfl
 i51:=by kernel_rfl
 i53:=by kernel_rfl
 i171:=by kernel_rfl
 i173:=by kernel_rfl
 i212:=by kernel_rfl
 i232:=by kernel_rfl
 i233:=by kernel_rfl
 m17:=by kernel_rfl
 m18:=by kernel_rfl
 m19:=by kernel_rfl }
open Go.RowKit Go.Sort Go.Lib in
theorem Tryz.strconv_Itoa (n:Int)(h0:-9223372036854775808<=n)(h1:n<=9223372036854775807)(w:World)(htab:Lib.TabIs Tryz.prog w "internal/strconv.uint64pow10" .u64 Lib.pow10Tab) :
  Calls Tryz.prog 119 #[.int .i64 n] w fun e w'=>e=.returned (.string ⟨(Lib.itoa n).toArray⟩)/\∃ k os,w'=grow (w.drewN k) os:=Any.strconv_Itoa Tryz.laysM171 n h0 h1 w htab
def Tryz.laysC172_ren:Go.Shelf.Ren:=⟨fun|172=>145|244=>201|245=>202|247=>241|279=>242|280=>243|281=>244|282=>245|287=>268|316=>269|171=>119|205=>270|321=>281|322=>282|243=>176|246=>218|283=>254|284=>255|285=>256|286=>257|129=>195|317=>272|318=>273|319=>274|320=>275|337=>284|338=>285|n=>n,fun|9=>9|3=>3|75=>59|76=>237|4=>4|5=>5|167=>319|37=>207|0=>0|85=>320|2=>2|168=>322|53=>43|175=>343|46=>229|210=>346|127=>299|145=>353|143=>351|21=>21|171=>332|173=>334|212=>349|51=>276|20=>20|213=>350|232=>360|233=>361|80=>240|n=>n,fun|15=>1|16=>2|17=>3|18=>7|19=>8|n=>n⟩
theorem Tryz.laysC172:Go.Proofs.LaysC.n172 Tryz.prog Tryz.laysC172_ren:={
 mixed:=by kernel_rfl
 f129:=Tryz.func195.trans (congrArg some (by kernel_rfl))
 f171:=Tryz.func119.trans (congrArg some (by kernel_rfl))
 f172:=Tryz.func145.trans (congrArg some (by kernel_rfl))
 f205:=Tryz.func270.trans (congrArg some (by kernel_rfl))
 f243:=Tryz.func176.trans (congrArg some (by kernel_rfl))
 f244:=Tryz.func201.trans (congrArg some (by kernel_rfl))
 f245:=Tryz.func202.trans (congrArg some (by kernel_rfl))
 f246:=Tryz.func218.trans (congrArg some (by kernel_rfl))
 f247:=Tryz.func241.trans (congrArg some (by kernel_rfl))
 f279:=Tryz.func242.trans (congrArg some (by kernel_rfl))
 f280:=Tryz.func243.trans (congrArg some (by kernel_rfl))
 f281:=Tryz.func244.trans (congrArg some (by kernel_rfl))
 f282:=Tryz.func245.trans (congrArg some (by kernel_rfl))
 f283:=Tryz.func254.trans (congrArg some (by kernel_rfl))
 f284:=Tryz.func255.trans (congrArg some (by kernel_rfl))
 f285:=Tryz.func256.trans (congrArg some (by kernel_rfl))
 f286:=Tryz.func257.trans (congrArg some (by kernel_rfl))
 f287:=Tryz.func268.trans (congrArg some (by kernel_rfl))
 f316:=Tryz.func269.trans (congrArg some (by kernel_rfl))
 f317:=Tryz.func272.trans (congrArg some (by kernel_rfl))
 f318:=Tryz.func273.trans (congrArg some (by kernel_rfl))
 f319:=Tryz.func274.trans (congrArg some (by kernel_rfl))
 f320:=Tryz.func275.trans (congrArg some (by kernel_rfl))
 f321:=Tryz.func281.trans (congrArg some (by kernel_rfl))
 f322:=Tryz.func282.trans (congrArg some (by kernel_rfl))
 f337:=Tryz.func284.trans (congrArg some (by kernel_rfl))
 f338:=Tryz.func285.trans (congrArg some (by kernel_rfl))
 t0:=Tryz.underlying0
 a0:=Tryz.isAgg0
 z0:=Tryz.sizeOf0
 v0:=Tryz.zeroValue0
 t2:=Tryz.underlying2
 a2:=Tryz.isAgg2
 z2:=Tryz.sizeOf2
 v2:=Tryz.zeroValue2
 t3:=Tryz.underlying3
 a3:=Tryz.isAgg3
 z3:=Tryz.sizeOf3
 v3:=Tryz.zeroValue3
 t4:=Tryz.underlying4
 a4:=Tryz.isAgg4
 z4:=Tryz.sizeOf4
 v4:=Tryz.zeroValue4
 t5:=Tryz.underlying5
 a5:=Tryz.isAgg5
 z5:=Tryz.sizeOf5
 v5:=Tryz.zeroValue5
 t9:=Tryz.underlying9
 a9:=Tryz.isAgg9
 z9:=Tryz.sizeOf9
 v9:=Tryz.zeroValue9
 t20:=Tryz.underlying20
 a20:=Tryz.isAgg20
 z20:=Tryz.sizeOf20
 v20:=Tryz.zeroValue20
 t21:=Tryz.underlying21
 a21:=Tryz.isAgg21
 z21:=Tryz.sizeOf21
 v21:=Tryz.zeroValue21
 t37:=Tryz.underlying207
 a37:=Tryz.isAgg207
 z37:=Tryz.sizeOf207
 v37:=Tryz.zeroValue207
 t46:=Tryz.underlying229
 a46:=Tryz.isAgg229
 z46:=Tryz.sizeOf229
 v46:=Tryz.zeroValue229
 t51:=Tryz.underlying276
 a51:=Tryz.isAgg276
 z51:=Tryz.sizeOf276
 v51:=Tryz.zeroValue276
 t53:=Tryz.underlying43
 a53:=Tryz.isAgg43
 z53:=Tryz.sizeOf43
 v53:=Tryz.zeroValue43
 t75:=Tryz.underlying59
 a75:=Tryz.isAgg59
 z75:=Tryz.sizeOf59
 v75:=Tryz.zeroValue59
 t76:=Tryz.underlying237
 a76:=Tryz.isAgg237
 z76:=Tryz.sizeOf237
 v76:=Tryz.zeroValue237
 t85:=Tryz.underlying320
 a85:=Tryz.isAgg320
 z85:=Tryz.sizeOf320
 v85:=Tryz.zeroValue320
 t127:=Tryz.underlying299
 a127:=Tryz.isAgg299
 z127:=Tryz.sizeOf299
 v127:=Tryz.zeroValue299
 t143:=Tryz.underlying351
 a143:=Tryz.isAgg351
 z143:=Tryz.sizeOf351
 v143:=Tryz.zeroValue351
 t145:=Tryz.underlying353
 a145:=Tryz.isAgg353
 z145:=Tryz.sizeOf353
 v145:=Tryz.zeroValue353
 t167:=Tryz.underlying319
 a167:=Tryz.isAgg319
 z167:=Tryz.sizeOf319
 v167:=Tryz.zeroValue319
 t168:=Tryz.underlying322
 a168:=Tryz.isAgg322
 z168:=Tryz.sizeOf322
 v168:=Tryz.zeroValue322
 t171:=Tryz.underlying332
 a171:=Tryz.isAgg332
 z171:=Tryz.sizeOf332
 v171:=Tryz.zeroValue332
 t173:=Tryz.underlying334
 a173:=Tryz.isAgg334
 z173:=Tryz.sizeOf334
 v173:=Tryz.zeroValue334
 t175:=Tryz.underlying343
 a175:=Tryz.isAgg343
 z175:=Tryz.sizeOf343
 v175:=Tryz.zeroValue343
 t210:=Tryz.underlying346
 a210:=Tryz.isAgg346
 z210:=Tryz.sizeOf346
 v210:=Tryz.zeroValue346
 t212:=Tryz.underlying349
 a212:=Tryz.isAgg349
 z212:=Tryz.sizeOf349
 v212:=Tryz.zeroValue349
 t213:=Tryz.underlying350
 a213:=Tryz.isAgg350
 z213:=Tryz.sizeOf350
 t232:=Tryz.underlying360
 a232:=Tryz.isAgg360
 z232:=Tryz.sizeOf360
 v232:=Tryz.zeroValue360
 t233:=Tryz.underlying361
 a233:=Tryz.isAgg361
 z233:=Tryz.sizeOf361
 v233:=Tryz.zeroValue361
 g15:=by kernel_rfl
 g16:=by kernel_rfl
 g17:=by kernel_rfl
 g18:=by kernel_rfl
 g19:=by kernel_rfl
 t80:=Tryz.underlying240
 a80:=Tryz.isAgg240
 z80:=Tryz.sizeOf240
 v80:=Tryz.zeroValue240
 i0:=by kernel_rfl
 i2:=by kernel_rfl
 i3:=by kernel_rfl
 i4:=by kernel_rfl
 i5:=by kernel_rfl
 i9:=by kernel_rfl
 i20:=by kernel_rfl
 i21:=by kernel_rfl
 i37:=by kernel_rfl
 i46:=by kernel_rfl
 i51:=by kernel_rfl
 i53:=by kernel_rfl
 i75:=by kernel_rfl
 i76:=by kernel_rfl
 i80:=by kernel_rfl
 i85:=by kernel_rfl
 i127:=by kernel_rfl
 i143:=by kernel_rfl
 i145:=by kernel_rfl
 i167:=by kernel_rfl
 i168:=by kernel_rfl
 i171:=by kernel_rfl
 i173:=by kernel_rfl
 i175:=by kernel_rfl
 i210:=by kernel_rfl
 i212:=by kernel_rfl
 i232:=by kernel_rfl
 i233:=by kernel_rfl
 m15:=by kernel_rfl
 m16:=by kernel_rfl
 m17:=by kernel_rfl
 m18:=by kernel_rfl
 m19:=by kernel_rfl
 c0:=by kernel_rfl
 c2:=by kernel_rfl
 c3:=by kernel_rfl
 c4:=by kernel_rfl
 c5:=by kernel_rfl
 c9:=by kernel_rfl
 c20:=by kernel_rfl
 c21:=by kernel_rfl
 c37:=by kernel_rfl
 c46:=by kernel_rfl
 c51:=by kernel_rfl
 c53:=by kernel_rfl
 c75:=by kernel_rfl
 c76:=by kernel_rfl
 c80:=by kernel_rfl
 c85:=by kernel_rfl
 c127:=by kernel_rfl
 c143:=by kernel_rfl
 c145:=by kernel_rfl
 c167:=by kernel_rfl
 c168:=by kernel_rfl
 c171:=by kernel_rfl
 c173:=by kernel_rfl
 c175:=by kernel_rfl
 c210:=by kernel_rfl
 c212:=by kernel_rfl
 c213:=by kernel_rfl
 c232:=by kernel_rfl
 c233:=by kernel_rfl }
open Go.RowKit in
theorem Tryz.strconv_Atoi_ok (s:ByteArray)(hmax:s.size<=9223372036854775806)(v:Int)(h:Lib.atoiAll s.data.toList=.ok v)(w:World) :
  Calls Tryz.prog 145 #[.string s] w fun e w'=>e=.returned (.tuple #[.int .i64 v,.nilIface])/\(w'=w\/∃ t,w'=Lib.bytesWorld w 5 t):=Any.strconv_Atoi_ok Tryz.laysC172 s hmax v h w
def Tryz.lays221_ren:Go.Shelf.Ren:=⟨fun|221=>183|268=>228|138=>229|143=>230|195=>261|197=>262|218=>263|219=>264|260=>276|217=>237|225=>277|224=>278|267=>279|266=>266|314=>286|n=>n,fun|9=>9|3=>3|31=>162|4=>4|0=>0|105=>339|21=>21|5=>5|46=>229|119=>355|139=>358|138=>357|146=>288|51=>276|n=>n,fun|1=>4|3=>5|4=>6|n=>n⟩
def Tryz.lays146_ren:Go.Shelf.Ren:=⟨fun|146=>127|221=>183|268=>228|138=>229|143=>230|195=>261|197=>262|218=>263|219=>264|260=>276|217=>237|225=>277|224=>278|267=>279|266=>266|314=>286|n=>n,fun|9=>9|31=>162|3=>3|4=>4|0=>0|105=>339|21=>21|5=>5|46=>229|119=>355|139=>358|138=>357|146=>288|51=>276|n=>n,fun|1=>4|3=>5|4=>6|n=>n⟩
theorem Tryz.lays146:Go.Proofs.Lays.n146 Tryz.prog Tryz.lays146_ren:={
 mixed:=by kernel_rfl
 f138:=Tryz.func229.trans (congrArg some (by kernel_rfl))
 f143:=Tryz.func230.trans (congrArg some (by kernel_rfl))
 f146:=Tryz.func127.trans (congrArg some (by kernel_rfl))
 f195:=Tryz.func261.trans (congrArg some (by kernel_rfl))
 f197:=Tryz.func262.trans (congrArg some (by kernel_rfl))
 f217:=Tryz.func237.trans (congrArg some (by kernel_rfl))
 f218:=Tryz.func263.trans (congrArg some (by kernel_rfl))
 f219:=Tryz.func264.trans (congrArg some (by kernel_rfl))
 f221:=Tryz.func183.trans (congrArg some (by kernel_rfl))
 f224:=Tryz.func278.trans (congrArg some (by kernel_rfl))
 f225:=Tryz.func277.trans (congrArg some (by kernel_rfl))
 f260:=Tryz.func276.trans (congrArg some (by kernel_rfl))
 f266:=Tryz.func266.trans (congrArg some (by kernel_rfl))
 f267:=Tryz.func279.trans (congrArg some (by kernel_rfl))
 f268:=Tryz.func228.trans (congrArg some (by kernel_rfl))
 f314:=Tryz.func286.trans (congrArg some (by kernel_rfl))
 t0:=Tryz.underlying0
 a0:=Tryz.isAgg0
 z0:=Tryz.sizeOf0
 v0:=Tryz.zeroValue0
 t3:=Tryz.underlying3
 a3:=Tryz.isAgg3
 z3:=Tryz.sizeOf3
 v3:=Tryz.zeroValue3
 t4:=Tryz.underlying4
 a4:=Tryz.isAgg4
 z4:=Tryz.sizeOf4
 v4:=Tryz.zeroValue4
 t5:=Tryz.underlying5
 a5:=Tryz.isAgg5
 z5:=Tryz.sizeOf5
 v5:=Tryz.zeroValue5
 t9:=Tryz.underlying9
 a9:=Tryz.isAgg9
 z9:=Tryz.sizeOf9
 v9:=Tryz.zeroValue9
 t21:=Tryz.underlying21
 a21:=Tryz.isAgg21
 z21:=Tryz.sizeOf21
 v21:=Tryz.zeroValue21
 t31:=Tryz.underlying162
 a31:=Tryz.isAgg162
 z31:=Tryz.sizeOf162
 v31:=Tryz.zeroValue162
 t46:=Tryz.underlying229
 a46:=Tryz.isAgg229
 z46:=Tryz.sizeOf229
 v46:=Tryz.zeroValue229
 t51:=Tryz.underlying276
 a51:=Tryz.isAgg276
 z51:=Tryz.sizeOf276
 v51:=Tryz.zeroValue276
 t105:=Tryz.underlying339
 a105:=Tryz.isAgg339
 z105:=Tryz.sizeOf339
 v105:=Tryz.zeroValue339
 t119:=Tryz.underlying355
 a119:=Tryz.isAgg355
 z119:=Tryz.sizeOf355
 t138:=Tryz.underlying357
 a138:=Tryz.isAgg357
 z138:=Tryz.sizeOf357
 v138:=Tryz.zeroValue357
 t139:=Tryz.underlying358
 a139:=Tryz.isAgg358
 z139:=Tryz.sizeOf358
 v139:=Tryz.zeroValue358
 t146:=Tryz.underlying288
 a146:=Tryz.isAgg288
 z146:=Tryz.sizeOf288
 v146:=Tryz.zeroValue288
 g1:=by kernel_rfl
 g3:=by kernel_rfl
 g4:=by kernel_rfl }
open Go.RowKit Go.Lib in
theorem Tryz.strings_Split (s sep:ByteArray)(m:Int)(w:World)(hs:s.size<4294967281)(hm:w.cell? ⟨4,0,none⟩=some (.int .i64 m))(h1:1<=sep.size) :
  Calls Tryz.prog 127 #[.string s,.string sep] w fun e w'=>
   e=.returned (.slice (some ⟨w.heap.size,0,none⟩) (Lib.countB s sep+1) (Lib.countB s sep+1))/\w'=w.alloc (.cells ((Lib.splitB sep 0 (Lib.countB s sep) s).map Value.string).toArray 9):=Any.strings_Split Tryz.lays146 (by kernel_rfl) s sep m w hs hm h1
def Tryz.laysM146_ren:Go.Shelf.Ren:=⟨fun|146=>127|221=>183|268=>228|138=>229|143=>230|195=>261|197=>262|218=>263|219=>264|260=>276|217=>237|225=>277|224=>278|267=>279|266=>266|314=>286|n=>n,fun|9=>9|31=>162|3=>3|4=>4|0=>0|105=>339|21=>21|5=>5|46=>229|119=>355|139=>358|138=>357|146=>288|51=>276|n=>n,fun|1=>4|3=>5|4=>6|n=>n⟩
theorem Tryz.laysM146:Go.Proofs.LaysM.n146 Tryz.prog Tryz.laysM146_ren:={
 mixed:=by kernel_rfl
 f138:=Tryz.func229.trans (congrArg some (by kernel_rfl))
 f143:=Tryz.func230.trans (congrArg some (by kernel_rfl))
 f146:=Tryz.func127.trans (congrArg some (by kernel_rfl))
 f195:=Tryz.func261.trans (congrArg some (by kernel_rfl))
 f197:=Tryz.func262.trans (congrArg some (by kernel_rfl))
 f217:=Tryz.func237.trans (congrArg some (by kernel_rfl))
 f218:=Tryz.func263.trans (congrArg some (by kernel_rfl))
 f219:=Tryz.func264.trans (congrArg some (by kernel_rfl))
 f221:=Tryz.func183.trans (congrArg some (by kernel_rfl))
 f224:=Tryz.func278.trans (congrArg some (by kernel_rfl))
 f225:=Tryz.func277.trans (congrArg some (by kernel_rfl))
 f260:=Tryz.func276.trans (congrArg some (by kernel_rfl))
 f266:=Tryz.func266.trans (congrArg some (by kernel_rfl))
 f267:=Tryz.func279.trans (congrArg some (by kernel_rfl))
 f268:=Tryz.func228.trans (congrArg some (by kernel_rfl))
 f314:=Tryz.func286.trans (congrArg some (by kernel_rfl))
 t0:=Tryz.underlying0
 a0:=Tryz.isAgg0
 z0:=Tryz.sizeOf0
 v0:=Tryz.zeroValue0
 t3:=Tryz.underlying3
 a3:=Tryz.isAgg3
 z3:=Tryz.sizeOf3
 v3:=Tryz.zeroValue3
 t4:=Tryz.underlying4
 a4:=Tryz.isAgg4
 z4:=Tryz.sizeOf4
 v4:=Tryz.zeroValue4
 t5:=Tryz.underlying5
 a5:=Tryz.isAgg5
 z5:=Tryz.sizeOf5
 v5:=Tryz.zeroValue5
 t9:=Tryz.underlying9
 a9:=Tryz.isAgg9
 z9:=Tryz.sizeOf9
 v9:=Tryz.zeroValue9
 t21:=Tryz.underlying21
 a21:=Tryz.isAgg21
 z21:=Tryz.sizeOf21
 v21:=Tryz.zeroValue21
 t31:=Tryz.underlying162
 a31:=Tryz.isAgg162
 z31:=Tryz.sizeOf162
 v31:=Tryz.zeroValue162
 t46:=Tryz.underlying229
 a46:=Tryz.isAgg229
 z46:=Tryz.sizeOf229
 v46:=Tryz.zeroValue229
 t51:=Tryz.underlying276
 a51:=Tryz.isAgg276
 z51:=Tryz.sizeOf276
 v51:=Tryz.zeroValue276
 t105:=Tryz.underlying339
 a105:=Tryz.isAgg339
 z105:=Tryz.sizeOf339
 v105:=Tryz.zeroValue339
 t119:=Tryz.underlying355
 a119:=Tryz.isAgg355
 z119:=Tryz.sizeOf355
 t138:=Tryz.underlying357
 a138:=Tryz.isAgg357
 z138:=Tryz.sizeOf357
 v138:=Tryz.zeroValue357
 t139:=Tryz.underlying358
 a139:=Tryz.isAgg358
 z139:=Tryz.sizeOf358
 v139:=Tryz.zeroValue358
 t146:=Tryz.underlying288
 a146:=Tryz.isAgg288
 z146:=Tryz.sizeOf288
 v146:=Tryz.zeroValue288
 g1:=by kernel_rfl
 g3:=by kernel_rfl
 g4:=by kernel_rfl
 i0:=by kernel_rfl
 i3:=by kernel_rfl
 i4:=by kernel_rfl
 i5:=by kernel_rfl
 i9:=by kernel_rfl
 i21:=by kernel_rfl
 i31:=by kernel_rfl
 i46:=by kernel_rfl
 i51:=by kernel_rfl
 i105:=by kernel_rfl
 i138:=by kernel_rfl
 i139:=by kernel_rfl
 i146:=by kernel_rfl
 m1:=by kernel_rfl
 s1_3:=fun w h=>Go.Proofs.cell_of_shapedOpen_int (zero:=#[.int .i64 0]) (t:=3) h (of_decide_eq_true (by kernel_rfl)) (by kernel_rfl) rfl (by kernel_rfl) (by kernel_rfl) Tryz.underlying3
 m3:=by kernel_rfl
 m4:=by kernel_rfl }
def Tryz.sortPanes_ren:Go.Shelf.Ren:=⟨fun|6=>78|15=>134|14=>133|28=>194|29=>195|20=>186|21=>187|22=>188|23=>189|24=>190|25=>191|26=>192|27=>193|46=>232|47=>233|48=>234|49=>235|50=>236|57=>265|n=>n,fun|22=>128|24=>150|25=>160|3=>3|39=>229|0=>0|53=>276|55=>43|4=>4|46=>270|45=>269|50=>64|5=>5|9=>9|66=>311|70=>315|76=>341|77=>286|n=>n,fun|n=>n⟩
theorem Tryz.sortPanes:Go.Proofs.SlLaysF0.n6 Tryz.prog Tryz.sortPanes_ren:={
 mixed:=by kernel_rfl
 f6:=⟨Tryz.f78.name,by decide,Tryz.func78.trans (congrArg some (by kernel_rfl))⟩
 f14:=⟨Tryz.f133.name,by decide,Tryz.func133.trans (congrArg some (by kernel_rfl))⟩
 f15:=Tryz.func134.trans (congrArg some (by kernel_rfl))
 f20:=⟨Tryz.f186.name,by decide,Tryz.func186.trans (congrArg some (by kernel_rfl))⟩
 f21:=⟨Tryz.f187.name,by decide,Tryz.func187.trans (congrArg some (by kernel_rfl))⟩
 f22:=⟨Tryz.f188.name,by decide,Tryz.func188.trans (congrArg some (by kernel_rfl))⟩
 f23:=⟨Tryz.f189.name,by decide,Tryz.func189.trans (congrArg some (by kernel_rfl))⟩
 f24:=⟨Tryz.f190.name,by decide,Tryz.func190.trans (congrArg some (by kernel_rfl))⟩
 f25:=⟨Tryz.f191.name,by decide,Tryz.func191.trans (congrArg some (by kernel_rfl))⟩
 f26:=⟨Tryz.f192.name,by decide,Tryz.func192.trans (congrArg some (by kernel_rfl))⟩
 f27:=⟨Tryz.f193.name,by decide,Tryz.func193.trans (congrArg some (by kernel_rfl))⟩
 f28:=Tryz.func194.trans (congrArg some (by kernel_rfl))
 f29:=Tryz.func195.trans (congrArg some (by kernel_rfl))
 f46:=⟨Tryz.f232.name,by decide,Tryz.func232.trans (congrArg some (by kernel_rfl))⟩
 f47:=Tryz.func233.trans (congrArg some (by kernel_rfl))
 f48:=Tryz.func234.trans (congrArg some (by kernel_rfl))
 f49:=⟨Tryz.f235.name,by decide,Tryz.func235.trans (congrArg some (by kernel_rfl))⟩
 f50:=⟨Tryz.f236.name,by decide,Tryz.func236.trans (congrArg some (by kernel_rfl))⟩
 f57:=⟨Tryz.f265.name,by decide,Tryz.func265.trans (congrArg some (by kernel_rfl))⟩
 t0:=Tryz.underlying0
 a0:=Tryz.isAgg0
 z0:=Tryz.sizeOf0
 v0:=Tryz.zeroValue0
 t3:=Tryz.underlying3
 a3:=Tryz.isAgg3
 z3:=Tryz.sizeOf3
 v3:=Tryz.zeroValue3
 t4:=Tryz.underlying4
 a4:=Tryz.isAgg4
 z4:=Tryz.sizeOf4
 v4:=Tryz.zeroValue4
 t5:=Tryz.underlying5
 a5:=Tryz.isAgg5
 z5:=Tryz.sizeOf5
 v5:=Tryz.zeroValue5
 t9:=Tryz.underlying9
 a9:=Tryz.isAgg9
 z9:=Tryz.sizeOf9
 v9:=Tryz.zeroValue9
 t22:=Tryz.underlying128
 a22:=Tryz.isAgg128
 z22:=Tryz.sizeOf128
 v22:=Tryz.zeroValue128
 t25:=Tryz.underlying160
 a25:=Tryz.isAgg160
 z25:=Tryz.sizeOf160
 v25:=Tryz.zeroValue160
 t39:=Tryz.underlying229
 a39:=Tryz.isAgg229
 z39:=Tryz.sizeOf229
 v39:=Tryz.zeroValue229
 t45:=Tryz.underlying269
 a45:=Tryz.isAgg269
 z45:=Tryz.sizeOf269
 v45:=Tryz.zeroValue269
 t46:=Tryz.underlying270
 a46:=Tryz.isAgg270
 z46:=Tryz.sizeOf270
 v46:=Tryz.zeroValue270
 t50:=Tryz.underlying64
 a50:=Tryz.isAgg64
 z50:=Tryz.sizeOf64
 v50:=Tryz.zeroValue64
 t53:=Tryz.underlying276
 a53:=Tryz.isAgg276
 z53:=Tryz.sizeOf276
 v53:=Tryz.zeroValue276
 t55:=Tryz.underlying43
 a55:=Tryz.isAgg43
 z55:=Tryz.sizeOf43
 v55:=Tryz.zeroValue43
 t66:=Tryz.underlying311
 a66:=Tryz.isAgg311
 z66:=Tryz.sizeOf311
 v66:=Tryz.zeroValue311
 t70:=Tryz.underlying315
 a70:=Tryz.isAgg315
 z70:=Tryz.sizeOf315
 v70:=Tryz.zeroValue315
 t76:=Tryz.underlying341
 a76:=Tryz.isAgg341
 z76:=Tryz.sizeOf341
 v76:=Tryz.zeroValue341
 t77:=Tryz.underlying286
 a77:=Tryz.isAgg286
 z77:=Tryz.sizeOf286
 v77:=Tryz.zeroValue286 }
end Go.Proofs
namespace Go.Vc
open Go
section
variable {P:Program}
theorem Qjk {h:Hp}{t e:TypeId}(ht:P.underlying t=some (.slice e))(hi:(P.info? e).isSome=true){a:OaT}{n c:Nat}{x y:Int}(h0:0<=x)(h1:x<=y)(h2:y<=c):Rd P (Instr.sliceAt t (vsl a n c) none (some (vi x)) (some (vi y))) h (vsl a x.toNat y.toNat):=by
 intro w _;have he:P.elem t=e:=by simp [Program.elem,ht]
 obtain⟨i,hi⟩:=fJ.1 hi;rw [run_sliceAt_slice w t _ _ _ _ (by rw [he];exact ht),run_slice_hm w t a n c (by rw [he];exact ht) _ _ x y h0 h1 h2,he]
 simp [sizeOf,typeInfo,hi,sliced];intro _;cases a<;>simp [Addr.add]
theorem Qdi {h:Hp}{t ty e:TypeId}{sz bytes:Nat}(T:ElT P t e sz bytes){a:OaT}{n:Nat}{xs:List Value}(H:Qe h a xs)(hxs:xs.length=n*sz)(ha:a=none->n=0)
  {a2:OaT} {m c2:Nat} {news:List Value} (H2:Qe h a2 news) (hl:news.length=m*sz) (hm0:0<m)
  (hb:(n+m)*bytes<=140737488355328) (hm:n+m<=140737488355328) {K:RtT}
  (hK:∀ a' c' h',Qg h h' e sz a' (n+m) c' (xs++news)->K (vsl a' (n+m) c') h') :
  Qh P (Builtin.append_ #[t,t] ty #[vsl a n n,vsl a2 m c2]) h K:=by
 intro w hs;obtain⟨i,z,hi,hz,rfl,rfl,hzs⟩:=T.el;have hlen:(xs++news).length=(n+m)*i.size:=by rw [bO,hxs,hl,gH]
 have h63:n+m<=maxLen:=by simp only [maxLen];omega
 have hnn:news≠[]:=fun e=>by
  subst e;have h0:m*i.size=0:=by simpa using hl.symm
  rcases pU.1 h0 with h2|h2
  ·omega
  ·have:=T.pos;omega
 obtain⟨b2,o2,rfl,hr2⟩:=(show ∃ b o,a2=some ⟨b,o,none⟩/\h.row b o news.length=some news from H2.resolve_left hnn)
 have hnews:=Qe.cells hs (a:=⟨b2,o2,none⟩) H2;have hno:h w.heap.size=none:=Sub.none hs;have grown:∀ old,old<n+m->Qg h (h.set w.heap.size (.cells (xs.toArray++news.toArray++Builtin.zeroCells z.cells (grownCap w (n+m) old e-(n+m))) e (0,0))) e i.size (some ⟨w.heap.size,0,none⟩) (n+m) (grownCap w (n+m) old e) (xs++news):=by
  intro old ho;have hge:=grownCap_ge w (n+m) old e;have hcm:grownCap w (n+m) old e<=maxLen:=grownCap_le_maxLen w (n+m) old e h63;refine⟨qQ (qO h) hno _,⟨hlen,.inr ⟨w.heap.size,_,rfl,qK _ _ _,hge,hcm,?_,?_⟩⟩,fun g hg=>?_⟩
  ·simp only [kY,gZ,size_zeroCells,hzs,hxs,hl,<-gH];congr 1
   omega
  ·simp only [kS,bX];rw [<-bX,<-hlen];exact mU
  ·cases hg;exact hno
 cases a with
 | none=>
  obtain rfl:=ha rfl;have hx:xs=[]:=dR (by simpa using hxs)
  subst hx;have hr:=run_append_nil (P:=P) w t ty e i z T.sl hi hz ⟨b2,o2,none⟩ m c2 news hl hnews (by omega) (by omega) (by simp only [dW] at hb;omega)
  have hgr:=grown 0 (by omega)
  simp only [dW,dE,Array.empty_append] at hgr hK ⊢;exact⟨_,_,_,hr,Xi hs _,XT h w _,hK _ _ _ hgr⟩
 | some g=>
  have holds:∀ j u,xs[j]?=some u->w.cell? (g.add j)=some u:=Qe.cells hs H
  have hr:=run_append_grow (P:=P) w t ty e i z T.sl hi hz g n n xs hxs holds ⟨b2,o2,none⟩ m c2 news hl hnews (by omega) (by omega) (growslice_fits (by omega) hb)
  exact⟨_,_,_,hr,Xi hs _,XT h w _,hK _ _ _ (grown n (by omega))⟩
end
end Go.Vc
namespace Go.Proofs.YthicpjafcpfjoaaGreatDoor
open Go Go.Vc Go.RowKit
theorem Qaj:∀(k u:Nat),u<10 ^ (k+1)->Lib.nDigits u<=k+1
 | 0,u,h=>by rw [Lib.nDigits_small (by simpa using h)];exact cB _
 | k+1,u,h=>by
  by_cases h10:u<10
  ·rw [Lib.nDigits_small h10];omega
  ·rw [Lib.nDigits_big h10];have:=Qaj k (u / 10) (by rw [mC (by decide)];rw [Nat.pow_succ] at h;exact h)
   omega
theorem QjR {n:Int}(h0:-1000000000000<=n)(h1:n<=1000000000000):(Lib.itoa n).length<=14:=by
 unfold Lib.itoa;split
 ·rw [cH,Lib.decDigits_length];have:=Qaj 12 n.natAbs (by omega)
  omega
 ·rw [Lib.decDigits_length];have:=Qaj 12 n.toNat (by omega)
  omega
theorem QiL {n:Int}(h0:¬ n<0)(h:n<10):Lib.itoa n=[UInt8.ofNat (48+n).toNat]:=by
 unfold Lib.itoa;rw [bE h0,Lib.decDigits_one (by omega)]
 congr 2
 omega
theorem Vf {f:FuncId}{args:List Value}{h:Hp}{K:RtT}(H:∀ w,Sub h w->Calls Pg f args.toArray w fun e w'=>∃ v,e=.returned v/\Below w.heap.size w w'/\K v h):Qa Pg f args h K:=by
 intro w hs;refine(H w hs).mono ?_
 rintro e w' ⟨v,he,hB,hK⟩;refine⟨v,h,he,fun b o hb=>?_,⟨hB.os,hB.tape,hB.output,hB.size,fun b hb hn=>⟨hB.block b hb,hn⟩⟩,hK⟩
 have:=hs b o hb;have hlt:=(bV.1 this).1
 rw [hB.block b hlt];exact this
def Uk (h:Hp):Prop:=∀ w,Sub h w->Lib.TabIs Pg w "internal/strconv.uint64pow10" .u64 Lib.pow10Tab
theorem sub_le {h h':Hp}{w:World}(hl:h.le h')(hs:Sub h' w):Sub h w:=fun b o ho=>hs b o (hl b o ho)
theorem Uk.le {h h':Hp}(T:Uk h)(hl:h.le h'):Uk h':=fun w hs=>T w (sub_le hl hs)
theorem Qfa {W w:World}{name:String}{cs:Array Value}(hT:W.var? Pg name=some cs)(hs:Sub (G9 W) w):w.var? Pg name=some cs:=by
 unfold World.var? at *
 cases hg:Pg.globalNamed name with
 | none=>rw [hg] at hT;cases hT
 | some g=>
  rw [hg] at hT;simp only [gX] at hT ⊢;cases hb:W.heap[g]? with
  | none=>rw [hb] at hT;cases hT
  | some o=>
   rw [hs g o hb];rw [hb] at hT;exact hT
theorem Qpp {W w:World}{name:String}{k:IntKind}{zs:List Int}(hT:Lib.TabIs Pg W name k zs)(hs:Sub (G9 W) w):Lib.TabIs Pg w name k zs:=Qfa hT hs
theorem Qks (w:World)(k:Nat)(os:Array Obj):Below w.heap.size w (Go.Sort.grow (w.drewN k) os):=by
 refine⟨rfl,rfl,rfl,?_,fun i hi=>?_⟩
 ·show w.heap.size<=(w.heap++os).size;rw [kY];omega
 ·show (w.heap++os)[i]?=w.heap[i]?;rw [Array.getElem?_append_left hi]
theorem XW {n:Int}(hn:InR n){h:Hp}(T:Uk h){R:RtT}(hK:R (vs (bs (Lib.itoa n))) h):Qa Pg 119 [vi n] h R:=
 Vf fun w hs=>(Tryz.strconv_Itoa n hn.1 hn.2 w (T w hs)).mono fun e w' ⟨he,k,os,hw⟩=>⟨_,he,by rw [hw];exact Qks w k os,hK⟩
end Go.Proofs.YthicpjafcpfjoaaGreatDoor
namespace Go.Proofs.YthicpjafcpfjoaaGreatDoor
open Go Go.Vc
theorem Qgb {u0:Int}{u1:Int}{h:Hp}{R:RtT}(H:((decide (u0=0))=true->R (vs ⟨#[110,117,108,108]⟩) h)/\((decide (u0=0))=false->((decide (u0=1))=true->Qa Pg 119 [vi u1] h fun v1 h2=>∃ s3,v1=vs s3/\R (vs s3) h2)/\((decide (u0=1))=false->((decide (u1=0))=true->R (vs ⟨#[102,97,108,115,101]⟩) h)/\((decide (u1=0))=false->R (vs ⟨#[116,114,117,101]⟩) h)))):Qa Pg 120 [vag [vi u0,vi u1]] h R:=callO Tryz.func120 [.ag [.v (vi u0),.v (vi u1)]] H
theorem Qfc {u0:ByteArray}{h:Hp}{R:RtT}(H:∃ p1,RdG .eql 9 (.tmp 6) (.const (vs ⟨#[110,117,108,108]⟩)) (vs u0) (vs ⟨#[110,117,108,108]⟩) h (vb p1)/\(p1=true->Qa Pg 131 [] h fun v2 h3=>∃ x4 x5,v2=vag [vi x4,vi x5]/\R (Qf [vag [vi x4,vi x5],ifv none]) h3)/\(p1=false->∃ p6,RdG .eql 9 (.tmp 6) (.const (vs ⟨#[116,114,117,101]⟩)) (vs u0) (vs ⟨#[116,114,117,101]⟩) h (vb p6)/\let J10:Bool->Prop:=fun p11=>((p11=true->∃ p12,RdG .eql 9 (.tmp 13) (.const (vs ⟨#[116,114,117,101]⟩)) (vs u0) (vs ⟨#[116,114,117,101]⟩) h (vb p12)/\Qa Pg 110 [vb p12] h fun v13 h14=>∃ x15 x16,v13=vag [vi x15,vi x16]/\R (Qf [vag [vi x15,vi x16],ifv none]) h14)/\(p11=false->Qa Pg 145 [vs u0] h fun v18 h19=>∃ x20 e21,v18=Qf [vi x20,ifv e21]/\∃(J22:ShT),((Option.isSome e21)=false->Qa Pg 119 [vi x20] h19 fun v23 h24=>∃ s25,v23=vs s25/\J22 (.t (.one (.v (vs s25)))) h24)/\(¬((Option.isSome e21)=false)->J22 (.t (.one (.v (vs ⟨#[]⟩)))) h19)/\∀ h26 s27,J22 (.t (.one (.v (vs s27)))) h26->∃ p28,((Option.isSome e21)=false->RdG .neq 9 (.tmp 25) (.tmp 26) (vs s27) (vs u0) h26 (vb p28))/\((cond (cond (cond (Option.isSome e21) true p28) true (decide (x20<(-1000000000)))) true (decide (x20>1000000000)))=true->R (Qf [vag [vi 0,vi 0],(ifv (some (119,vi 4)))]) h26)/\((cond (cond (cond (Option.isSome e21) true p28) true (decide (x20<(-1000000000)))) true (decide (x20>1000000000)))=false->Qa Pg 197 [vi x20] h26 fun v30 h31=>∃ x32 x33,v30=vag [vi x32,vi x33]/\R (Qf [vag [vi x32,vi x33],ifv none]) h31)));(p6=true->J10 p6)/\(p6=false->∃ p8,RdG .eql 9 (.tmp 6) (.const (vs ⟨#[102,97,108,115,101]⟩)) (vs u0) (vs ⟨#[102,97,108,115,101]⟩) h (vb p8)/\J10 p8))):Qa Pg 231 [vs u0] h R:=callO Tryz.func231 [.one (.v (vs u0))] H
open Go.Txt
structure MD (h:Hp):Prop where
 a:∃ tp p,∀ w,Sub h w->w.var? Pg "strconv.ErrSyntax"=some #[.iface tp p]
 b:∃ tp p,∀ w,Sub h w->w.var? Pg "strconv.ErrRange"=some #[.iface tp p]
theorem MD.le {h h':Hp}(T:MD h)(hl:h.le h'):MD h':=by
 obtain⟨⟨t,p,a⟩,⟨u,q,b⟩⟩:=T;exact⟨⟨t,p,fun w hs=>a w (sub_le hl hs)⟩,⟨u,q,fun w hs=>b w (sub_le hl hs)⟩⟩
theorem strconv_Atoi_ok {l:LuT}(hl:l.length<=1000000){h:Hp}(E:MD h){R:RtT}(hY:∀ v,Lib.atoiAll l=.ok v->R (Qf [vi v,ifv none]) h)(hN:(∀ v,Lib.atoiAll l≠.ok v)->∀ x e,R (Qf [vi x,ifv (some e)]) h) :
  Qa Pg 145 [vs (bs l)] h R:=by
 have hsz:(bs l).size=l.length:=Yh l;have hdl:(bs l).data.toList=l:=by simp [bs]
 obtain⟨⟨t,p,ha⟩,⟨u,q,hb⟩⟩:=E;refine Vf fun w hs=>?_
 cases hA:Lib.atoiAll l
 ·rename_i v;refine(Tryz.strconv_Atoi_ok (bs l) (by omega) v (by rw [hdl];exact hA) w).mono ?_
  rintro e w' ⟨he,hw⟩;refine⟨_,he,?_,hY v hA⟩
  rcases hw with rfl|⟨t,rfl⟩
  ·exact RowKit.Below.refl _ _
  ·exact Lib.bytesWorld_below _ _ _
 ·refine(Any.strconv_Atoi_syntax_var Tryz.laysC172 (bs l) (by omega) (by rw [hdl];exact hA) t p w (ha w hs)).mono ?_
  rintro e w' ⟨N,he,_,_,hB⟩;exact⟨_,he,hB,hN (fun v e=>by rw [hA] at e;cases e) _ (_,_)⟩
 ·refine(Any.strconv_Atoi_range_var Tryz.laysC172 (bs l) (by omega) (by rw [hdl];exact hA) u q w (hb w hs)).mono ?_
  rintro e w' ⟨N,he,_,_,hB⟩;exact⟨_,he,hB,hN (fun v e=>by rw [hA] at e;cases e) _ (_,_)⟩
def Yf (v:Int × Int):LuT:=if v.1=0 then JT else if v.1=1 then Lib.itoa v.2 else if v.2=0 then Wr else KW
theorem Uy {v:Int × Int}(hn:InR v.2){h:Hp}(T:Uk h){R:RtT}(hK:R (vs (bs (Yf v))) h):Qa Pg 120 [vag (Qu v)] h R:=by
 refine Qgb ?_
 unfold Yf at hK;refine⟨fun g=>?_,fun g1=>⟨fun g=>?_,fun g2=>⟨fun g=>?_,fun g3=>?_⟩⟩⟩
 ·rw [bJ (bC g)] at hK;exact hK
 ·rw [bE (bB g1),bJ (bC g)] at hK;exact XW hn T ⟨_,rfl,hK⟩
 ·rw [bE (bB g1),bE (bB g2),bJ (bC g)] at hK;exact hK
 ·rw [bE (bB g1),bE (bB g2),bE (bB g3)] at hK;exact hK
def KX (l:LuT):(Int × Int) × Int:=
 if l=JT then((0,0),0) else if l=KW\/l=Wr then(Ya (decide (l=KW)),0) else
  match Lib.atoiAll l with
  | .ok v=>if Lib.itoa v=l/\-1000000000<=v/\v<=1000000000 then(Kd v,0) else((0,0),4)
  | _=>((0,0),4)
theorem Gw {l:LuT}(hl:l.length<=1000000){h:Hp}(T:Uk h)(E:MD h){R:RtT}(hK:R (Qf [vag (Qu (KX l).1),ifv (QA (KX l).2)]) h):Qa Pg 231 [vs (bs l)] h R:=by
 refine Qfc ?_
 refine⟨_,QZ (b:=JT),fun g=>?_,fun g1=>?_⟩
 ·have g:=bC g;have:KX l=((0,0),0):=by unfold KX;rw [bJ g]
  rw [this] at hK;exact Zc ⟨_,_,rfl,hK⟩
 have g1:=bB g1;refine⟨_,QZ (b:=KW),?_⟩
 intro J10;have yes:l=KW\/l=Wr->J10 true:=by
  intro hw;refine⟨fun _=>⟨_,QZ (b:=KW),?_⟩,fun g=>by cases g⟩
  have:KX l=(Ya (decide (l=KW)),0):=by unfold KX;rw [bE g1,bJ hw]
  rw [this] at hK;exact QN ⟨_,_,rfl,hK⟩
 have no:¬(l=KW\/l=Wr)->J10 false:=by
  intro hw;refine⟨fun g=>by (cases g),fun _=>?_⟩
  have hr:KX l=match Lib.atoiAll l with
   | .ok v=>if Lib.itoa v=l/\-1000000000<=v/\v<=1000000000 then(Kd v,0) else((0,0),4)
   | _=>((0,0),4):=by unfold KX;rw [bE g1,bE hw]
  refine strconv_Atoi_ok hl E (fun v hv=>⟨_,_,rfl,?_⟩) fun hn x e=>⟨_,_,rfl,?_⟩
  ·rw [hv] at hr;simp only at hr;have hb:=Lib.atoiAll_bounds hv;refine⟨fun x h'=>h'=h/\x=.t (.one (.v (vs (bs (Lib.itoa v))))),fun _=>XW (by unfold InR;omega) T ⟨_,rfl,rfl,rfl⟩,fun g=>absurd rfl g,?_⟩
   rintro h26 s27 ⟨rfl,e⟩;cases e;refine⟨_,fun _=>Uc (a:=Lib.itoa v) (b:=l),fun g=>?_,fun g=>?_⟩
   ·have:¬(Lib.itoa v=l/\-1000000000<=v/\v<=1000000000):=by
     rintro⟨h1,h2,h3⟩;rw [cL h1,cO (show ¬ v < -1000000000 by omega),cO (show ¬ v>1000000000 by omega)] at g
     cases g
    rw [hr,bE this] at hK;exact hK
   ·have:Lib.itoa v=l/\-1000000000<=v/\v<=1000000000:=by obtain⟨g,g3⟩:=YP g;obtain⟨g,g2⟩:=YP g;obtain⟨_,g⟩:=YP g;have g3:=bB g3;have g2:=bB g2;exact⟨by simpa using g,by omega,by omega⟩
    rw [hr,bJ this] at hK;exact QJ ⟨_,_,rfl,hK⟩
  ·have hr2:KX l=((0,0),4):=by
    rw [hr];cases hA:Lib.atoiAll l
    ·exact absurd hA (hn _)
    ·rfl
    ·rfl
   rw [hr2] at hK;refine⟨fun x h'=>h'=h/\∃ s,x=.t (.one (.v (vs s))),fun g=>by (cases g),fun _=>⟨rfl,_,rfl⟩,?_⟩
   rintro h26 s27 ⟨rfl,s,e⟩;cases e;exact⟨false,fun g=>by (cases g),fun _=>hK,fun g=>by cases g⟩
 clear_value J10;refine⟨fun g=>?_,fun g2=>⟨_,QZ (b:=Wr),?_⟩⟩
 ·rw [g];exact yes (.inl (bC g))
 ·have g2:=bB g2;by_cases hf:l=Wr
  ·rw [cL hf];exact yes (.inr hf)
  ·rw [cO hf];exact no (by rintro(h|h);exact g2 h;exact hf h)
end Go.Proofs.YthicpjafcpfjoaaGreatDoor
namespace Go.Proofs.YthicpjafcpfjoaaGreatDoor
open Go Go.Vc
theorem GT {u0 u1:Nat}{u2:OtT}{h:Hp}{R:RtT}(H:∃ e1,Hp.cell h u0 (u1+2)=some (ifv e1)/\let J5:HpT:=fun h6=>(Hp.store h6 u0 u1 [vsl none 0 0] fun h7=>R (Qf []) h7);((Option.isNone e1)=true->Hp.store h u0 (u1+2) [ifv u2] fun h2=>J5 h2)/\((Option.isNone e1)=false->J5 h)):Qa Pg 140 [vhp u0 u1,ifv u2] h R:=callO Tryz.func140 [.one (.hp u0 u1),.one (.ifc u2)] H
theorem QaG {u0 u1:Nat}{u2:OaT}{u3 u4:Nat}{h:Hp}{R:RtT}(H:∃ a1 n1 c1,Hp.cell h u0 u1=some (vsl a1 n1 c1)/\∃ a2 n2 c2,((decide ((n1:Int)=0))=false->Hp.cell h u0 u1=some (vsl a2 n2 c2))/\∃ b3 o4,((decide ((n1:Int)=0))=false->Ix a2 b3 o4 0 n2)/\∃ s5,((decide ((n1:Int)=0))=false->Hp.cell h b3 (o4+(0:Int).toNat*1)=some (vs s5))/\∃(J6:ShT),((decide ((n1:Int)=0))=false->Qa Pg 142 [vsl u2 u3 u4,vs s5] h fun v7 h8=>∃ p9,v7=vb p9/\J6 (.t (.one (.v (vb p9)))) h8)/\(¬((decide ((n1:Int)=0))=false)->J6 (.t (.one (.v (vb false)))) h)/\∀ h10 p11,J6 (.t (.one (.v (vb p11)))) h10->((cond (decide ((n1:Int)=0)) true (!p11))=true->R (vs ⟨#[]⟩) h10)/\((cond (decide ((n1:Int)=0)) true (!p11))=false->∃ a13 n13 c13,Hp.cell h10 u0 u1=some (vsl a13 n13 c13)/\∃ b14 o15,Ix a13 b14 o15 0 n13/\∃ s16,Hp.cell h10 b14 (o15+(0:Int).toNat*1)=some (vs s16)/\∃ a17 n17 c17,Hp.cell h10 u0 u1=some (vsl a17 n17 c17)/\∃ a18 n18 c18,Rd Pg (Instr.sliceAt 162 (vsl a17 n17 c17) (some (vi 1)) none none) h10 (vsl a18 n18 c18)/\Hp.store h10 u0 u1 [vsl a18 n18 c18] fun h19=>R (vs s16) h19)):Qa Pg 85 [vhp u0 u1,vsl u2 u3 u4] h R:=callO Tryz.func85 [.one (.hp u0 u1),.one (.v (vsl u2 u3 u4))] H
theorem GP {u0 u1:Nat}{u2:ByteArray}{h:Hp}{R:RtT}(H:∀ b1,h b1=none->let h2:=Hp.set h b1 (Qb [vs u2] 9);Qa Pg 85 [vhp u0 u1,(vsl (some ⟨b1,0,none⟩) 1 1)] h2 fun v3 h4=>∃ s5,v3=vs s5/\∃ p6,RdG .eql 9 (.tmp 7) (.const (vs ⟨#[]⟩)) (vs s5) (vs ⟨#[]⟩) h4 (vb p6)/\(p6=true->Qa Pg 140 [vhp u0 u1,(ifv (some (119,vi 4)))] h4 fun v7 h8=>v7=Qf []/\R (Qf []) h8)/\(p6=false->R (Qf []) h4)):Qa Pg 83 [vhp u0 u1,vs u2] h R:=callO Tryz.func83 [.one (.hp u0 u1),.one (.v (vs u2))] H
theorem UZ {u0 u1:Nat}{u2:Int}{h:Hp}{R:RtT}(H:∃ a1 n1 c1,Hp.cell h u0 u1=some (vsl a1 n1 c1)/\((decide ((n1:Int)=0))=true->Qa Pg 140 [vhp u0 u1,(ifv (some (119,vi 4)))] h fun v2 h3=>v2=Qf []/\R (vi 0) h3)/\((decide ((n1:Int)=0))=false->∃ a5 n5 c5,Hp.cell h u0 u1=some (vsl a5 n5 c5)/\∃ b6 o7,Ix a5 b6 o7 0 n5/\∃ s8,Hp.cell h b6 (o7+(0:Int).toNat*1)=some (vs s8)/\Qa Pg 145 [vs s8] h fun v9 h10=>∃ x11 e12,v9=Qf [vi x11,ifv e12]/\∃ a13 n13 c13,((Option.isSome e12)=false->Hp.cell h10 u0 u1=some (vsl a13 n13 c13))/\∃ b14 o15,((Option.isSome e12)=false->Ix a13 b14 o15 0 n13)/\∃ s16,((Option.isSome e12)=false->Hp.cell h10 b14 (o15+(0:Int).toNat*1)=some (vs s16))/\∃ x17,((Option.isSome e12)=false->Rd Pg (Instr.index 9 (vs s16) (vi 0)) h10 (vk .u8 x17))/\∃ a18 n18 c18,((cond (Option.isSome e12) true (decide (x17<48)))=false->Hp.cell h10 u0 u1=some (vsl a18 n18 c18))/\∃ b19 o20,((cond (Option.isSome e12) true (decide (x17<48)))=false->Ix a18 b19 o20 0 n18)/\∃ s21,((cond (Option.isSome e12) true (decide (x17<48)))=false->Hp.cell h10 b19 (o20+(0:Int).toNat*1)=some (vs s21))/\∃ x22,((cond (Option.isSome e12) true (decide (x17<48)))=false->Rd Pg (Instr.index 9 (vs s21) (vi 0)) h10 (vk .u8 x22))/\((cond (cond (cond (Option.isSome e12) true (decide (x17<48))) true (decide (x22>57))) true (decide (x11>u2)))=true->Qa Pg 140 [vhp u0 u1,(ifv (some (119,vi 4)))] h10 fun v23 h24=>v23=Qf []/\R (vi 0) h24)/\((cond (cond (cond (Option.isSome e12) true (decide (x17<48))) true (decide (x22>57))) true (decide (x11>u2)))=false->∃ a26 n26 c26,Hp.cell h10 u0 u1=some (vsl a26 n26 c26)/\∃ a27 n27 c27,Rd Pg (Instr.sliceAt 162 (vsl a26 n26 c26) (some (vi 1)) none none) h10 (vsl a27 n27 c27)/\Hp.store h10 u0 u1 [vsl a27 n27 c27] fun h28=>R (vi x11) h28))):Qa Pg 87 [vhp u0 u1,vi u2] h R:=callO Tryz.func87 [.one (.hp u0 u1),.one (.v (vi u2))] H
theorem QfW {u0:Int}{u1:Int}{u2:Int}{u3:Int}{u4:Int}{u5:Int}{h:Hp}{R:RtT}(H:∀ b1,h b1=none->let h2:=Hp.set h b1 (Qb [vi u0,vi u1,vi u2,vi u3,vi u4,vi u5] 250);R (vsl (some ⟨b1,0,none⟩) 1 1) h2 ):Qa Pg 238 [vag [vi u0,vi u1,vi u2,vi u3,vi u4,vi u5]] h R:=callO Tryz.func238 [.ag [.v (vi u0),.v (vi u1),.v (vi u2),.v (vi u3),.v (vi u4),.v (vi u5)]] H
theorem Mz {u0 u1:Nat}{u2:Int}{u3:OaT}{u4 u5:Nat}{u6:OaT}{u7 u8:Nat}{h:Hp}{R:RtT}(H:∃ x1,IsW x1 ((u4:Int)+(u7:Int))/\((decide (x1>=40))=true->Qa Pg 140 [vhp u0 u1,(ifv (some (119,vi 2)))] h fun v2 h3=>v2=Qf []/\Qa Pg 238 [vag [vi 1,vi 0,vi 0,vi 0,vi 0,vi 0]] h3 fun v4 h5=>∃ a6 n6 c6,v4=vsl a6 n6 c6/\R (vsl a6 n6 c6) h5)/\((decide (x1>=40))=false->Qa Pg 223 [vi u2,vsl u3 u4 u5,vsl u6 u7 u8] h fun v8 h9=>∃ a10 n10 c10,v8=vsl a10 n10 c10/\R (vsl a10 n10 c10) h9)):Qa Pg 199 [vhp u0 u1,vi u2,vsl u3 u4 u5,vsl u6 u7 u8] h R:=callO Tryz.func199 [.one (.hp u0 u1),.one (.v (vi u2)),.one (.v (vsl u3 u4 u5)),.one (.v (vsl u6 u7 u8))] H
theorem Mk {u0 u1:Nat}{u2:Value}{h:Hp}{R:RtT}(H:∃ x1,Hp.cell h u0 (u1+1)=some (vi x1)/\∃ x2,IsW x2 (x1+1)/\Hp.store h u0 (u1+1) [vi x2] fun h3=>∃ x4,Hp.cell h3 u0 (u1+1)=some (vi x4)/\let J9:HpT:=fun h10=>(ZC Pg u2 [] h10 fun v11 h12=>∃ a13 n13 c13,v11=vsl a13 n13 c13/\∃ x14,Hp.cell h12 u0 (u1+1)=some (vi x14)/\∃ x15,IsW x15 (x14-1)/\Hp.store h12 u0 (u1+1) [vi x15] fun h16=>R (vsl a13 n13 c13) h16);((decide (x4>12))=true->Qa Pg 140 [vhp u0 u1,(ifv (some (119,vi 2)))] h3 fun v5 h6=>v5=Qf []/\J9 h6)/\((decide (x4>12))=false->J9 h3)):Qa Pg 240 [vhp u0 u1,u2] h R:=callO Tryz.func240 [.one (.hp u0 u1),.one (.v u2)] H
theorem GJ {u0 u1:Nat}{h:Hp}{R:RtT}(H:∀ b1,h b1=none->let h2:=Hp.set h b1 (Qb [(vs ⟨#[40]⟩),(vs ⟨#[110,117,108,108]⟩),(vs ⟨#[116,114,117,101]⟩),(vs ⟨#[102,97,108,115,101]⟩),(vs ⟨#[116]⟩),(vs ⟨#[107]⟩),(vs ⟨#[97]⟩),(vs ⟨#[98]⟩)] 9);Qa Pg 85 [vhp u0 u1,(vsl (some ⟨b1,0,none⟩) 8 8)] h2 fun v3 h4=>∃ s5,v3=vs s5/\∃ p6,RdG .eql 9 (.tmp 10) (.const (vs ⟨#[40]⟩)) (vs s5) (vs ⟨#[40]⟩) h4 (vb p6)/\(p6=true->Qa Pg 240 [vhp u0 u1,(Value.func (.func 86) #[vhp u0 u1] #[])] h4 fun v7 h8=>∃ a9 n9 c9,v7=vsl a9 n9 c9/\Qa Pg 83 [vhp u0 u1,(vs ⟨#[41]⟩)] h8 fun v10 h11=>v10=Qf []/\R (vsl a9 n9 c9) h11)/\(p6=false->∃ p12,RdG .eql 9 (.tmp 10) (.const (vs ⟨#[110,117,108,108]⟩)) (vs s5) (vs ⟨#[110,117,108,108]⟩) h4 (vb p12)/\let J18:Bool->Prop:=fun p19=>((p19=true->Qa Pg 231 [vs s5] h4 fun v20 h21=>∃ x22 x23 e24,v20=Qf [vag [vi x22,vi x23],ifv e24]/\Qa Pg 238 [vag [vi 1,vi 0,vi 0,vi 0,vi x22,vi x23]] h21 fun v25 h26=>∃ a27 n27 c27,v25=vsl a27 n27 c27/\R (vsl a27 n27 c27) h26)/\(p19=false->∃ p28,RdG .eql 9 (.tmp 10) (.const (vs ⟨#[]⟩)) (vs s5) (vs ⟨#[]⟩) h4 (vb p28)/\(p28=true->Qa Pg 87 [vhp u0 u1,vi 1000000000] h4 fun v29 h30=>∃ x31,v29=vi x31/\Qa Pg 197 [vi x31] h30 fun v32 h33=>∃ x34 x35,v32=vag [vi x34,vi x35]/\Qa Pg 238 [vag [vi 1,vi 0,vi 0,vi 0,vi x34,vi x35]] h33 fun v36 h37=>∃ a38 n38 c38,v36=vsl a38 n38 c38/\R (vsl a38 n38 c38) h37)/\(p28=false->∃ a39 n39 c39,Hp.cell h4 9 0=some (vsl a39 n39 c39)/\Qa Pg 141 [vsl a39 n39 c39,vs s5] h4 fun v40 h41=>∃ x42,v40=vi x42/\Qa Pg 238 [vag [vi 2,vi 0,vi 0,vi x42,vi 0,vi 0]] h41 fun v43 h44=>∃ a45 n45 c45,v43=vsl a45 n45 c45/\R (vsl a45 n45 c45) h44)));(p12=true->J18 p12)/\(p12=false->∃ p14,RdG .eql 9 (.tmp 10) (.const (vs ⟨#[116,114,117,101]⟩)) (vs s5) (vs ⟨#[116,114,117,101]⟩) h4 (vb p14)/\(p14=true->J18 p14)/\(p14=false->∃ p16,RdG .eql 9 (.tmp 10) (.const (vs ⟨#[102,97,108,115,101]⟩)) (vs s5) (vs ⟨#[102,97,108,115,101]⟩) h4 (vb p16)/\J18 p16)))):Qa Pg 288 [vhp u0 u1] h R:=callO Tryz.func288 [.one (.hp u0 u1)] H
theorem VX {u0 u1:Nat}{h:Hp}{R:RtT}(H:∀ b1,h b1=none->let h2:=Hp.set h b1 (Qb [(vs ⟨#[45]⟩)] 9);Qa Pg 85 [vhp u0 u1,(vsl (some ⟨b1,0,none⟩) 1 1)] h2 fun v3 h4=>∃ s5,v3=vs s5/\∃ p6,RdG .eql 9 (.tmp 5) (.const (vs ⟨#[]⟩)) (vs s5) (vs ⟨#[]⟩) h4 (vb p6)/\(p6=true->Qa Pg 288 [vhp u0 u1] h4 fun v7 h8=>∃ a9 n9 c9,v7=vsl a9 n9 c9/\R (vsl a9 n9 c9) h8)/\(p6=false->Qa Pg 240 [vhp u0 u1,(Value.func (.func 287) #[vhp u0 u1] #[])] h4 fun v11 h12=>∃ a13 n13 c13,v11=vsl a13 n13 c13/\Qa Pg 199 [vhp u0 u1,vi 3,vsl a13 n13 c13,vsl none 0 0] h12 fun v14 h15=>∃ a16 n16 c16,v14=vsl a16 n16 c16/\R (vsl a16 n16 c16) h15)):Qa Pg 287 [vhp u0 u1] h R:=callO Tryz.func287 [.one (.hp u0 u1)] H
theorem Nl {u0 u1:Nat}{u2:Value}{u3:Value}{u4:OaT}{u5 u6:Nat}{h:Hp}{R:RtT}(H:ZC Pg u2 [] h fun v1 h2=>∃ a3 n3 c3,v1=vsl a3 n3 c3/\let J26:OaT->Nat->Nat->Hp->Prop:=fun a28 n28 c28 h29=>R (vsl a28 n28 c28) h29;∃(I5:LtT)(m6:LmT),I5 [vsl a3 n3 c3] h2/\∀ vs7 h8,I5 vs7 h8->∃ a9 n9 c9,vs7=[vsl a9 n9 c9]/\∃ e10,Hp.cell h8 u0 (u1+2)=some (ifv e10)/\((Option.isNone e10)=true->Qa Pg 85 [vhp u0 u1,vsl u4 u5 u6] h8 fun v13 h14=>∃ s15,v13=vs s15/\∃ p16,RdG .eql 9 (.tmp 21) (.const (vs ⟨#[]⟩)) (vs s15) (vs ⟨#[]⟩) h14 (vb p16)/\(p16=true->J26 a9 n9 c9 h14)/\(p16=false->∃ x19,Rd Pg (Instr.lookup 236 u3 (vs s15) false) h14 (vi x19)/\ZC Pg u2 [] h14 fun v20 h21=>∃ a22 n22 c22,v20=vsl a22 n22 c22/\Rd Pg (Instr.lookup 236 u3 (vs s15) false) h21 (vi x19)/\Qa Pg 199 [vhp u0 u1,vi x19,vsl a9 n9 c9,vsl a22 n22 c22] h21 fun v23 h24=>∃ a25 n25 c25,v23=vsl a25 n25 c25/\I5 [vsl a25 n25 c25] h24/\m6 [vsl a25 n25 c25] h24<m6 vs7 h8))/\((Option.isNone e10)=false->J26 a9 n9 c9 h8)):Qa Pg 143 [vhp u0 u1,u2,u3,vsl u4 u5 u6] h R:=callC ⟨[],[(2,([9],[.one (.slice)],[]))],[(5,[0,1,2,3,4,5,6,7,8])]⟩ Tryz.func143 [.one (.hp u0 u1),.one (.v u2),.one (.v u3),.one (.v (vsl u4 u5 u6))] H
theorem UU {u0 u1:Nat}{h:Hp}{R:RtT}(H:Qh Pg (Instr.makeMap 236 none) h fun v1 h2=>∃(y3:Value),v1=y3/\WX Pg (Instr.mapUpdate 236 y3 (vs ⟨#[42]⟩) (vi 8)) h2 fun h4=>∀ b5,h4 b5=none->let h6:=Hp.set h4 b5 (Qb [(vs ⟨#[42]⟩)] 9);Qa Pg 143 [vhp u0 u1,(Value.func (.func 287) #[vhp u0 u1] #[]),y3,(vsl (some ⟨b5,0,none⟩) 1 1)] h6 fun v7 h8=>∃ a9 n9 c9,v7=vsl a9 n9 c9/\R (vsl a9 n9 c9) h8):Qa Pg 280 [vhp u0 u1] h R:=callO Tryz.func280 [.one (.hp u0 u1)] H
theorem MZ {u0 u1:Nat}{h:Hp}{R:RtT}(H:Qh Pg (Instr.makeMap 236 none) h fun v1 h2=>∃(y3:Value),v1=y3/\WX Pg (Instr.mapUpdate 236 y3 (vs ⟨#[43]⟩) (vi 6)) h2 fun h4=>WX Pg (Instr.mapUpdate 236 y3 (vs ⟨#[45]⟩) (vi 7)) h4 fun h5=>∀ b6,h5 b6=none->let h7:=Hp.set h5 b6 (Qb [(vs ⟨#[43]⟩),(vs ⟨#[45]⟩)] 9);Qa Pg 143 [vhp u0 u1,(Value.func (.func 280) #[vhp u0 u1] #[]),y3,(vsl (some ⟨b6,0,none⟩) 2 2)] h7 fun v8 h9=>∃ a10 n10 c10,v8=vsl a10 n10 c10/\R (vsl a10 n10 c10) h9):Qa Pg 267 [vhp u0 u1] h R:=callO Tryz.func267 [.one (.hp u0 u1)] H
theorem US {u0 u1:Nat}{h:Hp}{R:RtT}(H:Qa Pg 267 [vhp u0 u1] h fun v1 h2=>∃ a3 n3 c3,v1=vsl a3 n3 c3/\∀ b4,h2 b4=none->let h5:=Hp.set h2 b4 (Qb [(vs ⟨#[60]⟩),(vs ⟨#[62]⟩),(vs ⟨#[60,61]⟩),(vs ⟨#[62,61]⟩),(vs ⟨#[61]⟩),(vs ⟨#[60,62]⟩),(vs ⟨#[105,115]⟩)] 9);Qa Pg 85 [vhp u0 u1,(vsl (some ⟨b4,0,none⟩) 7 7)] h5 fun v6 h7=>∃ s8,v6=vs s8/\let J78:OaT->Nat->Nat->Hp->Prop:=fun a80 n80 c80 h81=>R (vsl a80 n80 c80) h81;∃ p9,RdG .eql 9 (.tmp 11) (.const (vs ⟨#[60]⟩)) (vs s8) (vs ⟨#[60]⟩) h7 (vb p9)/\(p9=true->Qa Pg 267 [vhp u0 u1] h7 fun v10 h11=>∃ a12 n12 c12,v10=vsl a12 n12 c12/\Qa Pg 199 [vhp u0 u1,vi 11,vsl a3 n3 c3,vsl a12 n12 c12] h11 fun v13 h14=>∃ a15 n15 c15,v13=vsl a15 n15 c15/\R (vsl a15 n15 c15) h14)/\(p9=false->∃ p16,RdG .eql 9 (.tmp 11) (.const (vs ⟨#[62]⟩)) (vs s8) (vs ⟨#[62]⟩) h7 (vb p16)/\(p16=true->Qa Pg 267 [vhp u0 u1] h7 fun v17 h18=>∃ a19 n19 c19,v17=vsl a19 n19 c19/\Qa Pg 199 [vhp u0 u1,vi 11,vsl a19 n19 c19,vsl a3 n3 c3] h18 fun v20 h21=>∃ a22 n22 c22,v20=vsl a22 n22 c22/\R (vsl a22 n22 c22) h21)/\(p16=false->∃ p23,RdG .eql 9 (.tmp 11) (.const (vs ⟨#[60,61]⟩)) (vs s8) (vs ⟨#[60,61]⟩) h7 (vb p23)/\(p23=true->Qa Pg 267 [vhp u0 u1] h7 fun v24 h25=>∃ a26 n26 c26,v24=vsl a26 n26 c26/\Qa Pg 199 [vhp u0 u1,vi 11,vsl a26 n26 c26,vsl a3 n3 c3] h25 fun v27 h28=>∃ a29 n29 c29,v27=vsl a29 n29 c29/\Qa Pg 199 [vhp u0 u1,vi 4,vsl a29 n29 c29,vsl none 0 0] h28 fun v30 h31=>∃ a32 n32 c32,v30=vsl a32 n32 c32/\R (vsl a32 n32 c32) h31)/\(p23=false->∃ p33,RdG .eql 9 (.tmp 11) (.const (vs ⟨#[62,61]⟩)) (vs s8) (vs ⟨#[62,61]⟩) h7 (vb p33)/\(p33=true->Qa Pg 267 [vhp u0 u1] h7 fun v34 h35=>∃ a36 n36 c36,v34=vsl a36 n36 c36/\Qa Pg 199 [vhp u0 u1,vi 11,vsl a3 n3 c3,vsl a36 n36 c36] h35 fun v37 h38=>∃ a39 n39 c39,v37=vsl a39 n39 c39/\Qa Pg 199 [vhp u0 u1,vi 4,vsl a39 n39 c39,vsl none 0 0] h38 fun v40 h41=>∃ a42 n42 c42,v40=vsl a42 n42 c42/\R (vsl a42 n42 c42) h41)/\(p33=false->∃ p43,RdG .eql 9 (.tmp 11) (.const (vs ⟨#[61]⟩)) (vs s8) (vs ⟨#[61]⟩) h7 (vb p43)/\(p43=true->Qa Pg 267 [vhp u0 u1] h7 fun v44 h45=>∃ a46 n46 c46,v44=vsl a46 n46 c46/\Qa Pg 199 [vhp u0 u1,vi 12,vsl a3 n3 c3,vsl a46 n46 c46] h45 fun v47 h48=>∃ a49 n49 c49,v47=vsl a49 n49 c49/\R (vsl a49 n49 c49) h48)/\(p43=false->∃ p50,RdG .eql 9 (.tmp 11) (.const (vs ⟨#[60,62]⟩)) (vs s8) (vs ⟨#[60,62]⟩) h7 (vb p50)/\(p50=true->Qa Pg 267 [vhp u0 u1] h7 fun v51 h52=>∃ a53 n53 c53,v51=vsl a53 n53 c53/\Qa Pg 199 [vhp u0 u1,vi 12,vsl a3 n3 c3,vsl a53 n53 c53] h52 fun v54 h55=>∃ a56 n56 c56,v54=vsl a56 n56 c56/\Qa Pg 199 [vhp u0 u1,vi 4,vsl a56 n56 c56,vsl none 0 0] h55 fun v57 h58=>∃ a59 n59 c59,v57=vsl a59 n59 c59/\R (vsl a59 n59 c59) h58)/\(p50=false->∃ p60,RdG .eql 9 (.tmp 11) (.const (vs ⟨#[105,115]⟩)) (vs s8) (vs ⟨#[105,115]⟩) h7 (vb p60)/\(p60=true->∀ b61,h7 b61=none->let h62:=Hp.set h7 b61 (Qb [(vs ⟨#[110,111,116]⟩)] 9);Qa Pg 85 [vhp u0 u1,(vsl (some ⟨b61,0,none⟩) 1 1)] h62 fun v63 h64=>∃ s65,v63=vs s65/\Qa Pg 83 [vhp u0 u1,(vs ⟨#[110,117,108,108]⟩)] h64 fun v66 h67=>v66=Qf []/\Qa Pg 199 [vhp u0 u1,vi 5,vsl a3 n3 c3,vsl none 0 0] h67 fun v68 h69=>∃ a70 n70 c70,v68=vsl a70 n70 c70/\∃ p71,RdG .neq 9 (.tmp 70) (.const (vs ⟨#[]⟩)) (vs s65) (vs ⟨#[]⟩) h69 (vb p71)/\(p71=true->Qa Pg 199 [vhp u0 u1,vi 4,vsl a70 n70 c70,vsl none 0 0] h69 fun v72 h73=>∃ a74 n74 c74,v72=vsl a74 n74 c74/\J78 a74 n74 c74 h73)/\(p71=false->J78 a70 n70 c70 h69))/\(p60=false->J78 a3 n3 c3 h7)))))))):Qa Pg 239 [vhp u0 u1] h R:=callO Tryz.func239 [.one (.hp u0 u1)] H
theorem M0 {u0 u1:Nat}{h:Hp}{R:RtT}(H:∀ b1,h b1=none->let h2:=Hp.set h b1 (Qb [(vs ⟨#[110,111,116]⟩)] 9);Qa Pg 85 [vhp u0 u1,(vsl (some ⟨b1,0,none⟩) 1 1)] h2 fun v3 h4=>∃ s5,v3=vs s5/\∃ p6,RdG .eql 9 (.tmp 5) (.const (vs ⟨#[]⟩)) (vs s5) (vs ⟨#[]⟩) h4 (vb p6)/\(p6=true->Qa Pg 239 [vhp u0 u1] h4 fun v7 h8=>∃ a9 n9 c9,v7=vsl a9 n9 c9/\R (vsl a9 n9 c9) h8)/\(p6=false->Qa Pg 240 [vhp u0 u1,(Value.func (.func 200) #[vhp u0 u1] #[])] h4 fun v11 h12=>∃ a13 n13 c13,v11=vsl a13 n13 c13/\Qa Pg 199 [vhp u0 u1,vi 4,vsl a13 n13 c13,vsl none 0 0] h12 fun v14 h15=>∃ a16 n16 c16,v14=vsl a16 n16 c16/\R (vsl a16 n16 c16) h15)):Qa Pg 200 [vhp u0 u1] h R:=callO Tryz.func200 [.one (.hp u0 u1)] H
theorem Nc {u0 u1:Nat}{h:Hp}{R:RtT}(H:Qh Pg (Instr.makeMap 236 none) h fun v1 h2=>∃(y3:Value),v1=y3/\WX Pg (Instr.mapUpdate 236 y3 (vs ⟨#[97,110,100]⟩) (vi 9)) h2 fun h4=>∀ b5,h4 b5=none->let h6:=Hp.set h4 b5 (Qb [(vs ⟨#[97,110,100]⟩)] 9);Qa Pg 143 [vhp u0 u1,(Value.func (.func 200) #[vhp u0 u1] #[]),y3,(vsl (some ⟨b5,0,none⟩) 1 1)] h6 fun v7 h8=>∃ a9 n9 c9,v7=vsl a9 n9 c9/\R (vsl a9 n9 c9) h8):Qa Pg 144 [vhp u0 u1] h R:=callO Tryz.func144 [.one (.hp u0 u1)] H
theorem NV {u0 u1:Nat}{h:Hp}{R:RtT}(H:Qh Pg (Instr.makeMap 236 none) h fun v1 h2=>∃(y3:Value),v1=y3/\WX Pg (Instr.mapUpdate 236 y3 (vs ⟨#[111,114]⟩) (vi 10)) h2 fun h4=>∀ b5,h4 b5=none->let h6:=Hp.set h4 b5 (Qb [(vs ⟨#[111,114]⟩)] 9);Qa Pg 143 [vhp u0 u1,(Value.func (.func 144) #[vhp u0 u1] #[]),y3,(vsl (some ⟨b5,0,none⟩) 1 1)] h6 fun v7 h8=>∃ a9 n9 c9,v7=vsl a9 n9 c9/\R (vsl a9 n9 c9) h8):Qa Pg 86 [vhp u0 u1] h R:=callO Tryz.func86 [.one (.hp u0 u1)] H
theorem No {u0 u1:Nat}{h:Hp}{R:RtT}(H:∀ b1,h b1=none->let h2:=Hp.set h b1 (Qb [(vs ⟨#[99,111,117,110,116]⟩),(vs ⟨#[115,117,109]⟩),(vs ⟨#[109,105,110]⟩),(vs ⟨#[109,97,120]⟩)] 9);Qa Pg 85 [vhp u0 u1,(vsl (some ⟨b1,0,none⟩) 4 4)] h2 fun v3 h4=>∃ s5,v3=vs s5/\∃ p6,RdG .eql 9 (.tmp 8) (.const (vs ⟨#[]⟩)) (vs s5) (vs ⟨#[]⟩) h4 (vb p6)/\let J11:HpT:=fun h12=>(Qa Pg 83 [vhp u0 u1,(vs ⟨#[40]⟩)] h12 fun v13 h14=>v13=Qf []/\∃ a15 n15 c15,Hp.cell h14 0 0=some (vsl a15 n15 c15)/\Qa Pg 141 [vsl a15 n15 c15,vs s5] h14 fun v16 h17=>∃ x18,v16=vi x18/\let J56:Int->OaT->Nat->Nat->Hp->Prop:=fun x64 a65 n65 c65 h66=>(Qa Pg 83 [vhp u0 u1,(vs ⟨#[41]⟩)] h66 fun v67 h68=>v67=Qf []/\R (vag [vi x64,vsl a65 n65 c65]) h68);∃ p19,RdG .eql 9 (.tmp 23) (.const (vs ⟨#[99,111,117,110,116]⟩)) (vs s5) (vs ⟨#[99,111,117,110,116]⟩) h17 (vb p19)/\(p19=true->∀ b20,h17 b20=none->let h21:=Hp.set h17 b20 (Qb [(vs ⟨#[42]⟩)] 9);∃(J22:ShT),(p19=true->Qa Pg 85 [vhp u0 u1,(vsl (some ⟨b20,0,none⟩) 1 1)] h21 fun v23 h24=>∃ s25,v23=vs s25/\J22 (.t (.one (.v (vs s25)))) h24)/\(¬(p19=true)->J22 (.t (.one (.v (vs ⟨#[]⟩)))) h21)/\∀ h26 s27,J22 (.t (.one (.v (vs s27)))) h26->∃ p28,(p19=true->RdG .neq 9 (.tmp 28) (.const (vs ⟨#[]⟩)) (vs s27) (vs ⟨#[]⟩) h26 (vb p28))/\((cond p19 p28 false)=true->J56 x18 none 0 0 h26)/\((cond p19 p28 false)=false->∃ p30,RdG .eql 9 (.tmp 32) (.const (vs ⟨#[99,111,117,110,116]⟩)) (vs s5) (vs ⟨#[99,111,117,110,116]⟩) h26 (vb p30)/\(p30=true->Qa Pg 86 [vhp u0 u1] h26 fun v31 h32=>∃ a33 n33 c33,v31=vsl a33 n33 c33/\J56 2 a33 n33 c33 h32)/\(p30=false->Qa Pg 86 [vhp u0 u1] h26 fun v35 h36=>∃ a37 n37 c37,v35=vsl a37 n37 c37/\J56 x18 a37 n37 c37 h36)))/\(¬(p19=true)->∃(J39:ShT),(p19=true->Qa Pg 85 [vhp u0 u1,vsl none 0 0] h17 fun v40 h41=>∃ s42,v40=vs s42/\J39 (.t (.one (.v (vs s42)))) h41)/\(¬(p19=true)->J39 (.t (.one (.v (vs ⟨#[]⟩)))) h17)/\∀ h43 s44,J39 (.t (.one (.v (vs s44)))) h43->∃ p45,(p19=true->RdG .neq 9 (.tmp 28) (.const (vs ⟨#[]⟩)) (vs s44) (vs ⟨#[]⟩) h43 (vb p45))/\((cond p19 p45 false)=true->J56 x18 none 0 0 h43)/\((cond p19 p45 false)=false->∃ p47,RdG .eql 9 (.tmp 32) (.const (vs ⟨#[99,111,117,110,116]⟩)) (vs s5) (vs ⟨#[99,111,117,110,116]⟩) h43 (vb p47)/\(p47=true->Qa Pg 86 [vhp u0 u1] h43 fun v48 h49=>∃ a50 n50 c50,v48=vsl a50 n50 c50/\J56 2 a50 n50 c50 h49)/\(p47=false->Qa Pg 86 [vhp u0 u1] h43 fun v52 h53=>∃ a54 n54 c54,v52=vsl a54 n54 c54/\J56 x18 a54 n54 c54 h53))));(p6=true->Qa Pg 140 [vhp u0 u1,(ifv (some (119,vi 4)))] h4 fun v7 h8=>v7=Qf []/\J11 h8)/\(p6=false->J11 h4)):Qa Pg 84 [vhp u0 u1] h R:=callO Tryz.func84 [.one (.hp u0 u1)] H
theorem Uj {u0 u1:Nat}{u2:ByteArray}{u3:Int}{h:Hp}{R:RtT}(H:∀ b1,h b1=none->let h2:=Hp.set h b1 (Qb [vs u2] 9);Qa Pg 85 [vhp u0 u1,(vsl (some ⟨b1,0,none⟩) 1 1)] h2 fun v3 h4=>∃ s5,v3=vs s5/\∃ p6,RdG .eql 9 (.tmp 10) (.const (vs ⟨#[]⟩)) (vs s5) (vs ⟨#[]⟩) h4 (vb p6)/\(p6=true->R (vi u3) h4)/\(p6=false->Qa Pg 87 [vhp u0 u1,vi 1000] h4 fun v8 h9=>∃ x10,v8=vi x10/\R (vi x10) h9)):Qa Pg 88 [vhp u0 u1,vs u2,vi u3] h R:=callO Tryz.func88 [.one (.hp u0 u1),.one (.v (vs u2)),.one (.v (vi u3))] H
theorem Qff {u0:ByteArray}{h:Hp}{R:RtT}(H:Qa Pg 82 [vs u0] h fun v1 h2=>∃ a3 n3 c3 e4,v1=Qf [vsl a3 n3 c3,ifv e4]/\((Option.isSome e4)=true->R (Qf [vag [vsl none 0 0,vsl none 0 0,vsl none 0 0,vi 0,vi 0,vi 0,vi 0],ifv e4]) h2)/\((Option.isSome e4)=false->∀ b6,h2 b6=none->let h7:=Hp.set h2 b6 (Qb [vsl a3 n3 c3,vi 0,ifv none] 167);Qa Pg 83 [vhp b6 0,(vs ⟨#[115,101,108,101,99,116]⟩)] h7 fun v8 h9=>v8=Qf []/\Qa Pg 84 [vhp b6 0] h9 fun v10 h11=>∃ x12 a13 n13 c13,v10=vag [vi x12,vsl a13 n13 c13]/\∀ b14,h11 b14=none->let h15:=Hp.set h11 b14 (Qb [vi x12,vsl a13 n13 c13] 153);Qh Pg (Builtin.append_ #[27,27] 27 #[vsl none 0 0,(vsl (some ⟨b14,0,none⟩) 1 1)]) h15 fun v16 h17=>∃ a18 n18 c18,v16=vsl a18 n18 c18/\let J48:OaT->Nat->Nat->OaT->Nat->Nat->OaT->Nat->Nat->Hp->Prop:=fun a256 n256 c256 a257 n257 c257 a258 n258 c258 h259=>(Qa Pg 83 [vhp b6 0,(vs ⟨#[102,114,111,109]⟩)] h259 fun v260 h261=>v260=Qf []/\Qa Pg 83 [vhp b6 0,(vs ⟨#[101,118,101,110,116,115]⟩)] h261 fun v262 h263=>v262=Qf []/\∀ b264,h263 b264=none->let h265:=Hp.set h263 b264 (Qb [(vs ⟨#[119,104,101,114,101]⟩)] 9);Qa Pg 85 [vhp b6 0,(vsl (some ⟨b264,0,none⟩) 1 1)] h265 fun v266 h267=>∃ s268,v266=vs s268/\∃ p269,RdG .neq 9 (.tmp 46) (.const (vs ⟨#[]⟩)) (vs s268) (vs ⟨#[]⟩) h267 (vb p269)/\let J275:OaT->Nat->Nat->Hp->Prop:=fun a314 n314 c314 h315=>(∀ b316,h315 b316=none->let h317:=Hp.set h315 b316 (Qb [(vs ⟨#[103,114,111,117,112]⟩)] 9);Qa Pg 85 [vhp b6 0,(vsl (some ⟨b316,0,none⟩) 1 1)] h317 fun v318 h319=>∃ s320,v318=vs s320/\∃ p321,RdG .neq 9 (.tmp 53) (.const (vs ⟨#[]⟩)) (vs s320) (vs ⟨#[]⟩) h319 (vb p321)/\let J329:OaT->Nat->Nat->Hp->Prop:=fun a353 n353 c353 h354=>(Qa Pg 83 [vhp b6 0,(vs ⟨#[119,105,110,100,111,119]⟩)] h354 fun v355 h356=>v355=Qf []/\Qa Pg 87 [vhp b6 0,vi 1000] h356 fun v357 h358=>∃ x359,v357=vi x359/\Qa Pg 88 [vhp b6 0,(vs ⟨#[115,108,105,100,101]⟩),vi x359] h358 fun v360 h361=>∃ x362,v360=vi x362/\Qa Pg 88 [vhp b6 0,(vs ⟨#[100,101,108,97,121]⟩),vi 0] h361 fun v363 h364=>∃ x365,v363=vi x365/\Qa Pg 88 [vhp b6 0,(vs ⟨#[108,97,116,101]⟩),vi 0] h364 fun v366 h367=>∃ x368,v366=vi x368/\∃ e369,Hp.cell h367 b6 (0+2)=some (ifv e369)/\∃ a370 n370 c370,((Option.isNone e369)=true->Hp.cell h367 b6 0=some (vsl a370 n370 c370))/\let J374:HpT:=fun h375=>(∃ e376,Hp.cell h375 b6 (0+2)=some (ifv e376)/\let J383:HpT:=fun h384=>(∃ e385,Hp.cell h384 b6 (0+2)=some (ifv e385)/\((Option.isSome e385)=true->∃ e386,Hp.cell h384 b6 (0+2)=some (ifv e386)/\Hp.cell h384 b6 (0+2)=some (ifv e386)/\R (Qf [vag [vsl none 0 0,vsl none 0 0,vsl none 0 0,vi 0,vi 0,vi 0,vi 0],ifv e386]) h384)/\((Option.isSome e385)=false->R (Qf [vag [vsl a256 n256 c256,vsl a314 n314 c314,vsl a353 n353 c353,vi x359,vi x362,vi x365,vi x368],ifv none]) h384));((Option.isNone e376)=true->Qa Pg 89 [vag [vsl a256 n256 c256,vsl a314 n314 c314,vsl a353 n353 c353,vi x359,vi x362,vi x365,vi x368]] h375 fun v377 h378=>∃ e379,v377=ifv e379/\Hp.store h378 b6 (0+2) [ifv e379] fun h380=>J383 h380)/\((Option.isNone e376)=false->J383 h375));((cond (Option.isNone e369) (decide ((n370:Int)>0)) false)=true->Hp.store h367 b6 (0+2) [(ifv (some (119,vi 4)))] fun h371=>J374 h371)/\((cond (Option.isNone e369) (decide ((n370:Int)>0)) false)=false->J374 h367));(p321=true->Qa Pg 83 [vhp b6 0,(vs ⟨#[98,121]⟩)] h319 fun v322 h323=>v322=Qf []/\Qa Pg 86 [vhp b6 0] h323 fun v324 h325=>∃ a326 n326 c326,v324=vsl a326 n326 c326/\J329 a326 n326 c326 h325)/\(p321=false->J329 a258 n258 c258 h319));(p269=true->Qa Pg 86 [vhp b6 0] h267 fun v270 h271=>∃ a272 n272 c272,v270=vsl a272 n272 c272/\J275 a272 n272 c272 h271)/\(p269=false->J275 a257 n257 c257 h267));∃(I20:LtT)(m21:LmT),I20 [vsl a18 n18 c18,vsl none 0 0,vsl none 0 0,vi 0,vi 0,vi 0,vi 0] h17/\∀ vs22 h23,I20 vs22 h23->∃ a24 n24 c24 a25 n25 c25 a26 n26 c26 x27 x28 x29 x30,vs22=[vsl a24 n24 c24,vsl a25 n25 c25,vsl a26 n26 c26,vi x27,vi x28,vi x29,vi x30]/\∀ b31,h23 b31=none->let h32:=Hp.set h23 b31 (Qb [(vs ⟨#[44]⟩)] 9);Qa Pg 85 [vhp b6 0,(vsl (some ⟨b31,0,none⟩) 1 1)] h32 fun v33 h34=>∃ s35,v33=vs s35/\∃ p36,RdG .neq 9 (.tmp 31) (.const (vs ⟨#[]⟩)) (vs s35) (vs ⟨#[]⟩) h34 (vb p36)/\(p36=true->Qa Pg 84 [vhp b6 0] h34 fun v39 h40=>∃ x41 a42 n42 c42,v39=vag [vi x41,vsl a42 n42 c42]/\∀ b43,h40 b43=none->let h44:=Hp.set h40 b43 (Qb [vi x41,vsl a42 n42 c42] 153);Qh Pg (Builtin.append_ #[27,27] 27 #[vsl a24 n24 c24,(vsl (some ⟨b43,0,none⟩) 1 1)]) h44 fun v45 h46=>∃ a47 n47 c47,v45=vsl a47 n47 c47/\I20 [vsl a47 n47 c47,vsl a25 n25 c25,vsl a26 n26 c26,vi x27,vi x28,vi x29,vi x30] h46/\m21 [vsl a47 n47 c47,vsl a25 n25 c25,vsl a26 n26 c26,vi x27,vi x28,vi x29,vi x30] h46<m21 vs22 h23)/\(p36=false->J48 a24 n24 c24 a25 n25 c25 a26 n26 c26 h34))):Qa Pg 39 [vs u0] h R:=callC ⟨[19],[(8,([],[],[(1,[.slice,.slice,.slice,.int .i64,.int .i64,.int .i64,.int .i64])]))],[(7,[0,1,2,3,4,5,6,7]),(9,[0,1,2,3,4,5,6,7]),(27,[0,1,2,3,4,5,6])]⟩ Tryz.func39 [.one (.v (vs u0))] H
theorem KD {u0:OaT}{u1 u2:Nat}{u3:ByteArray}{h:Hp}{R:RtT}(H:∃(I2:LtT)(m3:LmT),I2 [vi 0] h/\∀ vs4 h5,I2 vs4 h5->∃ x6,vs4=[vi x6]/\((decide (x6<(u1:Int)))=true->∃ b9 o10,Ix u0 b9 o10 x6 u1/\∃ s11,Hp.cell h5 b9 (o10+x6.toNat*1)=some (vs s11)/\∃ p12,RdG .eql 9 (.tmp 11) (.tmp 15) (vs u3) (vs s11) h5 (vb p12)/\(p12=true->R (vi x6) h5)/\(p12=false->∃ x14,IsW x14 (x6+1)/\I2 [vi x14] h5/\m3 [vi x14] h5<m3 vs4 h5))/\((decide (x6<(u1:Int)))=false->R (vi (-1)) h5)):Qa Pg 141 [vsl u0 u1 u2,vs u3] h R:=callC ⟨[],[(2,([8],[.one (.int .i64)],[]))],[]⟩ Tryz.func141 [.one (.v (vsl u0 u1 u2)),.one (.v (vs u3))] H
theorem Wq {u0:OaT}{u1 u2:Nat}{u3:ByteArray}{h:Hp}{R:RtT}(H:Qa Pg 141 [vsl u0 u1 u2,vs u3] h fun v1 h2=>∃ x3,v1=vi x3/\R (vb (decide (x3>=0))) h2 ):Qa Pg 142 [vsl u0 u1 u2,vs u3] h R:=callO Tryz.func142 [.one (.v (vsl u0 u1 u2)),.one (.v (vs u3))] H
end Go.Proofs.YthicpjafcpfjoaaGreatDoor
namespace Go.Vc
open Go
section
variable {P:Program}
theorem Qa.less {f:FuncId}{vs:List Value}{h:Hp}{R R':RtT}(H:Qa P f vs h R)(hr:∀ v h',R v h'->∃ h2,h2.le h'/\R' v h2):Qa P f vs h R':=
 fun w hs=>(H w hs).mono fun e w' ⟨v,h',h1,h2,h3,h4⟩=>by
  obtain⟨k,hk,hR⟩:=hr v h' h4;refine⟨v,k,h1,fun b o ho=>h2 b o (hk b o ho),⟨h3.os,h3.tape,h3.output,h3.size,fun b hb hn=>⟨(h3.keep b hb hn).1,?_⟩⟩,hR⟩
  cases e:k b with
  | none=>rfl
  | some o=>have:=hk b o e;rw [(h3.keep b hb hn).2] at this;cases this
theorem Qmw {h:Hp}{b:Nat}{l:LuT}{tail:Array Value}{e:TypeId}{fz:Nat × Nat}(hb:h b=some (.cells ((l.map fun x=>vk .u8 (x.toNat:Nat)).toArray++tail) e fz)){i m:Nat}(him:i+m<=l.length) :
  h.row b (0+i) ((l.drop i).take m).length=some (((l.drop i).take m).map fun x=>vk .u8 (x.toNat:Nat)):=by
 have hl:((l.drop i).take m).length=m:=by simp;omega
 have hs:((l.map fun x=>vk .u8 (x.toNat:Nat)).toArray++tail).size=l.length+tail.size:=by simp
 unfold Hp.row;rw [hb,hl,dW];simp only;rw [bJ (by rw [hs];omega),kS,mG (by simp;omega),gP (by simp;omega),jN,pF]
theorem Qi2 {h:Hp}{src dst e:TypeId}(hs:P.underlying src=some .string)(hd:P.underlying dst=some (.slice e))(he:P.underlying e=some (.int .u8)){l:LuT}{K:RtT}
  (hK:∀ b cap tail fz,h b=none->l.length<=cap->K (vsl (some ⟨b,0,none⟩) l.length cap) (h.set b (.cells ((l.map fun x=>vk .u8 (x.toNat:Nat)).toArray++tail) e fz))):Qh P (convert src dst (vs (bs l))) h K:=by
 intro w hsub;have hr:=Lib.run_convert_string_bytes (P:=P) w src dst e (bs l) hs hd he;rw [Yh] at hr;have e1:Lib.bytesCells w e (bs l)=(l.map fun x=>vk .u8 (x.toNat:Nat)).toArray++Array.replicate (grownCap w l.length 0 e-l.length) (.int .u8 0):=by
  unfold Lib.bytesCells;rw [Yh];simp [bs]
 have hnew:=Lib.bytesWorld_at_new w e (bs l);rw [e1] at hnew;have hn:h w.heap.size=none:=hsub.none;obtain⟨fz,hnew⟩:∃ fz,(Lib.bytesWorld w e (bs l)).heap[w.heap.size]?=some (.cells ((l.map fun x=>vk .u8 (x.toNat:Nat)).toArray++Array.replicate (grownCap w l.length 0 e-l.length) (.int .u8 0)) e fz):=⟨_,hnew⟩
 refine⟨_,_,_,hr,?_,⟨rfl,rfl,rfl,by rw [Lib.bytesWorld_size];omega,fun b hb hnb=>⟨Lib.bytesWorld_at_old w e (bs l) b hb,?_⟩⟩,hK w.heap.size _ (Array.replicate (grownCap w l.length 0 e-l.length) (.int .u8 0)) fz hn (grownCap_ge w l.length 0 e)⟩
 ·intro b o hb;by_cases hbe:b=w.heap.size
  ·subst hbe;rw [qK] at hb;cases hb;exact hnew
  ·rw [qL _ _ hbe] at hb;have:=hsub b o hb;rw [Lib.bytesWorld_at_old w e (bs l) b (bV.1 this).1]
   exact this
 ·rw [qL _ _ (by omega)]
  exact hnb
end
structure Bes (F:NpT)(h:Hp)(F':NpT)(h' bx:Hp):Prop where
 m:Mut F h F' h'
 al:∀ b,F' b->h' b≠none
 x:bx.le h'
 n:∀ b o,bx b=some o->(h b=none\/F b)/\¬ F' b
section
variable {F F' F2:NpT}{h h' h2 bx:Hp}
theorem Bes.start (al:∀ b,F b->h b≠none):Bes F h F h (fun _=>none):=⟨rA (qO h),al,(fun b o ho=>by cases ho),(fun b o ho=>by cases ho)⟩
theorem Bes.call (S:Bes F h F' h' bx)(M:Mut F' h' F2 h2)(al:∀ b,F2 b->h2 b≠none):Bes F h F2 h2 bx:=
 ⟨S.m.trans M,al,(fun b o ho=>M.keep b o (S.n b o ho).2 (S.x b o ho)),(fun b o ho=>⟨(S.n b o ho).1,fun hf=>by
  rcases M.new b hf with h1|h1
  ·exact(S.n b o ho).2 h1
  ·rw [S.x b o ho] at h1;cases h1⟩)⟩
theorem Bes.grow (S:Bes F h F' h' bx)(l:h'.le h2):Bes F h F' h2 bx:=S.call (rA l) (fun b hb e=>by
 cases e2:h' b with
 | none=>exact S.al b hb e2
 | some o=>rw [l b o e2] at e;cases e)
theorem Bes.fresh (S:Bes F h F' h' bx){b:Nat}(hb:h' b=none):h b=none\/F b:=by
 by_cases hf:F b
 ·exact .inr hf
 ·left;cases e:h b with
  | none=>rfl
  | some o=>rw [S.m.keep b o hf e] at hb;cases hb
theorem Bes.alloc (S:Bes F h F' h' bx){b:Nat}(hb:h' b=none)(o:Obj):Bes F h F' (h'.set b o) (bx.set b o):=by
 refine⟨(S.grow (qQ (qO h') hb o)).m,(S.grow (qQ (qO h') hb o)).al,?_,?_⟩
 ·intro b2 o2 h2;by_cases e:b2=b
  ·subst e;rw [qK] at h2 ⊢;exact h2
  ·rw [qL _ _ e] at h2 ⊢;exact S.x b2 o2 h2
 ·intro b2 o2 h2;by_cases e:b2=b
  ·subst e;exact⟨S.fresh hb,fun hf=>S.al _ hf hb⟩
  ·rw [qL _ _ e] at h2;exact S.n b2 o2 h2
theorem Bes.keepA (S:Bes F h F' h' bx){b b2:Nat}{o o2:Obj}(hx:bx b2=some o2)(hb:h' b=none):(bx.set b o) b2=some o2:=by
 rw [qL]
 ·exact hx
 ·intro e;subst e;rw [S.x _ _ hx] at hb;cases hb
theorem Bes.put (S:Bes F h F' h' bx){b:Nat}{u v:Value}{t:TypeId}(hx:bx b=some (Qb [u] t)){K:HpT}(hK:Bes F h F' (h'.set b (Qb [v] t)) (bx.set b (Qb [v] t))->K (h'.set b (Qb [v] t))):h'.store b 0 [v] K:=by
 have hb:=S.x b _ hx;refine Zu hb (by simp) ?_
 have e:QP [u] 0 [v]=[v]:=rfl;rw [e];have hn:=S.n b _ hx;refine hK ⟨⟨fun b2 o hf ho=>?_,S.m.new⟩,fun b2 hf=>?_,?_,?_⟩
 ·rw [qL]
  ·exact S.m.keep b2 o hf ho
  ·intro e;subst e;rcases hn.1 with h1|h1
   ·rw [h1] at ho;cases ho
   ·exact hf h1
 ·by_cases e:b2=b
  ·subst e;rw [qK];simp
  ·rw [qL _ _ e];exact S.al b2 hf
 ·intro b2 o2 h2;by_cases e:b2=b
  ·subst e;rw [qK] at h2 ⊢;exact h2
  ·rw [qL _ _ e] at h2 ⊢;exact S.x b2 o2 h2
 ·intro b2 o2 h2;by_cases e:b2=b
  ·subst e;exact hn
  ·rw [qL _ _ e] at h2;exact S.n b2 o2 h2
theorem Bes.get (S:Bes F h F' h' bx){b:Nat}{u:Value}{t:TypeId}(hx:bx b=some (Qb [u] t)):h'.cell b 0=some u:=Qc (S.x b _ hx) rfl
theorem Mut.trim (M:Mut F h F' h'):∃ h2:Hp,h2.le h'/\Mut F h F' h2/\(∀ b,F' b->∀ o,h' b=some o->h2 b=some o)/\∀ b o,h2 b=some o->(¬ F b/\h b=some o)\/F' b:=by
 classical
 refine⟨fun b=>if (¬ F b/\h b≠none)\/F' b then h' b else none,fun b o ho=>?_,⟨fun b o hf ho=>?_,M.new⟩,fun b hf o ho=>?_,fun b o ho=>?_⟩
 ·simp only at ho;split at ho
  ·exact ho
  ·cases ho
 ·rw [bJ (.inl ⟨hf,by rw [ho];simp⟩)];exact M.keep b o hf ho
 ·show (if (¬ F b/\h b≠none)\/F' b then h' b else none)=some o
  rw [bJ (Or.inr hf)];exact ho
 ·simp only at ho;split at ho
  ·rename_i hc;rcases hc with ⟨h1,h2⟩|h1
   ·left;refine⟨h1,?_⟩
    cases e:h b with
    | none=>exact absurd e h2
    | some o2=>rw [M.keep b o2 h1 e] at ho;exact ho
   ·exact .inr h1
  ·cases ho
theorem Rec.cells {h:Hp}{g:Nat}{t:TypeId}{fs:List Fld}(R:Rec h g t fs){b:Nat}(hb:ftR g fs b){o:Obj}(ho:h b=some o):o.isCells=true:=by
 rcases hb with rfl|⟨j,f,hf,hb⟩
 ·rw [R.blk] at ho;cases ho;rfl
 ·have O:=R.own j f hf;cases f with
  | v x=>exact hb.elim
  | s e sz a n c xs=>
   rcases O.2 with ⟨h1,_⟩|⟨g',cur,h1,h2,_⟩
   ·have hb':a=some ⟨b,0,none⟩:=hb;rw [h1] at hb';cases hb'
   ·have hb':a=some ⟨b,0,none⟩:=hb;rw [h1] at hb';cases hb';rw [h2] at ho;cases ho;rfl
end
open Go.MapKept
section
variable {P:Program}{h:Hp}
theorem QcP {T:TypeId}{K:RtT}(hK:∀ b,h b=none->K (.map (some b)) (h.set b (.map #[] 0))):Qh P (Instr.makeMap T none) h K:=by
 intro w hs;refine⟨.map (some w.heap.size),_,_,?_,Sub.pushSet hs _,Fr.pushSet h w _,hK _ hs.none⟩
 simp [Instr.makeMap,newObj,Sem.run_bind,Sem.run]
theorem Qe6 {w:World}{r:Nat}{es:Array MapEntry}{c:Nat}(hb:w.heap[r]?=some (.map es c)):(getObj r).run P w=.ok (.map es c) w:=by simp [getObj,Sem.run,hb]
theorem Sub.mapSet {w:World}(hs:Sub h w){b:Nat}{o o':Obj}(hb:h b=some o):Sub (h.set b o') { w with heap:=w.heap.setIfInBounds b o' }/\Fr h (h.set b o') w { w with heap:=w.heap.setIfInBounds b o' }:=by
 have hw:=hs b _ hb;obtain⟨k1,k2⟩:=heap_set (o':=o') hw;refine⟨fun c oc hc=>?_,⟨rfl,rfl,rfl,by simp,fun c hc hn=>?_⟩⟩
 ·by_cases e:c=b
  ·subst e;rw [qK] at hc;cases hc;exact k1
  ·rw [qL _ _ e] at hc;exact(k2 c e).trans (hs c oc hc)
 ·have e:c≠b:=fun e=>by subst e;rw [hn] at hb;cases hb
  exact⟨k2 c e,by rw [qL _ _ e];exact hn⟩
theorem QkS {T k e:TypeId}{d:TypeDesc}(hT:P.underlying T=some (.map k e))(hd:P.underlying k=some d){b:Nat}{es:Array MapEntry}{clock:Nat}(hb:h b=some (.map es clock)){key v:Value}(hk:IsKey d key)(hf:Instr.findNow d key es.toList 0=some none){K:HpT}
  (hK:K (h.set b (.map (es.push { key:=key,val:=v,born:=clock }) (clock+1)))):WX P (Instr.mapUpdate T (.map (some b)) key v) h K:=by
 intro w hs;have hw:=hs b _ hb;obtain⟨k1,k2⟩:=hs.mapSet (o':=.map (es.push { key:=key,val:=v,born:=clock }) (clock+1)) hb;refine⟨_,_,?_,k1,k2,hK⟩
 simp only [Instr.mapUpdate,Sem.run_bind,run_underlying hT,Result.andThen_ok,Qe6 hw,run_checkKey hd hk,run_findKey hd hf,run_setObj_map _ hw]
theorem Qmz {T k e:TypeId}{d:TypeDesc}(hT:P.underlying T=some (.map k e))(hd:P.underlying k=some d){b:Nat}{es:Array MapEntry}{clock:Nat}(hb:h b=some (.map es clock)){key v:Value}(hk:IsKey d key){i:Nat}(hf:Instr.findNow d key es.toList 0=some (some (i,v))):Rd P (Instr.lookup T (.map (some b)) key false) h v:=by
 intro w hs;have hw:=hs b _ hb;simp only [Instr.lookup,Sem.run_bind,run_underlying hT,Result.andThen_ok,Qe6 hw,run_checkKey hd hk,run_findKey hd hf,Sem.run_pure];rfl
end
end Go.Vc
namespace Go.Proofs.YthicpjafcpfjoaaGreatDoor
open Go Go.Vc
theorem Qf2 {u0:Int}{h:Hp}{R:RtT}(H:((cond (decide (u0=1)) true (decide (u0=2)))=true->R (vi 0) h)/\((cond (decide (u0=1)) true (decide (u0=2)))=false->((cond (cond (decide (u0=3)) true (decide (u0=4))) true (decide (u0=5)))=true->R (vi 1) h)/\((cond (cond (decide (u0=3)) true (decide (u0=4))) true (decide (u0=5)))=false->((cond (decide (u0>=6)) (decide (u0<=12)) false)=true->R (vi 2) h)/\((cond (decide (u0>=6)) (decide (u0<=12)) false)=false->R (vi (-1)) h)))):Qa Pg 180 [vi u0] h R:=callO Tryz.func180 [.one (.v (vi u0))] H
theorem QfB {u0:Int}{u1:Int}{u2:Int}{u3:Int}{u4:Int}{u5:Int}{u6:Int}{u7:Int}{h:Hp}{R:RtT}(H:Qa Pg 197 [vi u0] h fun v1 h2=>∃ x3 x4,v1=vag [vi x3,vi x4]/\∃ x5 x6,Rd Pg (Instr.index 292 (vag [vi x3,vi x4,vi u1,vi u2,vi u3,vi u4,vi u5,vi u6]) (vi u7)) h2 (vag [vi x5,vi x6])/\R (vag [vi x5,vi x6]) h2):Qa Pg 162 [vag [vi u0,vi u1,vi u2,vi u3,vi u4,vi u5,vi u6],vi u7] h R:=callC ⟨[],[],[(1,[0,1,3,4,5,6,7,8,10,2,9,11,12])]⟩ Tryz.func162 [.ag [.v (vi u0),.v (vi u1),.v (vi u2),.v (vi u3),.v (vi u4),.v (vi u5),.v (vi u6)],.one (.v (vi u7))] H
theorem Qh7 {u0:OaT}{u1 u2:Nat}{u3:Int}{u4:Int}{u5:Int}{u6:Int}{u7:Int}{u8:Int}{u9:Int}{h:Hp}{R:RtT}(H:Qh Pg (Instr.makeSlice 91 (vi (u1:Int)) (vi (u1:Int))) h fun v1 h2=>∃ a3 n3 c3,v1=vsl a3 n3 c3/\∃(I5:LtT)(m6:LmT),I5 [vi 0] h2/\∀ vs7 h8,I5 vs7 h8->∃ x9,vs7=[vi x9]/\((decide (x9<(u1:Int)))=true->let J83:HpT:=fun h84=>(∃ x85,IsW x85 (x9+1)/\I5 [vi x85] h84/\m6 [vi x85] h84<m6 vs7 h8);∃ b12 o13,Ix u0 b12 o13 x9 u1/\∃ x14 x15 x16 x17 x18 x19,Hp.row h8 b12 (o13+x9.toNat*6) 6=some [vi x14,vi x15,vi x16,vi x17,vi x18,vi x19]/\((decide (x14=1))=true->∃ b20 o21,Ix a3 b20 o21 x9 n3/\Hp.store h8 b20 (o21+x9.toNat*2) [vi x18,vi x19] fun h22=>J83 h22)/\((decide (x14=1))=false->((decide (x14=2))=true->Qa Pg 162 [vag [vi u3,vi u4,vi u5,vi u6,vi u7,vi u8,vi u9],vi x17] h8 fun v24 h25=>∃ x26 x27,v24=vag [vi x26,vi x27]/\∃ b28 o29,Ix a3 b28 o29 x9 n3/\Hp.store h25 b28 (o29+x9.toNat*2) [vi x26,vi x27] fun h30=>J83 h30)/\((decide (x14=2))=false->((decide (x14=3))=true->∃ b32 o33,Ix a3 b32 o33 x15 n3/\∃ x34 x35,Hp.row h8 b32 (o33+x15.toNat*2) 2=some [vi x34,vi x35]/\Qa Pg 163 [vag [vi x34,vi x35]] h8 fun v36 h37=>∃ x38 x39,v36=vag [vi x38,vi x39]/\∃ b40 o41,Ix a3 b40 o41 x9 n3/\Hp.store h37 b40 (o41+x9.toNat*2) [vi x38,vi x39] fun h42=>J83 h42)/\((decide (x14=3))=false->((decide (x14=4))=true->∃ b44 o45,Ix a3 b44 o45 x15 n3/\∃ x46 x47,Hp.row h8 b44 (o45+x15.toNat*2) 2=some [vi x46,vi x47]/\Qa Pg 164 [vag [vi x46,vi x47]] h8 fun v48 h49=>∃ x50 x51,v48=vag [vi x50,vi x51]/\∃ b52 o53,Ix a3 b52 o53 x9 n3/\Hp.store h49 b52 (o53+x9.toNat*2) [vi x50,vi x51] fun h54=>J83 h54)/\((decide (x14=4))=false->((decide (x14=5))=true->∃ b56 o57,Ix a3 b56 o57 x15 n3/\∃ x58,Hp.cell h8 b56 (o57+x15.toNat*2)=some (vi x58)/\Qa Pg 110 [(vb (decide (x58=0)))] h8 fun v59 h60=>∃ x61 x62,v59=vag [vi x61,vi x62]/\∃ b63 o64,Ix a3 b63 o64 x9 n3/\Hp.store h60 b63 (o64+x9.toNat*2) [vi x61,vi x62] fun h65=>J83 h65)/\((decide (x14=5))=false->∃ b67 o68,Ix a3 b67 o68 x15 n3/\∃ x69 x70,Hp.row h8 b67 (o68+x15.toNat*2) 2=some [vi x69,vi x70]/\∃ b71 o72,Ix a3 b71 o72 x16 n3/\∃ x73 x74,Hp.row h8 b71 (o72+x16.toNat*2) 2=some [vi x73,vi x74]/\Qa Pg 165 [vi x14,vag [vi x69,vi x70],vag [vi x73,vi x74]] h8 fun v75 h76=>∃ x77 x78,v75=vag [vi x77,vi x78]/\∃ b79 o80,Ix a3 b79 o80 x9 n3/\Hp.store h76 b79 (o80+x9.toNat*2) [vi x77,vi x78] fun h81=>J83 h81))))))/\((decide (x9<(u1:Int)))=false->∃ x86,IsW x86 ((n3:Int)-1)/\∃ b87 o88,Ix a3 b87 o88 x86 n3/\∃ x89 x90,Hp.row h8 b87 (o88+x86.toNat*2) 2=some [vi x89,vi x90]/\R (vag [vi x89,vi x90]) h8)):Qa Pg 109 [vsl u0 u1 u2,vag [vi u3,vi u4,vi u5,vi u6,vi u7,vi u8,vi u9]] h R:=callC ⟨[],[(3,([13],[.one (.int .i64)],[]))],[(6,[0,1,2,3,4,5,6,7,8,9,10,11,12,13,14,15,16])]⟩ Tryz.func109 [.one (.v (vsl u0 u1 u2)),.ag [.v (vi u3),.v (vi u4),.v (vi u5),.v (vi u6),.v (vi u7),.v (vi u8),.v (vi u9)]] H
theorem Qih {u0:Int}{u1:Int}{h:Hp}{R:RtT}(H:((decide (u0=0))=true->R (Qf [vi u1,vb true]) h)/\((decide (u0=0))=false->let J3:Bool->Prop:=fun p4=>((p4=true->R (Qf [vi u0,vb true]) h)/\(p4=false->R (Qf [vi 0,vb false]) h));((decide (u1=0))=true->J3 (decide (u1=0)))/\((decide (u1=0))=false->J3 (decide (u0=u1))))):Qa Pg 247 [vi u0,vi u1] h R:=callO Tryz.func247 [.one (.v (vi u0)),.one (.v (vi u1))] H
theorem Qiq {u0:OaT}{u1 u2:Nat}{h:Hp}{R:RtT}(H:Qh Pg (Instr.makeSlice 46 (vi (u1:Int)) (vi (u1:Int))) h fun v1 h2=>∃ a3 n3 c3,v1=vsl a3 n3 c3/\∃(I5:LtT)(m6:LmT),I5 [vi 0] h2/\∀ vs7 h8,I5 vs7 h8->∃ x9,vs7=[vi x9]/\((decide (x9<(u1:Int)))=true->let J95:HpT:=fun h96=>(∃ x97,IsW x97 (x9+1)/\I5 [vi x97] h96/\m6 [vi x97] h96<m6 vs7 h8);∃ b12 o13,Ix u0 b12 o13 x9 u1/\∃ x14 x15 x16 x17 x18 x19,Hp.row h8 b12 (o13+x9.toNat*6) 6=some [vi x14,vi x15,vi x16,vi x17,vi x18,vi x19]/\let J39:Int->Prop:=fun x60=>(Qa Pg 180 [vi x14] h8 fun v61 h62=>∃ x63,v61=vi x63/\∀ b64,h62 b64=none->let h65:=Hp.set h62 b64 (Qb [vi x15,vi x16] 3);∃ a66 n66 c66,Rd Pg (Instr.sliceAt 46 (vsl (some ⟨b64,0,none⟩) 2 2) none (some (vi x63)) none) h65 (vsl a66 n66 c66)/\∃(I68:LtT)(m69:LmT),I68 [vi 0] h65/\∀ vs70 h71,I68 vs70 h71->∃ x72,vs70=[vi x72]/\((decide (x72<(n66:Int)))=true->∃ b75 o76,Ix a66 b75 o76 x72 n66/\∃ x77,Hp.cell h71 b75 (o76+x72.toNat*1)=some (vi x77)/\∃ b78 o79,Ix a3 b78 o79 x77 n3/\∃ x80,Hp.cell h71 b78 (o79+x77.toNat*1)=some (vi x80)/\Qa Pg 247 [vi x60,vi x80] h71 fun v81 h82=>∃ x83 p84,v81=Qf [vi x83,vb p84]/\((!p84)=true->R (Qf [vi 0,(ifv (some (119,vi 3)))]) h82)/\((!p84)=false->∃ x86,IsW x86 (x72+1)/\I68 [vi x86] h82/\m69 [vi x86] h82<m69 vs70 h71))/\((decide (x72<(n66:Int)))=false->∃ b87 o88,Ix a3 b87 o88 x9 n3/\Hp.store h71 b87 (o88+x9.toNat*1) [vi x60] fun h89=>((cond (decide (x14=11)) true (decide (x14=12)))=true->∃ b90 o91,Ix a3 b90 o91 x9 n3/\Hp.store h89 b90 (o91+x9.toNat*1) [vi 2] fun h92=>J95 h92)/\((cond (decide (x14=11)) true (decide (x14=12)))=false->J95 h89)));((decide (x14=1))=true->∃ b20 o21,Ix a3 b20 o21 x9 n3/\Hp.store h8 b20 (o21+x9.toNat*1) [vi x18] fun h22=>J95 h22)/\((decide (x14=1))=false->((decide (x14=2))=true->∃ b24 o25,Ix a3 b24 o25 x9 n3/\Hp.store h8 b24 (o25+x9.toNat*1) [vi 1] fun h26=>J95 h26)/\((decide (x14=2))=false->((decide (x14=5))=true->∃ b28 o29,Ix a3 b28 o29 x9 n3/\Hp.store h8 b28 (o29+x9.toNat*1) [vi 2] fun h30=>J95 h30)/\((decide (x14=5))=false->let J35:Bool->Prop:=fun p36=>((p36=true->J39 2)/\(p36=false->J39 1));((decide (x14=4))=true->J35 (decide (x14=4)))/\((decide (x14=4))=false->((decide (x14=9))=true->J35 (decide (x14=9)))/\((decide (x14=9))=false->J35 (decide (x14=10))))))))/\((decide (x9<(u1:Int)))=false->∃ x98,IsW x98 ((n3:Int)-1)/\∃ b99 o100,Ix a3 b99 o100 x98 n3/\∃ x101,Hp.cell h8 b99 (o100+x98.toNat*1)=some (vi x101)/\R (Qf [vi x101,ifv none]) h8)):Qa Pg 204 [vsl u0 u1 u2] h R:=callC ⟨[],[(18,([56],[.one (.int .i64)],[])),(3,([17],[.one (.int .i64)],[]))],[(17,[0,1,2,3,5,6,10,7,4,8,9])]⟩ Tryz.func204 [.one (.v (vsl u0 u1 u2))] H
theorem Qjh {u0:OaT}{u1 u2:Nat}{u3:Int}{h:Hp}{R:RtT}(H:∃ b1 o2,Ix u0 b1 o2 u3 u1/\∃ x3,Hp.cell h b1 (o2+u3.toNat*6)=some (vi x3)/\Qa Pg 180 [vi x3] h fun v4 h5=>∃ x6,v4=vi x6/\∃(I8:LtT)(m9:LmT),I8 [vi u3,vi x6] h5/\∀ vs10 h11,I8 vs10 h11->∃ x12 x13,vs10=[vi x12,vi x13]/\((decide (x13>0))=true->∃ x16,IsW x16 (x12-1)/\∃ b17 o18,Ix u0 b17 o18 x16 u1/\∃ x19,Hp.cell h11 b17 (o18+x16.toNat*6)=some (vi x19)/\Qa Pg 180 [vi x19] h11 fun v20 h21=>∃ x22,v20=vi x22/\∃ x23,IsW x23 (x22-1)/\∃ x24,IsW x24 (x13+x23)/\I8 [vi x16,vi x24] h21/\m9 [vi x16,vi x24] h21<m9 vs10 h11)/\((decide (x13>0))=false->∃ x25,IsW x25 (u3+1)/\∃ a26 n26 c26,Rd Pg (Instr.sliceAt 28 (vsl u0 u1 u2) (some (vi x12)) (some (vi x25)) none) h11 (vsl a26 n26 c26)/\Qa Pg 260 [vsl a26 n26 c26] h11 fun v27 h28=>∃ a29 n29 c29,v27=vsl a29 n29 c29/\∃(I31:LtT)(m32:LmT),I31 [vi 0] h28/\∀ vs33 h34,I31 vs33 h34->∃ x35,vs33=[vi x35]/\((decide (x35<(n29:Int)))=true->let J70:HpT:=fun h71=>(∃ x72,IsW x72 (x35+1)/\I31 [vi x72] h71/\m32 [vi x72] h71<m32 vs33 h34);∃ b38 o39,Ix a29 b38 o39 x35 n29/\∃ x40,Hp.cell h34 b38 (o39+x35.toNat*6)=some (vi x40)/\Qa Pg 180 [vi x40] h34 fun v41 h42=>∃ x43,v41=vi x43/\let J53:HpT:=fun h54=>(∃ b55 o56,Ix a29 b55 o56 x35 n29/\∃ x57,Hp.cell h54 b55 (o56+x35.toNat*6)=some (vi x57)/\Qa Pg 180 [vi x57] h54 fun v58 h59=>∃ x60,v58=vi x60/\((decide (x60>1))=true->∃ b61 o62,Ix a29 b61 o62 x35 n29/\∃ x63,Hp.cell h59 b61 ((o62+x35.toNat*6)+2)=some (vi x63)/\∃ x64,IsW x64 (x63-x12)/\∃ b65 o66,Ix a29 b65 o66 x35 n29/\Hp.store h59 b65 ((o66+x35.toNat*6)+2) [vi x64] fun h67=>J70 h67)/\((decide (x60>1))=false->J70 h59));((decide (x43>0))=true->∃ b44 o45,Ix a29 b44 o45 x35 n29/\∃ x46,Hp.cell h42 b44 ((o45+x35.toNat*6)+1)=some (vi x46)/\∃ x47,IsW x47 (x46-x12)/\∃ b48 o49,Ix a29 b48 o49 x35 n29/\Hp.store h42 b48 ((o49+x35.toNat*6)+1) [vi x47] fun h50=>J53 h50)/\((decide (x43>0))=false->J53 h42))/\((decide (x35<(n29:Int)))=false->R (vsl a29 n29 c29) h34))):Qa Pg 225 [vsl u0 u1 u2,vi u3] h R:=callC ⟨[],[(2,([5,6],[.one (.int .i64),.one (.int .i64)],[])),(7,([37],[.one (.int .i64)],[]))],[]⟩ Tryz.func225 [.one (.v (vsl u0 u1 u2)),.one (.v (vi u3))] H
theorem Qhd {u0:Int}{u1:OaT}{u2 u3:Nat}{u4:OaT}{u5 u6:Nat}{h:Hp}{R:RtT}(H:Qa Pg 260 [vsl u1 u2 u3] h fun v1 h2=>∃ a3 n3 c3,v1=vsl a3 n3 c3/\∃ x4,IsW x4 ((u2:Int)-1)/\∃(I6:LtT)(m7:LmT),I6 [vsl a3 n3 c3,vi 0] h2/\∀ vs8 h9,I6 vs8 h9->∃ a10 n10 c10 x11,vs8=[vsl a10 n10 c10,vi x11]/\((decide (x11<(u5:Int)))=true->∃ b14 o15,Ix u4 b14 o15 x11 u5/\∃ x16 x17 x18 x19 x20 x21,Hp.row h9 b14 (o15+x11.toNat*6) 6=some [vi x16,vi x17,vi x18,vi x19,vi x20,vi x21]/\Qa Pg 180 [vi x16] h9 fun v22 h23=>∃ x24,v22=vi x24/\let J28:Int->Prop:=fun x38=>(Qa Pg 180 [vi x16] h23 fun v39 h40=>∃ x41,v39=vi x41/\let J45:Int->Prop:=fun x48=>(∀ b49,h40 b49=none->let h50:=Hp.set h40 b49 (Qb [vi x16,vi x38,vi x48,vi x19,vi x20,vi x21] 250);Qh Pg (Builtin.append_ #[28,28] 28 #[vsl a10 n10 c10,(vsl (some ⟨b49,0,none⟩) 1 1)]) h50 fun v51 h52=>∃ a53 n53 c53,v51=vsl a53 n53 c53/\∃ x55,IsW x55 (x11+1)/\I6 [vsl a53 n53 c53,vi x55] h52/\m7 [vsl a53 n53 c53,vi x55] h52<m7 vs8 h9);((decide (x41>1))=true->∃ x42,IsW x42 (x18+(u2:Int))/\J45 x42)/\((decide (x41>1))=false->J45 x18));((decide (x24>0))=true->∃ x25,IsW x25 (x17+(u2:Int))/\J28 x25)/\((decide (x24>0))=false->J28 x17))/\((decide (x11<(u5:Int)))=false->Qa Pg 180 [vi u0] h9 fun v56 h57=>∃ x58,v56=vi x58/\let J62:Int->Prop:=fun x65=>(∀ b66,h57 b66=none->let h67:=Hp.set h57 b66 (Qb [vi u0,vi x4,vi x65,vi 0,vi 0,vi 0] 250);Qh Pg (Builtin.append_ #[28,28] 28 #[vsl a10 n10 c10,(vsl (some ⟨b66,0,none⟩) 1 1)]) h67 fun v68 h69=>∃ a70 n70 c70,v68=vsl a70 n70 c70/\R (vsl a70 n70 c70) h69);((decide (x58>1))=true->∃ x59,IsW x59 ((n10:Int)-1)/\J62 x59)/\((decide (x58>1))=false->J62 0))):Qa Pg 223 [vi u0,vsl u1 u2 u3,vsl u4 u5 u6] h R:=callC ⟨[],[(4,([7,20],[.one (.slice),.one (.int .i64)],[]))],[]⟩ Tryz.func223 [.one (.v (vi u0)),.one (.v (vsl u1 u2 u3)),.one (.v (vsl u4 u5 u6))] H
theorem Wl {u0:OaT}{u1 u2:Nat}{h:Hp}{R:RtT}(H:∃ p1,RdG .eql 28 (.tmp 3) (.const (vsl none 0 0)) (vsl u0 u1 u2) (vsl none 0 0) h (vb p1)/\(p1=true->R (vsl none 0 0) h)/\(p1=false->∀ b3,h b3=none->let h4:=Hp.set h b3 (Qb [] 250);Qh Pg (Builtin.append_ #[28,28] 28 #[(vsl (some ⟨b3,0,none⟩) 0 0),vsl u0 u1 u2]) h4 fun v5 h6=>∃ a7 n7 c7,v5=vsl a7 n7 c7/\R (vsl a7 n7 c7) h6)):Qa Pg 260 [vsl u0 u1 u2] h R:=callO Tryz.func260 [.one (.v (vsl u0 u1 u2))] H
def Z6 (n:Nd):List Value:=[vi n.op,vi n.x,vi n.y,vi n.n,vi n.v.1,vi n.v.2]
theorem Zk (n:Nd):(Z6 n).length=6:=rfl
theorem Qd6 (n:Nd):∀ u ∈ Z6 n,u.oneCell'=true:=by
 intro u hu;simp [Z6] at hu;rcases hu with rfl|rfl|rfl|rfl|rfl|rfl<;>rfl
theorem QoS (l:List Nd):∀ u ∈ l.flatMap Z6,u.oneCell'=true:=by
 intro u hu;obtain⟨v,_,hv⟩:=fI.1 hu;exact Qd6 v u hv
theorem Qqr:ElT Pg 28 250 6 48:=.of (by kernel_rfl) (by kernel_rfl) (by decide)
theorem Qb5 {n:Nd}{st s:List Int}(ha:0<=arI n.op)(h:Wi n st=some s):(s.length:Int)=st.length-arI n.op/\st.reverse.take s.length=s.reverse:=by
 unfold Wi at h;rcases Zb ha with h1|h1|h1
 ·rw [bJ h1] at h;cases h;refine⟨by omega,?_⟩
  rw [cY (by simp)]
 ·rw [bE (by omega),bJ h1] at h
  match st,h with
  | a :: t,h=>
   simp only at h;split at h
   ·cases h;refine⟨by simp;omega,?_⟩
    rw [gR,jT (by simp)]
   ·cases h
 ·rw [bE (by omega),bE (by omega)] at h
  match st,h with
  | b :: a :: t,h=>
   simp only at h;split at h
   ·cases h;refine⟨by simp;omega,?_⟩
    rw [gR,gR,bX,jT (by simp)]
   ·cases h
theorem QmW {n:Nd}{l:List Nd}{st:List Int}{i:Nat}(h0:ZH n=0)(h:Wi n st=none):ZO st i (n :: l)=3:=by
 rw [ZO,bE (fun q=>q h0),h]
theorem QnW {n:Nd}{l:List Nd}{st s:List Int}{i:Nat}(h0:ZH n=0)(h:Wi n st=some s):ZO st i (n :: l)=ZO (i :: s) (i+1) l:=by
 rw [ZO,bE (fun q=>q h0),h]
theorem Qmd {n:Nd}{l:List Nd}{st:List Int}{i:Nat}{f:Int}(h0:ZH n=f)(hf:f≠0):ZO st i (n :: l)=f:=by
 rw [ZO,bJ (by rw [h0];exact hf),h0]
theorem Zd {op:Int}{h:Hp}{R:RtT}(hK:R (vi (arI op)) h):Qa Pg 180 [vi op] h R:=by
 refine Qf2 ?_
 unfold arI at hK;refine⟨fun e=>?_,fun e=>⟨fun e2=>?_,fun e2=>⟨fun e3=>?_,fun e3=>?_⟩⟩⟩
 all_goals simp only [KS,cor] at *
 ·rw [bJ (bC e)] at hK;exact hK
 ·rw [bE (bB e),bJ (by have:=bC e2;omega)] at hK;exact hK
 ·rw [bE (bB e),bE (by have:=bB e2;omega),bJ (by have:=bC e3;omega)] at hK;exact hK
 ·rw [bE (bB e),bE (by have:=bB e2;omega),bE (by have:=bB e3;omega)] at hK;exact hK
section
variable {a:OaT}{m c:Nat}{l:List Nd}{h:Hp}
theorem Qjl (op a b:Int):tyG op (some a) (some b)=if op=5 then some 2 else if (a≠0/\a≠Ju op)\/(b≠0/\b≠Ju op) then none else if op=11\/op=12 then some 2 else some (Ju op):=rfl
end
theorem QfX {e:EvL}{n:Int}(hn:0<=n/\n<=3){h:Hp}{R:RtT}(hK:R (vag (Qu (Qch e n))) h):Qa Pg 162 [vag (Xk e),vi n] h R:=by
 refine QfB ?_
 refine QJ ⟨_,_,rfl,?_⟩
 have r:n=0\/n=1\/n=2\/n=3:=by omega
 rcases r with rfl|rfl|rfl|rfl
 ·exact⟨_,_,fun w _=>by kernel_rfl,hK⟩
 ·exact⟨_,_,fun w _=>by kernel_rfl,hK⟩
 ·exact⟨_,_,fun w _=>by kernel_rfl,hK⟩
 ·exact⟨_,_,fun w _=>by kernel_rfl,hK⟩
theorem Qqw:ElT Pg 91 54 2 16:=.of (by kernel_rfl) (by kernel_rfl) (by decide)
theorem Qd9 {β:Type}{d:β}{F:Nd->β->β->β}{l:List Nd}{outs:List β}{i k:Nat}(ho:outs.take i=fwd d F (l.take i))(hi:i<=l.length)(hk:k<i):outs[k]?=some (fAt d F l k):=by
 have h1:outs[k]?=(outs.take i)[k]?:=by rw [gE,bJ hk]
 rw [h1,ho];have hlen:(fwd d F (l.take i)).length=i:=by rw [W7,bZ];omega
 rw [<-UH l hk hi,bI,bD (by omega)]
 rfl
theorem QiA {β:Type}{d:β}{F:Nd->β->β->β}{l:List Nd}{outs:List β}{i:Nat}{n:Nd}(ho:outs.take i=fwd d F (l.take i))(hn:l[i]?=some n)(hl:outs.length=l.length):(outs.set i (fAt d F l i)).take (i+1)=fwd d F (l.take (i+1)):=by
 have hlt:=(bG.1 hn).1
 rw [QmY l hn,<-ho,bL (by rw [dL];omega),mP (cB _),kH]
section
variable {a:OaT}{m c:Nat}{l:List Nd}{h:Hp}
theorem Vx (S:SlP Z6 h a m l)(W:WfL l)(hl:0<l.length)(hm:l.length<=1000000){e:EvL}{R:RtT}(hK:∀ h',h.le h'->R (vag (Qu (ZM e l))) h'):Qa Pg 109 [vsl a m c,vag (Xk e)] h R:=by
 refine Qh7 ?_
 obtain rfl:=S.1;refine Vec.make (enc:=Qu) (x:=(0,0)) Qqw (z:=[vi 0,vi 0]) (by kernel_rfl) rfl rfl hm (by omega) fun a3 h2 V2=>⟨_,_,_,rfl,?_⟩
 refine⟨fun vs hh=>∃(i:Nat)(outs:List (Int × Int)),vs=[vi i]/\i<=l.length/\outs.length=l.length/\outs.take i=fwd (0,0) (Wf e) (l.take i)/\Vec Qu 2 54 h hh a3 l.length outs,fun vs hh=>l.length-(Qo vs 0).toNat,
  ⟨0,_,rfl,cE _,by simp,rfl,V2⟩,?_⟩
 rintro vs hh ⟨i,outs,rfl,hi,hlo,ho,V⟩;refine⟨i,rfl,fun q=>?_,fun q=>?_⟩
 ·have hlt:i<l.length:=by have:=bC q;omega
  have hx:l[i]?=some l[i]:=bD hlt
  have Wn:=W _ _ hx;have hv:vAt e l i=_:=YX (Xp e) hx Wn;have hset:=QiA ho hx hlo;obtain⟨b,o,ha,hr⟩:=(S.le V.le0).get Zk (by decide) hx
  generalize l[i]=n at *
  have hout:outs[i]?=some (outs[i]'(by omega)):=bD (by omega)
  obtain⟨b3,o3,ha3,hput⟩:=V.put YO (x':=vAt e l i) (k:=0) (vs:=Qu (vAt e l i)) hout (by rw [YO];decide) (by rw [YO];decide) rfl
  have A3:∀{x:Int},0<=x->x<l.length->a3=some ⟨b3,o3,none⟩/\(0:Int)<=x/\x<(l.length:Nat):=fun h0 h1=>⟨ha3,h0,h1⟩
  have rdo:∀{x:Int},0<=x->x<i->hh.row b3 (o3+x.toNat*2) 2=some (Qu (vAt e l x.toNat)):=by
   intro x h0 h1;obtain⟨b',o',ha',hr'⟩:=(V.slp YO (by decide)).get YO (by decide) (Qd9 ho hi (k:=x.toNat) (by omega))
   rw [ha3] at ha';cases ha';exact hr'
  intro J83;have hJ:∀ h',Vec Qu 2 54 h h' a3 l.length (outs.set i (vAt e l i))->J83 h':=by
   intro h' V';exact⟨_,iW,⟨i+1,_,rfl,by omega,by rw [dL];exact hlo,hset,V'⟩,by simp [Qo];omega⟩
  clear_value J83;have fin:∀{v:Int × Int},v=vAt e l i->hh.store b3 (o3+i*2) (Qu v) J83:=by
   rintro v rfl;exact hput _ hJ
  have ar:=ar0 Wn.a;have hfold:vAt e l=fAt (0,0) (Wf e) l:=rfl;rw [<-hfold] at hv;unfold Wf at hv;have Ai:a3=some ⟨b3,o3,none⟩/\(0:Int)<=i/\(i:Int)<(l.length:Nat):=A3 (by omega) (by omega)
  refine⟨b,o,⟨ha,by omega,by omega⟩,_,_,_,_,_,_,hr,fun q=>?_,fun q1=>⟨fun q=>?_,fun q2=>⟨fun q=>?_,fun q3=>⟨fun q=>?_,fun q4=>⟨fun q=>?_,fun q5=>?_⟩⟩⟩⟩⟩
  ·rw [bJ (bC q)] at hv;exact⟨b3,o3,Ai,fin hv.symm⟩
  ·rw [bE (bB q1),bJ (bC q)] at hv;exact QfX (Wn.f (bC q)) ⟨_,_,rfl,b3,o3,Ai,fin hv.symm⟩
  ·rw [bE (bB q1),bE (bB q2),bJ (bC q)] at hv;have:=bC q;have hX:=Wn.x (by omega)
   exact⟨b3,o3,A3 (by omega) (by omega),_,_,rdo hX.1 hX.2,QhS ⟨_,_,rfl,b3,o3,Ai,fin hv.symm⟩⟩
  ·rw [bE (bB q1),bE (bB q2),bE (bB q3),bJ (bC q)] at hv;have:=bC q;have hX:=Wn.x (by omega)
   exact⟨b3,o3,A3 (by omega) (by omega),_,_,rdo hX.1 hX.2,K9 ⟨_,_,rfl,b3,o3,Ai,fin hv.symm⟩⟩
  ·rw [bE (bB q1),bE (bB q2),bE (bB q3),bE (bB q4),bJ (bC q)] at hv;have:=bC q;have hX:=Wn.x (by omega)
   exact⟨b3,o3,A3 (by omega) (by omega),_,qT (rdo hX.1 hX.2) (i:=0) rfl,QN ⟨_,_,rfl,b3,o3,Ai,fin hv.symm⟩⟩
  ·have p1:=bB q1;have p2:=bB q2;have p3:=bB q3;have p4:=bB q4;have p5:=bB q5;rw [bE p1,bE p2,bE p3,bE p4,bE p5] at hv;have h2:arI n.op=2:=by rcases Zb Wn.a with h|h|h<;>omega
   have hX:=Wn.x (by omega)
   have hY:=Wn.y (by omega)
   exact⟨b3,o3,A3 (by omega) (by omega),_,_,rdo hX.1 hX.2,b3,o3,A3 (by omega) (by omega),_,_,rdo hY.1 hY.2,Qda ⟨_,_,rfl,b3,o3,Ai,fin hv.symm⟩⟩
 ·have hge:i=l.length:=by have:=bB q;omega
  subst hge;obtain⟨b',o',ha',hr'⟩:=(V.slp YO (by decide)).get YO (by decide) (Qd9 ho (cB _) (k:=l.length-1) (by omega))
  refine⟨_,iW,b',o',⟨ha',by omega,by omega⟩,_,_,?_,hK hh V.le0⟩
  have e1:(((l.length:Nat):Int)-1).toNat=l.length-1:=by omega
  rw [e1];exact hr'
theorem QhM {x y:Int}{R:RtT}(hK:R (Qf [vi (if x=0 then y else if y=0\/x=y then x else 0),vb (decide (x=0\/y=0\/x=y))]) h):Qa Pg 247 [vi x,vi y] h R:=by
 refine Qih ?_
 refine⟨fun q=>?_,fun q=>?_⟩
 ·have q:=bC q;rw [bJ q,cL (.inl q)] at hK;exact hK
 have q:=bB q;rw [bE q] at hK;intro J3;refine⟨fun q2=>⟨fun _=>?_,fun q3=>?_⟩,fun q2=>⟨fun q3=>?_,fun q3=>?_⟩⟩
 ·have q2:=bC q2;rw [bJ (.inl q2),cL (.inr (.inl q2))] at hK;exact hK
 ·rw [q2] at q3;cases q3
 ·have q3:=bC q3;rw [bJ (.inr q3),cL (.inr (.inr q3))] at hK;exact hK
 ·have q2:=bB q2;have q3:=bB q3;rw [bE (by omega),cO (by omega)] at hK;exact hK
def QkU (x:Int):List Value:=[vi x]
theorem UF (x:Int):(QkU x).length=1:=rfl
theorem Vm (S:SlP Z6 h a m l)(O:OkE l)(hm:l.length<=1000000){R:RtT}(hK:∀ h',h.le h'->R (Qf [vi (ZJ l).1,ifv (QA (ZJ l).2)]) h'):Qa Pg 204 [vsl a m c] h R:=by
 have W:=O.wf;have hl:=O.pos;refine Qiq ?_
 obtain rfl:=S.1;refine Vec.make (enc:=QkU) (x:=0) QeT (z:=[vi 0]) (by kernel_rfl) rfl rfl hm (by omega) fun a3 h2 V2=>⟨_,_,_,rfl,?_⟩
 refine⟨fun vs hh=>∃(i:Nat)(outs:List Int),vs=[vi i]/\i<=l.length/\outs.length=l.length/\(outs.map some).take i=fwd none tyF (l.take i)/\Vec QkU 1 3 h hh a3 l.length outs,fun vs hh=>l.length-(Qo vs 0).toNat,
  ⟨0,_,rfl,cE _,by simp,rfl,V2⟩,?_⟩
 rintro vs hh ⟨i,outs,rfl,hi,hlo,ho,V⟩;have get:∀{k:Nat},k<i->∃ t,outs[k]?=some t/\tAt l k=some t:=by
  intro k hk;have:=Qd9 ho hi hk;rw [cC,dF] at this
  obtain⟨t,h1,h2⟩:=this;exact⟨t,h1,h2.symm⟩
 refine⟨i,rfl,fun q=>?_,fun q=>?_⟩
 ·have hlt:i<l.length:=by have:=bC q;omega
  have hx:l[i]?=some l[i]:=bD hlt
  have Wn:=W _ _ hx;have hv:tAt l i=_:=YX XU hx Wn;have hset:=fun t (e:tAt l i=some t)=>(by
   have:=QiA (outs:=outs.map some) ho hx (by simpa using hlo)
   rw [show fAt none tyF l i=some t from e,<-gM] at this
   exact this:((outs.set i t).map some).take (i+1)=fwd none tyF (l.take (i+1)))
  obtain⟨b,o,ha,hr⟩:=(S.le V.le0).get Zk (by decide) hx
  generalize l[i]=n at *
  have hout:outs[i]?=some (outs[i]'(by omega)):=bD (by omega)
  obtain⟨b3,o3,ha3,_⟩:=V.put UF (x':=0) (k:=0) (vs:=[vi 0]) hout (by decide) (by decide) rfl
  have A3:∀{x:Int},0<=x->x<l.length->a3=some ⟨b3,o3,none⟩/\(0:Int)<=x/\x<(l.length:Nat):=fun h0 h1=>⟨ha3,h0,h1⟩
  have put:∀(outs':List Int)(hh':Hp),outs'.length=l.length->Vec QkU 1 3 h hh' a3 l.length outs'->∀(t:Int)(K:HpT),(∀ h',Vec QkU 1 3 h h' a3 l.length (outs'.set i t)->K h')->hh'.store b3 (o3+i*1) [vi t] K:=by
   intro outs' hh' h1 V' t K hK;obtain⟨b',o',ha',hp⟩:=V'.put UF (i:=i) (x:=outs'[i]'(by omega)) (x':=t) (k:=0) (vs:=[vi t]) (bD (by omega)) (pN 0) (cB 1) rfl
   rw [ha3] at ha';cases ha';exact hp K hK
  intro J95;have hJ:∀ t,tAt l i=some t->∀ h',Vec QkU 1 3 h h' a3 l.length (outs.set i t)->J95 h':=by
   intro t e h' V';exact⟨_,iW,⟨i+1,_,rfl,by omega,by rw [dL];exact hlo,hset t e,V'⟩,by simp [Qo];omega⟩
  clear_value J95;have ar:=ar0 Wn.a;have hfold:tAt l=fAt none tyF l:=rfl;rw [<-hfold] at hv;have Ai:a3=some ⟨b3,o3,none⟩/\(0:Int)<=i/\(i:Int)<(l.length:Nat):=A3 (by omega) (by omega)
  refine⟨b,o,⟨ha,by omega,by omega⟩,_,_,_,_,_,_,hr,?_⟩
  intro J39;have bad:tAt l i=none->∀ h',h.le h'->R (Qf [vi 0,ifv (QA 3)]) h':=by
   intro e h' l';have:ZJ l=(0,3):=by
    unfold ZJ;cases ht:tAt l (l.length-1) with
    | none=>rfl
    | some t=>exact absurd e (O.b.ty W (by rw [ht];simp) i (cE _) hlt)
   rw [this] at hK;exact hK h' l'
  have hJ39:¬ n.op=1->¬ n.op=2->¬ n.op=5->J39 (Ju n.op):=by
   intro p1 p2 p5;have har:1<=arI n.op:=by rcases Zb Wn.a with h|h|h<;>omega
   rw [KQ p1 p2] at hv;have hX:=Wn.x har;obtain⟨tx,ox,ex⟩:=get (k:=n.x.toNat) (by omega)
   have hy:∃ ty,2<=arI n.op->outs[n.y.toNat]?=some ty/\tAt l n.y.toNat=some ty:=by
    by_cases h2:2<=arI n.op
    ·have hY:=Wn.y h2;obtain⟨ty,q⟩:=get (k:=n.y.toNat) (by omega)
     exact⟨ty,fun _=>q⟩
    ·exact⟨0,fun h=>absurd h h2⟩
   obtain⟨ty,hy⟩:=hy;have hv2:tAt l i=tyG n.op (some tx) (some (if arI n.op=2 then ty else tx)):=by
    rw [hv,ex];by_cases h2:arI n.op=2
    ·rw [bJ h2,bJ h2,(hy (by omega)).2]
    ·rw [bE h2,bE h2]
   rw [Qjl,bE p5] at hv2;have hw0:Ju n.op≠0:=by unfold Ju;split<;>decide
   generalize hwd:Ju n.op=want at *
   refine Zd ⟨_,rfl,fun b64 hb64=>?_⟩
   intro h65;have S65:SlI h65 (some ⟨b64,0,none⟩) 2 [n.x,n.y]:=⟨rfl,qW _ _ [vi n.x,vi n.y] _⟩;have V65:Vec QkU 1 3 h h65 a3 l.length outs:=V.keep0 (qQ (qO hh) hb64 _);clear_value h65;refine⟨_,_,_,X6 (e:=3) (by kernel_rfl) (by kernel_rfl) (by omega) (by rcases Zb Wn.a with h|h|h<;>omega),?_⟩
   have rdo:∀{x t:Int},0<=x->outs[x.toNat]?=some t->h65.cell b3 (o3+x.toNat*1)=some (vi t):=by
    intro x t h0 h1;obtain⟨b',o',ha',hr'⟩:=(V65.slp UF (by decide)).cell (j:=0) UF (by decide) h1 rfl
    rw [ha3] at ha';cases ha';exact hr'
   refine⟨fun vs h'=>h'=h65/\∃ j:Nat,vs=[vi j]/\(j:Int)<=arI n.op/\(1<=j->tx=0\/tx=want)/\(2<=j->ty=0\/ty=want),fun vs hh=>(arI n.op).toNat-(Qo vs 0).toNat,⟨rfl,0,rfl,by omega,by omega,by omega⟩,?_⟩
   rintro vs h71 ⟨rfl,j,rfl,hj,f1,f2⟩;refine⟨j,rfl,fun g=>?_,fun g=>?_⟩
   ·have hj2:(j:Int)<arI n.op:=by have:=bC g;omega
    have fact:∃ x t:Int,[n.x,n.y].getD j 0=x/\0<=x/\x<l.length/\outs[x.toNat]?=some t/\(¬(t=0\/t=want)->tAt l i=none)/\(j=0->t=tx)/\(j=1->t=ty):=by
     by_cases hj0:j=0
     ·subst hj0;refine⟨n.x,tx,rfl,hX.1,by omega,ox,fun hb=>?_,fun _=>rfl,fun h=>by omega⟩
      rw [hv2,bJ (by omega)]
     ·have hj1:j=1:=by rcases Zb Wn.a with h|h|h<;>omega
      subst hj1;have hY:=Wn.y (by omega)
      refine⟨n.y,ty,rfl,hY.1,by omega,(hy (by omega)).1,fun hb=>?_,fun h=>by omega,fun _=>rfl⟩
      rw [hv2,bJ];rw [bJ (by rcases Zb Wn.a with h|h|h<;>omega)]
      omega
    obtain⟨x,t,e0,h0,h1,e1,hb,u1,u2⟩:=fact;obtain⟨q,p,hq,hcell⟩:=S65.get (i:=j) (by rcases Zb Wn.a with h|h|h<;>omega)
    rw [e0] at hcell;refine⟨q,p,⟨hq,by omega,by omega⟩,_,hcell,b3,o3,A3 h0 h1,_,rdo h0 e1,QhM ⟨_,_,rfl,fun g=>?_,fun g=>?_⟩⟩
    ·rw [Qmb] at g;have g:=bC g;exact bad (hb (by omega)) h71 V65.le0
    ·rw [Qmb] at g;have g:=bB g;refine⟨_,isW (by unfold InR;rcases Zb Wn.a with h|h|h<;>omega),⟨rfl,j+1,rfl,by omega,fun _=>?_,fun h=>?_⟩,by simp [Qo];omega⟩
     ·by_cases hj0:j=0
      ·have:=u1 hj0;omega
      ·exact f1 (by omega)
     ·have:=u2 (by rcases Zb Wn.a with h|h|h<;>omega);omega
   ·have hje:(j:Int)=arI n.op:=by have:=bB g;omega
    have hfine:tAt l i=some (if n.op=11\/n.op=12 then 2 else want):=by
     rw [hv2,bE]
     ·split<;>rfl
     ·have:=f1 (by omega)
      by_cases h2:arI n.op=2
      ·rw [bJ h2];have:=f2 (by omega)
       omega
      ·rw [bE h2];omega
    refine⟨b3,o3,Ai,put outs _ hlo V65 want _ fun h89 V89=>⟨fun g=>?_,fun g=>?_⟩⟩
    ·rw [cor] at g;have g:=bC g;rw [bJ g] at hfine;refine⟨b3,o3,Ai,put _ h89 (by rw [dL];exact hlo) V89 2 _ fun h92 V92=>hJ 2 hfine h92 ?_⟩
     rw [List.set_set] at V92;exact V92
    ·rw [cor] at g;have g:=bB g;rw [bE g] at hfine;exact hJ want hfine h89 V89
  clear_value J39;refine⟨fun q=>?_,fun q1=>⟨fun q=>?_,fun q2=>⟨fun q=>?_,fun q5=>?_⟩⟩⟩
  ·have e:tAt l i=some n.v.1:=by rw [hv];unfold tyF;exact bJ (bC q)
   exact⟨b3,o3,Ai,put outs hh hlo V _ _ (hJ _ e)⟩
  ·have e:tAt l i=some 1:=by rw [hv];unfold tyF;rw [bE (bB q1)];exact bJ (bC q)
   exact⟨b3,o3,Ai,put outs hh hlo V _ _ (hJ _ e)⟩
  ·have h5:=bC q;have hX:=Wn.x (by omega)
   obtain⟨tx,ox,ex⟩:=get (k:=n.x.toNat) (by omega)
   have e:tAt l i=some 2:=by rw [hv,KQ (by omega) (by omega),bE (by omega),ex,Qjl,bJ h5]
   exact⟨b3,o3,Ai,put outs hh hlo V _ _ (hJ _ e)⟩
  ·have p1:=bB q1;have p2:=bB q2;have p5:=bB q5;have hw:=hJ39 p1 p2 p5;unfold Ju at hw;intro J35;refine⟨fun g=>⟨fun _=>?_,fun g2=>?_⟩,fun g1=>⟨fun g=>⟨fun _=>?_,fun g2=>?_⟩,fun g2=>⟨fun g=>?_,fun g=>?_⟩⟩⟩
   ·rw [bJ (.inl (bC g))] at hw;exact hw
   ·rw [g] at g2;cases g2
   ·rw [bJ (.inr (.inl (bC g)))] at hw;exact hw
   ·rw [g] at g2;cases g2
   ·rw [bJ (.inr (.inr (bC g)))] at hw;exact hw
   ·have a1:=bB g1;have a2:=bB g2;have a3:=bB g;rw [bE (by omega)] at hw;exact hw
 ·have hge:i=l.length:=by have:=bB q;omega
  subst hge;obtain⟨t,ot,et⟩:=get (k:=l.length-1) (by omega)
  obtain⟨b',o',ha',hr'⟩:=(V.slp UF (by decide)).cell (j:=0) UF (by decide) ot rfl
  refine⟨_,iW,b',o',⟨ha',by omega,by omega⟩,t,?_,?_⟩
  ·have e1:(((l.length:Nat):Int)-1).toNat=l.length-1:=by omega
   rw [e1];exact hr'
  ·have:ZJ l=(t,0):=by unfold ZJ;rw [et]
   rw [this] at hK;exact hK hh V.le0
end
abbrev NA:=Vec Z6 6 250
theorem Qgo {a:OaT}{n c:Nat}{l:List Nd}{h:Hp}{R:RtT}(S:SlP Z6 h a n l)(hn:n<=1000000)(hK:∀ a' c' h',NA h h' a' c' l->R (vsl a' l.length c') h') :
  Qa Pg 260 [vsl a n c] h R:=by
 refine Wl ?_
 have hl:=S.1;subst hl;have hfl:(l.flatMap Z6).length=l.length*6:=by rw [Qi Zk]
 refine⟨_,Jj (e:=250) (by kernel_rfl),fun e=>?_,fun e=>?_⟩
 ·have h0:l.flatMap Z6=[]:=by
   rcases S.2 with h1|⟨b,o,ha,_⟩
   ·exact h1
   ·rw [ha] at e;cases e
  rw [h0] at hfl;have hn0:l=[]:=dR (by simp at hfl;omega)
  subst hn0;exact hK none 0 h (qY (qO h) _ _)
 ·intro b3 hb3 h4;have O0:Qg h h4 250 6 (some ⟨b3,0,none⟩) 0 0 []:=qZ (qO h) hb3 _ [] rfl (by simp [maxLen])
  refine q8 Qqr O0 (S.le (qQ (qO h) hb3 _)).2 hfl (QoS l) (by omega) (by omega) fun a' c' h' O' _ _=>⟨_,_,_,rfl,?_⟩
  rw [dW,dE] at *
  exact hK a' c' h' O'
inductive QhE (l:List Nd)(f:Nat):Nat->Nat->Prop where
 | nil:QhE l f f 0
 | cons {g e k:Nat}:Blk l g e->QhE l f g k->QhE l f e (k+1)
theorem QhE.open {l:List Nd}{f g i k:Nat}{n:Nd}(B:Blk l g (i+1))(Q:QhE l f g k)(hn:l[i]?=some n):QhE l f i (k+(arI n.op).toNat):=by
 cases B with
 | leaf h ha=>
  rw [hn] at h;cases h;rw [ha];exact Q
 | one B h ha _=>
  rw [hn] at h;cases h;rw [ha];exact .cons B Q
 | two B B' h ha _ _=>
  rw [hn] at h;cases h;rw [ha];exact .cons B' (.cons B Q)
section
variable {a:OaT}{m c:Nat}{l:List Nd}{h:Hp}
theorem Qjw (S:SlP Z6 h a m l)(hcap:m<=c)(W:WfL l)(hm:l.length<=1000000){f:Nat}{e:Nat}(B:Blk l f (e+1)){i0:Int}(hi0:i0=e){R:RtT}(hK:∀ a' c' h',NA h h' a' c' (Z0 l f (e+1))->R (vsl a' (Z0 l f (e+1)).length c') h') :
  Qa Pg 225 [vsl a m c,vi i0] h R:=by
 subst hi0;refine Qjh ?_
 have hlt:=B.lt;obtain rfl:=S.1;have opAt:∀{i:Nat},i<l.length->∀{hh:Hp},h.le hh->∃ n b o,l[i]?=some n/\a=some ⟨b,o,none⟩/\hh.cell b (o+i*6)=some (vi n.op):=by
  intro i hi hh hl;have hx:l[i]?=some l[i]:=bD hi
  obtain⟨b,o,ha,hr⟩:=(S.le hl).get Zk (by decide) hx
  exact⟨_,b,o,hx,ha,qT hr (i:=0) rfl⟩
 obtain⟨n,b,o,hn,ha,hc⟩:=opAt (i:=e) (by omega) (qO h)
 have wn:=W _ _ hn;refine⟨b,o,⟨ha,by omega,by omega⟩,_,hc,Zd ⟨_,rfl,?_⟩⟩
 have Q0:=QhE.open B .nil hn;rw [dW] at Q0;refine⟨fun vs hh=>hh=h/\∃ from' need:Nat,vs=[vi from',vi need]/\from'<=e/\need<=2*(e+1-from')/\QhE l f from' need,fun vs hh=>(Qo vs 0).toNat,⟨rfl,e,(arI n.op).toNat,by rw [show (((arI n.op).toNat:Nat):Int)=arI n.op by have:=wn.a;omega],cB _,by rcases Zb wn.a with h|h|h<;>omega,Q0⟩,?_⟩
 rintro vs hh ⟨rfl,from',need,rfl,hfe,hnd,Q⟩;refine⟨from',need,rfl,fun g=>?_,fun g=>?_⟩
 ·have g:=bC g;cases Q with
  | nil=>exact absurd g (by decide)
  | @cons g' _ k B' Q'=>
   have hlt':=B'.lt;obtain⟨i,rfl⟩:∃ i,from'=i+1:=⟨from'-1,by omega⟩
   obtain⟨n',b',o',hn',ha',hc'⟩:=opAt (i:=i) (by omega) (qO hh)
   have wn':=W _ _ hn';have Q2:=QhE.open B' Q' hn';have hI:IsW ((i:Nat):Int) (((i+1:Nat):Int)-1):=by
    have:=isW (e:=(((i+1:Nat):Int)-1)) (by unfold InR;omega)
    rw [show (((i+1:Nat):Int)-1)=(i:Int) by omega] at this ⊢
    exact this
   have r2:=Zb wn'.a;refine⟨i,hI,b',o',⟨ha',by omega,by omega⟩,_,hc',Zd ⟨_,rfl,_,iW,_,iW,⟨rfl,i,k+(arI n'.op).toNat,?_,by omega,by omega,Q2⟩,by simp [Qo]⟩⟩
   rw [show ((k+(arI n'.op).toNat:Nat):Int)=((k+1:Nat):Int)+(arI n'.op-1) by have:=wn'.a;omega]
 have g:=bB g;have h0:need=0:=by omega
 subst h0;cases Q;refine⟨_,iW,_,_,_,Qi0 (e:=250) (by kernel_rfl) (by kernel_rfl) (by omega) (by omega) (by omega),?_⟩
 have hsz:szT Pg 250=6:=by kernel_rfl
 rw [hsz,show ((e:Int)+1).toNat=e+1 by omega,bF]
 have Sseg:SlP Z6 hh (VZ a f c 6) (e+1-f) (seg l f (e+1)):=(S.drop Zk (i:=f) (c:=c) (by omega) hcap).take Zk (by omega)
 have hsl:(seg l f (e+1)).length=e+1-f:=Sseg.1.symm;have sget:∀{i:Nat} {n:Nd},(seg l f (e+1))[i]?=some n->l[f+i]?=some n:=by
  intro i n hi;unfold seg at hi;rw [gE] at hi
  split at hi
  ·rw [fP] at hi;exact hi
  ·cases hi
 have ecut:Z0 l f (e+1)=(seg l f (e+1)).map (shN (-(f:Int))):=rfl;rw [ecut] at hK;generalize seg l f (e+1)=s at *
 refine Qgo Sseg (by omega) fun a29 c29 h28 V28=>⟨_,_,_,rfl,?_⟩
 refine⟨fun vs h'=>∃(i:Nat)(outs:List Nd),vs=[vi i]/\i<=s.length/\outs.length=s.length/\outs.take i=(s.take i).map (shN (-(f:Int)))/\outs.drop i=s.drop i/\NA hh h' a29 c29 outs,fun vs hh=>s.length-(Qo vs 0).toNat,⟨0,s,rfl,cE _,rfl,rfl,rfl,V28⟩,?_⟩
 rintro vs h34 ⟨i,outs,rfl,hi,hlo,ht,hd,V⟩;refine⟨i,rfl,fun g=>?_,fun g=>?_⟩
 ·have hlt2:i<s.length:=by have:=bC g;omega
  have hx:s[i]?=some s[i]:=bD hlt2
  have hox:outs[i]?=some s[i]:=by
   have:=congrArg List.head? hd;rw [kW,kW,hx] at this
   exact this
  have wn2:=W _ _ (sget hx);have hset:(outs.set i (shN (-(f:Int)) s[i])).take (i+1)=(s.take (i+1)).map (shN (-(f:Int))):=by
   rw [bL (by rw [dL];omega),mP (cB _),kH,ht,bL hlt2,cJ]
   rfl
  have hset2:∀ n',(outs.set i n').drop (i+1)=s.drop (i+1):=by
   intro n';have:(outs.drop i).drop 1=(s.drop i).drop 1:=by rw [hd]
   rw [gY,gY] at this;rw [List.drop_set_of_lt (jO i)];exact this
  generalize s[i]=y at *
  intro J70;have hJ:∀ h',NA hh h' a29 c29 (outs.set i (shN (-(f:Int)) y))->J70 h':=by
   intro h' V';exact⟨_,iW,⟨i+1,_,rfl,by omega,by rw [dL];exact hlo,hset,hset2 _,V'⟩,by simp [Qo];omega⟩
  clear_value J70;have acc:∀{h':Hp} {outs':List Nd} {z:Nd},NA hh h' a29 c29 outs'->outs'[i]?=some z->outs'.length=s.length->∃ b o,(a29=some ⟨b,o,none⟩/\(0:Int)<=i/\(i:Int)<(s.length:Nat))/\h'.row b (o+(i:Int).toNat*6) 6=some (Z6 z):=by
   intro h' outs' z V' hz hl';obtain⟨b,o,ha,hr⟩:=(V'.slp Zk (by decide)).get Zk (by decide) hz
   exact⟨b,o,⟨ha,by omega,by omega⟩,hr⟩
  obtain⟨b1,o1,A1,r1⟩:=acc V hox hlo;refine⟨b1,o1,A1,_,qT r1 (i:=0) rfl,Zd ⟨_,rfl,?_⟩⟩
  intro J53;have hJ53:∀ h' (z:Nd),z={ y with x:=(shN (-(f:Int)) y).x }->NA hh h' a29 c29 (outs.set i z)->J53 h':=by
   rintro h' z hz V';have hz1:(outs.set i z)[i]?=some z:=fG (by omega)
   obtain⟨b2,o2,A2,r2⟩:=acc V' hz1 (by rw [dL];exact hlo)
   have eop:z.op=y.op:=by rw [hz]
   have ey:z.y=y.y:=by rw [hz]
   refine⟨b2,o2,A2,_,qT r2 (i:=0) rfl,Zd ⟨_,rfl,fun g=>?_,fun g=>?_⟩⟩
   ·have g:=bC g;rw [eop] at g;have hy:=wn2.y (by omega)
    have hfin:({ z with y:=y.y-f }:Nd)=shN (-(f:Int)) y:=by
     rw [hz];unfold shN;simp only;rw [bJ (show 1<arI y.op by omega)]
     rfl
    obtain⟨b3,o3,ha3,hp⟩:=V'.put Zk (x':={ z with y:=y.y-f }) (k:=2) (vs:=[vi (y.y-f)]) hz1 (pN 0) (show 2+1<=6 by decide) rfl
    refine⟨b2,o2,A2,_,qT r2 (i:=2) rfl,_,isW (by rw [ey];unfold InR;omega),b3,o3,⟨ha3,A2.2⟩,?_⟩
    rw [ey];refine hp _ fun h67 V67=>hJ h67 ?_
    rw [List.set_set,hfin] at V67;exact V67
   ·have g:=bB g;rw [eop] at g;have hfin:z=shN (-(f:Int)) y:=by rw [hz];unfold shN;simp only;rw [bE (show ¬ 1<arI y.op by omega)]
    rw [hfin] at V';exact hJ h' V'
  clear_value J53;refine⟨fun g=>?_,fun g=>?_⟩
  ·have g:=bC g;have hX:=wn2.x (by omega)
   obtain⟨b3,o3,ha3,hp⟩:=V.put Zk (x':={ y with x:=y.x-f }) (k:=1) (vs:=[vi (y.x-f)]) hox (pN 0) (show 1+1<=6 by decide) rfl
   refine⟨b1,o1,A1,_,qT r1 (i:=1) rfl,_,iW,b3,o3,⟨ha3,A1.2⟩,?_⟩
   refine hp _ fun h50 V50=>hJ53 h50 _ ?_ V50
   unfold shN;simp only;rw [bJ (show 0<arI y.op by omega)]
   rfl
  ·have g:=bB g;refine hJ53 h34 y ?_ ?_
   ·unfold shN;simp only;rw [bE (show ¬ 0<arI y.op by omega)]
   ·have:outs.set i y=outs:=by
     refine fR fun k=>?_
     rw [gN]
     split
     ·rename_i h1;subst h1;rw [bJ (by omega),hox]
     ·rfl
    rw [this];exact V
 ·have hge:i=s.length:=by have:=bB g;omega
  subst hge;rw [cY (by omega),cY (cB _)] at ht
  rw [ht] at V;have:=hK a29 c29 h34 V;rw [bQ] at this;exact this
theorem Jb {op:Int}{a2:OaT}{m2 c2:Nat}{l2:List Nd}(S:SlP Z6 h a m l)(S2:SlP Z6 h a2 m2 l2)(W2:WfL l2)(hm:l.length<=1000000)(hm2:l2.length<=1000000){R:RtT}
  (hK:∀ a' c' h',NA h h' a' c' (Ye op l l2)->R (vsl a' (Ye op l l2).length c') h'):Qa Pg 223 [vi op,vsl a m c,vsl a2 m2 c2] h R:=by
 refine Qhd ?_
 obtain rfl:=S.1;obtain rfl:=S2.1;refine Qgo S hm fun a3 c3 h2 V2=>⟨_,_,_,rfl,_,iW,?_⟩
 refine⟨fun vs hh=>∃(i:Nat)(a:OaT)(c:Nat),vs=[vsl a (l++(l2.take i).map (shN l.length)).length c,vi i]/\i<=l2.length/\NA h hh a c (l++(l2.take i).map (shN l.length)),fun vs hh=>l2.length-(Qo vs 1).toNat,
  ⟨0,a3,c3,by simp,cE _,by simpa using V2⟩,?_⟩
 rintro vs hh ⟨i,a4,c4,rfl,hi,V⟩;have hlen:(l++(l2.take i).map (shN l.length)).length=l.length+i:=by simp;omega
 refine⟨_,_,_,_,rfl,fun g=>?_,fun g=>?_⟩
 ·have hlt:i<l2.length:=by have:=bC g;omega
  have hx:l2[i]?=some l2[i]:=bD hlt
  have wn:=W2 _ _ hx;obtain⟨b,o,ha,hr⟩:=(S2.le V.le0).get Zk (by decide) hx
  have tk:(l2.take (i+1)).map (shN l.length)=(l2.take i).map (shN l.length)++[shN l.length l2[i]]:=by rw [bL hlt,cJ];rfl
  generalize l2[i]=y at *
  refine⟨b,o,⟨ha,by omega,by omega⟩,_,_,_,_,_,_,hr,Zd ⟨_,rfl,?_⟩⟩
  intro J28;have fin:∀(x' y':Int),x'=(shN (l.length:Int) y).x->y'=(shN (l.length:Int) y).y->∀(b49:Nat),hh b49=none->Qh Pg (Builtin.append_ #[28,28] 28 #[(vsl a4 (l++(l2.take i).map (shN l.length)).length c4),(vsl (some ⟨b49,0,none⟩) 1 1)]) (Hp.set hh b49 (Qb [(vi y.op),(vi x'),(vi y'),(vi y.n),(vi y.v.1),(vi y.v.2)] 250)) fun v51 h52=>∃(a53:OaT)(n53 c53:Nat),v51=(vsl a53 n53 c53)/\(∃(x55:Int),(IsW x55 ((i:Int)+1))/\((∃(i':Nat)(a:OaT)(c:Nat),[vsl a53 n53 c53,vi x55]=[vsl a (l++(l2.take i').map (shN l.length)).length c,vi i']/\i'<=l2.length/\NA h h52 a c (l++(l2.take i').map (shN l.length)))/\l2.length-(Qo [vsl a53 n53 c53,vi x55] 1).toNat<l2.length-(Qo [vsl a4 (l++(l2.take i).map (shN l.length)).length c4,vi i] 1).toNat)):=by
   rintro x' y' rfl rfl b49 hb49;refine V.app (x:=shN (l.length:Int) y) Qqr Zk Qd6 (by omega) (by omega) hb49 fun a' c' h' V'=>⟨_,_,_,rfl,_,iW,⟨i+1,a',c',?_,by omega,?_⟩,by simp [Qo];omega⟩
   ·rw [tk,<-bX];rfl
   ·rw [tk,<-bX];exact V'
  have hJ:∀ x',x'=(shN (l.length:Int) y).x->J28 x':=by
   intro x' hx';refine Zd ⟨_,rfl,?_⟩
   intro J45;refine⟨fun g=>?_,fun g=>?_⟩
   ·have g:=bC g;have hy:=wn.y (by omega)
    refine⟨_,iW,fin _ _ hx' ?_⟩
    unfold shN;simp only;rw [bJ (show 1<arI y.op by omega)]
   ·have g:=bB g;refine fin _ _ hx' ?_
    unfold shN;simp only;rw [bE (show ¬ 1<arI y.op by omega)]
  clear_value J28;refine⟨fun g=>?_,fun g=>?_⟩
  ·have g:=bC g;have hX:=wn.x (by omega)
   refine⟨_,iW,hJ _ ?_⟩
   unfold shN;simp only;rw [bJ (show 0<arI y.op by omega)]
  ·have g:=bB g;refine hJ _ ?_
   unfold shN;simp only;rw [bE (show ¬ 0<arI y.op by omega)]
 ·have hge:i=l2.length:=by have:=bB g;omega
  subst hge;rw [cY (cB _)] at V hlen ⊢;refine Zd ⟨_,rfl,?_⟩
  intro J62;have hJ:∀ y',y'=(if 1<arI op then((l.length+l2.length:Nat):Int)-1 else 0)->J62 y':=by
   rintro y' rfl b66 hb66;intro h67;exact V.app (x:=⟨op,(l.length:Int)-1,if 1<arI op then((l.length+l2.length:Nat):Int)-1 else 0,0,(0,0)⟩) Qqr Zk Qd6 (by omega) (by omega) hb66 fun a' c' h' V'=>⟨_,_,_,rfl,hK a' c' h' V'⟩
  clear_value J62;refine⟨fun g=>?_,fun g=>?_⟩
  ·have g:=bC g;refine⟨_,iW,hJ _ ?_⟩
   rw [bJ (show 1<arI op by omega),hlen]
  ·have g:=bB g;refine hJ _ ?_
   rw [bE (show ¬ 1<arI op by omega)]
end
open Go.Txt
structure Q5 (h0 h:Hp)(g:Nat)(s:RS):Prop where
 b:∃ a c,h g=some (Qb [vsl a s.ws.length c,vi s.deep,ifv (QA s.f)] 167)/\SlB h0 a s.ws.length s.ws/\s.ws.length<=c
 l:h0.le h
 n:h0 g=none
 w:∀ x ∈ s.ws,x.length<=1000000
theorem N6 {h0 h:Hp}{g:Nat}(l:h0.le h)(hg:h0 g=none)(o:Obj):h0.le (h.set g o):=fun b p hb=>by
 rw [qL _ _ (fun e=>by rw [e,hg] at hb;cases hb)]
 exact l b p hb
theorem KH {a:OaT}{n c:Nat}{l:List Wd}{w:Wd}{h:Hp}(S:SlB h a n l)(hn:n<=1000000){R:RtT}(hK:R (vi (if w ∈ l then(l.idxOf w:Int) else -1)) h):Qa Pg 141 [vsl a n c,vs (bs w)] h R:=by
 refine KD ?_
 have hl:=S.1;refine⟨fun v hh=>hh=h/\∃ i:Nat,v=[vi i]/\i<=n/\w ∉ l.take i,fun v _=>n-(Qo v 0).toNat,⟨rfl,0,rfl,cE _,by simp⟩,?_⟩
 rintro v hh ⟨rfl,i,rfl,hi,hno⟩;refine⟨i,rfl,fun e=>?_,fun e=>?_⟩
 ·have hlt:i<n:=by have:=bC e;omega
  obtain⟨b,o,ha,hc⟩:=SlP.get1 S hlt;refine⟨b,o,⟨ha,by omega,by omega⟩,_,hc,_,QZ,fun e2=>?_,fun e2=>?_⟩
  ·have e3:=bC e2;have hx:l.getD i []=l[i]'(by omega):=by rw [bI,bD (by omega)];rfl
   rw [hx] at e3;have hm:w ∈ l:=by rw [e3];exact cM _
   have hidx:l.idxOf w=i:=by
    have hsp:l=l.take i++l[i]'(by omega) :: l.drop (i+1):=by rw [<-dS,dX]
    rw [hsp,List.idxOf_append,bE hno,<-e3,List.idxOf_cons_self,bZ];omega
   rw [bJ hm,hidx] at hK;exact hK
  ·have e3:=bB e2;have hx:l.getD i []=l[i]'(by omega):=by rw [bI,bD (by omega)];rfl
   rw [hx] at e3;refine⟨_,iW,⟨rfl,i+1,rfl,by omega,?_⟩,?_⟩
   ·rw [bL (by omega)]
    intro hm;rcases bU.1 hm with h1|h1
    ·exact hno h1
    ·exact e3 (by simpa using h1)
   ·show n-((i:Int)+1).toNat<n-(i:Int).toNat;omega
 ·have hge:i=n:=by have:=bB e;omega
  rw [hge,cY (by omega)] at hno
  rw [bE hno] at hK;exact hK
theorem NU {a:OaT}{n c:Nat}{l:List Wd}{w:Wd}{h:Hp}(S:SlB h a n l)(hn:n<=1000000){R:RtT}(hK:R (vb (decide (w ∈ l))) h):Qa Pg 142 [vsl a n c,vs (bs w)] h R:=by
 refine Wq ?_
 refine KH S hn ⟨_,rfl,?_⟩
 have:decide ((if w ∈ l then(l.idxOf w:Int) else -1)>=0)=decide (w ∈ l):=by
  by_cases hm:w ∈ l
  ·simp [hm]
  ·simp [hm]
 rw [this];exact hK
def At (g:Nat):NpT:=fun b=>b=g
theorem Va (h:Hp)(g:Nat)(o:Obj):Mut (At g) h (At g) (h.set g o):=⟨fun b o2 hb ho=>by rw [qL _ _ (fun e=>hb e)];exact ho,fun b hb=>.inl hb⟩
theorem UA {h:Hp}{g:Nat}{x y z:Value}{T:TypeId}(hb:h g=some (Qb [x,y,z] T)):h.cell g 0=some x/\h.cell g (0+1)=some y/\h.cell g (0+2)=some z:=⟨Qc hb rfl,Qc hb rfl,Qc hb rfl⟩
theorem QdD {h:Hp}{g:Nat}{x y z x':Value}{T:TypeId}(hb:h g=some (Qb [x,y,z] T)){K:HpT}(hK:K (h.set g (Qb [x',y,z] T))):h.store g 0 [x'] K:=Zu hb (by simp) hK
theorem Qpj {h:Hp}{g:Nat}{x y z y':Value}{T:TypeId}(hb:h g=some (Qb [x,y,z] T)){K:HpT}(hK:K (h.set g (Qb [x,y',z] T))):h.store g (0+1) [y'] K:=Zu hb (by simp) hK
theorem Qle {h:Hp}{g:Nat}{x y z z':Value}{T:TypeId}(hb:h g=some (Qb [x,y,z] T)){K:HpT}(hK:K (h.set g (Qb [x,y,z'] T))):h.store g (0+2) [z'] K:=Zu hb (by simp) hK
theorem QlE (h:Hp):SlB h none 0 []:=⟨rfl,(qX h 9 1).row⟩
theorem Xa {h0 h:Hp}{g:Nat}{s:RS}(D:Q5 h0 h g s){f:Int}(hf:f≠0){R:RtT}(hK:∀ h',Q5 h0 h' g (s.fail f)->Mut (At g) h (At g) h'->R (Qf []) h'):Qa Pg 140 [vhp g 0,ifv (some (119,vi f))] h R:=by
 obtain⟨a,c,hb,hS,hc⟩:=D.b;refine GT ?_
 refine⟨_,(UA hb).2.2,?_⟩
 intro J5;refine⟨fun e=>?_,fun e=>?_⟩
 ·have e0:s.f=0:=by unfold QA at e;split at e<;>simp_all
  refine Qle hb (QdD (qK _ _ _) ?_)
  refine hK _ ⟨⟨none,0,?_,QlE _,cB _⟩,N6 (N6 D.l D.n _) D.n _,D.n,fun x hx=>by cases hx⟩ ((Va _ _ _).trans (Va _ _ _))
  rw [qK];show _=some (Qb [vsl none 0 0,vi s.deep,ifv (QA (if s.f=0 then f else s.f))] 167)
  rw [bJ e0];unfold QA;rw [bE hf]
 ·have e0:s.f≠0:=by intro e1;rw [e1] at e;cases e
  refine QdD hb ?_
  refine hK _ ⟨⟨none,0,?_,QlE _,cB _⟩,N6 D.l D.n _,D.n,fun x hx=>by cases hx⟩ (Va _ _ _)
  rw [qK];show _=some (Qb [vsl none 0 0,vi s.deep,ifv (QA (if s.f=0 then f else s.f))] 167)
  rw [bE e0]
theorem Q8 {h0 h:Hp}{g:Nat}{s:RS}(D:Q5 h0 h g s){wa:OaT}{wn wc:Nat}{l:List Wd}(S:SlB h wa wn l)(hwn:wn<=1000)(hwl:s.ws.length<=1000000){R:RtT}(hK:∀ h',Q5 h0 h' g (s.is l).2->Mut (At g) h (At g) h'->R (vs (bs (s.is l).1)) h'):Qa Pg 85 [vhp g 0,vsl wa wn wc] h R:=by
 obtain⟨a,c,hb,hS,hc⟩:=D.b;refine QaG ?_
 obtain⟨ws,dp,f⟩:=s;simp only at hb hS hc hwl;have hcell:=(UA hb).1;cases ws with
 | nil=>
  refine⟨_,_,_,hcell,none,0,0,fun e=>by simp at e,0,0,fun e=>by simp at e,⟨#[]⟩,fun e=>by simp at e,fun v hh=>hh=h/\v=.t (.one (.v (vb false))),fun e=>by simp at e,fun _=>⟨rfl,rfl⟩,?_⟩
  rintro h10 p11 ⟨rfl,e⟩;cases e;refine⟨fun _=>hK _ D (rA (qO _)),fun e=>by simp at e⟩
 | cons w r=>
  obtain⟨b,o,ha,hc0⟩:=SlP.get1 (SlP.le D.l hS) (i:=0) (by simp)
  have hc1:h.cell b (o+(0:Int).toNat*1)=some (vs (bs w)):=hc0;refine⟨_,_,_,hcell,_,_,_,fun _=>hcell,b,o,fun _=>⟨ha,by decide,by simp⟩,_,fun _=>hc1,fun v hh=>hh=h/\v=.t (.one (.v (vb (decide (w ∈ l))))),fun _=>NU S (by omega) ⟨_,rfl,rfl,rfl⟩,fun e=>absurd (by simp;omega) e,?_⟩
  rintro h10 p11 ⟨rfl,e⟩;cases e;refine⟨fun e=>?_,fun e=>?_⟩
  ·have hno:w ∉ l:=by intro hm;simp [hm] at e;omega
   have h1:(⟨w :: r,dp,f⟩:RS).is l=([],⟨w :: r,dp,f⟩):=by unfold RS.is;simp only;rw [bE hno]
   rw [h1] at hK;exact hK _ D (rA (qO _))
  ·have hm:w ∈ l:=by
    rcases Decidable.em (w ∈ l) with hm|hm
    ·exact hm
    ·simp [hm] at e
   have h1:(⟨w :: r,dp,f⟩:RS).is l=(w,⟨r,dp,f⟩):=by unfold RS.is;simp only;rw [bJ hm]
   rw [h1] at hK;have hsz:szT Pg 9=1:=by kernel_rfl
   have hr:=YD (P:=Pg) (h:=h10) (t:=162) (e:=9) (by kernel_rfl) (by kernel_rfl) (a:=a) (n:=(w :: r).length) (c:=c) (x:=1) (by decide) (by simp;omega)
   rw [hsz] at hr;refine⟨_,_,_,hcell,b,o,⟨ha,by decide,by simp⟩,_,hc1,_,_,_,hcell,_,_,_,hr,QdD hb ?_⟩
   have hS2:=SlP.drop Z4 hS (i:=1) (by simp) hc
   exact hK _ ⟨⟨_,_,qK _ _ _,⟨rfl,hS2.2⟩,by simp at hc ⊢;omega⟩,N6 D.l D.n _,D.n,fun x hx=>D.w x (bT _ hx)⟩ (Va _ _ _)
theorem Q5.le {h0 h h':Hp}{g:Nat}{s:RS}(D:Q5 h0 h g s)(l:h.le h'):Q5 h0 h' g s:=by
 obtain⟨a,c,hb,hS,hc⟩:=D.b;exact⟨⟨a,c,l g _ hb,hS,hc⟩,qP D.l l,D.n,D.w⟩
theorem Kn (h:Hp)(b:Nat)(w:Wd):SlB (h.set b (Qb [vs (bs w)] 9)) (some ⟨b,0,none⟩) 1 [w]:=⟨rfl,(QT.new h b 9 (sz:=1) (n:=1) [vs (bs w)] rfl (by decide)).row⟩
theorem Zs {h0 h:Hp}{g:Nat}{s:RS}(D:Q5 h0 h g s)(hwl:s.ws.length<=1000000){w:Wd}{R:RtT}(hK:∀ h',Q5 h0 h' g (s.must w)->Mut (At g) h (At g) h'->R (Qf []) h'):Qa Pg 83 [vhp g 0,vs (bs w)] h R:=by
 refine GP ?_
 intro b1 hb1 h2;have hl:h.le h2:=qQ (qO h) hb1 _;unfold RS.must at hK;refine Q8 (D.le hl) (Kn h b1 w) (by decide) hwl fun h4 D4 M4=>⟨_,rfl,_,QZ (b:=[]),fun e=>?_,fun e=>?_⟩
 ·rw [bJ (bC e)] at hK;exact Xa D4 (by decide) fun h5 D5 M5=>⟨rfl,hK h5 D5 (((rA hl).trans M4).trans M5)⟩
 ·rw [bE (bB e)] at hK;exact hK h4 D4 ((rA hl).trans M4)
structure JB (hB h:Hp)(a:OaT)(n:Nat)(l:List Nd):Prop where
 s:SlP Z6 h a n l
 nw:∀ b o,a=some ⟨b,o,none⟩->hB b=none
theorem JB.base {hB hC h:Hp}{a:OaT}{n:Nat}{l:List Nd}(N:JB hC h a n l)(hh:∀ b,hC b=none->hB b=none):JB hB h a n l:=⟨N.s,fun b o e=>hh b (N.nw b o e)⟩
theorem JB.mut {hB h h':Hp}{g:Nat}{a:OaT}{n:Nat}{l:List Nd}(N:JB hB h a n l)(hg:hB g≠none)(M:Mut (At g) h (At g) h'):JB hB h' a n l:=by
 have ne:∀ b o,a=some ⟨b,o,none⟩->b≠g:=fun b o e q=>hg (by rw [<-q];exact N.nw b o e)
 refine⟨⟨N.s.1,(Qe.del N.s.2 ne).le fun b o hb=>?_⟩,N.nw⟩
 by_cases e:b=g
 ·subst e;simp [Hp.del] at hb
 ·refine M.keep b o (fun h=>e h) ?_
  simpa [Hp.del,e] using hb
theorem Ui (hB h:Hp):JB hB h none 0 []:=⟨⟨rfl,(qX h 250 6).row⟩,fun b o e=>by cases e⟩
theorem _root_.Go.Vc.Mut.up {h h':Hp}{g:Nat}(M:Mut (At g) h (At g) h')(hg:h' g≠none):∀ b,h' b=none->h b=none:=by
 intro b hb;cases e:h b with
 | none=>rfl
 | some o=>
  by_cases q:b=g
  ·subst q;exact absurd hb hg
  ·rw [M.keep b o (fun h=>q h) e] at hb;cases hb
theorem QpP {h h':Hp}(l:h.le h'):∀ b,h' b=none->h b=none:=fun b hb=>qR l hb
theorem Kp {h:Hp}(n:Nd){R:RtT}(hK:∀ a c h',JB h h' a 1 [n]->1<=c->h.le h'->R (vsl a 1 c) h'):Qa Pg 238 [vag (Z6 n)] h R:=by
 refine QfW ?_
 intro b1 hb1 h2;refine hK _ _ _ ⟨⟨rfl,(QT.new h b1 250 (sz:=6) (n:=1) (Z6 n) rfl (by decide)).row⟩,fun b o e=>?_⟩ (by decide) (qQ (qO h) hb1 _)
 cases e;exact hb1
theorem Q5.al {h0 h:Hp}{g:Nat}{s:RS}(D:Q5 h0 h g s):h g≠none:=by
 obtain⟨a,c,hb,_⟩:=D.b;rw [hb];simp
theorem QK {h0 h:Hp}{g:Nat}{s:RS}(D:Q5 h0 h g s){op:Int}{ax ay:OaT}{nx ny cx cy:Nat}{x y:List Nd}(X:SlP Z6 h ax nx x)(Y:SlP Z6 h ay ny y)(Wy:WfL y)(hx:x.length<=1000)(hy:y.length<=1000){R:RtT}
  (hK:∀ a c h',Q5 h0 h' g (ZI op x y s).2->JB h h' a (ZI op x y s).1.length (ZI op x y s).1->Mut (At g) h (At g) h'->R (vsl a (ZI op x y s).1.length c) h'):Qa Pg 199 [vhp g 0,vi op,vsl ax nx cx,vsl ay ny cy] h R:=by
 refine Mz ?_
 have hnx:=X.1;have hny:=Y.1;unfold ZI at hK;refine⟨_,iW,fun e=>?_,fun e=>?_⟩
 ·have e2:=bC e;rw [bJ (by omega)] at hK
  refine Xa D (by decide) fun h3 D3 M3=>⟨rfl,Kp QiD fun a c h5 N5 _ l5=>⟨_,_,_,rfl,?_⟩⟩
  exact hK a c h5 (D3.le l5) (N5.base (M3.up D3.al)) (M3.trans (rA l5))
 ·have e2:=bB e;rw [bE (by omega)] at hK
  refine Jb X Y Wy (by omega) (by omega) fun a' c' h' V=>⟨_,_,_,rfl,?_⟩
  refine hK a' c' h' (D.le V.le0) ⟨V.slp Zk (by decide),fun b o e=>?_⟩ (rA V.le0)
  obtain rfl:=(Qg.own V).at0 b o e;exact Qg.new V b e
end Go.Proofs.YthicpjafcpfjoaaGreatDoor
namespace Go.Txt
open Go.Lib
theorem QgP:∀(l:LuT)(a u:Nat),parseUint10 a l=.ok u->(∀ c ∈ l,isD c)/\u=K4 a l
 | [],a,u,h=>by
  rw [parseUint10] at h;injection h with h
  exact⟨by simp,h.symm⟩
 | c :: l,a,u,h=>by
  rw [parseUint10] at h;split at h
  ·rename_i hc;split at h
   ·cases h
   ·split at h
    ·cases h
    ·obtain⟨h1,h2⟩:=QgP l _ u h;refine⟨fun x hx=>?_,?_⟩
     ·rcases bS.1 hx with rfl|hx
      ·exact hc
      ·exact h1 x hx
     ·rw [h2,j9];rfl
  ·cases h
theorem Qo3 {l:LuT}(hl:l≠[])(most:Int):Qas l most false=QgK most 0 l:=by
 unfold Qas;rw [bE];rintro(h|⟨h,_⟩)
 ·exact hl h
 ·cases h
theorem Qdy {l:LuT}(hl:l≠[]){most:Int}(hm:0<=most):Qas l most false=if (∀ c ∈ l,isD c)/\(K4 0 l:Int)<=most then(K4 0 l:Int) else -1:=by
 rw [Qo3 hl];exact QdZ most l 0 hm
theorem QnL {l:LuT}{most:Int}(hm:0<=most):-1<=Qas l most false/\Qas l most false<=most:=by
 by_cases hl:l=[]
 ·subst hl;unfold Qas;simp;omega
 ·rw [Qdy hl hm];split<;>omega
theorem Qc7 {c:UInt8}{r:LuT}(hc:isD c){v:Int}(h:atoiAll (c :: r)=.ok v):(∀ x ∈ c :: r,isD x)/\v=K4 0 (c :: r):=by
 have hc':=hc;unfold isD at hc';unfold atoiAll at h;simp only at h;rw [bE (by omega)] at h
 unfold parseMag at h;rw [bE (by simp)] at h
 cases hp:parseUint10 0 (c :: r) with
 | ok u=>
  rw [hp] at h;simp only at h;rw [bE (show ¬(c.toNat=45/\9223372036854775808<u) by omega),bE (show ¬ c.toNat=45 by omega)] at h
  split at h
  ·cases h
  ·injection h with h
   obtain⟨h1,h2⟩:=QgP _ _ _ hp;exact⟨h1,by rw [<-h,h2]⟩
 | range=>rw [hp] at h;cases h
 | _=>rw [hp] at h;cases h
theorem Qeb {l:LuT}(hl:l≠[])(hd:∀ x ∈ l,isD x)(hv:K4 0 l<=1000000000000):atoiAll l=.ok (K4 0 l):=by
 match l,hl with
 | c :: r,hl=>
  have hc:=hd c (bY ..);unfold isD at hc;have hp:=Vb (c :: r) 0 hd (by omega)
  unfold atoiAll;simp only;rw [bE (by omega)]
  unfold parseMag;rw [bE (by simp),hp]
  simp only;rw [bE (by omega),bE (by omega),bE (by omega)]
theorem Qom {c:UInt8}{r:LuT}{v:Int}(h:atoiAll (c :: r)=.ok v){most:Int}(hm:0<=most):Qas (c :: r) most false=if isD c/\v<=most then v else -1:=by
 by_cases hc:isD c
 ·obtain⟨h1,h2⟩:=Qc7 hc h;rw [Qdy (by simp) hm,h2]
  by_cases h3:(K4 0 (c :: r):Int)<=most
  ·rw [bJ ⟨h1,h3⟩,bJ ⟨hc,h3⟩]
  ·rw [bE (fun e=>h3 e.2),bE (fun e=>h3 e.2)]
 ·rw [Qdy (by simp) hm,bE (fun e=>hc (e.1 c (bY ..))),bE (fun e=>hc e.1)]
theorem Qmr {l:LuT}(h:∀ v,atoiAll l≠.ok v){most:Int}(hm:0<=most)(hm2:most<=1000000000000):Qas l most false=-1:=by
 by_cases hl:l=[]
 ·subst hl;unfold Qas;simp
 ·rw [Qdy hl hm];by_cases h3:(∀ c ∈ l,isD c)/\(K4 0 l:Int)<=most
  ·exact absurd (Qeb hl h3.1 (by omega)) (h _)
  ·rw [bE h3]
end Go.Txt
namespace Go.Proofs.YthicpjafcpfjoaaGreatDoor
open Go Go.Vc Go.Txt
def Qly:List Wd:=[[],ZF,ZF,V1,VM,V6]
structure QfA (h:Hp):Prop where
 p:Uk h
 e:MD h
 f:∃ a c,Hp.cell h 9 0=some (vsl a 4 c)/\SlB h a 4 YA
 a:∃ a c,Hp.cell h 0 0=some (vsl a 6 c)/\SlB h a 6 Qly
theorem QfA.le {h h':Hp}(T:QfA h)(l:h.le h'):QfA h':=by
 obtain⟨p,e,⟨a,c,h1,h2⟩,b,d,h3,h4⟩:=T;exact⟨p.le l,e.le l,⟨a,c,qS l h1,SlP.le l h2⟩,b,d,qS l h3,SlP.le l h4⟩
structure QaJ (h0 h:Hp)(g:Nat):Prop where
 t:QfA h0
 l:h0.le h
 n:h0 g=none
theorem QaJ.mut {h0 h h':Hp}{g:Nat}(E:QaJ h0 h g)(M:Mut (At g) h (At g) h'):QaJ h0 h' g:=
 ⟨E.t,fun b o hb=>M.keep b o (fun e=>by rw [show b=g from e,E.n] at hb;cases hb) (E.l b o hb),E.n⟩
theorem QaJ.now {h0 h:Hp}{g:Nat}(E:QaJ h0 h g):QfA h:=E.t.le E.l
structure QoL {α:Type}(enc:α->List Value)(h:Hp)(g:Nat)(a:OaT)(n:Nat)(l:List α):Prop where
 s:SlP enc h a n l
 ne:∀ b o,a=some ⟨b,o,none⟩->b≠g
theorem QoL.mut {α:Type}{enc:α->List Value}{h h':Hp}{g:Nat}{a:OaT}{n:Nat}{l:List α}(N:QoL enc h g a n l)(M:Mut (At g) h (At g) h'):QoL enc h' g a n l:=by
 refine⟨⟨N.s.1,(Qe.del N.s.2 N.ne).le fun b o hb=>?_⟩,N.ne⟩
 by_cases e:b=g
 ·subst e;simp [Hp.del] at hb
 ·refine M.keep b o (fun h=>e h) ?_
  simpa [Hp.del,e] using hb
theorem Q5.c0 {h0 h:Hp}{g:Nat}{s:RS}(D:Q5 h0 h g s):∃ a c,h.cell g 0=some (vsl a s.ws.length c):=by
 obtain⟨a,c,hb,_⟩:=D.b;exact⟨a,c,(UA hb).1⟩
theorem Q5.c1 {h0 h:Hp}{g:Nat}{s:RS}(D:Q5 h0 h g s):h.cell g (0+1)=some (vi s.deep):=by
 obtain⟨a,c,hb,_⟩:=D.b;exact(UA hb).2.1
theorem Q5.c2 {h0 h:Hp}{g:Nat}{s:RS}(D:Q5 h0 h g s):h.cell g (0+2)=some (ifv (QA s.f)):=by
 obtain⟨a,c,hb,_⟩:=D.b;exact(UA hb).2.2
theorem Q5.put1 {h0 h:Hp}{g:Nat}{s:RS}(D:Q5 h0 h g s){d:Int}{K:HpT}(hK:∀ h',Q5 h0 h' g ⟨s.ws,d,s.f⟩->Mut (At g) h (At g) h'->K h'):h.store g (0+1) [vi d] K:=by
 obtain⟨a,c,hb,hS,hc⟩:=D.b;exact Qpj hb (hK _ ⟨⟨a,c,qK _ _ _,hS,hc⟩,N6 D.l D.n _,D.n,D.w⟩ (Va _ _ _))
theorem Q5.put2 {h0 h:Hp}{g:Nat}{s:RS}(D:Q5 h0 h g s){f:Int}{K:HpT}(hK:∀ h',Q5 h0 h' g ⟨s.ws,s.deep,f⟩->Mut (At g) h (At g) h'->K h'):h.store g (0+2) [ifv (QA f)] K:=by
 obtain⟨a,c,hb,hS,hc⟩:=D.b;exact Qle hb (hK _ ⟨⟨a,c,qK _ _ _,hS,hc⟩,N6 D.l D.n _,D.n,D.w⟩ (Va _ _ _))
theorem Qqt {c:UInt8}:(decide (((c.toNat:Nat):Int)<48)=false/\decide (((c.toNat:Nat):Int)>57)=false)↔isD c:=by
 unfold isD;constructor
 ·rintro⟨h1,h2⟩;have h1:=bB h1;have h2:=bB h2;omega
 ·intro h;exact⟨cO (by omega),cO (by omega)⟩
theorem WY {h0 h:Hp}{g:Nat}{s:RS}(D:Q5 h0 h g s)(E:QaJ h0 h g)(hl:s.ws.length<=1000000){most:Int}(hm:0<=most)(hm2:most<=1000000000000){R:RtT}(hK:∀ h',Q5 h0 h' g (s.number most).2->Mut (At g) h (At g) h'->R (vi (s.number most).1) h'):Qa Pg 87 [vhp g 0,vi most] h R:=by
 have hfail:(s.number most)=(0,s.fail 4)->Qa Pg 140 [vhp g 0,ifv (some (119,vi 4))] h fun v2 h3=>v2=Qf []/\R (vi 0) h3:=by intro e;rw [e] at hK;exact Xa D (by decide) fun h' D' M=>⟨rfl,hK h' D' M⟩
 obtain⟨a,c,hb,hS,hc⟩:=D.b;refine UZ ?_
 have hcell:=(UA hb).1;have hw:=D.w;obtain⟨ws,dp,f⟩:=s;simp only at hb hS hc hcell hw hl;refine⟨_,_,_,hcell,fun e=>?_,fun e=>?_⟩
 ·have:ws=[]:=by have:=bC e;exact fU.1 (by omega)
  subst this;exact hfail rfl
 cases ws with
 | nil=>simp at e
 | cons w r=>
  obtain⟨b,o,ha,hc0⟩:=SlP.get1 (SlP.le D.l hS) (i:=0) (by simp)
  have hc1:h.cell b (o+(0:Int).toNat*1)=some (vs (bs w)):=hc0;have hlen:(0:Int)<(((w :: r).length:Nat):Int):=by simp
  have hwl:=hw w (bY ..);refine⟨_,_,_,hcell,b,o,⟨ha,by decide,hlen⟩,_,hc1,?_⟩
  refine strconv_Atoi_ok hwl E.now.e (fun v hv=>?_) fun hn x e=>?_
  ·match w,hv with
   | [],hv=>exact absurd hv (by simp [Lib.atoiAll])
   | c0 :: cs,hv=>
   have hx:Rd Pg (Instr.index 9 (vs (bs (c0 :: cs))) (vi 0)) h (vk .u8 (c0.toNat:Nat)):=KU (by kernel_rfl) (l:=c0 :: cs) (i:=0) (by decide) (by simp)
   refine⟨_,_,rfl,_,_,_,fun _=>hcell,b,o,fun _=>⟨ha,by decide,hlen⟩,_,fun _=>hc1,_,fun _=>hx,_,_,_,fun _=>hcell,b,o,fun _=>⟨ha,by decide,hlen⟩,_,fun _=>hc1,_,fun _=>hx,?_⟩
   have hnat:=Qom hv hm;have hnum:(⟨(c0 :: cs) :: r,dp,f⟩:RS).number most=if Qas (c0 :: cs) most false<0 then(0,(⟨(c0 :: cs) :: r,dp,f⟩:RS).fail 4) else(Qas (c0 :: cs) most false,⟨r,dp,f⟩):=rfl
   have hcond:(bif (bif (bif (Option.isSome (none:OtT)) then true else(decide (((c0.toNat:Nat):Int)<48))) then true else(decide (((c0.toNat:Nat):Int)>57))) then true else(decide ((v:Int)>most)))=!decide (isD c0/\v<=most):=by
    have hi:=@Qqt c0;rw [show (decide (v>most))=!decide (v<=most) by rw [Qmb];exact fN.2 (by omega)]
    cases h1:decide (((c0.toNat:Nat):Int)<48)<;>cases h2:decide (((c0.toNat:Nat):Int)>57)<;>simp only [h1,h2] at hi<;>simp at hi<;>simp [hi]
   rw [hcond];refine⟨fun e=>?_,fun e=>?_⟩
   ·have e2:¬(isD c0/\v<=most):=by rw [Qmb] at e;exact bC e
    rw [bE e2] at hnat;rw [hnat,bJ (by decide)] at hnum
    exact hfail hnum
   ·have e2:isD c0/\v<=most:=by rw [Qmb] at e;exact gA.1 (bB e)
    rw [bJ e2] at hnat;obtain⟨_,hv2⟩:=Qc7 e2.1 hv;rw [hnat,bE (by omega)] at hnum
    rw [hnum] at hK;have hsz:szT Pg 9=1:=by kernel_rfl
    have hr:=YD (P:=Pg) (h:=h) (t:=162) (e:=9) (by kernel_rfl) (by kernel_rfl) (a:=a) (n:=((c0 :: cs) :: r).length) (c:=c) (x:=1) (by decide) (by simp;omega)
    rw [hsz] at hr;refine⟨_,_,_,hcell,_,_,_,hr,QdD hb ?_⟩
    have hS2:=SlP.drop Z4 hS (i:=1) (by simp) hc
    exact hK _ ⟨⟨_,_,qK _ _ _,⟨rfl,hS2.2⟩,by simp at hc ⊢;omega⟩,N6 D.l D.n _,D.n,fun x hx=>hw x (bT _ hx)⟩ (Va _ _ _)
  ·have no:∀{p:Prop},Option.isSome (some e)=false->p:=fun q=>by cases q
   refine⟨x,some e,rfl,none,0,0,no,0,0,no,⟨#[]⟩,no,0,no,none,0,0,(fun q=>by cases q),0,0,(fun q=>by cases q),⟨#[]⟩,(fun q=>by cases q),0,(fun q=>by cases q),(fun _=>?_),(fun q=>by cases q)⟩
   have hnat:=Qmr hn hm hm2;refine hfail ?_
   show (if Qas w most false<0 then(0,(⟨w :: r,dp,f⟩:RS).fail 4) else(Qas w most false,⟨r,dp,f⟩))=_
   rw [hnat,bJ (by decide)]
structure SOk (n:Nat)(s:RS):Prop where
 good:s.good
 len:s.ws.length<n
 big:s.ws.length<=1000
 d0:0<=s.deep
 d1:s.deep+s.ws.length<=1000000
theorem SOk.goes {n:Nat}{s t:RS}(S:SOk n s)(G:XD t s):SOk n t:=by
 have h1:=G.len;have h2:=G.deep;have:=S.len;have:=S.big;have:=S.d0;have:=S.d1;exact⟨G.ok,by omega,by omega,by omega,by omega⟩
def Zr (f:FuncId)(P:Ps)(n:Nat):Prop:=∀{h0 h:Hp} {g:Nat} {s:RS},Q5 h0 h g s->QaJ h0 h g->SOk n s->∀{R:RtT},(∀ a c h',Q5 h0 h' g (P s).2->JB h h' a (P s).1.length (P s).1->Mut (At g) h (At g) h'->R (vsl a (P s).1.length c) h')->Qa Pg f [vhp g 0] h R
def Qhy (f:FuncId):Prop:=∃ fn,Pg.funcs[f]?=some fn/\(fn.name == "runtime.NumGoroutine")=false/\fn.body.isNone=false
theorem Qkc {f:FuncId}(B:Qhy f){g:Nat}{h:Hp}{K:RtT}(H:Qa Pg f [vhp g 0] h K):ZC Pg (.func (.func f) #[vhp g 0] #[]) [] h K:=⟨f,_,_,rfl,B,H⟩
theorem JD {f:FuncId}{P:Ps}{n:Nat}(B:Qhy f)(F:Zr f P n)(kp:KP P n){h0 h:Hp}{g:Nat}{s:RS}(D:Q5 h0 h g s)(E:QaJ h0 h g)(S:SOk n s)(hd:s.deep+s.ws.length<1000000){R:RtT}(hK:∀ a c h',Q5 h0 h' g (KF P s).2->JB h h' a (KF P s).1.length (KF P s).1->Mut (At g) h (At g) h'->R (vsl a (KF P s).1.length c) h'):Qa Pg 240 [vhp g 0,.func (.func f) #[vhp g 0] #[]] h R:=by
 refine Mk ?_
 have d0:=S.d0;refine⟨_,D.c1,_,iW,D.put1 fun h3 D3 M3=>⟨_,D3.c1,?_⟩⟩
 intro J9;have key:∀(h10:Hp)(u:RS),Q5 h0 h10 g u->Mut (At g) h (At g) h10->SOk n u->KF P s=((P u).1,⟨(P u).2.ws,(P u).2.deep-1,(P u).2.f⟩)->J9 h10:=by
  intro h10 u D10 M10 Su hP;rw [hP] at hK;have k:=kp u Su.good (gF Su.len);have hdp:=k.deep;have du:=Su.d0;have du1:=Su.d1;have hg:=D.al;refine Qkc B (F D10 (E.mut M10) Su fun a c h' D' N' M'=>⟨_,_,_,rfl,_,D'.c1,_,iW,D'.put1 fun h4 D4 M4=>?_⟩)
  exact hK a c h4 D4 ((N'.base (M10.up D10.al)).mut hg M4) ((M10.trans M').trans M4)
 clear_value J9;refine⟨fun e=>?_,fun e=>?_⟩
 ·have e2:s.deep+1>12:=bC e;refine Xa D3 (by decide) fun h4 D4 M4=>⟨rfl,key h4 _ D4 (M3.trans M4) ⟨RS.fail_good _ _,by have:=S.len;exact Nat.lt_of_le_of_lt (cE _) this,cE _,by show 0<=s.deep+1;omega,by show s.deep+1+((0:Nat):Int)<=1000000;omega⟩ ?_⟩
  unfold KF;simp only [bJ e2]
 ·have e2:¬ s.deep+1>12:=bB e;refine key h3 _ D3 M3 ⟨S.good,S.len,S.big,by show 0<=s.deep+1;omega,by show s.deep+1+(s.ws.length:Int)<=1000000;omega⟩ ?_
  unfold KF;simp only [bE e2]
end Go.Proofs.YthicpjafcpfjoaaGreatDoor
