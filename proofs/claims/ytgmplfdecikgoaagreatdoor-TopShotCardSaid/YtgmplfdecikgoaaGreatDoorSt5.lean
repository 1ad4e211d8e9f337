/-
  The statement that the last part names, proved; and all that it stands on that is not in the parts ahead. Conditions: those stated at each.
-/
import Derived.Lib.SplitLaws
import Derived.Lib.Join
import Derived.SizedLaws
import Derived.Handed
import Derived.Test.YtgmplfdecikgoaaGreatDoorRows
import Derived.Test.YtgmplfdecikgoaaGreatDoorCards
import Derived.Test.YtgmplfdecikgoaaGreatDoorTie
import Derived.WalkKit
import Derived.ProofKit
import Derived.OpenShut
import Derived.LaidMore
import Derived.Stop.Joined
import Derived.Stop.LaidErr
import Derived.SevenTiedAt
import Derived.Lay
import Derived.Test.YtgmplfdecikgoaaGreatDoorSt4
set_option linter.unusedVariables false
set_option maxRecDepth 100000
namespace Go.Proofs.YtgmplfdecikgoaaGreatDoor
open Go Go.Vc Go.Txt
abbrev Wds:=List UInt8
theorem index_word:∀(w r:Wds),(32:UInt8) ∉ w→Lib.index (w++32 :: r) [32]=(w.length:Nat)
 | [],r,_=>by
  show Lib.index (32 :: r) [32]=_
  unfold Lib.index
  rw [if_pos (by simp [List.isPrefixOf])]
  rfl
 | c :: w,r,h=>by
  have hc:c≠32:=fun e=>h (by rw [e];exact List.mem_cons_self ..)
  have ih:=index_word w r fun hm=>h (List.mem_cons_of_mem _ hm)
  rw [List.cons_append]
  unfold Lib.index
  have hp:([32]:Wds).isPrefixOf (c :: (w++32 :: r))=false:=by simp [List.isPrefixOf,Ne.symm hc]
  rw [hp,if_neg (by decide),ih,if_neg (by rw [beq_iff_eq];omega),List.length_cons]
  omega
theorem index_none:∀(w:Wds),(32:UInt8) ∉ w→Lib.index w [32]=-1
 | [],_=>rfl
 | c :: w,h=>by
  have hc:c≠32:=fun e=>h (by rw [e];exact List.mem_cons_self ..)
  have ih:=index_none w fun hm=>h (List.mem_cons_of_mem _ hm)
  unfold Lib.index
  have hp:([32]:Wds).isPrefixOf (c :: w)=false:=by simp [List.isPrefixOf,Ne.symm hc]
  rw [hp,if_neg (by decide),ih,if_pos (by decide)]
def cutW (s:Wds):List Wds:=Lib.split s [32]
theorem cutW_one {w:Wds}(h:(32:UInt8) ∉ w):cutW w=[w]:=by
 unfold cutW Lib.split
 rw [Lib.count_miss (index_none w h)]
 rfl
theorem cutW_cons {w r:Wds}(h:(32:UInt8) ∉ w):cutW (w++32 :: r)=w :: cutW r:=by
 unfold cutW Lib.split
 have hi:=index_word w r h
 rw [Lib.count_hit (by decide) hi]
 have hd:(w++32 :: r).drop (w.length+[(32:UInt8)].length)=r:=by
  rw [←List.drop_drop,List.drop_left];rfl
 rw [hd,Nat.add_comm,Lib.splitK,if_neg (by rw [hi,beq_iff_eq];omega),hi]
 rw [Int.toNat_natCast,Nat.add_zero,List.take_left,hd]
theorem cutW_join:∀{ws:List Wds},ws≠[]→(∀ w ∈ ws,(32:UInt8) ∉ w)→cutW (Lib.join ws [32])=ws
 | [],h,_=>absurd rfl h
 | [w],_,h=>by rw [Lib.join_one];exact cutW_one (h w (List.mem_cons_self ..))
 | w :: v :: r,_,h=>by
  have e:Lib.join (w :: v :: r) [32]=w++32 :: Lib.join (v :: r) [32]:=by
   rw [Lib.join_cons,Lib.join_cons]
   unfold Lib.joinTail
   simp
  rw [e,cutW_cons (h w (List.mem_cons_self ..)),cutW_join (by simp) fun x hx=>h x (List.mem_cons_of_mem _ hx)]
theorem split_len {s:Wds}{k:Nat}:(Lib.splitK [32] 0 k s).length≤k+1:=by
 induction k generalizing s with
 | zero=>exact Nat.le_refl _
 | succ k ih=>
  unfold Lib.splitK
  split
  ·simp
  ·rw [List.length_cons];have:=ih (s:=s.drop ((Lib.index s [32]).toNat+[(32:UInt8)].length));omega
theorem split_mem {s:Wds}{k:Nat}:∀ w ∈ Lib.splitK [32] 0 k s,w.length≤s.length:=by
 induction k generalizing s with
 | zero=>intro w hw;rw [List.mem_singleton.1 hw];exact Nat.le_refl _
 | succ k ih=>
  intro w hw
  unfold Lib.splitK at hw
  split at hw
  ·rw [List.mem_singleton.1 hw];exact Nat.le_refl _
  ·rcases List.mem_cons.1 hw with rfl|h
   ·rw [List.length_take];exact Nat.min_le_right ..
   ·have:=ih w h
    rw [List.length_drop] at this
    omega
theorem cutW_len (s:Wds):1≤(cutW s).length∧(cutW s).length≤s.length+1∧∀ w ∈ cutW s,w.length≤s.length:=by
 refine⟨?_,?_,split_mem⟩
 ·unfold cutW Lib.split
  generalize Lib.count s [32]=k
  cases k with
  | zero=>exact Nat.le_refl _
  | succ k=>unfold Lib.splitK;split<;>simp
 ·have h1:Lib.count s [32]≤s.length:=by
   rw [Lib.count_one]
   exact List.count_le_length
  have:=split_len (s:=s) (k:=Lib.count s [32])
  unfold cutW Lib.split
  omega
theorem digit_ne {l:Wds}(h:∀ c ∈ l,isD c):(32:UInt8) ∉ l:=fun hm=>by
 have:=h 32 hm
 unfold isD at this
 revert this;decide
theorem itoa_ne (n:Int):(32:UInt8) ∉ Lib.itoa n:=by
 unfold Lib.itoa
 split
 ·intro hm
  rcases List.mem_cons.1 hm with e|hm
  ·revert e;decide
  ·exact digit_ne (dec_spec _).1 hm
 ·exact digit_ne (dec_spec _).1
theorem textV_ne (v:Vl):(32:UInt8) ∉ textV v:=by
 unfold textV
 split
 ·decide
 ·split
  ·exact itoa_ne _
  ·split<;>decide
theorem itoa_hd {n:Int}:∃ c r,Lib.itoa n=c :: r∧c≠110∧c≠116∧c≠102:=by
 unfold Lib.itoa
 split
 ·exact⟨45,_,rfl,by decide,by decide,by decide⟩
 ·obtain⟨d1,d2,d3,d4⟩:=dec_spec n.toNat
  match hx:Lib.decDigits n.toNat,d3 with
  | c :: r,_=>
   rw [hx] at d1
   have:=d1 c (List.mem_cons_self ..)
   unfold isD at this
   refine⟨c,r,rfl,?_,?_,?_⟩<;>(rintro rfl;revert this;decide)
theorem readT {v:Vl}(hv:goodV v):readV (textV v)=(v,0):=by
 obtain⟨a,b⟩:=v
 unfold goodV at hv
 simp only at hv
 rcases hv with ⟨rfl,rfl⟩|⟨rfl,h1,h2⟩|⟨rfl,rfl|rfl⟩
 ·rfl
 ·obtain⟨c,r,e,n1,n2,n3⟩:=itoa_hd (n:=b)
  have et:textV (1,b)=Lib.itoa b:=rfl
  rw [et]
  have hn:Lib.itoa b≠wNull:=by rw [e];intro h;unfold wNull at h;injection h with h _;exact n1 h
  have hw:¬(Lib.itoa b=wTrue∨Lib.itoa b=wFalse):=by
   rw [e]
   rintro(h|h)
   ·unfold wTrue at h;injection h with h _;exact n2 h
   ·unfold wFalse at h;injection h with h _;exact n3 h
  unfold readV
  rw [if_neg hn,if_neg hw,atoi_itoa (by omega) (by omega)]
  simp only
  rw [if_pos ⟨trivial,h1,h2⟩]
  unfold numV
  rw [if_neg (by omega)]
 ·rfl
 ·rfl
theorem textV_ln {v:Vl}(hv:goodV v):(textV v).length≤14:=by
 unfold goodV at hv
 unfold textV
 split
 ·decide
 ·split
  ·exact itoa_len (by omega) (by omega)
  ·split<;>decide
abbrev RdW:=List Wds × Bool
def wdR:RdW→Wds × RdW
 | ([],_)=>([],([],true))
 | (w :: l,b)=>(w,(l,b))
def nmV (lo hi:Int)(w:Wds):Option Int:=match Lib.atoiAll w with|.ok n=>if Lib.itoa n=w∧lo≤n∧n≤hi then some n else none|_=>none
def nmR (lo hi:Int)(s:RdW):Int × RdW:=match nmV lo hi (wdR s).1 with|some n=>(n,(wdR s).2)|none=>(lo,((wdR s).2.1,true))
def vlR (s:RdW):Vl × RdW:=((readV (wdR s).1).1,((wdR s).2.1,(wdR s).2.2||decide ((readV (wdR s).1).2≠0)))
def eachR {κ α:Type}(f:κ→RdW→α × RdW):List κ→RdW→List α × RdW
 | [],s=>([],s)
 | k :: l,s=>((f k s).1 :: (eachR f l (f k s).2).1,(eachR f l (f k s).2).2)
theorem eachR_snoc {κ α:Type}(f:κ→RdW→α × RdW)(k:κ):∀(l:List κ) (s:RdW),eachR f (l++[k]) s=((eachR f l s).1++[(f k (eachR f l s).2).1],(f k (eachR f l s).2).2)
 | [],s=>rfl
 | x :: l,s=>by
  rw [List.cons_append,eachR,eachR_snoc f k l (f x s).2]
  rfl
theorem eachR_len {κ α:Type}(f:κ→RdW→α × RdW):∀(l:List κ) (s:RdW),(eachR f l s).1.length=l.length
 | [],s=>rfl
 | x :: l,s=>by rw [eachR,List.length_cons,List.length_cons,eachR_len f l]
abbrev AcT:=PK × List AcS × Bool
def acR (k:Int)(s:RdW):AcS × RdW:=
 let n:=nmR 0 120 s
 let m:=nmR (-1099511627776) 1099511627776 n.2
 let b:=nmR (-1000000000) 1000000000 m.2
 ((k,n.1,m.1,b.1),b.2)
def pnR (ks:List Int)(s:RdW):AcT × RdW:=
 let a:=nmR (-1000) 9999 s
 let k:=vlR a.2
 let t:=nmR 0 1 k.2
 let l:=eachR acR ks t.2
 (((a.1,k.1),l.1,decide (t.1=1)),l.2)
def rwR (n:Nat)(s:RdW):Rw × RdW:=
 let g:=nmR 0 1 s
 let a:=nmR (-1000) 9999 g.2
 let k:=vlR a.2
 let l:=eachR (fun _:Unit=>vlR) (List.replicate n ()) k.2
 ((decide (g.1=1),(a.1,k.1),l.1),l.2)
def rfR (s:RdW):(Int × Int) × RdW:=
 let r:=nmR 0 40 s
 let f:=nmR (-1) 9999 r.2
 ((r.1,f.1),f.2)
structure ShX where
 rd:List Nat
 far:List Int
 late:Nat
 pn:List AcT
 rows:List Rw
def hdR (s:RdW):(Int × Int × Int × Int) × RdW:=
 let k:=nmR 1 3 s
 let a:=nmR 0 1099511627776 k.2
 let m:=nmR 0 10000 a.2
 let w:=nmR 0 10000 m.2
 ((k.1,a.1,m.1,w.1),w.2)
def shotR (ks:List Int)(parts:Nat)(ws:List Wds):Option ShX:=
 let h:=hdR (ws,false)
 if h.1.1≠parts∨h.1.2.2.1+h.1.2.2.2 > h.2.1.length then none else
 let f:=eachR (fun _:Unit=>rfR) (List.replicate parts ()) h.2
 let p:=eachR (fun _:Unit=>pnR ks) (List.replicate h.1.2.2.1.toNat ()) f.2
 let r:=eachR (fun _:Unit=>rwR ks.length) (List.replicate h.1.2.2.2.toNat ()) p.2
 if r.2.2=true∨r.2.1≠[] then none else some ⟨f.1.map fun x=>x.1.toNat,f.1.map (·.2),h.1.2.1.toNat,p.1,r.1⟩
theorem nmV_some {lo hi n:Int}{w:Wds}(h:nmV lo hi w=some n):Lib.atoiAll w=.ok n∧Lib.itoa n=w∧lo≤n∧n≤hi:=by
 unfold nmV at h
 split at h
 ·rename_i m hm
  split at h
  ·cases h;exact⟨hm,by assumption⟩
  ·cases h
 ·cases h
theorem nmR_bd {lo hi:Int}(h:lo≤hi)(s:RdW):lo≤(nmR lo hi s).1∧(nmR lo hi s).1≤hi:=by
 unfold nmR
 split
 ·rename_i n hn;exact(nmV_some hn).2.2
 ·exact⟨Int.le_refl _,h⟩
theorem eachR_all {κ α:Type}{f:κ→RdW→α × RdW}{Q:α→Prop}(h:∀ k s,Q (f k s).1):∀(l:List κ) (s:RdW),∀ x ∈ (eachR f l s).1,Q x
 | [],s,x,hx=>by cases hx
 | k :: l,s,x,hx=>by
  rw [eachR] at hx
  rcases List.mem_cons.1 hx with rfl|hx
  ·exact h k s
  ·exact eachR_all h l _ x hx
def bitW (b:Bool):Wds:=if b then [49] else [48]
def acW (a:AcS):List Wds:=[Lib.itoa a.2.1,Lib.itoa a.2.2.1,Lib.itoa a.2.2.2]
def pnW (p:AcT):List Wds:=[Lib.itoa p.1.1,textV p.1.2,bitW p.2.2]++p.2.1.flatMap acW
def rwW (w:Rw):List Wds:=[bitW w.1,Lib.itoa w.2.1.1,textV w.2.1.2]++w.2.2.map textV
def rfW (x:Nat × Int):List Wds:=[Lib.itoa (x.1:Nat),Lib.itoa x.2]
def hdW (st:En):List Wds:=[Lib.itoa (st.rd.length:Nat),Lib.itoa (st.late:Nat),Lib.itoa (st.pn.length:Nat),Lib.itoa (st.rows.length:Nat)]
def shotW (ks:List Int)(st:En):List Wds:=hdW st++(st.rd.zip st.far).flatMap rfW++(st.pn.map (pnT ks)).flatMap pnW++st.rows.flatMap rwW
def shotT (ks:List Int)(st:En):Wds:=Lib.join (shotW ks st) [32]
theorem bitW_ne (b:Bool):(32:UInt8) ∉ bitW b:=by cases b<;>decide
theorem shotW_ne (ks:List Int)(st:En):∀ w ∈ shotW ks st,(32:UInt8) ∉ w:=by
 intro w hw
 unfold shotW hdW at hw
 simp only [List.mem_append,List.mem_flatMap,List.mem_cons,List.not_mem_nil,or_false] at hw
 rcases hw with ((hw|⟨x,_,hx⟩)|⟨x,_,hx⟩)|⟨x,_,hx⟩
 ·rcases hw with rfl|rfl|rfl|rfl<;>exact itoa_ne _
 ·unfold rfW at hx
  simp only [List.mem_cons,List.not_mem_nil,or_false] at hx
  rcases hx with rfl|rfl<;>exact itoa_ne _
 ·unfold pnW acW at hx
  simp only [List.mem_append,List.mem_flatMap,List.mem_cons,List.not_mem_nil,or_false] at hx
  rcases hx with (rfl|rfl|rfl)|⟨a,_,ha⟩
  ·exact itoa_ne _
  ·exact textV_ne _
  ·exact bitW_ne _
  ·rcases ha with rfl|rfl|rfl<;>exact itoa_ne _
 ·unfold rwW at hx
  simp only [List.mem_append,List.mem_map,List.mem_cons,List.not_mem_nil,or_false] at hx
  rcases hx with (rfl|rfl|rfl)|⟨a,_,rfl⟩
  ·exact bitW_ne _
  ·exact itoa_ne _
  ·exact textV_ne _
  ·exact textV_ne _
theorem shot_cut (ks:List Int)(st:En):cutW (shotT ks st)=shotW ks st:=cutW_join (by unfold shotW hdW;simp) (shotW_ne ks st)
theorem nmR_itoa {lo hi n:Int}(h1:lo≤n)(h2:n≤hi)(h3:-1099511627776≤lo)(h4:hi≤1099511627776:=by omega)(h5:-1000000000000≤n:=by omega)(h6:n≤1000000000000:=by omega){l:List Wds}{b:Bool}:nmR lo hi (Lib.itoa n :: l,b)=(n,(l,b)):=by
 have e:nmV lo hi (Lib.itoa n)=some n:=by
  unfold nmV
  rw [atoi_itoa h5 h6]
  simp only
  rw [if_pos ⟨trivial,h1,h2⟩]
 unfold nmR
 simp only [wdR,e]
theorem vlR_text {v:Vl}(hv:goodV v){l:List Wds}{b:Bool}:vlR (textV v :: l,b)=(v,(l,b)):=by
 unfold vlR
 simp only [wdR,readT hv]
 simp
theorem bitR {g b:Bool}{l:List Wds}:nmR 0 1 (bitW g :: l,b)=((if g then 1 else 0),(l,b)):=by
 cases g
 ·have e:Lib.itoa 0=bitW false:=itoa_one (by decide) (by decide)
  rw [←e]
  exact nmR_itoa (lo:=0) (hi:=1) (n:=0) (by decide) (by decide) (by decide) (by decide) (by decide) (by decide)
 ·have e:Lib.itoa 1=bitW true:=itoa_one (by decide) (by decide)
  rw [←e]
  exact nmR_itoa (lo:=0) (hi:=1) (n:=1) (by decide) (by decide) (by decide) (by decide) (by decide) (by decide)
theorem eachR_read {κ α β:Type}{f:κ→RdW→α × RdW}{W:β→List Wds}{φ:β→α}{key:β→κ}{Q:β→Prop}(h:∀ x l b,Q x→f (key x) (W x++l,b)=(φ x,(l,b))):∀(xs:List β) {l:List Wds} {b:Bool},(∀ x ∈ xs,Q x)→eachR f (xs.map key) (xs.flatMap W++l,b)=(xs.map φ,(l,b))
 | [],l,b,_=>rfl
 | x :: xs,l,b,hq=>by
  rw [List.map_cons,List.flatMap_cons,List.append_assoc,eachR,h x _ b (hq x (List.mem_cons_self ..)),eachR_read h xs fun y hy=>hq y (List.mem_cons_of_mem _ hy)]
  rfl
def AcO (a:AcS):Prop:=0≤a.2.1∧a.2.1≤120∧-120000000000≤a.2.2.1∧a.2.2.1≤120000000000∧-1000000000≤a.2.2.2∧a.2.2.2≤1000000000
theorem acR_read (a:AcS)(l:List Wds)(b:Bool)(h:AcO a):acR a.1 (acW a++l,b)=(a,(l,b)):=by
 obtain⟨h1,h2,h3,h4,h5,h6⟩:=h
 unfold acR acW
 simp only [List.cons_append,List.nil_append]
 rw [nmR_itoa h1 h2 (by decide) (by decide) (by omega) (by omega)]
 simp only
 rw [nmR_itoa (by omega) (by omega) (by decide) (by decide) (by omega) (by omega)]
 simp only
 rw [nmR_itoa h5 h6 (by decide) (by decide) (by omega) (by omega)]
def PnO (ks:List Int)(p:AcT):Prop:=-1000≤p.1.1∧p.1.1≤9999∧goodV p.1.2∧p.2.1.map Prod.fst=ks∧∀ a ∈ p.2.1,AcO a
theorem pnR_read {ks:List Int}(p:AcT)(l:List Wds)(b:Bool)(h:PnO ks p):pnR ks (pnW p++l,b)=(p,(l,b)):=by
 obtain⟨h1,h2,h3,h4,h5⟩:=h
 obtain⟨⟨s,k⟩,acs,t⟩:=p
 unfold pnR pnW
 simp only [List.cons_append,List.nil_append,List.append_assoc] at h1 h2 h3 h4 h5 ⊢
 have e1:=fun l b=>nmR_itoa (l:=l) (b:=b) h1 h2 (by decide) (by decide) (by omega) (by omega)
 have e2:=fun l b=>vlR_text (l:=l) (b:=b) h3
 have e3:=fun l b=>bitR (g:=t) (l:=l) (b:=b)
 simp only [e1,e2,e3]
 have:=eachR_read (f:=acR) (W:=acW) (φ:=id) (key:=Prod.fst) (Q:=AcO) acR_read acs (l:=l) (b:=b) h5
 rw [h4] at this
 rw [this,List.map_id]
 cases t<;>rfl
def RwO (n:Nat)(w:Rw):Prop:=-1000≤w.2.1.1∧w.2.1.1≤9999∧goodV w.2.1.2∧w.2.2.length=n∧∀ v ∈ w.2.2,goodV v
theorem flat_one (vs:List Vl):vs.flatMap (fun v=>[textV v])=vs.map textV:=by
 induction vs with
 | nil=>rfl
 | cons x l ih=>rw [List.flatMap_cons,ih];rfl
theorem rwR_read {n:Nat}(w:Rw)(l:List Wds)(b:Bool)(h:RwO n w):rwR n (rwW w++l,b)=(w,(l,b)):=by
 obtain⟨h1,h2,h3,h4,h5⟩:=h
 obtain⟨g,⟨s,k⟩,vals⟩:=w
 unfold rwR rwW
 simp only [List.cons_append,List.nil_append,List.append_assoc] at h1 h2 h3 h4 h5 ⊢
 have e1:=fun l b=>nmR_itoa (l:=l) (b:=b) h1 h2 (by decide) (by decide) (by omega) (by omega)
 have e2:=fun l b=>vlR_text (l:=l) (b:=b) h3
 have e3:=fun l b=>bitR (g:=g) (l:=l) (b:=b)
 simp only [e1,e2,e3]
 have:=eachR_read (f:=fun _:Unit=>vlR) (W:=fun v=>[textV v]) (φ:=id) (key:=fun _=>()) (Q:=goodV) (fun v l b hv=>vlR_text hv) vals (l:=l) (b:=b) h5
 rw [show vals.map (fun _=>())=List.replicate n () by rw [List.map_const',h4],flat_one] at this
 rw [this,List.map_id]
 cases g<;>rfl
theorem rfR_read (x:Nat × Int)(l:List Wds)(b:Bool)(h:x.1≤40∧-1≤x.2∧x.2≤9999):rfR (rfW x++l,b)=(((x.1:Int),x.2),(l,b)):=by
 obtain⟨h1,h2,h3⟩:=h
 unfold rfR rfW
 simp only [List.cons_append,List.nil_append]
 rw [nmR_itoa (by omega) (by omega) (by decide) (by decide) (by omega) (by omega)]
 simp only
 rw [nmR_itoa h2 h3 (by decide) (by decide) (by omega) (by omega)]
structure ShO (ks:List Int)(parts:Nat)(st:En):Prop where
 p1:1≤parts
 p3:parts≤3
 rl:st.rd.length=parts
 fl:st.far.length=parts
 rb:∀ x ∈ st.rd,x≤40
 fb:∀ x ∈ st.far,-1≤x∧x≤9999
 la:st.late≤10000
 pl:st.pn.length≤10000
 wl:st.rows.length≤10000
 pn:∀ p ∈ st.pn,PnO ks (pnT ks p)
 rw:∀ w ∈ st.rows,RwO ks.length w
theorem flatMap_le {α:Type}{f:α→List Wds}(h:∀ x,1≤(f x).length):∀ l:List α,l.length≤(l.flatMap f).length
 | []=>Nat.le_refl _
 | x :: l=>by
  have:=h x
  have:=flatMap_le h l
  rw [List.length_cons,List.flatMap_cons,List.length_append]
  omega
theorem shot_read {ks:List Int}{parts:Nat}{st:En}(H:ShO ks parts st):shotR ks parts (shotW ks st)=some ⟨st.rd,st.far,st.late,st.pn.map (pnT ks),st.rows⟩:=by
 obtain⟨p1,p3,rl,fl,rb,fb,la,pl,wl,pn,rw'⟩:=H
 have e0:hdR (shotW ks st,false)=((((parts:Int),(st.late:Int),(st.pn.length:Int),(st.rows.length:Int)):Int × Int × Int × Int),((st.rd.zip st.far).flatMap rfW++((st.pn.map (pnT ks)).flatMap pnW++st.rows.flatMap rwW),false)):=by
  unfold hdR shotW hdW
  simp only [List.cons_append,List.nil_append,List.append_assoc,rl]
  rw [nmR_itoa (by omega) (by omega) (by decide) (by decide) (by omega) (by omega)]
  simp only
  rw [nmR_itoa (by omega) (by omega) (by decide) (by decide) (by omega) (by omega)]
  simp only
  rw [nmR_itoa (by omega) (by omega) (by decide) (by decide) (by omega) (by omega)]
  simp only
  rw [nmR_itoa (by omega) (by omega) (by decide) (by decide) (by omega) (by omega)]
 have hz:(st.rd.zip st.far).length=parts:=by rw [List.length_zip];omega
 have e1:=eachR_read (f:=fun _:Unit=>rfR) (W:=rfW) (φ:=fun x:Nat × Int=>((x.1:Int),x.2)) (key:=fun _=>()) (Q:=fun x:Nat × Int=>x.1≤40∧-1≤x.2∧x.2≤9999) (fun x l b h=>rfR_read x l b h) (st.rd.zip st.far)
  (l:=(st.pn.map (pnT ks)).flatMap pnW++st.rows.flatMap rwW) (b:=false) (fun x hx=>⟨rb _ (List.of_mem_zip hx).1,fb _ (List.of_mem_zip hx).2⟩)
 rw [show (st.rd.zip st.far).map (fun _=>())=List.replicate parts () by rw [List.map_const',hz]] at e1
 have e2:=eachR_read (f:=fun _:Unit=>pnR ks) (W:=pnW) (φ:=id) (key:=fun _=>()) (Q:=PnO ks) (fun x l b h=>pnR_read x l b h) (st.pn.map (pnT ks)) (l:=st.rows.flatMap rwW) (b:=false) (fun x hx=>by
  obtain⟨p,hp,rfl⟩:=List.mem_map.1 hx
  exact pn p hp)
 rw [show (st.pn.map (pnT ks)).map (fun _=>())=List.replicate st.pn.length () by rw [List.map_const',List.length_map]] at e2
 have e3:=eachR_read (f:=fun _:Unit=>rwR ks.length) (W:=rwW) (φ:=id) (key:=fun _=>()) (Q:=RwO ks.length) (fun x l b h=>rwR_read x l b h) st.rows (l:=[]) (b:=false) rw'
 rw [show st.rows.map (fun _=>())=List.replicate st.rows.length () by rw [List.map_const'],List.append_nil] at e3
 have k1:st.pn.length≤((st.pn.map (pnT ks)).flatMap pnW).length:=by
  have:=flatMap_le (f:=pnW) (fun x=>by unfold pnW;simp) (st.pn.map (pnT ks))
  rw [List.length_map] at this
  exact this
 have k2:st.rows.length≤(st.rows.flatMap rwW).length:=flatMap_le (f:=rwW) (fun x=>by unfold rwW;simp) st.rows
 unfold shotR
 simp only [e0]
 rw [if_neg (by
  rintro(h|h)
  ·exact h rfl
  ·rw [List.length_append,List.length_append] at h
   omega)]
 simp only [Int.toNat_natCast,e1,e2,e3]
 rw [if_neg (by simp)]
 congr 1
 rw [List.map_id,List.map_id]
 have z1:((st.rd.zip st.far).map fun x:Nat × Int=>((x.1:Int),x.2)).map (fun x=>x.1.toNat)=st.rd:=by
  rw [List.map_map]
  rw [show ((fun x:Int × Int=>x.1.toNat) ∘ fun x:Nat × Int=>((x.1:Int),x.2))=Prod.fst from by funext x;simp]
  exact List.map_fst_zip (by omega)
 have z2:((st.rd.zip st.far).map fun x:Nat × Int=>((x.1:Int),x.2)).map (·.2)=st.far:=by
  rw [List.map_map]
  exact List.map_snd_zip (by omega)
 rw [z1,z2]
theorem upto_mulL {s:Int}(hs:1≤s):∀(k:Nat) (lo:Int) (n:Nat) (f:Int),mulOf s f=true→lo < f→f≤lo+s→lo+n < f+k*s→(k=0∨f+(k - 1)*s≤lo+n) →
  upto (mulOf s) lo n=(List.range k).map fun i:Nat=>f+i*s
 | 0,lo,n,f,hf,h1,h2,h3,h4=>by
  have:=upto_skip (mulOf s) n lo 0 fun x x1 x2=>by
   refine mulOf_between (x:=f - s) hs ?_ (by omega) (by simp at h3;omega)
   rw [mulOf_dvd] at hf ⊢
   exact Int.dvd_sub hf (Int.dvd_refl _)
  simpa [upto] using this
 | k+1,lo,n,f,hf,h1,h2,h3,h4=>by
  have hk:0≤(k:Int)*s:=Int.mul_nonneg (by omega) (by omega)
  have e0:((k+1:Nat):Int)*s=k*s+s:=by rw [Int.natCast_add,Int.add_mul];simp
  have e1:(((k+1:Nat):Int) - 1)*s=k*s:=by congr 1;omega
  rw [e0] at h3
  rw [e1] at h4
  have h5:f+k*s≤lo+n:=by omega
  have a:=upto_skip (mulOf s) (f - 1 - lo).toNat lo ((lo+n - f).toNat+1) fun x x1 x2=>by
   refine mulOf_between (x:=f - s) hs ?_ (by omega) (by omega)
   rw [mulOf_dvd] at hf ⊢
   exact Int.dvd_sub hf (Int.dvd_refl _)
  have e2:(f - 1 - lo).toNat+((lo+n - f).toNat+1)=n:=by omega
  have e3:lo+((f - 1 - lo).toNat:Int)=f - 1:=by omega
  have e4:f - 1+1=f:=by omega
  rw [e2,e3,upto_cons,e4,hf,if_pos rfl] at a
  have b:=upto_mulL hs k f (lo+n - f).toNat (f+s) (by rw [mulOf_dvd] at hf ⊢;exact Int.dvd_add hf (Int.dvd_refl _)) (by omega) (by omega) (by omega) (by
   rcases Nat.eq_zero_or_pos k with h|h
   ·exact .inl h
   ·refine .inr ?_
    rw [Int.sub_mul]
    omega)
  rw [a,b,List.range_succ_eq_map,List.map_cons,List.map_map]
  simp only [List.singleton_append]
  congr 1
  ·simp
  ·refine List.map_congr_left fun i _=>?_
   show f+s+i*s=f+((i+1:Nat):Int)*s
   rw [Int.natCast_add,Int.add_mul]
   simp
   omega
theorem starts_mulL {at_ size slide:Int}(hs:1≤slide)(h1:slide≤size):∃(k:Nat) (f:Int),startsOf at_ size slide=((List.range k).map fun i:Nat=>f+i*slide) ∧
  startsOf (at_+slide) size slide=((List.range k).map fun i:Nat=>f+slide+i*slide)∧1≤k∧mulOf slide f=true∧at_ - size < f∧f≤at_ - size+slide∧at_ < f+k*slide∧f+(k - 1)*slide≤at_:=by
 have m0:0≤(at_ - size).emod slide:=Int.emod_nonneg _ (by omega)
 have m1:(at_ - size).emod slide < slide:=Int.emod_lt_of_pos _ (by omega)
 have d1:slide*((at_ - size) / slide)+(at_ - size).emod slide=at_ - size:=Int.mul_ediv_add_emod _ _
 let f:=slide*((at_ - size) / slide)+slide
 have hf:mulOf slide f=true:=mulOf_dvd.2 ⟨(at_ - size) / slide+1,by show slide*_+slide=_;rw [Int.mul_add];simp⟩
 have f1:at_ - size < f:=by show at_ - size < slide*_+slide;omega
 have f2:f≤at_ - size+slide:=by show slide*_+slide≤_;omega
 have q0:0≤(at_ - f).emod slide:=Int.emod_nonneg _ (by omega)
 have q1:(at_ - f).emod slide < slide:=Int.emod_lt_of_pos _ (by omega)
 have q2:slide*((at_ - f) / slide)+(at_ - f).emod slide=at_ - f:=Int.mul_ediv_add_emod _ _
 have q3:0≤(at_ - f) / slide:=Int.ediv_nonneg (by omega) (by omega)
 have e0:((((at_ - f) / slide).toNat+1:Nat):Int)*slide=slide*((at_ - f) / slide)+slide:=by
  rw [Int.natCast_add,Int.add_mul,Int.toNat_of_nonneg q3,Int.mul_comm];simp
 have e1:(((((at_ - f) / slide).toNat+1:Nat):Int) - 1)*slide=slide*((at_ - f) / slide):=by
  rw [Int.sub_mul,e0];omega
 refine⟨((at_ - f) / slide).toNat+1,f,?_,?_,by omega,hf,f1,f2,?_,?_⟩
 ·exact upto_mulL hs _ _ _ f hf f1 f2 (by rw [e0];omega) (.inr (by rw [e1];omega))
 ·exact upto_mulL hs _ _ _ (f+slide) (by rw [mulOf_dvd] at hf ⊢;exact Int.dvd_add hf (Int.dvd_refl _)) (by omega) (by omega) (by rw [e0];omega) (.inr (by rw [e1];omega))
 ·rw [e0];omega
 ·rw [e1];omega
theorem starts_four {q:Qy}(B:QOk q)(t:Int):(startsOf t q.size q.slide).length≤4∧(startsOf t q.size q.slide).Nodup:=by
 have hl:=B.l
 have hr:=B.r
 obtain⟨k,f,e,_,_,_,h1,_,_,h2⟩:=starts_mulL (at_:=t) hl.1 hr.1
 rw [e]
 refine⟨?_,?_⟩
 ·rw [List.length_map,List.length_range]
  refine Decidable.byContradiction fun hk=>?_
  have h3:4≤(k:Int) - 1:=by omega
  have h4:4*q.slide≤((k:Int) - 1)*q.slide:=Int.mul_le_mul_of_nonneg_right h3 (by omega)
  omega
 ·unfold List.Nodup
  rw [List.pairwise_map]
  refine List.Pairwise.imp (fun {a b} hab q1=>?_) (List.nodup_range (n:=k))
  have h5:(a:Int)*q.slide=b*q.slide:=by omega
  have h6:=Int.eq_of_mul_eq_mul_right (by omega) h5
  exact hab (by omega)
theorem keyQ_good {q:Qy}(B:QOk q){e:EvL}(E:EvOK e):goodV (keyQ q e):=by
 unfold keyQ
 split
 ·exact .inl ⟨rfl,rfl⟩
 ·rename_i h
  obtain⟨O,_⟩:=exprF_ok (B.b h)
  exact(val_good O E (by have:=O.pos;omega)).1
theorem numV_gd (n:Int):goodV (numV n):=by
 unfold numV
 split
 ·exact .inl ⟨rfl,rfl⟩
 ·exact .inr (.inl ⟨rfl,by omega,by omega⟩)
theorem gVal_good (k:Int)(s:Int × Int × Int):goodV (gVal k s):=by
 unfold gVal
 split
 ·exact numV_gd _
 ·split
  ·exact .inl ⟨rfl,rfl⟩
  ·split<;>exact numV_gd _
theorem outV_good (ks:List Int)(rs:List (List Vl)):∀ v ∈ outV ks rs,goodV v:=by
 intro v hv
 unfold outV at hv
 obtain⟨a,_,rfl⟩:=List.mem_map.1 hv
 exact gVal_good _ _
def AcM (m:Nat)(a:AcS):Prop:=0≤a.2.1∧a.2.1≤m∧-(m*1000000000:Int)≤a.2.2.1∧a.2.2.1≤m*1000000000∧-1000000000≤a.2.2.2∧a.2.2.2≤1000000000
theorem gStep_acM {m:Nat}{a:AcS}(h:AcM m a){v:Vl}(hv:smallV v):AcM (m+1) (a.1,gStep a.1 a.2 v):=by
 obtain⟨h1,h2,h3,h4,h5,h6⟩:=h
 unfold smallV at hv
 unfold AcM gStep
 simp only
 split
 ·refine⟨h1,by omega,by push_cast;omega,by push_cast;omega,h5,h6⟩
 ·refine⟨by simp only;omega,by simp only;omega,by simp only;push_cast;omega,by simp only;push_cast;omega,?_,?_⟩<;>(simp only;split<;>omega)
theorem accsOf_acM {ks:List Int}{rs:List (List Vl)}(hv:∀ r ∈ rs,∀ v ∈ r,smallV v):∀ a ∈ accsOf ks rs,AcM rs.length a:=by
 induction rs using snocInd with
 | h0=>
  intro a ha
  have ha:a ∈ acc0 ks:=ha
  unfold acc0 at ha
  obtain⟨k,_,rfl⟩:=List.mem_map.1 ha
  exact⟨Int.le_refl _,Int.le_refl _,Int.le_refl _,Int.le_refl _,(by show (-1000000000:Int)≤0;decide),(by show (0:Int)≤1000000000;decide)⟩
 | h1 rs r ih=>
  intro a ha
  rw [accsOf_snoc] at ha
  unfold accP at ha
  obtain⟨i,hi,rfl⟩:=List.mem_iff_getElem.1 ha
  rw [List.length_zipWith] at hi
  rw [List.getElem_zipWith,List.length_append,List.length_singleton]
  exact gStep_acM (ih (fun x hx=>hv x (List.mem_append_left _ hx)) _ (List.getElem_mem _)) (hv r (by simp) _ (List.getElem_mem _))
structure EnT (q:Qy)(n:Nat)(st:En):Prop where
 a:∀ p ∈ st.pn,p.rs.length≤n∧goodV p.k.2
 w:∀ w ∈ st.rows,-1000≤w.2.1.1∧w.2.1.1≤9999∧goodV w.2.1.2∧∀ v ∈ w.2.2,goodV v
theorem chgR_good {ks:List Int}{k:PK}{v:List Vl}{o:Option Pn}(hk:-1000≤k.1∧k.1≤9999∧goodV k.2):∀ w ∈ chgR ks k v o,-1000≤w.2.1.1∧w.2.1.1≤9999∧goodV w.2.1.2∧∀ v ∈ w.2.2,goodV v:=by
 intro w hw
 unfold chgR at hw
 split at hw
 ·split at hw
  ·simp only [List.mem_cons,List.not_mem_nil,or_false] at hw
   rcases hw with rfl|rfl
   ·exact⟨hk.1,hk.2.1,hk.2.2,outV_good _ _⟩
   ·exact⟨hk.1,hk.2.1,hk.2.2,outV_good _ _⟩
  ·cases hw
 ·cases hw
theorem winF_enT {q:Qy}(B:QOk q){far:Int}{e:EvL}(E:EvOK e){n:Nat}:∀(ss:List Int) {st:En},ss.Nodup→(∀ s ∈ ss,-1000≤s∧s≤9999)→EnT q (n+1) st→(∀ p ∈ st.pn,p.k.1 ∈ ss→p.rs.length≤n)→EnT q (n+1) (ss.foldl (winE q far e) st)
 | [],st,_,_,H,_=>H
 | s :: ss,st,hn,hs,H,hm=>by
  obtain⟨hn1,hn2⟩:=List.nodup_cons.1 hn
  have hg:=keyQ_good B E
  have hs0:=hs s (List.mem_cons_self ..)
  rw [List.foldl_cons]
  refine winF_enT B E ss hn2 (fun x hx=>hs x (List.mem_cons_of_mem _ hx)) ?_ ?_
  ·unfold winE
   split
   ·exact⟨H.a,H.w⟩
   ·refine⟨fun p hp=>?_,fun w hw=>?_⟩
    ·rcases putP_mem hp with h|⟨rfl,_⟩|⟨p0,h,hk,rfl⟩
     ·exact H.a p h
     ·exact⟨by simp,hg⟩
     ·have:=hm p0 h (by rw [hk];exact List.mem_cons_self ..)
      exact⟨by simp;omega,hg⟩
    ·rcases List.mem_append.1 hw with h|h
     ·exact H.w w h
     ·exact chgR_good ⟨hs0.1,hs0.2,hg⟩ w h
  ·intro p hp hin
   unfold winE at hp
   split at hp
   ·exact hm p hp (List.mem_cons_of_mem _ hin)
   ·rcases putP_mem hp with h|⟨rfl,_⟩|⟨p0,h,hk,rfl⟩
    ·exact hm p h (List.mem_cons_of_mem _ hin)
    ·exact absurd hin hn1
    ·exact absurd hin hn1
theorem EnT.step {q:Qy}(B:QOk q){n parts N:Nat}{st:En}(H:EnT q n st)(HB:EnB q parts N st){p:Nat}{e:EvL}(E:EvOK e):EnT q (n+1) (stepE q p e st):=by
 have H1:EnT q (n+1) st:=⟨fun p hp=>⟨Nat.le_succ_of_le (H.a p hp).1,(H.a p hp).2⟩,H.w⟩
 have HB2:=winsE_ok B HB E (far:=st.far.getD p 0)
 have H2:EnT q (n+1) (winsE q (st.far.getD p 0) e st):=by
  unfold winsE
  split
  ·exact winF_enT B E _ (starts_four B e.1).2 (starts_ok B E) H1 fun p hp _=>(H.a p hp).1
  ·exact H1
 unfold stepE
 have HB3:∀ p' ∈ (seenE p e (winsE q (st.far.getD p 0) e st)).pn,-1000≤p'.k.1∧p'.k.1≤9999:=fun p' hp'=>⟨(HB2.pa p' hp').2.1,(HB2.pa p' hp').2.2.1⟩
 have H3:EnT q (n+1) (seenE p e (winsE q (st.far.getD p 0) e st)):=⟨H2.a,H2.w⟩
 generalize seenE p e (winsE q (st.far.getD p 0) e st)=s2 at HB3 H3
 unfold endE
 split
 ·refine⟨fun p' hp'=>?_,fun w hw=>?_⟩
  ·have:=(List.mem_filter.1 hp').1
   unfold tellP at this
   obtain⟨p0,h0,rfl⟩:=List.mem_map.1 this
   exact H3.a p0 h0
  ·rcases List.mem_append.1 hw with h|h
   ·exact H3.w w h
   ·obtain⟨p0,h0,rfl⟩:=List.mem_map.1 h
    have hm:=(List.mem_filter.1 h0).1
    exact⟨(HB3 p0 hm).1,(HB3 p0 hm).2,(H3.a p0 hm).2,outV_good _ _⟩
 ·exact H3
theorem stepE_ok5 {q:Qy}(B:QOk q){parts N:Nat}{st:En}(H:EnB q parts N st){p:Nat}(hp:p < parts){e:EvL}(E:EvOK e):EnB q parts (N+5) (stepE q p e st):=by
 have H2:EnB q parts (N+4) (winsE q (st.far.getD p 0) e st):=by
  unfold winsE
  split
  ·exact(winsE_fold B E _ H (starts_ok B E)).mono (by have:=(starts_four B e.1).1;omega)
  ·exact H.mono (by omega)
 exact endE_ok (seenE_ok H2 hp E)
structure EnZ (q:Qy)(parts:Nat)(st:En):Prop where
 b:EnB q parts (5*st.rd.sum) st
 t:EnT q st.rd.sum st
theorem sum_set:∀(l:List Nat) (p:Nat),p < l.length→(l.set p (l.getD p 0+1)).sum=l.sum+1
 | [],p,h=>absurd h (Nat.not_lt_zero _)
 | x :: l,0,_=>by simp;omega
 | x :: l,p+1,h=>by
  have:=sum_set l p (by simpa using h)
  simp only [List.getD_cons_succ,List.set_cons_succ,List.sum_cons,this]
  omega
theorem stepE_rd {q:Qy}{p:Nat}{e:EvL}{st:En}:(stepE q p e st).rd=st.rd.set p (st.rd.getD p 0+1):=by
 have hse:∀ s:En,(endE q s).rd=s.rd:=fun s=>by unfold endE;split<;>rfl
 unfold stepE
 rw [hse]
 unfold seenE
 rw [(winsE_same).1]
theorem EnZ.step {q:Qy}(B:QOk q){parts:Nat}{st:En}(Z:EnZ q parts st){p:Nat}(hp:p < parts){e:EvL}(E:EvOK e):EnZ q parts (stepE q p e st):=by
 have hs:(stepE q p e st).rd.sum=st.rd.sum+1:=by rw [stepE_rd,sum_set _ _ (by rw [Z.b.rl];exact hp)]
 refine⟨?_,?_⟩
 ·rw [hs]
  exact stepE_ok5 B Z.b hp E
 ·rw [hs]
  exact Z.t.step B Z.b E
theorem sum_rep (n:Nat):(List.replicate n (0:Nat)).sum=0:=by
 induction n with
 | zero=>rfl
 | succ n ih=>rw [List.replicate_succ,List.sum_cons,ih]
theorem EnZ.new (q:Qy)(parts:Nat):EnZ q parts (newE parts):=by
 have hs:(newE parts).rd.sum=0:=sum_rep parts
 refine⟨by rw [hs];exact newE_ok q parts,by rw [hs];exact⟨fun p hp=>(by cases hp),fun w hw=>(by cases hw)⟩⟩
theorem sum_le {M:Nat}:∀ l:List Nat,(∀ x ∈ l,x≤M)→l.sum≤l.length*M
 | [],_=>by simp
 | x :: l,h=>by
  have:=sum_le l fun y hy=>h y (List.mem_cons_of_mem _ hy)
  have:=h x (List.mem_cons_self ..)
  rw [List.sum_cons,List.length_cons,Nat.succ_mul]
  omega
theorem EnZ.sho {q:Qy}{parts:Nat}{st:En}(Z:EnZ q parts st)(h1:1≤parts)(h3:parts≤3)(hr:∀ x ∈ st.rd,x≤40):ShO (kindsQ q) parts st:=by
 have hs:st.rd.sum≤120:=by
  have:=sum_le st.rd hr
  rw [Z.b.rl] at this
  omega
 have hl:=Z.b.ll
 have hp:=Z.b.pl
 have hw:=Z.b.wl
 refine⟨h1,h3,Z.b.rl,Z.b.fl,hr,Z.b.fb,by omega,by omega,by omega,fun p hp'=>?_,fun w hw'=>?_⟩
 ·obtain⟨q1,q2,q3,q4⟩:=Z.b.pa p hp'
  obtain⟨t1,t2⟩:=Z.t.a p hp'
  refine⟨q2,q3,t2,accsOf_kinds fun r hr=>by rw [(q4 r hr).l,kindsQ_len],fun a ha=>?_⟩
  obtain⟨m1,m2,m3,m4,m5,m6⟩:=accsOf_acM (ks:=kindsQ q) (rs:=p.rs) (fun r hr=>(q4 r hr).v) a ha
  exact⟨m1,by omega,by omega,by omega,m5,m6⟩
 ·obtain⟨t1,t2,t3,t4⟩:=Z.t.w w hw'
  exact⟨t1,t2,t3,by rw [Z.b.wo w hw',kindsQ_len],t4⟩
end Go.Proofs.YtgmplfdecikgoaaGreatDoor
namespace Go.Vc
open Go
section
variable {hi h:Hp}{L:List Ow}
theorem Owns.sub {L':List Ow}(O:Owns hi h L)(hs:L'.Sublist L):Owns hi h L':=⟨O.le,fun s h1=>O.own s (hs.mem h1),fun s h1=>O.new s (hs.mem h1),O.dj.sublist hs⟩
theorem Owns.cons {h':Hp}(O:Owns hi h L)(l:h.le h'){s:Ow}(O':s.own h')(hn:∀ b,s.at b→h b=none):Owns hi h' (s :: L):=by
 have O2:=O.grow l
 refine⟨O2.le,fun t ht=>?_,fun t ht b hb=>?_,List.pairwise_cons.2 ⟨fun y hy b hb hb'=>?_,O.dj⟩⟩
 ·rcases List.mem_cons.1 ht with rfl|q
  ·exact O'
  ·exact O2.own t q
 ·rcases List.mem_cons.1 ht with rfl|q
  ·exact Hp.none_of_le O.le (hn b hb)
  ·exact O.new t q b hb
 ·exact Ow.al (O.own y hy) hb' (hn b hb)
theorem Owns.ins {h':Hp}{x:Ow}(O:Owns hi h (x :: L))(l:h.le h'){s:Ow}(O':s.own h')(hn:∀ b,s.at b→h b=none):Owns hi h' (x :: s :: L):=by
 have O2:=O.grow l
 have Os:=(O.sub (List.sublist_cons_self x L)).cons l O' hn
 obtain⟨d1,d2⟩:=List.pairwise_cons.1 O.dj
 refine⟨O2.le,fun t ht=>?_,fun t ht b hb=>?_,List.pairwise_cons.2 ⟨fun y hy b hb hb'=>?_,Os.dj⟩⟩
 ·rcases List.mem_cons.1 ht with rfl|q
  ·exact O2.own _ (List.mem_cons_self ..)
  ·exact Os.own t q
 ·rcases List.mem_cons.1 ht with rfl|q
  ·exact O.new _ (List.mem_cons_self ..) b hb
  ·exact Os.new t q b hb
 ·rcases List.mem_cons.1 hy with rfl|q
  ·exact Ow.al (O.own x (List.mem_cons_self ..)) hb (hn b hb')
  ·exact d1 y q b hb hb'
theorem Owns.shut1 {x s:Ow}(O:Owns hi h (x :: s :: L)):∃ hj:Hp,hi.le hj∧Owns hj h (x :: L)∧HasRow hj s.a s.xs:=by
 obtain⟨hj,lj,Oj,kj⟩:=O.rebase (L':=x :: L) (List.Sublist.cons_cons x (List.sublist_cons_self s L))
 refine⟨hj,lj,Oj,?_⟩
 have hs:s ∈ x :: s :: L:=by simp
 have hrow:=(O.ownV hs).row
 obtain⟨d1,d2⟩:=List.pairwise_cons.1 O.dj
 obtain⟨d3,d4⟩:=List.pairwise_cons.1 d2
 rcases hrow with e|⟨b,o,ha,hr⟩
 ·exact .inl e
 ·refine .inr ⟨b,o,ha,?_⟩
  have hb0:o=0:=(O.own s hs).at0 b o ha
  subst hb0
  unfold Hp.row at hr ⊢
  cases hq:h b with
  | none=>rw [hq] at hr;cases hr
  | some ob=>
   rw [kj b ob hq fun t ht q1=>?_]
   ·rw [hq] at hr;exact hr
   ·rcases List.mem_cons.1 ht with rfl|ht
    ·exact d1 s (List.mem_cons_self ..) b q1 ha
    ·exact d3 t ht b ha q1
end
end Go.Vc
namespace Go.Proofs.YtgmplfdecikgoaaGreatDoor
open Go Go.Vc Go.Txt Go.RowKit
def RdO (hi h:Hp)(g:Nat)(L:List Ow)(s:RdW):Prop:=∃(a:Option Addr) (n c:Nat),Owns hi h (blkO g 78 [vsl a n c,vb s.2] :: L)∧SlB hi a n s.1∧n≤c∧∀ w ∈ s.1,w.length≤1000000
theorem RdO.le {hi h:Hp}{g:Nat}{L:List Ow}{s:RdW}(X:RdO hi h g L s):hi.le h:=by
 obtain⟨a,n,c,O,_⟩:=X
 exact O.le
section
variable {hi h:Hp}{g:Nat}{L:List Ow}{s:RdW}{R:Value→Hp→Prop}
theorem sh_word_ok (X:RdO hi h g L s)(hK:∀ h',RdO hi h' g L (wdR s).2→(wdR s).1.length≤1000000→R (vs (bs (wdR s).1)) h'):CallOK Tryz.prog 73 [vhp g 0] h R:=by
 refine ok_shot_reader_word ?_
 unfold VC_shot_reader_word
 obtain⟨a,n,c,O,S,hc,hw⟩:=X
 obtain⟨ws,b⟩:=s
 have hb:=O.blk (List.mem_cons_self ..)
 have hn:=S.1
 simp only at hn hw S
 refine⟨_,_,_,cell_cells hb rfl,fun e=>?_,fun e=>?_⟩
 ·have h0:n=0:=by have:=of_decide_eq_true e;omega
  have hws:ws=[]:=List.eq_nil_of_length_eq_zero (by omega)
  subst hws
  refine O.put (j:=0) rfl (i:=1) (Nat.le_of_ble_eq_true rfl) fun h' O' _=>?_
  simp only [List.set_cons_zero,List.set_cons_succ] at O'
  exact hK h' ⟨a,n,c,O',S,hc,hw⟩ (Nat.zero_le _)
 ·have h0:0 < n:=by have:=of_decide_eq_false e;omega
  match ws,S,hn,hw with
  | [],_,hn,_=>simp at hn;omega
  | w :: ws,S,hn,hw=>
   obtain⟨b5,o6,ea,hcell⟩:=(S.le O.le).get1 (i:=0) (by omega)
   have hT:Tryz.prog.underlying 75=some (.slice 9):=by kernel_rfl
   have hI:(Tryz.prog.info? 9).isSome=true:=by kernel_rfl
   have hsz:szT Tryz.prog 9=1:=by kernel_rfl
   have rdl:=rd_slice_l (P:=Tryz.prog) (h:=h) (t:=75) (e:=9) hT hI (a:=a) (n:=n) (c:=c) (x:=((1:Nat):Int)) (by omega) (by omega)
   simp only [Int.toNat_natCast,hsz] at rdl
   refine⟨_,_,_,cell_cells hb rfl,b5,o6,⟨ea,by omega,by omega⟩,_,hcell,_,_,_,cell_cells hb rfl,_,_,_,rdl,?_⟩
   have S2:=S.drop encB_len (i:=1) (by omega) hc
   rw [show (w :: ws).drop 1=ws from rfl] at S2
   refine O.put (j:=0) rfl (i:=0) (Nat.le_of_ble_eq_true rfl) fun h' O' _=>?_
   simp only [List.set_cons_zero] at O'
   exact hK h' ⟨_,_,_,O',S2,by omega,fun x hx=>hw x (List.mem_cons_of_mem _ hx)⟩ (hw w (List.mem_cons_self ..))
theorem sh_number_ok {lo hi':Int}(X:RdO hi h g L s)(T:TabP hi)(E:TabE hi)(hK:∀ h',RdO hi h' g L (nmR lo hi' s).2→R (vi (nmR lo hi' s).1) h'):CallOK Tryz.prog 26 [vhp g 0,vi lo,vi hi'] h R:=by
 refine ok_shot_reader_number ?_
 unfold VC_shot_reader_number
 refine sh_word_ok X fun h2 X2 hl=>⟨_,rfl,?_⟩
 have bad:∀ h',RdO hi h' g L (wdR s).2→nmV lo hi' (wdR s).1=none→(Hp.store h' g (0+1) [vb true] fun h15=>R (vi lo) h15):=by
  intro h' X' e
  obtain⟨a,n,c,O,S,hc,hw⟩:=X'
  refine O.put (j:=0) rfl (i:=1) (Nat.le_of_ble_eq_true rfl) fun h15 O15 _=>?_
  simp only [List.set_cons_zero,List.set_cons_succ] at O15
  have e1:nmR lo hi' s=(lo,((wdR s).2.1,true)):=by unfold nmR;rw [e]
  rw [e1] at hK
  exact hK h15 ⟨a,n,c,O15,S,hc,hw⟩
 refine strconv_Atoi_ok hl (E.le X2.le) (fun n hn=>⟨n,none,rfl,?_⟩) fun hno x e=>⟨x,some e,rfl,?_⟩
 ·have hb:=Lib.atoiAll_bounds hn
  refine⟨fun v hh=>hh=h2∧v=.t (.one (.v (vs (bs (Lib.itoa n))))),fun _=>strconv_Itoa_ok (by unfold InR;omega) (T.le X2.le) ⟨_,rfl,rfl,rfl⟩,fun e=>absurd rfl e,?_⟩
  rintro h12 s13 ⟨rfl,e13⟩
  cases e13
  refine⟨_,fun _=>rd_neBs (a:=Lib.itoa n) (b:=(wdR s).1),fun e=>bad _ X2 ?_,fun e=>?_⟩
  ·unfold nmV
   rw [hn]
   simp only
   rw [if_neg]
   rintro⟨k1,k2,k3⟩
   rw [decide_eq_true k1,decide_eq_false (show ¬ n < lo by omega),decide_eq_false (show ¬ n > hi' by omega)] at e
   cases e
  ·obtain⟨e,g3⟩:=bor_false e
   obtain⟨e,g2⟩:=bor_false e
   obtain⟨_,e⟩:=bor_false e
   have g3:=of_decide_eq_false g3
   have g2:=of_decide_eq_false g2
   have g1:Lib.itoa n=(wdR s).1:=by simpa using e
   have e1:nmR lo hi' s=(n,(wdR s).2):=by
    unfold nmR nmV
    rw [hn]
    simp only
    rw [if_pos ⟨g1,by omega,by omega⟩]
   rw [e1] at hK
   exact hK _ X2
 ·refine⟨fun v hh=>hh=h2∧∃ y,v=.t (.one (.v (vs y))),fun e=>(by cases e),fun _=>⟨rfl,_,rfl⟩,?_⟩
  rintro h12 s13 ⟨rfl,y,e13⟩
  refine⟨false,fun e=>(by cases e),fun _=>bad _ X2 ?_,fun e=>(by cases e)⟩
  unfold nmV
  split
  ·rename_i n hn;exact absurd hn (hno n)
  ·rfl
theorem sh_value_ok (X:RdO hi h g L s)(T:TabP hi)(E:TabE hi)(hK:∀ h',RdO hi h' g L (vlR s).2→R (vag (encV (vlR s).1)) h'):CallOK Tryz.prog 75 [vhp g 0] h R:=by
 refine ok_shot_reader_value ?_
 unfold VC_shot_reader_value
 refine sh_word_ok X fun h2 X2 hl=>⟨_,rfl,?_⟩
 refine value_Parse_ok hl (T.le X2.le) (E.le X2.le) ⟨_,_,_,rfl,?_⟩
 obtain⟨a,n,c,O,S,hc,hw⟩:=X2
 refine⟨_,cell_cells (O.blk (List.mem_cons_self ..)) rfl,?_⟩
 refine O.put (j:=0) rfl (i:=1) (Nat.le_of_ble_eq_true rfl) fun h15 O15 _=>?_
 simp only [List.set_cons_zero,List.set_cons_succ] at O15
 refine hK h15 ⟨a,n,c,?_,S,hc,hw⟩
 have e:(bif (wdR s).2.2 then true else Option.isSome (errV (readV (wdR s).1).2))=((wdR s).2.2||decide ((readV (wdR s).1).2≠0)):=by
  rw [errV_some]
  cases (wdR s).2.2<;>simp
 rw [e] at O15
 exact O15
end
abbrev owA (a:Option Addr)(n c:Nat)(l:List AcS):Ow:=⟨101,4,a,n,c,l.flatMap encAc⟩
abbrev owVl (a:Option Addr)(n c:Nat)(l:List Vl):Ow:=⟨42,2,a,n,c,l.flatMap encV⟩
theorem RdO.ins {hi h:Hp}{g:Nat}{L:List Ow}{s:RdW}(X:RdO hi h g L s){o:Ow}(O':o.own h)(hn:∀ b,o.at b→h b=none):RdO hi h g (o :: L) s:=by
 obtain⟨a,n,c,O,S,hc,hw⟩:=X
 exact⟨a,n,c,O.ins (Hp.le_refl h) O' hn,S,hc,hw⟩
theorem one_encVl (x:Vl):∀ u ∈ encV x,u.oneCell'=true:=by
 intro u hu
 simp only [encV,List.mem_cons,List.not_mem_nil,or_false] at hu
 rcases hu with rfl|rfl<;>rfl
section
variable {hi h:Hp}{g:Nat}{L:List Ow}{s:RdW}{R:Value→Hp→Prop}{q:Qy}{a1:Option Addr}{n1 c1:Nat}{a2:Option Addr}{n2 c2:Nat}{a3:Option Addr}{n3 c3:Nat}
set_option maxHeartbeats 1000000 in
theorem sh_pane_ok (X:RdO hi h g L s)(Q:QAt hi q a1 n1 a2 n2 a3 n3)(B:QOk q)(T:TabP hi)(E:TabE hi)
  (hK:∀ a' c' hj h',hi.le hj→RdO hj h' g L (pnR (kindsQ q) s).2→HasRow hj a' ((pnR (kindsQ q) s).1.2.1.flatMap encAc)→R (vag [vi (pnR (kindsQ q) s).1.1.1,vi (pnR (kindsQ q) s).1.1.2.1,vi (pnR (kindsQ q) s).1.1.2.2,vsl a' (pnR (kindsQ q) s).1.2.1.length c',vb (pnR (kindsQ q) s).1.2.2]) h') :
  CallOK Tryz.prog 27 [vhp g 0,qV a1 n1 c1 a2 n2 c2 a3 n3 c3 q] h R:=by
 refine ok_shot_reader_pane ?_
 unfold VC_shot_reader_pane
 have hn1:=Q.g.len
 have hn4:=B.n2
 refine sh_number_ok X T E fun h2 X2=>⟨_,rfl,?_⟩
 refine sh_value_ok X2 T E fun h5 X5=>⟨_,_,rfl,?_⟩
 refine sh_number_ok X5 T E fun h9 X9=>⟨_,rfl,?_⟩
 have e0:pnR (kindsQ q) s=((((nmR (-1000) 9999 s).1,(vlR (nmR (-1000) 9999 s).2).1),(eachR acR (kindsQ q) (nmR 0 1 (vlR (nmR (-1000) 9999 s).2).2).2).1,decide ((nmR 0 1 (vlR (nmR (-1000) 9999 s).2).2).1=1)),(eachR acR (kindsQ q) (nmR 0 1 (vlR (nmR (-1000) 9999 s).2).2).2).2):=rfl
 rw [e0] at hK
 clear e0 X X2 X5
 generalize nmR (-1000) 9999 s=A at *
 generalize vlR A.2=K at *
 generalize nmR 0 1 K.2=U at *
 intro J44
 have hJ:∀ a' c' hj h',hi.le hj→RdO hj h' g L (eachR acR (kindsQ q) U.2).2→HasRow hj a' ((eachR acR (kindsQ q) U.2).1.flatMap encAc)→J44 A.1 K.1.1 K.1.2 a' q.aggs.length c' (decide (U.1=1)) h':=by
  intro a' c' hj h' l1 l2 l3
  have:=hK a' c' hj h' l1 l2 l3
  simp only [eachR_len,kindsQ_len] at this
  exact this
 clear_value J44
 clear hK
 refine⟨fun vs hh=>∃(i:Nat) (aA:Option Addr) (cA:Nat),vs=[vi i,vi A.1,vi K.1.1,vi K.1.2,vsl aA i cA,vb (decide (U.1=1))]∧i≤q.aggs.length∧RdO hi hh g (owA aA i cA (eachR acR ((kindsQ q).take i) U.2).1 :: L) (eachR acR ((kindsQ q).take i) U.2).2,
  fun vs hh=>q.aggs.length - (vint vs 0).toNat,⟨0,none,0,rfl,Nat.zero_le _,X9.ins (OwnS.nil _ _ _) (fun b hb=>by cases hb)⟩,?_⟩
 rintro vs hh ⟨i,aA,cA,rfl,hi',X⟩
 refine⟨_,_,_,_,_,_,_,_,rfl,fun e1=>?_,fun e1=>?_⟩
 ·have hlt:i < q.aggs.length:=by have:=of_decide_eq_true e1;omega
  have hx:q.aggs[i]?=some q.aggs[i]:=List.getElem?_eq_getElem hlt
  have hkt:(kindsQ q).take (i+1)=(kindsQ q).take i++[(q.aggs[i]).1]:=by
   rw [List.take_succ_eq_append_getElem (by rw [kindsQ_len];exact hlt)]
   congr 2
   unfold kindsQ
   rw [List.getElem_map]
  generalize q.aggs[i]=ag at *
  obtain⟨b,o,a',c',ha,hrow,hS⟩:=((Q.le X.le).g).row aggRw_len (by decide) hx
  refine⟨b,o,⟨ha,by omega,by omega⟩,ag.1,a',ag.2.length,c',by rw [Int.toNat_natCast];exact hrow,?_⟩
  have eS:=eachR_snoc acR ag.1 ((kindsQ q).take i) U.2
  rw [←hkt] at eS
  generalize eachR acR ((kindsQ q).take i) U.2=F at *
  have eA:acR ag.1 F.2=((ag.1,(nmR 0 120 F.2).1,(nmR (-1099511627776) 1099511627776 (nmR 0 120 F.2).2).1,(nmR (-1000000000) 1000000000 (nmR (-1099511627776) 1099511627776 (nmR 0 120 F.2).2).2).1),(nmR (-1000000000) 1000000000 (nmR (-1099511627776) 1099511627776 (nmR 0 120 F.2).2).2).2):=rfl
  rw [eA] at eS
  refine sh_number_ok X T E fun h29 Y1=>⟨_,rfl,?_⟩
  refine sh_number_ok Y1 T E fun h32 Y2=>⟨_,rfl,?_⟩
  refine sh_number_ok Y2 T E fun h35 Y3=>⟨_,rfl,?_⟩
  clear eA X Y1 Y2
  generalize nmR 0 120 F.2=x1 at *
  generalize nmR (-1099511627776) 1099511627776 x1.2=x2 at *
  generalize nmR (-1000000000) 1000000000 x2.2=x3 at *
  intro b37 hb37 h38
  obtain⟨a,n,c,O,S,hc,hw⟩:=Y3
  refine O.app (j:=1) rfl elAcc (m:=1) (tn:=101) (news:=encAc (ag.1,x1.1,x2.1,x3.1)) hb37 rfl (one_ac _) (by simp only;omega) (by simp only;omega) fun aA' cA' h40 O40 _=>⟨_,_,_,rfl,?_⟩
  simp only [List.set_cons_succ,List.set_cons_zero] at O40
  refine⟨_,isW (by unfold InR;omega),⟨i+1,aA',cA',rfl,by omega,?_⟩,by simp [vint];omega⟩
  rw [eS]
  refine⟨a,n,c,?_,S,hc,hw⟩
  unfold owA
  rw [List.flatMap_append,List.flatMap_singleton]
  exact O40
 ·have hge:i=q.aggs.length:=by have:=of_decide_eq_false e1;omega
  subst hge
  rw [List.take_of_length_le (by rw [kindsQ_len];exact Nat.le_refl _)] at X
  obtain⟨a,n,c,O,S,hc,hw⟩:=X
  obtain⟨hj,lj,Oj,Hj⟩:=O.shut1
  exact hJ aA cA hj hh lj ⟨a,n,c,Oj,S.le lj,hc,hw⟩ Hj
set_option maxHeartbeats 1000000 in
theorem sh_row_ok (X:RdO hi h g L s)(Q:QAt hi q a1 n1 a2 n2 a3 n3)(B:QOk q)(T:TabP hi)(E:TabE hi)
  (hK:∀ a' c' hj h',hi.le hj→RdO hj h' g L (rwR q.aggs.length s).2→HasRow hj a' ((rwR q.aggs.length s).1.2.2.flatMap encV)→R (vag [vb (rwR q.aggs.length s).1.1,vi (rwR q.aggs.length s).1.2.1.1,vi (rwR q.aggs.length s).1.2.1.2.1,vi (rwR q.aggs.length s).1.2.1.2.2,vsl a' (rwR q.aggs.length s).1.2.2.length c']) h') :
  CallOK Tryz.prog 28 [vhp g 0,qV a1 n1 c1 a2 n2 c2 a3 n3 c3 q] h R:=by
 refine ok_shot_reader_row ?_
 unfold VC_shot_reader_row
 have hn1:=Q.g.len
 have hn4:=B.n2
 refine sh_number_ok X T E fun h2 X2=>⟨_,rfl,?_⟩
 refine sh_number_ok X2 T E fun h5 X5=>⟨_,rfl,?_⟩
 refine sh_value_ok X5 T E fun h9 X9=>⟨_,_,rfl,?_⟩
 have e0:rwR q.aggs.length s=((decide ((nmR 0 1 s).1=1),((nmR (-1000) 9999 (nmR 0 1 s).2).1,(vlR (nmR (-1000) 9999 (nmR 0 1 s).2).2).1),(eachR (fun _:Unit=>vlR) (List.replicate q.aggs.length ()) (vlR (nmR (-1000) 9999 (nmR 0 1 s).2).2).2).1),(eachR (fun _:Unit=>vlR) (List.replicate q.aggs.length ()) (vlR (nmR (-1000) 9999 (nmR 0 1 s).2).2).2).2):=rfl
 rw [e0] at hK
 clear e0 X X2 X5
 generalize nmR 0 1 s=U at *
 generalize nmR (-1000) 9999 U.2=A at *
 generalize vlR A.2=K at *
 intro J44
 have hJ:∀ a' c' hj h',hi.le hj→RdO hj h' g L (eachR (fun _:Unit=>vlR) (List.replicate q.aggs.length ()) K.2).2→HasRow hj a' ((eachR (fun _:Unit=>vlR) (List.replicate q.aggs.length ()) K.2).1.flatMap encV)→J44 (decide (U.1=1)) A.1 K.1.1 K.1.2 a' q.aggs.length c' h':=by
  intro a' c' hj h' l1 l2 l3
  have:=hK a' c' hj h' l1 l2 l3
  simp only [eachR_len,List.length_replicate] at this
  exact this
 clear_value J44
 clear hK
 refine⟨fun vs hh=>∃(i:Nat) (aA:Option Addr) (cA:Nat),vs=[vi i,vb (decide (U.1=1)),vi A.1,vi K.1.1,vi K.1.2,vsl aA i cA]∧i≤q.aggs.length∧RdO hi hh g (owVl aA i cA (eachR (fun _:Unit=>vlR) (List.replicate i ()) K.2).1 :: L) (eachR (fun _:Unit=>vlR) (List.replicate i ()) K.2).2,
  fun vs hh=>q.aggs.length - (vint vs 0).toNat,⟨0,none,0,rfl,Nat.zero_le _,X9.ins (OwnS.nil _ _ _) (fun b hb=>by cases hb)⟩,?_⟩
 rintro vs hh ⟨i,aA,cA,rfl,hi',X⟩
 refine⟨_,_,_,_,_,_,_,_,rfl,fun e1=>?_,fun e1=>?_⟩
 ·have hlt:i < q.aggs.length:=by have:=of_decide_eq_true e1;omega
  have eS:=eachR_snoc (fun _:Unit=>vlR) () (List.replicate i ()) K.2
  rw [←List.replicate_succ'] at eS
  generalize eachR (fun _:Unit=>vlR) (List.replicate i ()) K.2=F at *
  refine sh_value_ok X T E fun h25 Y3=>⟨_,_,rfl,?_⟩
  intro b37 hb37 h38
  obtain⟨a,n,c,O,S,hc,hw⟩:=Y3
  refine O.app (j:=1) rfl elValP (m:=1) (tn:=42) (news:=encV (vlR F.2).1) hb37 rfl (one_encVl _) (by simp only;omega) (by simp only;omega) fun aA' cA' h40 O40 _=>⟨_,_,_,rfl,?_⟩
  simp only [List.set_cons_succ,List.set_cons_zero] at O40
  refine⟨_,isW (by unfold InR;omega),⟨i+1,aA',cA',rfl,by omega,?_⟩,by simp [vint];omega⟩
  rw [eS]
  refine⟨a,n,c,?_,S,hc,hw⟩
  unfold owVl
  rw [List.flatMap_append,List.flatMap_singleton]
  exact O40
 ·have hge:i=q.aggs.length:=by have:=of_decide_eq_false e1;omega
  subst hge
  obtain⟨a,n,c,O,S,hc,hw⟩:=X
  obtain⟨hj,lj,Oj,Hj⟩:=O.shut1
  exact hJ aA cA hj hh lj ⟨a,n,c,Oj,S.le lj,hc,hw⟩ Hj
end
def TabM (h:Hp):Prop:=∃ m,h.cell 1 0=some (vk .i64 m)
theorem TabM.le {h h':Hp}(T:TabM h)(l:h.le h'):TabM h':=by
 obtain⟨m,hm⟩:=T
 exact⟨m,Hp.cell_le l hm⟩
theorem flat_str:∀ l:List ByteArray,(l.map fun x=>x.data.toList).flatMap encB=l.map Value.string
 | []=>rfl
 | x :: l=>by
  rw [List.map_cons,List.flatMap_cons,flat_str l,List.map_cons]
  show [Value.string (bs x.data.toList)]++_=_
  have:bs x.data.toList=x:=by unfold bs;simp
  rw [this];rfl
theorem strings_Split_ok {s:Wds}(hs:s.length≤1000000000){h:Hp}(T:TabM h){R:Value→Hp→Prop}(hK:∀ a h',OwnV h h' 9 1 a (cutW s).length (cutW s).length ((cutW s).flatMap encB)→R (vsl a (cutW s).length (cutW s).length) h'):CallOK Tryz.prog 25 [vs (bs s),vs (bs [32])] h R:=by
 obtain⟨m,hm⟩:=T
 intro w hw
 have hsz:(bs s).size=s.length:=bs_size s
 have hd:(bs s).data.toList=s:=by simp [bs]
 have hd2:(bs [32]).data.toList=[32]:=by simp [bs]
 refine(Tryz.strings_Split (bs s) (bs [32]) m w (by omega) (cell_cell hm hw) (by decide)).mono ?_
 rintro e w' ⟨he,hw'⟩
 subst hw'
 have hl:=Lib.splitB_all (bs [32]) (by decide) 0 _ (bs s) rfl
 have e1:=Lib.splitB_data (bs [32]) 0 (Lib.countB (bs s) (bs [32])) (bs s)
 have e2:Lib.countB (bs s) (bs [32])=Lib.count s [32]:=by show Lib.count _ _=_;rw [hd,hd2]
 rw [hd,hd2,e2] at e1
 have e3:(Lib.splitB (bs [32]) 0 (Lib.countB (bs s) (bs [32])) (bs s)).map (fun x=>x.data.toList)=cutW s:=by rw [e2];exact e1
 have e4:(cutW s).length=Lib.countB (bs s) (bs [32])+1:=by rw [←e3,List.length_map,hl]
 have hln:=(cutW_len s).2.1
 have e5:=flat_str (Lib.splitB (bs [32]) 0 (Lib.countB (bs s) (bs [32])) (bs s))
 rw [e3] at e5
 rw [←e4] at he
 refine⟨_,h.set w.heap.size (cellsO ((cutW s).flatMap encB) 9),he,?_,?_,hK _ _ (OwnV.mk_new (Hp.le_refl h) (hw.none) _ _ ?_ ?_)⟩
 ·rw [e5];exact Sub.pushSet hw _
 ·rw [e5];exact Fr.pushSet h w _
 ·rw [flatMap_length encB_len]
 ·unfold maxLen;omega
theorem join_ok {a:Option Addr}{n c:Nat}{l:List Wds}{sep:Wds}{h:Hp}{R:Value→Hp→Prop}(S:SlB h a n l)(hn:0 < n)(hc:n≤c)(hn2:n≤100000000)(hlen:(Lib.join l sep).length≤10000000000)(hK:R (vs (bs (Lib.join l sep))) h):CallOK Tryz.prog 34 [vsl a n c,vs (bs sep)] h R:=by
 obtain rfl:=S.1
 obtain⟨b,o,ha,hcell⟩:=SlP.get1 S hn
 subst ha
 have hmap:((l.map bs).map fun x=>x.data.toList)=l:=by
  rw [List.map_map]
  have:((fun x:ByteArray=>x.data.toList) ∘ bs)=id:=by funext x;simp [bs]
  rw [this,List.map_id]
 have hs:(bs sep).data.toList=sep:=by simp [bs]
 have hl:(l.map bs).length=l.length:=by simp
 refine callOK_below fun w hw=>?_
 have hcs:∀(j:Nat) x,(l.map bs)[j]?=some x→w.cell? ⟨b,o+j,none⟩=some (.string x):=by
  intro j x hx
  rw [List.getElem?_map,Option.map_eq_some_iff] at hx
  obtain⟨y,hy,rfl⟩:=hx
  have hj:=(List.getElem?_eq_some_iff.1 hy).1
  obtain⟨b',o',e,hc'⟩:=SlP.get1 S hj
  cases e
  rw [List.getD_eq_getElem?_getD,hy,Nat.mul_one] at hc'
  exact cell_cell hc' hw
 have hbk:b < w.heap.size:=by
  have h1:=cell_cell hcell hw
  unfold World.cell? at h1
  cases hb:w.heap[b]? with
  | none=>rw [hb] at h1;cases h1
  | some ob=>exact(Array.getElem?_eq_some_iff.1 hb).1
 have:=Tryz.strings_Join b o c (l.map bs) (bs sep) w hcs hbk (by rw [hl];omega) (by rw [hl];exact hc) (by rw [hmap,hs];omega)
 rw [hl,hmap,hs] at this
 refine this.mono fun e w' ⟨he,hB⟩=>⟨_,he,hB,hK⟩
theorem inv_Ito {n:Int}(hn:InR n){h:Hp}(T:TabP h){K:Value→Hp→Prop}(hK:K (vs (bs (Lib.itoa n))) h):InvOK Tryz.prog (.func (.func 32) #[] #[]) [vi n] h K:=
 ⟨_,_,_,rfl,⟨_,Tryz.func32,by kernel_rfl,by kernel_rfl⟩,strconv_Itoa_ok hn T hK⟩
def ShE (q:Qy)(h h':Hp)(g:Nat)(X:ShX):Prop:=∀ st:En,st.rd=X.rd→st.far=X.far→st.late=X.late→st.pn.map (pnT (kindsQ q))=X.pn→st.rows=X.rows→EngX q h h' g st
abbrev owPn (a:Option Addr)(n c:Nat)(xs:List Value):Ow:=⟨83,5,a,n,c,xs⟩
abbrev owRw (a:Option Addr)(n c:Nat)(xs:List Value):Ow:=⟨89,5,a,n,c,xs⟩
theorem own_blk {hi h:Hp}{a:Option Addr}{n c:Nat}{xs:List Value}{L:List Ow}(O:Owns hi h L)(hs:owI a n c xs ∈ L)(hn:0 < n):∃ b,a=some ⟨b,0,none⟩:=by
 have O1:=O.ownV hs
 have:=O1.own.cap
 obtain⟨b,_,e,_⟩:=O1.blk (by simp only at this ⊢;omega) (show 0 < 1 by decide)
 exact⟨b,e⟩
theorem set_rep {α β:Type}(f:α→β)(l:List α)(x y:α)(k:Nat):setL ((l++List.replicate (k+1) x).map f) l.length [f y]=((l++[y])++List.replicate k x).map f:=by
 have h1:l.length < ((l++List.replicate (k+1) x).map f).length:=by simp
 rw [setL_one _ _ _ h1,←List.map_set]
 congr 1
 rw [List.set_append_right _ _ (Nat.le_refl _),Nat.sub_self,List.replicate_succ,List.set_cons_zero,List.append_assoc]
 rfl
theorem rfR_bd (s:RdW):0≤(rfR s).1.1∧(rfR s).1.1≤40∧-1≤(rfR s).1.2∧(rfR s).1.2≤9999:=
 ⟨(nmR_bd (by decide) s).1,(nmR_bd (by decide) s).2,(nmR_bd (by decide) _).1,(nmR_bd (by decide) _).2⟩
section
variable {h:Hp}{q:Qy}{a1:Option Addr}{n1 c1:Nat}{a2:Option Addr}{n2 c2:Nat}{a3:Option Addr}{n3 c3:Nat}
set_option maxHeartbeats 4000000 in
theorem shot_Parse_ok {s:Wds}{parts:Nat}{R':Value→Hp→Prop}(Q:QAt h q a1 n1 a2 n2 a3 n3)(B:QOk q)(T:TabP h)(E:TabE h)(M:TabM h)(hs:s.length≤1000000)(h1:1≤parts)(h3:parts≤3)
  (hN:∀ h',h.le h'→shotR (kindsQ q) parts (cutW s)=none→R' (vtup [vp none,ifv (some (80,vi 4))]) h')
  (hY:∀ X g h',h.le h'→shotR (kindsQ q) parts (cutW s)=some X→ShE q h h' g X→R' (vtup [vhp g 0,ifv none]) h') :
  CallOK Tryz.prog 8 [vs (bs s),vag [vsl a1 n1 c1,vsl a2 n2 c2,vsl a3 n3 c3,vi q.size,vi q.slide,vi q.delay,vi q.late],vi parts] h R':=by
 refine ok_shot_Parse ?_
 unfold VC_shot_Parse
 refine engine_NewO_ok Q B (fun hbad=>absurd ⟨by omega,by omega⟩ hbad) fun _ _ g h2 l2 X=>⟨some ⟨g,0,none⟩,none,rfl,fun e=>(by cases e),fun _=>?_⟩
 rw [Int.toNat_natCast] at X
 obtain⟨qf,hi,b1,m1,d1,b2,m2,d2,b3,m3,d3,ak,nk,ck,ar,cr,ac,cc,l0,O,F,QF,K⟩:=X
 obtain⟨w1,w2,w3⟩:=cutW_len s
 refine O.frame (strings_Split_ok (by omega) (M.le l0) fun a8 hk O8 h7 l7 O7=>⟨_,_,_,rfl,?_⟩)
 have lk:=O8.le
 have S8:SlB hk a8 (cutW s).length (cutW s):=O8.slp encB_len (by decide)
 have O9:=(O7.push (Hp.le_refl h7) (s:=owPn none 0 0 []) (OwnS.nil _ _ _) (fun b hb=>by cases hb)).push (Hp.le_refl h7) (s:=owRw none 0 0 []) (OwnS.nil _ _ _) (fun b hb=>by cases hb)
 simp only [List.cons_append,List.nil_append] at O9
 clear O O7
 intro b9 hb9 h10
 have l10:h7.le h10:=Hp.le_set (Hp.le_refl _) hb9 _
 have X0:RdO hk h10 b9 _ (cutW s,false):=⟨a8,_,_,O9.cons l10 (s:=blkO b9 78 [vsl a8 (cutW s).length (cutW s).length,vb false]) (blkO_own (Hp.set_same _ _ _)) (fun b hb=>by cases hb;exact hb9),S8,Nat.le_refl _,fun w hw=>Nat.le_trans (w3 w hw) hs⟩
 clear_value h10
 have Tk:=T.le (Hp.le_trans l0 lk)
 have Ek:=E.le (Hp.le_trans l0 lk)
 have Qk:=Q.le (Hp.le_trans l0 lk)
 have Fk:=F
 have QFk:=QF.le lk
 have Kk:=K.le lk
 have l0k:=Hp.le_trans l0 lk
 clear O9 S8 O8 l10 hb9 Q QF K T E M l0 lk l2 l7
 refine sh_number_ok X0 Tk Ek fun h12 X12=>⟨_,rfl,?_⟩
 refine sh_number_ok X12 Tk Ek fun h15 X15=>⟨_,rfl,?_⟩
 have eh:hdR (cutW s,false)=(((nmR 1 3 (cutW s,false)).1,(nmR 0 1099511627776 (nmR 1 3 (cutW s,false)).2).1,(nmR 0 10000 (nmR 0 1099511627776 (nmR 1 3 (cutW s,false)).2).2).1,(nmR 0 10000 (nmR 0 10000 (nmR 0 1099511627776 (nmR 1 3 (cutW s,false)).2).2).2).1),(nmR 0 10000 (nmR 0 10000 (nmR 0 1099511627776 (nmR 1 3 (cutW s,false)).2).2).2).2):=rfl
 have bA:=nmR_bd (lo:=0) (hi:=1099511627776) (by decide) (nmR 1 3 (cutW s,false)).2
 have bM:=nmR_bd (lo:=0) (hi:=10000) (by decide) (nmR 0 1099511627776 (nmR 1 3 (cutW s,false)).2).2
 have bW:=nmR_bd (lo:=0) (hi:=10000) (by decide) (nmR 0 10000 (nmR 0 1099511627776 (nmR 1 3 (cutW s,false)).2).2).2
 have hSh:∀ X,shotR (kindsQ q) parts (cutW s)=X→shotR (kindsQ q) parts (cutW s)=X:=fun _ e=>e
 unfold shotR at hN hY
 simp only [eh] at hN hY
 generalize nmR 1 3 (cutW s,false)=yK at *
 generalize nmR 0 1099511627776 yK.2=yA at *
 obtain⟨late,hlate⟩:∃ n:Nat,yA.1=(n:Int):=⟨yA.1.toNat,by omega⟩
 obtain⟨aR,nR,cR,OR,SR,hcR,hwR⟩:=X15
 refine⟨g,0,rfl,OR.put (j:=3) rfl (i:=11) (Nat.le_of_ble_eq_true rfl) fun h19 O19 _=>?_⟩
 simp only [List.set_cons_succ,List.set_cons_zero,engC] at O19
 have X19:RdO hk h19 b9 _ yA.2:=⟨aR,nR,cR,O19,SR,hcR,hwR⟩
 clear O19 OR SR hcR hwR X0 X12
 refine sh_number_ok X19 Tk Ek fun h21 X21=>⟨_,rfl,?_⟩
 refine sh_number_ok X21 Tk Ek fun h24 X24=>⟨_,rfl,?_⟩
 generalize nmR 0 10000 yA.2=yM at *
 generalize nmR 0 10000 yM.2=yW at *
 clear X19 X21 eh hSh
 obtain⟨many,hmany⟩:∃ n:Nat,yM.1=(n:Int):=⟨yM.1.toNat,by omega⟩
 obtain⟨rows,hrows⟩:∃ n:Nat,yW.1=(n:Int):=⟨yW.1.toNat,by omega⟩
 have rdL:∀{hi h:Hp} {L:List Ow} {s:RdW},RdO hi h b9 L s→∃(a:Option Addr) (n c:Nat),Hp.cell h b9 0=some (vsl a n c)∧Hp.cell h b9 (0+1)=some (vb s.2)∧n=s.1.length:=by
  intro hi h L s X
  obtain⟨a,n,c,O,S,_⟩:=X
  have hb:=O.blk (List.mem_cons_self ..)
  exact⟨a,n,c,cell_cells hb rfl,cell_cells hb rfl,S.1⟩
 obtain⟨a27,n27,c27,k27,_,e27⟩:=rdL X24
 have l024:=Hp.le_trans l0k X24.le
 refine⟨_,fun _=>isW (by unfold InR;omega),a27,n27,c27,fun _=>k27,fun e1=>?_,fun e1=>?_⟩
 ·refine hN h24 l024 ?_
  rw [if_pos]
  by_cases h9:yK.1=(parts:Int)
  ·refine .inr ?_
   rw [decide_eq_false (fun q1=>q1 h9)] at e1
   have:=of_decide_eq_true (show decide (yM.1+yW.1 > ((n27:Nat):Int))=true from e1)
   omega
  ·exact .inl h9
 obtain⟨e2,e3⟩:=bor_false e1
 have hk9:yK.1=(parts:Int):=Decidable.not_not.1 (of_decide_eq_false e2)
 have hmw:yM.1+yW.1≤((n27:Nat):Int):=by have:=of_decide_eq_false e3;omega
 have hc0:¬(yK.1≠(parts:Int)∨yM.1+yW.1 > (yW.2.1.length:Int)):=by
  rintro(q1|q1)
  ·exact q1 hk9
  ·omega
 simp only [if_neg hc0] at hN hY
 simp only [hmany,hrows,hlate,Int.toNat_natCast] at hN hY
 have hX9:RdO hk h24 b9 [owI ac parts cc ((((eachR (fun _:Unit=>rfR) (List.replicate 0 ()) yW.2).1.map (·.2))++List.replicate parts (-1:Int)).map vi),owI ar parts cr ((((eachR (fun _:Unit=>rfR) (List.replicate 0 ()) yW.2).1.map (·.1))++List.replicate parts (0:Int)).map vi),blkO g 68 (engC b1 m1 d1 b2 m2 d2 b3 m3 d3 qf ak nk ck ar parts cr ac parts cc none 0 0 late none 0 0),owPn none 0 0 [],owRw none 0 0 []] yW.2:=by
  have e:(List.replicate parts (0:Nat)).map (fun n:Nat=>vi n)=(List.replicate parts (0:Int)).map vi:=by rw [List.map_replicate,List.map_replicate];rfl
  rw [hlate,e] at X24
  exact X24
 clear X24 k27 rdL
 refine⟨fun vs hh=>∃ i:Nat,vs=[vi i]∧i≤parts∧RdO hk hh b9 [owI ac parts cc ((((eachR (fun _:Unit=>rfR) (List.replicate i ()) yW.2).1.map (·.2))++List.replicate (parts - i) (-1:Int)).map vi),owI ar parts cr ((((eachR (fun _:Unit=>rfR) (List.replicate i ()) yW.2).1.map (·.1))++List.replicate (parts - i) (0:Int)).map vi),blkO g 68 (engC b1 m1 d1 b2 m2 d2 b3 m3 d3 qf ak nk ck ar parts cr ac parts cc none 0 0 late none 0 0),owPn none 0 0 [],owRw none 0 0 []] (eachR (fun _:Unit=>rfR) (List.replicate i ()) yW.2).2,
  fun vs hh=>parts - (vint vs 0).toNat,⟨0,rfl,Nat.zero_le _,hX9⟩,?_⟩
 clear hX9
 rintro vs hh ⟨i,rfl,hi',X⟩
 refine⟨i,rfl,fun e4=>?_,fun e4=>?_⟩
 ·have hlt:i < parts:=by have:=of_decide_eq_true e4;omega
  have eS:=eachR_snoc (fun _:Unit=>rfR) () (List.replicate i ()) yW.2
  rw [←List.replicate_succ'] at eS
  have hl:=eachR_len (fun _:Unit=>rfR) (List.replicate i ()) yW.2
  rw [List.length_replicate] at hl
  generalize eachR (fun _:Unit=>rfR) (List.replicate i ()) yW.2=G at *
  have eR:rfR G.2=(((nmR 0 40 G.2).1,(nmR (-1) 9999 (nmR 0 40 G.2).2).1),(nmR (-1) 9999 (nmR 0 40 G.2).2).2):=rfl
  obtain⟨k,hkk⟩:∃ k,parts - i=k+1:=⟨parts - i - 1,by omega⟩
  have hk2:parts - (i+1)=k:=by omega
  rw [hkk] at X
  have X':=X
  obtain⟨aR,nR,cR,O,SR,hcR,hwR⟩:=X'
  obtain⟨br,er⟩:=own_blk (n:=parts) (c:=cr) (a:=ar) O (List.mem_cons_of_mem _ (List.mem_cons_of_mem _ (List.mem_cons_self ..))) (by omega)
  obtain⟨bc,ec⟩:=own_blk (n:=parts) (c:=cc) (a:=ac) O (List.mem_cons_of_mem _ (List.mem_cons_self ..)) (by omega)
  have blkOf:∀{hk h:Hp} {s:RdW} {c1 c2:Ow},RdO hk h b9 (c1 :: c2 :: blkO g 68 (engC b1 m1 d1 b2 m2 d2 b3 m3 d3 qf ak nk ck ar parts cr ac parts cc none 0 0 late none 0 0) :: [owPn none 0 0 [],owRw none 0 0 []]) s→h g=some (cellsO (engC b1 m1 d1 b2 m2 d2 b3 m3 d3 qf ak nk ck ar parts cr ac parts cc none 0 0 late none 0 0) 68):=by
   rintro hk h s c1 c2 ⟨a,n,c,O,_⟩
   exact O.blk (by simp)
  refine⟨g,0,rfl,_,_,_,cell_cells (blkOf X) rfl,?_⟩
  refine sh_number_ok X Tk Ek fun h41 X41=>⟨_,rfl,cell_cells (blkOf X41) rfl,br,0,⟨er,by omega,by omega⟩,?_⟩
  obtain⟨aR,nR,cR,O,SR,hcR,hwR⟩:=X41
  rw [Int.toNat_natCast,Nat.mul_one]
  refine O.store (j:=2) rfl (i:=i) (by simp) (by simp only [List.length_singleton];omega) er fun h45 O45 _=>?_
  simp only [List.set_cons_succ,List.set_cons_zero] at O45
  have hl1:(G.1.map (·.1)).length=i:=by rw [List.length_map];exact hl
  have hl2:(G.1.map (·.2)).length=i:=by rw [List.length_map];exact hl
  have es1:=set_rep vi (G.1.map (·.1)) (0:Int) (nmR 0 40 G.2).1 k
  rw [hl1] at es1
  rw [es1] at O45
  have X45:RdO hk h45 b9 _ (nmR 0 40 G.2).2:=⟨aR,nR,cR,O45,SR,hcR,hwR⟩
  refine⟨g,0,rfl,_,_,_,cell_cells (blkOf X45) rfl,?_⟩
  refine sh_number_ok X45 Tk Ek fun h50 X50=>⟨_,rfl,cell_cells (blkOf X50) rfl,bc,0,⟨ec,by omega,by omega⟩,?_⟩
  obtain⟨aR2,nR2,cR2,O2,SR2,hcR2,hwR2⟩:=X50
  refine O2.store (j:=1) rfl (i:=i) (by simp) (by simp only [List.length_singleton];omega) ec fun h54 O54 _=>?_
  simp only [List.set_cons_succ,List.set_cons_zero] at O54
  have es2:=set_rep vi (G.1.map (·.2)) (-1:Int) (nmR (-1) 9999 (nmR 0 40 G.2).2).1 k
  rw [hl2] at es2
  rw [es2] at O54
  refine⟨_,isW (by unfold InR;omega),⟨i+1,rfl,by omega,?_⟩,by simp [vint];omega⟩
  rw [eS,hk2,eR]
  simp only [List.map_append,List.map_cons,List.map_nil] at O54 ⊢
  exact⟨aR2,nR2,cR2,O54,SR2,hcR2,hwR2⟩
 ·have hge:i=parts:=by have:=of_decide_eq_false e4;omega
  subst hge
  rw [Nat.sub_self] at X
  simp only [List.replicate_zero,List.append_nil] at X
  have hlf:=eachR_len (fun _:Unit=>rfR) (List.replicate i ()) yW.2
  rw [List.length_replicate] at hlf
  have hbf:=eachR_all (f:=fun _:Unit=>rfR) (Q:=fun x=>0≤x.1∧x.1≤40∧-1≤x.2∧x.2≤9999) (fun _ s=>rfR_bd s) (List.replicate i ()) yW.2
  generalize eachR (fun _:Unit=>rfR) (List.replicate i ()) yW.2=G at *
  refine⟨fun vs hh=>∃(j:Nat) (hj:Hp) (tb:Option Addr) (tc:Nat) (R:List PR),vs=[vi j]∧j≤many∧hk.le hj∧R.length=j∧RdO hj hh b9 [owI ac i cc ((G.1.map (·.2)).map vi),owI ar i cr ((G.1.map (·.1)).map vi),blkO g 68 (engC b1 m1 d1 b2 m2 d2 b3 m3 d3 qf ak nk ck ar i cr ac i cc tb j tc late none 0 0),owPn tb j tc (R.flatMap encPr),owRw none 0 0 []] (eachR (fun _:Unit=>pnR (kindsQ q)) (List.replicate j ()) G.2).2∧R.map prT=(eachR (fun _:Unit=>pnR (kindsQ q)) (List.replicate j ()) G.2).1∧∀ r ∈ R,HasRow hj r.a (r.acs.flatMap encAc),
   fun vs hh=>many - (vint vs 0).toNat,⟨0,hk,none,0,[],rfl,Nat.zero_le _,Hp.le_refl _,rfl,X,rfl,fun r hr=>by cases hr⟩,?_⟩
  clear X
  rintro vs hh ⟨j,hj,tb,tc,R,rfl,hj',lj,hRl,X,eRt,hRi⟩
  refine⟨j,rfl,fun e5=>?_,fun e5=>?_⟩
  ·have hlt:j < many:=by have:=of_decide_eq_true e5;omega
   have eS:=eachR_snoc (fun _:Unit=>pnR (kindsQ q)) () (List.replicate j ()) G.2
   rw [←List.replicate_succ'] at eS
   generalize eachR (fun _:Unit=>pnR (kindsQ q)) (List.replicate j ()) G.2=H at *
   have blkOf:∀{hk h:Hp} {s:RdW} {c1 c2:Ow} {L:List Ow},RdO hk h b9 (c1 :: c2 :: blkO g 68 (engC b1 m1 d1 b2 m2 d2 b3 m3 d3 qf ak nk ck ar i cr ac i cc tb j tc late none 0 0) :: L) s→h g=some (cellsO (engC b1 m1 d1 b2 m2 d2 b3 m3 d3 qf ak nk ck ar i cr ac i cc tb j tc late none 0 0) 68):=by
    rintro hk h s c1 c2 L ⟨a,n,c,O,_⟩
    exact O.blk (by simp)
   refine⟨g,0,rfl,_,_,_,cell_cells (blkOf X) rfl,?_⟩
   refine sh_pane_ok X (Qk.le lj) B (Tk.le lj) (Ek.le lj) fun a73 c73 hj2 h69 l69 X69 H69=>⟨_,_,_,_,_,_,_,rfl,cell_cells (blkOf X69) rfl,?_⟩
   generalize pnR (kindsQ q) H.2=Z at *
   intro b75 hb75 h76
   obtain⟨aR,nR,cR,O,SR,hcR,hwR⟩:=X69
   refine O.app (j:=4) rfl elPane (m:=1) (tn:=83) (news:=encPr ⟨Z.1.1,a73,c73,Z.1.2.1,Z.1.2.2⟩) hb75 rfl (one_encPr _) (by simp only;omega) (by simp only;omega) fun tb' tc' h78 O78 _=>⟨_,_,_,rfl,g,0,rfl,?_⟩
   simp only [List.set_cons_succ,List.set_cons_zero] at O78
   refine O78.put (j:=3) rfl (i:=10) (Nat.le_of_ble_eq_true rfl) fun h82 O82 _=>?_
   simp only [List.set_cons_succ,List.set_cons_zero,engC] at O82
   refine⟨_,isW (by unfold InR;omega),⟨j+1,hj2,tb',tc',R++[⟨Z.1.1,a73,c73,Z.1.2.1,Z.1.2.2⟩],rfl,by omega,Hp.le_trans lj l69,by simp [hRl],?_,?_,fun r hr=>?_⟩,by simp [vint];omega⟩
   ·rw [eS,List.flatMap_append,List.flatMap_singleton]
    exact⟨aR,nR,cR,O82,SR,hcR,hwR⟩
   ·rw [eS,List.map_append,eRt]
    rfl
   ·rcases List.mem_append.1 hr with q1|q1
    ·exact(hRi r q1).le l69
    ·rw [List.mem_singleton.1 q1];exact H69
  ·have hge:j=many:=by have:=of_decide_eq_false e5;omega
   rw [hge] at X eRt hRl
   clear hge e5 hj'
   generalize eachR (fun _:Unit=>pnR (kindsQ q)) (List.replicate many ()) G.2=H at *
   have hkl:(kindsQ q).length=q.aggs.length:=kindsQ_len q
   rw [hkl] at hN hY
   refine⟨fun vs hh=>∃(k:Nat) (hm:Hp) (aw:Option Addr) (cw:Nat) (RW:List (GRow Vl (Bool × PK))),vs=[vi k]∧k≤rows∧hj.le hm∧RW.length=k∧RdO hm hh b9 [owI ac i cc ((G.1.map (·.2)).map vi),owI ar i cr ((G.1.map (·.1)).map vi),blkO g 68 (engC b1 m1 d1 b2 m2 d2 b3 m3 d3 qf ak nk ck ar i cr ac i cc tb many tc late aw k cw),owPn tb many tc (R.flatMap encPr),owRw aw k cw (RW.flatMap (growV rwRow))] (eachR (fun _:Unit=>rwR q.aggs.length) (List.replicate k ()) H.2).2∧growL RW=(eachR (fun _:Unit=>rwR q.aggs.length) (List.replicate k ()) H.2).1.map rowG∧∀ r ∈ RW,HasRow hm r.2.1.1 (r.2.2.flatMap encV),
    fun vs hh=>rows - (vint vs 0).toNat,⟨0,hj,none,0,[],rfl,Nat.zero_le _,Hp.le_refl _,rfl,X,rfl,fun r hr=>by cases hr⟩,?_⟩
   clear X
   rintro vs hh ⟨k,hm,aw,cw,RW,rfl,hk',lm,hWl,X,eWt,hWi⟩
   refine⟨k,rfl,fun e5=>?_,fun e5=>?_⟩
   ·have hlt:k < rows:=by have:=of_decide_eq_true e5;omega
    have eS:=eachR_snoc (fun _:Unit=>rwR q.aggs.length) () (List.replicate k ()) H.2
    rw [←List.replicate_succ'] at eS
    generalize eachR (fun _:Unit=>rwR q.aggs.length) (List.replicate k ()) H.2=J at *
    have blkOf:∀{hk h:Hp} {s:RdW} {c1 c2:Ow} {L:List Ow},RdO hk h b9 (c1 :: c2 :: blkO g 68 (engC b1 m1 d1 b2 m2 d2 b3 m3 d3 qf ak nk ck ar i cr ac i cc tb many tc late aw k cw) :: L) s→h g=some (cellsO (engC b1 m1 d1 b2 m2 d2 b3 m3 d3 qf ak nk ck ar i cr ac i cc tb many tc late aw k cw) 68):=by
     rintro hk h s c1 c2 L ⟨a,n,c,O,_⟩
     exact O.blk (by simp)
    have ljm:=Hp.le_trans lj lm
    refine⟨g,0,rfl,_,_,_,cell_cells (blkOf X) rfl,?_⟩
    refine sh_row_ok X (Qk.le ljm) B (Tk.le ljm) (Ek.le ljm) fun a73 c73 hj2 h69 l69 X69 H69=>⟨_,_,_,_,_,_,_,rfl,cell_cells (blkOf X69) rfl,?_⟩
    generalize rwR q.aggs.length J.2=Z at *
    intro b75 hb75 h76
    obtain⟨aR,nR,cR,O,SR,hcR,hwR⟩:=X69
    refine O.app (j:=5) rfl elRowW (m:=1) (tn:=89) (news:=growV rwRow ((Z.1.1,Z.1.2.1),(a73,c73),Z.1.2.2)) hb75 rfl (by
     intro u hu
     simp only [growV,rwRow,List.mem_cons,List.not_mem_nil,or_false] at hu
     rcases hu with rfl|rfl|rfl|rfl|rfl<;>rfl) (by simp only;omega) (by simp only;omega) fun aw' cw' h78 O78 _=>⟨_,_,_,rfl,g,0,rfl,?_⟩
    simp only [List.set_cons_succ,List.set_cons_zero] at O78
    refine O78.put (j:=3) rfl (i:=12) (Nat.le_of_ble_eq_true rfl) fun h82 O82 _=>?_
    simp only [List.set_cons_succ,List.set_cons_zero,engC] at O82
    refine⟨_,isW (by unfold InR;omega),⟨k+1,hj2,aw',cw',RW++[((Z.1.1,Z.1.2.1),(a73,c73),Z.1.2.2)],rfl,by omega,Hp.le_trans lm l69,by simp [hWl],?_,?_,fun r hr=>?_⟩,by simp [vint];omega⟩
    ·rw [eS,List.flatMap_append,List.flatMap_singleton]
     exact⟨aR,nR,cR,O82,SR,hcR,hwR⟩
    ·rw [eS,growL_snocN,eWt,List.map_append]
     rfl
    ·rcases List.mem_append.1 hr with q1|q1
     ·exact(hWi r q1).le l69
     ·rw [List.mem_singleton.1 q1];exact H69
   ·have hge:k=rows:=by have:=of_decide_eq_false e5;omega
    rw [hge] at X eWt hWl
    clear hge e5 hk'
    generalize eachR (fun _:Unit=>rwR q.aggs.length) (List.replicate rows ()) H.2=J at *
    obtain⟨aR,nR,cR,O,SR,hcR,hwR⟩:=X
    have hb:=O.blk (List.mem_cons_self ..)
    have lend:=Hp.le_trans l0k (Hp.le_trans lj (Hp.le_trans lm O.le))
    refine⟨_,cell_cells hb rfl,_,_,_,fun _=>cell_cells hb rfl,fun e6=>?_,fun e6=>?_⟩
    ·refine hN hh lend ?_
     rw [if_pos]
     cases h9:J.2.2 with
     | true=>exact .inl rfl
     | false=>
      rw [h9] at e6
      have:=of_decide_eq_true (show decide (((nR:Nat):Int) > 0)=true from e6)
      refine .inr fun q1=>?_
      have:=SR.1
      rw [q1] at this
      simp at this
      omega
    ·obtain⟨e7,e8⟩:=bor_false e6
     have hnil:J.2.1=[]:=List.eq_nil_of_length_eq_zero (by have:=of_decide_eq_false e8;have:=SR.1;omega)
     refine hY _ g hh lend (by rw [if_neg (by rintro(q1|q1);(rw [e7] at q1;cases q1);exact q1 hnil)]) fun st s1 s2 s3 s4 s5=>?_
     have OE:=O.sub (List.sublist_cons_self _ _)
     have hrl:st.rd.length=i:=by rw [s1,List.length_map,hlf]
     have hfl:st.far.length=i:=by rw [s2,List.length_map,hlf]
     have erd:(G.1.map (·.1)).map vi=st.rd.map fun n:Nat=>vi n:=by
      rw [s1,List.map_map,List.map_map]
      refine List.map_congr_left fun x hx=>?_
      have:=hbf x hx
      show vi x.1=vi ((x.1.toNat:Nat):Int)
      rw [Int.toNat_of_nonneg this.1]
     have s2':st.far=G.1.map (·.2):=s2
     have s3':st.late=late:=s3
     rw [erd,←s2'] at OE
     refine EngX.of_owns (qf:=qf) (R:=R) (RW:=RW) (tb:=tb) (tc:=tc) (aw:=aw) (cw:=cw) (c1:=d1) (c2:=d2) (c3:=d3) (ck:=ck) (ar:=ar) (cr:=cr) (ac:=ac) (cc:=cc) (Hp.le_trans l0k (Hp.le_trans lj lm)) ?_ Fk (QFk.le (Hp.le_trans lj lm)) (Kk.le (Hp.le_trans lj lm)) (fun r hr=>(hRi r hr).le lm) hWi (by rw [s4];exact eRt) (by rw [s5];exact eWt)
     rw [hrl,hfl,s3',hRl,hWl]
     exact OE
end
theorem one_encBs (l:List Wds):∀ u ∈ l.flatMap encB,u.oneCell'=true:=by
 intro u hu
 obtain⟨x,_,hx⟩:=List.mem_flatMap.1 hu
 have:u=vs (bs x):=by simpa [encB] using hx
 rw [this];rfl
theorem inR_of {n:Int}(h0:-1000000000000≤n)(h1:n≤1000000000000):InR n:=by unfold InR;omega
theorem flat_len {α β:Type}(f:α→List β)(m:Nat)(h:∀ x,(f x).length=m):∀ l:List α,(l.flatMap f).length=l.length*m
 | []=>by simp
 | x :: l=>by rw [List.flatMap_cons,List.length_append,h x,flat_len f m h l,List.length_cons,Nat.succ_mul,Nat.add_comm]
theorem join_le {sep:Wds}(hs:sep.length≤1):∀ l:List Wds,(∀ w ∈ l,w.length≤14)→(Lib.join l sep).length≤15*l.length
 | [],_=>Nat.le_refl _
 | x :: l,h=>by
  rw [Lib.join_length]
  have hl:∀ l:List Wds,(∀ w ∈ l,w.length≤14)→Lib.lens l≤14*l.length:=by
   intro l
   induction l with
   | nil=>intro _;exact Nat.le_refl _
   | cons y l ih=>
    intro h
    have h1:=h y (List.mem_cons_self ..)
    have h2:=ih fun w hw=>h w (List.mem_cons_of_mem _ hw)
    unfold Lib.lens at *
    simp only [List.map_cons,List.sum_cons,List.length_cons] at *
    omega
  have:=hl (x :: l) h
  have h3:sep.length*l.length≤l.length:=by
   rcases Nat.le_one_iff_eq_zero_or_eq_one.1 hs with e|e<;>rw [e]<;>omega
  rw [List.length_cons] at *
  omega
theorem shotW_le {ks:List Int}{parts:Nat}{st:En}(H:ShO ks parts st)(hk:ks.length≤4):(shotW ks st).length≤10+10000*15+10000*7∧∀ w ∈ shotW ks st,w.length≤14:=by
 have il:∀ n:Int,-1000000000000≤n→n≤1000000000000→(Lib.itoa n).length≤14:=fun n h0 h1=>itoa_len h0 h1
 have bl:∀ b,(bitW b).length≤14:=fun b=>by cases b<;>decide
 have fm:∀{α:Type} (f:α→List Wds) (l:List α) (m:Nat),(∀ x ∈ l,(f x).length≤m)→(l.flatMap f).length≤l.length*m:=by
  intro α f l m
  induction l with
  | nil=>intro _;simp
  | cons y l ih=>
   intro h
   have h1:=h y (List.mem_cons_self ..)
   have h2:=ih fun w hw=>h w (List.mem_cons_of_mem _ hw)
   rw [List.flatMap_cons,List.length_append,List.length_cons,Nat.succ_mul]
   omega
 have p3:=H.p3
 have rl:=H.rl
 have fl:=H.fl
 have pl:=H.pl
 have wl:=H.wl
 have la:=H.la
 refine⟨?_,?_⟩
 ·have f1:=fm rfW (st.rd.zip st.far) 2 fun x _=>Nat.le_refl _
  have f2:=fm pnW (st.pn.map (pnT ks)) 15 fun x hx=>by
   obtain⟨p,hp,rfl⟩:=List.mem_map.1 hx
   have h4:=congrArg List.length (H.pn p hp).2.2.2.1
   rw [List.length_map] at h4
   have h5:=fm acW (pnT ks p).2.1 3 fun x _=>Nat.le_refl _
   unfold pnW
   simp only [List.length_append,List.length_cons,List.length_nil]
   omega
  have f3:=fm rwW st.rows 7 fun w hw=>by
   have h4:=(H.rw w hw).2.2.2.1
   unfold rwW
   simp only [List.length_append,List.length_cons,List.length_nil,List.length_map]
   omega
  unfold shotW hdW
  rw [List.length_zip] at f1
  rw [List.length_map] at f2
  simp only [List.length_append,List.length_cons,List.length_nil]
  have e1:Nat.min st.rd.length st.far.length≤3:=by rw [rl,fl];exact Nat.le_trans (Nat.min_le_left ..) p3
  have e1':min st.rd.length st.far.length≤3:=e1
  omega
 ·intro w hw
  unfold shotW hdW at hw
  simp only [List.mem_append,List.mem_flatMap,List.mem_cons,List.not_mem_nil,or_false] at hw
  rcases hw with ((hw|⟨x,hx0,hx⟩)|⟨x,hx0,hx⟩)|⟨x,hx0,hx⟩
  ·rcases hw with rfl|rfl|rfl|rfl<;>exact il _ (by omega) (by omega)
  ·unfold rfW at hx
   simp only [List.mem_cons,List.not_mem_nil,or_false] at hx
   have h1:=H.rb _ (List.of_mem_zip hx0).1
   have h2:=H.fb _ (List.of_mem_zip hx0).2
   rcases hx with rfl|rfl<;>exact il _ (by omega) (by omega)
  ·obtain⟨p,hp,rfl⟩:=List.mem_map.1 hx0
   obtain⟨k1,k2,k3,k4,k5⟩:=H.pn p hp
   unfold pnW acW at hx
   simp only [List.mem_append,List.mem_flatMap,List.mem_cons,List.not_mem_nil,or_false] at hx
   rcases hx with (rfl|rfl|rfl)|⟨a,ha0,ha⟩
   ·exact il _ (by omega) (by omega)
   ·exact textV_ln k3
   ·exact bl _
   ·obtain⟨a1,a2,a3,a4,a5,a6⟩:=k5 a ha0
    rcases ha with rfl|rfl|rfl<;>exact il _ (by omega) (by omega)
  ·obtain⟨k1,k2,k3,k4,k5⟩:=H.rw x hx0
   unfold rwW at hx
   simp only [List.mem_append,List.mem_map,List.mem_cons,List.not_mem_nil,or_false] at hx
   rcases hx with (rfl|rfl|rfl)|⟨a,ha0,rfl⟩
   ·exact bl _
   ·exact il _ (by omega) (by omega)
   ·exact textV_ln k3
   ·exact textV_ln (k5 a ha0)
theorem shotW_sharp {ks:List Int}{parts:Nat}{st:En}(H:ShO ks parts st)(hk:ks.length≤4):(shotW ks st).length≤10+st.pn.length*15+st.rows.length*7:=by
 have fm:∀{α:Type} (f:α→List Wds) (l:List α) (m:Nat),(∀ x ∈ l,(f x).length≤m)→(l.flatMap f).length≤l.length*m:=by
  intro α f l m
  induction l with
  | nil=>intro _;simp
  | cons y l ih=>
   intro h
   have h1:=h y (List.mem_cons_self ..)
   have h2:=ih fun w hw=>h w (List.mem_cons_of_mem _ hw)
   rw [List.flatMap_cons,List.length_append,List.length_cons,Nat.succ_mul]
   omega
 have p3:=H.p3
 have rl:=H.rl
 have fl:=H.fl
 have f1:=fm rfW (st.rd.zip st.far) 2 fun x _=>Nat.le_refl _
 have f2:=fm pnW (st.pn.map (pnT ks)) 15 fun x hx=>by
  obtain⟨p,hp,rfl⟩:=List.mem_map.1 hx
  have h4:=congrArg List.length (H.pn p hp).2.2.2.1
  rw [List.length_map] at h4
  have h5:=fm acW (pnT ks p).2.1 3 fun x _=>Nat.le_refl _
  unfold pnW
  simp only [List.length_append,List.length_cons,List.length_nil]
  omega
 have f3:=fm rwW st.rows 7 fun w hw=>by
  have h4:=(H.rw w hw).2.2.2.1
  unfold rwW
  simp only [List.length_append,List.length_cons,List.length_nil,List.length_map]
  omega
 unfold shotW hdW
 rw [List.length_zip] at f1
 rw [List.length_map] at f2
 simp only [List.length_append,List.length_cons,List.length_nil]
 have e1':min st.rd.length st.far.length≤3:=by rw [rl,fl];exact Nat.le_trans (Nat.min_le_left ..) p3
 omega
section
variable {h:Hp}{R':Value→Hp→Prop}
abbrev WdV (h hh:Hp)(a:Option Addr)(c:Nat)(l:List Wds):Prop:=OwnV h hh 9 1 a l.length c (l.flatMap encB)
theorem WdV.app {hh:Hp}{a:Option Addr}{c:Nat}{l:List Wds}(O:WdV h hh a c l){b:Nat}(hb:hh b=none)(news:List Wds){tn ty:TypeId}{n m:Nat}(hn:n=l.length)(hm:m=news.length)(h1:l.length+news.length≤1000000){K:Value→Hp→Prop}(hK:∀ a' c' h',WdV h h' a' c' (l++news)→K (vsl a' (l++news).length c') h') :
  SemOK Tryz.prog (Builtin.append_ #[75,75] ty #[vsl a n c,vsl (some ⟨b,0,none⟩) m m]) (hh.set b (cellsO (news.flatMap encB) tn)) K:=by
 subst hn
 subst hm
 refine OwnV.append elStr (O.set hb _) (HasRow.new _ _ _ _) (flatMap_length encB_len news) (one_encBs news) (by omega) (by omega) fun a' c' h' O' _ _=>?_
 have:=hK a' c' h' (by show OwnV h h' _ 1 a' (l++news).length c' ((l++news).flatMap encB);rw [List.length_append,List.flatMap_append];exact O')
 rw [List.length_append] at this
 exact this
set_option maxHeartbeats 2000000 in
theorem shot_Text_ok {q:Qy}{h0:Hp}{g parts:Nat}{st:En}(X:EngX q h0 h g st)(B:QOk q)(H:ShO (kindsQ q) parts st)(T:TabP h)(hK:∀ h',h.le h'→R' (vs (bs (shotT (kindsQ q) st))) h'):CallOK Tryz.prog 12 [vhp g 0] h R':=by
 refine ok_shot_Text ?_
 unfold VC_shot_Text
 obtain⟨a1,n1,c1,a2,n2,c2,a3,n3,c3,qf,ak,nk,ck,ar,cr,ac,cc,tb,tc,aw,cw,RP,k1,s1,s2,g1,tb1,eP⟩:=X.seen
 have hk4:(kindsQ q).length≤4:=by rw [kindsQ_len];exact B.n2
 obtain⟨sl,sw⟩:=shotW_le H hk4
 have p3:=H.p3
 have rl:=H.rl
 have fl:=H.fl
 have pl:=H.pl
 have wl:=H.wl
 have la:=H.la
 have hgl:(st.rows.map rowG).length=st.rows.length:=List.length_map _
 have hRl:RP.length=st.pn.length:=by have:=congrArg List.length eP;simpa using this
 refine⟨_,_,_,cell_cells k1 rfl,_,cell_cells k1 rfl,_,_,_,cell_cells k1 rfl,_,_,_,cell_cells k1 rfl,?_⟩
 refine inv_Ito (inR_of (by omega) (by omega)) T ⟨_,rfl,cell_cells k1 rfl,cell_cells k1 rfl,cell_cells k1 rfl,?_⟩
 refine inv_Ito (inR_of (by omega) (by omega)) T ⟨_,rfl,cell_cells k1 rfl,cell_cells k1 rfl,?_⟩
 refine inv_Ito (inR_of (by omega) (by omega)) T ⟨_,rfl,cell_cells k1 rfl,?_⟩
 refine inv_Ito (inR_of (by omega) (by omega)) T ⟨_,rfl,?_⟩
 intro b17 hb17 h18
 have V18:WdV h h18 (some ⟨b17,0,none⟩) 4 (hdW st):=by
  have e:hdW st=[Lib.itoa (st.rd.length:Nat),Lib.itoa (st.late:Nat),Lib.itoa (RP.length:Nat),Lib.itoa ((st.rows.map rowG).length:Nat)]:=by unfold hdW;rw [hRl,hgl]
  rw [e]
  exact OwnV.mk_new (n:=4) (Hp.le_refl h) hb17 _ _ rfl (by decide)
 clear_value h18
 have hfl:st.far.length=st.rd.length:=by omega
 refine⟨_,_,_,cell_cells (V18.le _ _ k1) rfl,?_⟩
 refine⟨fun vs hh=>∃(i:Nat) (a:Option Addr) (c:Nat),vs=[vsl a (hdW st++((st.rd.zip st.far).take i).flatMap rfW).length c,vi i]∧i≤st.rd.length∧WdV h hh a c (hdW st++((st.rd.zip st.far).take i).flatMap rfW),
  fun vs hh=>st.rd.length - (vint vs 1).toNat,⟨0,some ⟨b17,0,none⟩,4,by simp [hdW],Nat.zero_le _,by simpa using V18⟩,?_⟩
 clear V18
 rintro vs hh ⟨i,a,c,rfl,hi,V⟩
 refine⟨_,_,_,_,rfl,fun e=>?_,fun e=>?_⟩
 ·have hlt:i < st.rd.length:=by have:=of_decide_eq_true e;omega
  obtain⟨br,or_,er,hcr⟩:=(s1.le V.le).get hlt
  obtain⟨bc,oc,ec,hcc⟩:=(s2.le V.le).get (i:=i) (by omega)
  have g1:(st.rd.map fun n:Nat=>(n:Int)).getD i 0=(st.rd[i]:Int):=by rw [List.getD_eq_getElem?_getD,List.getElem?_map,List.getElem?_eq_getElem hlt];rfl
  have g2:st.far.getD i 0=st.far[i]'(by omega):=by rw [List.getD_eq_getElem?_getD,List.getElem?_eq_getElem (by omega)];rfl
  rw [g1] at hcr
  rw [g2] at hcc
  have hz:i < (st.rd.zip st.far).length:=by rw [List.length_zip];omega
  have tk:(st.rd.zip st.far).take (i+1)=(st.rd.zip st.far).take i++[(st.rd[i],st.far[i]'(by omega))]:=by
   rw [List.take_succ_eq_append_getElem hz,List.getElem_zip]
  have hb1:=H.rb _ (List.getElem_mem hlt)
  have hb2:=H.fb _ (List.getElem_mem (show i < st.far.length by omega))
  have hlen:(hdW st++((st.rd.zip st.far).take i).flatMap rfW).length≤10:=by
   have:(((st.rd.zip st.far).take i).flatMap rfW).length=i*2:=by
    rw [flat_len rfW 2 (fun _=>rfl),List.length_take,List.length_zip]
    congr 1
    rw [hfl,Nat.min_self]
    exact Nat.min_eq_left (by omega)
   rw [List.length_append,this]
   simp only [hdW,List.length_cons,List.length_nil]
   omega
  generalize st.rd[i]=x at *
  generalize st.far[i]'(by omega)=y at *
  have k1':=V.le _ _ k1
  refine⟨_,_,_,cell_cells k1' rfl,br,or_,⟨er,by omega,by omega⟩,_,by rw [Int.toNat_natCast];exact hcr,_,_,_,cell_cells k1' rfl,bc,oc,⟨ec,by omega,by omega⟩,_,by rw [Int.toNat_natCast];exact hcc,?_⟩
  refine inv_Ito (inR_of (by omega) (by omega)) (T.le V.le) ⟨_,rfl,by rw [Int.toNat_natCast];exact hcc,cell_cells k1' rfl,?_⟩
  refine inv_Ito (inR_of (by omega) (by omega)) (T.le V.le) ⟨_,rfl,?_⟩
  intro b43 hb43 h44
  refine V.app hb43 (rfW (x,y)) rfl rfl (by simp only [rfW,List.length_cons,List.length_nil];omega) fun a' c' h' V'=>⟨_,_,_,rfl,_,isW (by unfold InR;omega),⟨i+1,a',c',?_,by omega,?_⟩,by simp [vint];omega⟩
  ·rw [tk,List.flatMap_append,List.flatMap_singleton,←List.append_assoc]
   rfl
  ·rw [tk,List.flatMap_append,List.flatMap_singleton,←List.append_assoc]
   exact V'
 ·have hge:i=st.rd.length:=by have:=of_decide_eq_false e;omega
  have htk:(st.rd.zip st.far).take i=st.rd.zip st.far:=List.take_of_length_le (by rw [List.length_zip];simp only [Nat.min_def];split<;>omega)
  rw [htk] at V ⊢
  clear htk hge e hi
  have e1:shotW (kindsQ q) st=(hdW st++(st.rd.zip st.far).flatMap rfW)++(st.pn.map (pnT (kindsQ q))).flatMap pnW++st.rows.flatMap rwW:=rfl
  generalize hdW st++(st.rd.zip st.far).flatMap rfW=W0 at *
  refine⟨_,_,_,cell_cells (V.le _ _ k1) rfl,?_⟩
  refine⟨fun vs hh=>∃(i:Nat) (a:Option Addr) (c:Nat),vs=[vsl a (W0++((st.pn.map (pnT (kindsQ q))).take i).flatMap pnW).length c,vi i]∧i≤RP.length∧WdV h hh a c (W0++((st.pn.map (pnT (kindsQ q))).take i).flatMap pnW),
   fun vs hh=>RP.length - (vint vs 1).toNat,⟨0,a,c,by simp,Nat.zero_le _,by simpa using V⟩,?_⟩
  clear V
  rintro vs hh ⟨i,a,c,rfl,hi,V⟩
  refine⟨_,_,_,_,rfl,fun e=>?_,fun e=>?_⟩
  ·have hlt:i < RP.length:=by have:=of_decide_eq_true e;omega
   have hx:RP[i]?=some RP[i]:=List.getElem?_eq_getElem hlt
   have hpm:(st.pn.map (pnT (kindsQ q)))[i]?=some (prT RP[i]):=by rw [←eP,List.getElem?_map,hx];rfl
   have tk:(st.pn.map (pnT (kindsQ q))).take (i+1)=(st.pn.map (pnT (kindsQ q))).take i++[prT RP[i]]:=by
    obtain⟨h1,h2⟩:=List.getElem?_eq_some_iff.1 hpm
    rw [List.take_succ_eq_append_getElem h1,h2]
   have hO:PnO (kindsQ q) (prT RP[i]):=by
    have:=List.mem_of_getElem? hpm
    obtain⟨p,hp,e9⟩:=List.mem_map.1 this
    rw [←e9]
    exact H.pn p hp
   have hlen:(W0++((st.pn.map (pnT (kindsQ q))).take (i+1)).flatMap pnW).length≤220010:=by
    have h1:((st.pn.map (pnT (kindsQ q))).take (i+1)).flatMap pnW++((st.pn.map (pnT (kindsQ q))).drop (i+1)).flatMap pnW=(st.pn.map (pnT (kindsQ q))).flatMap pnW:=by rw [←List.flatMap_append,List.take_append_drop]
    rw [e1,←h1] at sl
    simp only [List.length_append] at sl ⊢
    omega
   rw [tk,List.flatMap_append,List.flatMap_singleton,←List.append_assoc] at hlen
   obtain⟨b,o,ea,hr⟩:=(tb1.s.le V.le).get encPr_len (by decide) hx
   have hri:=(tb1.i _ (List.getElem_mem hlt)).le V.le
   generalize RP[i]=r at *
   obtain⟨o1,o2,o3,o4,o5⟩:=hO
   have o4':r.acs.length≤4:=by have:=congrArg List.length o4;rw [List.length_map] at this;exact Nat.le_trans (Nat.le_of_eq this) hk4
   have hr':Hp.row hh b (o+i*5) 5=some [vi r.k.1,vi r.k.2.1,vi r.k.2.2,vsl r.a r.acs.length r.c,vb r.t]:=hr
   have o3':InR r.k.2.2:=by have:goodV r.k.2:=o3;unfold goodV at this;unfold InR;omega
   have o1':-1000≤r.k.1:=o1
   have o2':r.k.1≤9999:=o2
   refine⟨b,o,⟨ea,by omega,by omega⟩,_,_,_,_,_,_,_,by rw [Int.toNat_natCast];exact hr',?_⟩
   intro J69
   have hJ:J69 (bs (bitW r.t)):=by
    refine inv_Ito (inR_of (by omega) (by omega)) (T.le V.le) ⟨_,rfl,?_⟩
    refine value_Text_ok (v:=r.k.2) o3' (T.le V.le) ⟨_,rfl,?_⟩
    intro b83 hb83 h84
    have hlen2:(W0++((st.pn.map (pnT (kindsQ q))).take i).flatMap pnW).length+3+(r.acs.flatMap acW).length≤220010:=by
     simp only [pnW,prT,List.length_append,List.length_cons,List.length_nil] at hlen ⊢
     omega
    refine V.app hb83 [Lib.itoa r.k.1,textV r.k.2,bitW r.t] rfl rfl (by simp only [List.length_cons,List.length_nil];omega) fun a' c' h' V'=>⟨_,_,_,rfl,?_⟩
    have hex:(W0++((st.pn.map (pnT (kindsQ q))).take i).flatMap pnW++[Lib.itoa r.k.1,textV r.k.2,bitW r.t]).length=(W0++((st.pn.map (pnT (kindsQ q))).take i).flatMap pnW).length+3:=by rw [List.length_append];rfl
    have tk2:∀ c:List Wds,c=r.acs.flatMap acW→W0++((st.pn.map (pnT (kindsQ q))).take i).flatMap pnW++[Lib.itoa r.k.1,textV r.k.2,bitW r.t]++c=W0++((st.pn.map (pnT (kindsQ q))).take (i+1)).flatMap pnW:=by
     rintro c rfl
     rw [tk,List.flatMap_append,List.flatMap_singleton]
     simp only [pnW,prT,List.append_assoc]
    rw [←hex] at hlen2
    generalize W0++((st.pn.map (pnT (kindsQ q))).take i).flatMap pnW++[Lib.itoa r.k.1,textV r.k.2,bitW r.t]=W1 at *
    refine⟨fun vs hh=>∃(j:Nat) (a:Option Addr) (c:Nat),vs=[vsl a (W1++(r.acs.take j).flatMap acW).length c,vi j]∧j≤r.acs.length∧WdV h hh a c (W1++(r.acs.take j).flatMap acW),
     fun vs hh=>r.acs.length - (vint vs 1).toNat,⟨0,a',c',by simp,Nat.zero_le _,by simpa using V'⟩,?_⟩
    clear V'
    rintro vs h2 ⟨j,a2,c2,rfl,hj,V2⟩
    refine⟨_,_,_,_,rfl,fun e5=>?_,fun e5=>?_⟩
    ·have hjl:j < r.acs.length:=by have:=of_decide_eq_true e5;omega
     have hax:r.acs[j]?=some r.acs[j]:=List.getElem?_eq_getElem hjl
     have tka:r.acs.take (j+1)=r.acs.take j++[r.acs[j]]:=List.take_succ_eq_append_getElem hjl
     have hri2:HasRow h2 r.a (r.acs.flatMap encAc):=(HasRow.le V2.le ((tb1.i r (List.mem_of_getElem? hx))))
     obtain⟨b97,o98,e97,r97⟩:=(show SlP encAc h2 r.a r.acs.length r.acs from⟨rfl,hri2⟩).get encAc_len (by decide) hax
     obtain⟨m1,m2,m3,m4,m5,m6⟩:=o5 _ (List.getElem_mem hjl)
     have hlj:(W1++(r.acs.take j).flatMap acW).length+3≤220010:=by
      have h1:((r.acs.take (j+1)).flatMap acW).length≤(r.acs.flatMap acW).length:=by
       have:(r.acs.take (j+1)).flatMap acW++(r.acs.drop (j+1)).flatMap acW=r.acs.flatMap acW:=by rw [←List.flatMap_append,List.take_append_drop]
       rw [←this,List.length_append];omega
      rw [tka,List.flatMap_append,List.length_append,List.flatMap_singleton] at h1
      have h2:(acW r.acs[j]).length=3:=rfl
      rw [List.length_append]
      omega
     generalize r.acs[j]=ax at *
     refine⟨b97,o98,⟨e97,by omega,by omega⟩,_,_,_,_,by rw [Int.toNat_natCast];exact r97,?_⟩
     refine inv_Ito (inR_of (by omega) (by omega)) (T.le V2.le) ⟨_,rfl,?_⟩
     refine inv_Ito (inR_of (by omega) (by omega)) (T.le V2.le) ⟨_,rfl,?_⟩
     refine inv_Ito (inR_of (by omega) (by omega)) (T.le V2.le) ⟨_,rfl,?_⟩
     intro b112 hb112 h113
     refine V2.app hb112 (acW ax) rfl rfl (by simp only [acW,List.length_cons,List.length_nil];omega) fun a' c' h' V'=>⟨_,_,_,rfl,_,isW (by unfold InR;omega),⟨j+1,a',c',?_,by omega,?_⟩,by simp [vint];omega⟩
     ·rw [tka,List.flatMap_append,List.flatMap_singleton,←List.append_assoc]
      rfl
     ·rw [tka,List.flatMap_append,List.flatMap_singleton,←List.append_assoc]
      exact V'
    ·have hge:j=r.acs.length:=by have:=of_decide_eq_false e5;omega
     rw [hge,List.take_length] at V2 ⊢
     have ew:=tk2 _ rfl
     rw [ew] at V2 ⊢
     exact⟨_,isW (by unfold InR;omega),⟨i+1,a2,c2,rfl,by omega,V2⟩,by simp [vint];omega⟩
   clear_value J69
   refine⟨fun e6=>?_,fun e6=>?_⟩
   ·rw [e6] at hJ;exact hJ
   ·rw [e6] at hJ;exact hJ
  ·have hge:i=RP.length:=by have:=of_decide_eq_false e;omega
   have htk:(st.pn.map (pnT (kindsQ q))).take i=st.pn.map (pnT (kindsQ q)):=List.take_of_length_le (by rw [List.length_map];omega)
   rw [htk] at V ⊢
   clear htk hge e hi
   generalize W0++(st.pn.map (pnT (kindsQ q))).flatMap pnW=W1 at *
   refine⟨_,_,_,cell_cells (V.le _ _ k1) rfl,?_⟩
   refine⟨fun vs hh=>∃(i:Nat) (a:Option Addr) (c:Nat),vs=[vsl a (W1++(st.rows.take i).flatMap rwW).length c,vi i]∧i≤st.rows.length∧WdV h hh a c (W1++(st.rows.take i).flatMap rwW),
    fun vs hh=>st.rows.length - (vint vs 1).toNat,⟨0,a,c,by simp,Nat.zero_le _,by simpa using V⟩,?_⟩
   clear V
   rintro vs hh ⟨i,a,c,rfl,hi,V⟩
   refine⟨_,_,_,_,rfl,fun e=>?_,fun e=>?_⟩
   ·have hlt:i < st.rows.length:=by have:=of_decide_eq_true e;omega
    have hx:st.rows[i]?=some st.rows[i]:=List.getElem?_eq_getElem hlt
    have tk:st.rows.take (i+1)=st.rows.take i++[st.rows[i]]:=List.take_succ_eq_append_getElem hlt
    have hO:=H.rw _ (List.getElem_mem hlt)
    have hlen:(W1++(st.rows.take (i+1)).flatMap rwW).length≤220010:=by
     have h1:(st.rows.take (i+1)).flatMap rwW++(st.rows.drop (i+1)).flatMap rwW=st.rows.flatMap rwW:=by rw [←List.flatMap_append,List.take_append_drop]
     rw [e1,←h1] at sl
     simp only [List.length_append] at sl ⊢
     omega
    rw [tk,List.flatMap_append,List.flatMap_singleton,←List.append_assoc] at hlen
    generalize st.rows[i]=w at *
    obtain⟨gw,k,l⟩:=w
    have hxg:(st.rows.map rowG)[i]?=some ((gw,k),l):=by rw [List.getElem?_map,hx];rfl
    obtain⟨b,o,av,cv,ea,hr,SV⟩:=(g1.le V.le).row rwRow_len (by decide) hxg
    obtain⟨o1,o2,o3,o4,o5⟩:=hO
    have o4':l.length≤4:=Nat.le_trans (Nat.le_of_eq o4) hk4
    have hr':Hp.row hh b (o+i*5) 5=some [vb gw,vi k.1,vi k.2.1,vi k.2.2,vsl av l.length cv]:=hr
    have o3':InR k.2.2:=by have:goodV k.2:=o3;unfold goodV at this;unfold InR;omega
    have o1':-1000≤k.1:=o1
    have o2':k.1≤9999:=o2
    refine⟨b,o,⟨ea,by omega,by omega⟩,_,_,_,_,_,_,_,by rw [Int.toNat_natCast];exact hr',?_⟩
    intro J69
    have hJ:J69 (bs (bitW gw)):=by
     refine inv_Ito (inR_of (by omega) (by omega)) (T.le V.le) ⟨_,rfl,?_⟩
     refine value_Text_ok (v:=k.2) o3' (T.le V.le) ⟨_,rfl,?_⟩
     intro b83 hb83 h84
     have hlen2:(W1++(st.rows.take i).flatMap rwW).length+3+(l.map textV).length≤220010:=by
      simp only [rwW,List.length_append,List.length_cons,List.length_nil] at hlen ⊢
      omega
     refine V.app hb83 [bitW gw,Lib.itoa k.1,textV k.2] rfl rfl (by simp only [List.length_cons,List.length_nil];omega) fun a' c' h' V'=>⟨_,_,_,rfl,?_⟩
     have hex:(W1++(st.rows.take i).flatMap rwW++[bitW gw,Lib.itoa k.1,textV k.2]).length=(W1++(st.rows.take i).flatMap rwW).length+3:=by rw [List.length_append];rfl
     have tk2:∀ c:List Wds,c=l.map textV→W1++(st.rows.take i).flatMap rwW++[bitW gw,Lib.itoa k.1,textV k.2]++c=W1++(st.rows.take (i+1)).flatMap rwW:=by
      rintro c rfl
      rw [tk,List.flatMap_append,List.flatMap_singleton]
      simp only [rwW,List.append_assoc]
     rw [←hex] at hlen2
     have SVh:HasRow h av (l.flatMap encV)∨True:=.inr trivial
     have l9:hh.le h'∨True:=.inr trivial
     generalize W1++(st.rows.take i).flatMap rwW++[bitW gw,Lib.itoa k.1,textV k.2]=W2 at *
     refine⟨fun vs h2=>∃(j:Nat) (a:Option Addr) (c:Nat),vs=[vsl a (W2++(l.take j).map textV).length c,vi j]∧j≤l.length∧WdV h h2 a c (W2++(l.take j).map textV),
      fun vs h2=>l.length - (vint vs 1).toNat,⟨0,a',c',by simp,Nat.zero_le _,by simpa using V'⟩,?_⟩
     clear V'
     rintro vs h2 ⟨j,a2,c2,rfl,hj,V2⟩
     refine⟨_,_,_,_,rfl,fun e5=>?_,fun e5=>?_⟩
     ·have hjl:j < l.length:=by have:=of_decide_eq_true e5;omega
      have hax:l[j]?=some l[j]:=List.getElem?_eq_getElem hjl
      have tka:l.take (j+1)=l.take j++[l[j]]:=List.take_succ_eq_append_getElem hjl
      have hv:=o5 _ (List.getElem_mem hjl)
      obtain⟨b0,o0,av0,cv0,ea0,hr0,SV0⟩:=g1.row rwRow_len (by decide) hxg
      have hr1:=Hp.row_le V.le hr0
      rw [ea0] at ea
      cases ea
      rw [hr1] at hr'
      simp only [rwRow,Option.some.injEq,List.cons.injEq,true_and,and_true] at hr'
      cases hr'
      obtain⟨b97,o98,e97,r97⟩:=(SV0.le V2.le).get (sz:=2) (fun _=>rfl) (by decide) hax
      have hlj:(W2++(l.take j).map textV).length+1≤220010:=by
       rw [List.length_map] at hlen2
       rw [List.length_append,List.length_map,List.length_take,Nat.min_eq_left hj]
       omega
      generalize l[j]=v at *
      refine⟨b97,o98,⟨e97,by omega,by omega⟩,_,_,by rw [Int.toNat_natCast];exact r97,?_⟩
      refine value_Text_ok (v:=v) (by unfold goodV at hv;unfold InR;omega) (T.le V2.le) ⟨_,rfl,?_⟩
      intro b112 hb112 h113
      refine V2.app hb112 [textV v] rfl rfl (by simp only [List.length_cons,List.length_nil];omega) fun a' c' h' V'=>⟨_,_,_,rfl,_,isW (by unfold InR;omega),⟨j+1,a',c',?_,by omega,?_⟩,by simp [vint];omega⟩
      ·rw [tka,List.map_append,←List.append_assoc]
       rfl
      ·rw [tka,List.map_append,←List.append_assoc]
       exact V'
     ·have hge:j=l.length:=by have:=of_decide_eq_false e5;omega
      rw [hge,List.take_length] at V2 ⊢
      have ew:=tk2 _ rfl
      rw [ew] at V2 ⊢
      exact⟨_,isW (by unfold InR;omega),⟨i+1,a2,c2,rfl,by omega,V2⟩,by simp [vint];omega⟩
    clear_value J69
    refine⟨fun e6=>?_,fun e6=>?_⟩
    ·rw [e6] at hJ;exact hJ
    ·rw [e6] at hJ;exact hJ
   ·have hge:i=st.rows.length:=by have:=of_decide_eq_false e;omega
    rw [hge,List.take_length,←e1] at V ⊢
    have S:=(show SlB hh a (shotW (kindsQ q) st).length (shotW (kindsQ q) st) from V.slp encB_len (by decide))
    have hjl:=join_le (sep:=[32]) (by decide) _ sw
    refine join_ok S (by unfold shotW hdW;simp) V.own.cap (by omega) (by omega) ⟨_,rfl,?_⟩
    exact hK hh V.le
end
theorem shot_anew {q:Qy}{h:Hp}{parts:Nat}{st:En}{a1:Option Addr}{n1 c1:Nat}{a2:Option Addr}{n2 c2:Nat}{a3:Option Addr}{n3 c3:Nat}(Q:QAt h q a1 n1 a2 n2 a3 n3)(B:QOk q)(Z:EnZ q parts st)(h1:1≤parts)(h3:parts≤3)(h40:∀ x ∈ st.rd,x≤40)(T:TabP h)(E:TabE h)(M:TabM h){R':Value→Hp→Prop}
  (hK:∀ g' h',h.le h'→EngX q h h' g' st→R' (vtup [vhp g' 0,ifv none]) h'):CallOK Tryz.prog 8 [vs (bs (shotT (kindsQ q) st)),vag [vsl a1 n1 c1,vsl a2 n2 c2,vsl a3 n3 c3,vi q.size,vi q.slide,vi q.delay,vi q.late],vi parts] h R':=by
 have H:=Z.sho h1 h3 h40
 obtain⟨sl,sw⟩:=shotW_le H (by rw [kindsQ_len];exact B.n2)
 have hl:(shotT (kindsQ q) st).length≤15*(shotW (kindsQ q) st).length:=join_le (by decide) _ sw
 have hZl:=Z.b.pl
 have hZw:=Z.b.wl
 have hZs:st.rd.sum≤120:=by
  have:=sum_le st.rd h40
  rw [Z.b.rl] at this
  omega
 have e:=shot_read H
 rw [←shot_cut] at e
 refine shot_Parse_ok (s:=shotT (kindsQ q) st) Q B T E M ?_ h1 h3 (fun h' l' hn=>by rw [e] at hn;cases hn) fun Y g' h' l' hy hE=>?_
 ·refine Nat.le_trans hl ?_
  have:=shotW_sharp H (by rw [kindsQ_len];exact B.n2)
  omega
 ·rw [e] at hy
  cases hy
  exact hK g' h' l' (hE st rfl rfl rfl rfl rfl)
theorem shot_again {q:Qy}{h0 h:Hp}{g parts:Nat}{st:En}(X:EngX q h0 h g st){a1:Option Addr}{n1 c1:Nat}{a2:Option Addr}{n2 c2:Nat}{a3:Option Addr}{n3 c3:Nat}(Q:QAt h q a1 n1 a2 n2 a3 n3)(B:QOk q)(Z:EnZ q parts st)(h1:1≤parts)(h3:parts≤3)(h40:∀ x ∈ st.rd,x≤40)(T:TabP h)(E:TabE h)(M:TabM h){R':Value→Hp→Prop}
  (hK:∀ g' h',h.le h'→EngX q h h' g' st→R' (vtup [vhp g' 0,ifv none]) h'):CallOK Tryz.prog 8 [vs (bs (shotT (kindsQ q) st)),vag [vsl a1 n1 c1,vsl a2 n2 c2,vsl a3 n3 c3,vi q.size,vi q.slide,vi q.delay,vi q.late],vi parts] h R':=
 shot_anew Q B Z h1 h3 h40 T E M hK
end Go.Proofs.YtgmplfdecikgoaaGreatDoor
namespace Go.Proofs.YtgmplfdecikgoaaGreatDoor
open Go Go.Vc
def VC_top_TopShot (u0:ByteArray)(u1:Option Addr)(u2 u3:Nat)(u4:Option Addr)(u5 u6:Nat)(h:Hp)(R:Value→Hp→Prop):Prop:=
 (CallOK Tryz.prog 17 [] h fun v1 h2=>∃ p3,v1=(vb p3)∧(((!p3)=true→R (vb false) h2)∧((!p3)=false→(CallOK Tryz.prog 18 [vs u0] h2 fun v5 h6=>∃ a7 n7 c7 a8 n8 c8 a9 n9 c9 x10 x11 x12 x13 p14,v5=(vtup [vag [vsl a7 n7 c7,vsl a8 n8 c8,vsl a9 n9 c9,vi x10,vi x11,vi x12,vi x13],vb p14])∧(∃(J15:SV→Hp→Prop),((!p14)=false→(CallOK Tryz.prog 19 [vsl u1 u2 u3,vsl u4 u5 u6] h6 fun v16 h17=>∃ p18,v16=(vb p18)∧J15 (.t (.one (.v (vb p18)))) h17))∧(¬((!p14)=false)→J15 (.t (.one (.v (vb false)))) h6)∧∀ h19 p20,J15 (.t (.one (.v (vb p20)))) h19→(((bif (!p14) then true else(!p20))=true→R (vb true) h19)∧((bif (!p14) then true else(!p20))=false→(CallOK Tryz.prog 20 [vag [vsl a7 n7 c7,vsl a8 n8 c8,vsl a9 n9 c9,vi x10,vi x11,vi x12,vi x13],vsl u1 u2 u3,vsl u4 u5 u6,(Value.func (.func 21) #[] #[])] h19 fun v22 h23=>∃ q24 p25,v22=(vtup [vp q24,vb p25])∧(((!p25)=true→R (vb false) h23)∧((!p25)=false→(CallOK Tryz.prog 12 [vp q24] h23 fun v27 h28=>∃ s29,v27=(vs s29)∧(CallOK Tryz.prog 8 [vs s29,vag [vsl a7 n7 c7,vsl a8 n8 c8,vsl a9 n9 c9,vi x10,vi x11,vi x12,vi x13],(vi (u2:Int))] h28 fun v30 h31=>∃ q32 e33,v30=(vtup [vp q32,ifv e33])∧(∃(J34:SV→Hp→Prop),((Option.isNone e33)=true→(CallOK Tryz.prog 12 [vp q32] h31 fun v35 h36=>∃ s37,v35=(vs s37)∧J34 (.t (.one (.v (vs s37)))) h36))∧(¬((Option.isNone e33)=true)→J34 (.t (.one (.v (vs ⟨#[]⟩)))) h31)∧∀ h38 s39,J34 (.t (.one (.v (vs s39)))) h38→(∃(J40:SV→Hp→Prop),((Option.isNone e33)=true→(CallOK Tryz.prog 12 [vp q24] h38 fun v41 h42=>∃ s43,v41=(vs s43)∧J40 (.t (.one (.v (vs s43)))) h42))∧(¬((Option.isNone e33)=true)→J40 (.t (.one (.v (vs ⟨#[]⟩)))) h38)∧∀ h44 s45,J40 (.t (.one (.v (vs s45)))) h44→(∃ p46,((Option.isNone e33)=true→Rd Tryz.prog ((eqGuard .eql 9 (.tmp 50) (.tmp 52) (vs s39) (vs s45) >>= fun _=>binOp .eql 9 (vs s39) (vs s45))) h44 (vb p46))∧(∃ b47 o48,((bif (Option.isNone e33) then p46 else false)=true→q32=some ⟨b47,o48,none⟩)∧(∃ a49 n49 c49,((bif (Option.isNone e33) then p46 else false)=true→Hp.cell h44 b47 (o48+12)=some (vsl a49 n49 c49))∧(∃ b50 o51,((bif (Option.isNone e33) then p46 else false)=true→q24=some ⟨b50,o51,none⟩)∧(∃ a52 n52 c52,((bif (Option.isNone e33) then p46 else false)=true→Hp.cell h44 b50 (o51+12)=some (vsl a52 n52 c52))∧(∃(J53:SV→Hp→Prop),((bif (Option.isNone e33) then p46 else false)=true→(CallOK Tryz.prog 22 [vsl a49 n49 c49,vsl a52 n52 c52] h44 fun v54 h55=>∃ p56,v54=(vb p56)∧J53 (.t (.one (.v (vb p56)))) h55))∧(¬((bif (Option.isNone e33) then p46 else false)=true)→J53 (.t (.one (.v (vb false)))) h44)∧∀ h57 p58,J53 (.t (.one (.v (vb p58)))) h57→(∃ b59 o60,((bif (bif (Option.isNone e33) then p46 else false) then p58 else false)=true→q32=some ⟨b59,o60,none⟩)∧(∃ a61 n61 c61,((bif (bif (Option.isNone e33) then p46 else false) then p58 else false)=true→Hp.cell h57 b59 (o60+10)=some (vsl a61 n61 c61))∧(∃ b62 o63,((bif (bif (Option.isNone e33) then p46 else false) then p58 else false)=true→q24=some ⟨b62,o63,none⟩)∧(∃ a64 n64 c64,((bif (bif (Option.isNone e33) then p46 else false) then p58 else false)=true→Hp.cell h57 b62 (o63+10)=some (vsl a64 n64 c64))∧R (vb (bif (bif (bif (Option.isNone e33) then p46 else false) then p58 else false) then(decide ((n61:Int)=(n64:Int))) else false)) h57))))))))))))))))))))))))
theorem ok_top_TopShot {u0 u1 u2 u3 u4 u5 u6 h R}(H:VC_top_TopShot u0 u1 u2 u3 u4 u5 u6 h R):CallOK Tryz.prog 4 [vs u0,vsl u1 u2 u3,vsl u4 u5 u6] h R:=
 call_of (cfg:=⟨[],[],[(10,[0,2,3,4,1,5,6,7,8,9,10]),(11,[0,1,2,3,5,4,6,7,8,9,10,11,12,13,14,15,16,17,18,19,20,21,22,23,24,25,26,27,28,29,30,31,32,33,34,35])]⟩) noNG mixed Tryz.func4 [.one (.v (vs u0)),.one (.v (vsl u1 u2 u3)),.one (.v (vsl u4 u5 u6))] (by kernel_rfl) rfl (by kernel_rfl) H
def VC_top_TopShot_1 (u0 u1:Nat)(h:Hp)(R:Value→Hp→Prop):Prop:=
 R (vb true) h
theorem ok_top_TopShot_1 {u0 u1 h R}(H:VC_top_TopShot_1 u0 u1 h R):CallOK Tryz.prog 21 [vhp u0 u1] h R:=
 call_of (cfg:=⟨[],[],[]⟩) noNG mixed Tryz.func21 [.one (.hp u0 u1)] (by kernel_rfl) rfl (by kernel_rfl) H
theorem R_SameRows_ok {L:List ((Bool × PK) × List Vl)}{a b:Option Addr}{c d:Nat}{h:Hp}{R':Value→Hp→Prop}(T:GTab encV rwRow h a L.length L)(T2:GTab encV rwRow h b L.length L)(hn:L.length≤4000000)(hl:∀ x ∈ L,x.2.length≤1000000)(hK:R' (vb true) h):CallOK Tryz.prog 22 [vsl a L.length c,vsl b L.length d] h R':=by
 refine ok_R_SameRows ?_
 unfold VC_R_SameRows
 refine⟨fun e=>absurd rfl (of_decide_eq_true e),fun _=>?_⟩
 refine⟨fun vs hh=>hh=h∧∃ i:Nat,vs=[vi i]∧i≤L.length,fun vs hh=>L.length - (vint vs 0).toNat,⟨rfl,0,rfl,Nat.zero_le _⟩,?_⟩
 rintro vs hh ⟨rfl,i,rfl,hi⟩
 refine⟨i,rfl,fun e=>?_,fun _=>hK⟩
 have hlt:i < L.length:=by have:=of_decide_eq_true e;omega
 have hx:L[i]?=some L[i]:=List.getElem?_eq_getElem hlt
 have hm:=hl _ (List.getElem_mem hlt)
 generalize L[i]=x at hx hm
 obtain⟨k,l⟩:=x
 obtain⟨b1,o1,a1,c1,e1,r1,S1⟩:=T.row rwRow_len (by decide) hx
 obtain⟨b2,o2,a2,c2,e2,r2,S2⟩:=T2.row rwRow_len (by decide) hx
 have hb1:a=some ⟨b1,o1,none⟩∧(0:Int)≤(i:Int)∧(i:Int) < ((L.length:Nat):Int):=⟨e1,by omega,by omega⟩
 have hb2:b=some ⟨b2,o2,none⟩∧(0:Int)≤(i:Int)∧(i:Int) < ((L.length:Nat):Int):=⟨e2,by omega,by omega⟩
 have q1:hh.row b1 (o1+i*5+1) 4=some (pkRw k.2 (vsl a1 l.length c1)):=Hp.row_sub r1 (i:=1) (k:=4) (by decide)
 have q2:hh.row b2 (o2+i*5+1) 4=some (pkRw k.2 (vsl a2 l.length c2)):=Hp.row_sub r2 (i:=1) (k:=4) (by decide)
 refine⟨b1,o1,hb1,_,_,_,_,_,_,q1,b2,o2,hb2,_,_,_,_,_,_,q2,?_⟩
 refine R_SamePane_ok (k:=k.2) S1 S2 hm ⟨_,rfl,b1,o1,hb1,_,Hp.row_cell r1 (i:=0) rfl,b2,o2,hb2,_,Hp.row_cell r2 (i:=0) rfl,_,rd_neB (by kernel_rfl),?_⟩
 refine⟨fun e3=>?_,fun _=>⟨_,isW (by unfold InR;omega),⟨rfl,i+1,rfl,by omega⟩,by simp [vint];omega⟩⟩
 simp at e3
open Go.RowKit Go.Txt
theorem law_TopShot_ok {s:Wd}{ps:List (List EvL)}{pa:Option Addr}{pn pc:Nat}{ts:List Int}{ta:Option Addr}{tn tc:Nat}{h:Hp}(TP:TabC encE h pa pn ps)(ST:SlI h ta tn ts)(T:TabQ h)(TM:TabM h):CallOK Tryz.prog 4 [vs (bs s),vsl pa pn pc,vsl ta tn tc] h fun v h'=>v=vb true∧h.le h':=by
 refine ok_top_TopShot ?_
 unfold VC_top_TopShot
 have hpn:pn=ps.length:=TP.r.choose_spec.2.1
 subst hpn
 refine top_works_ok T fun h2 l2=>⟨_,rfl,fun e=>(by cases e),fun _=>?_⟩
 refine top_asked_ok (T.le l2) (fun a1 n1 c1 a2 n2 c2 a3 n3 c3 x4 x5 x6 x7 h' l'=>⟨_,_,_,_,_,_,_,_,_,_,_,_,_,_,rfl,fun x hh=>h.le hh,fun e=>(by cases e),fun _=>Hp.le_trans l2 l',fun h19 p20 l19=>⟨fun _=>⟨rfl,l19⟩,fun e=>(by cases e)⟩⟩) ?_
 intro hf B a7 n7 c7 a8 n8 c8 a9 n9 c9 h6 l6 Q
 have l06:=Hp.le_trans l2 l6
 refine⟨_,_,_,_,_,_,_,_,_,_,_,_,_,_,rfl,?_⟩
 refine⟨fun x hh=>h6.le hh∧∃ p,x=.t (.one (.v (vb p)))∧(p=true→1≤ps.length∧ps.length≤3∧tn≤200∧∀ x ∈ ps,x.length≤40∧∀ e ∈ x,EvOK e),fun _=>top_few_ok (TP.le l06) fun p h' l' hp=>⟨_,rfl,l',p,rfl,hp⟩,fun e=>absurd rfl e,?_⟩
 rintro h19 p20 ⟨l19,p,e,hp⟩
 cases e
 have l019:=Hp.le_trans l06 l19
 refine⟨fun _=>⟨rfl,l019⟩,fun e=>?_⟩
 have hpt:p20=true:=by cases p20 with|true=>rfl|false=>cases e
 subst hpt
 obtain⟨h1,h3,ht,hE⟩:=hp rfl
 refine top_runI_ok (I:=EnZ (parseQ s).1 ps.length) (Q.le l19) B (TP.le l019) h1 h3 hE (ST.le l019) ht (EnZ.new _ _) (fun st p e N _ Z hp E=>Z.step B hp E) (fun g hh st cs N X RS HB hN=>?_) fun g h23 st N X RS HB hN Z=>⟨some ⟨g,0,none⟩,_,rfl,fun e=>(by cases e),fun _=>?_⟩
 ·refine inv_true _ ⟨_,Tryz.func21,by kernel_rfl,rfl⟩ (ok_top_TopShot_1 ?_)
  exact⟨rfl,Hp.le_refl _⟩
 have Q19:=Q.le l19
 generalize (parseQ s).1=q at *
 have l023:=Hp.le_trans l019 X.le0
 have h40:∀ x ∈ st.rd,x≤40:=by
  intro x hx
  rw [RS.rd] at hx
  obtain⟨i,hi,rfl⟩:=List.mem_iff_getElem.1 hx
  have hil:i < ps.length:=by rw [←RS.cl];exact hi
  have:=RS.cb i hil
  have h9:=(hE _ (List.getElem_mem hil)).1
  rw [List.getD_eq_getElem?_getD,List.getElem?_eq_getElem hi,List.getD_eq_getElem?_getD,List.getElem?_eq_getElem hil] at this
  exact Nat.le_trans this h9
 have H:=Z.sho h1 h3 h40
 refine shot_Text_ok X B H (T.le l023).p fun h28 l28=>⟨_,rfl,?_⟩
 have l028:=Hp.le_trans l023 l28
 refine shot_again (parts:=ps.length) (X.le l28) (Q19.le (Hp.le_trans X.le0 l28)) B Z h1 h3 h40 (T.le l028).p (T.le l028).e (TM.le l028) fun g' h31 l31 X2=>⟨some ⟨g',0,none⟩,none,rfl,?_⟩
 have l031:=Hp.le_trans l028 l31
 have X1:=X.le (Hp.le_trans l28 l31)
 refine⟨fun x hh=>h31.le hh∧x=.t (.one (.v (vs (bs (shotT (kindsQ q) st))))),fun _=>shot_Text_ok X2 B H (T.le l031).p fun h36 l36=>⟨_,rfl,l36,rfl⟩,fun e=>absurd rfl e,?_⟩
 rintro h38 s39 ⟨l38,e⟩
 cases e
 have l038:=Hp.le_trans l031 l38
 refine⟨fun x hh=>h38.le hh∧x=.t (.one (.v (vs (bs (shotT (kindsQ q) st))))),fun _=>shot_Text_ok (X1.le l38) B H (T.le l038).p fun h36 l36=>⟨_,rfl,l36,rfl⟩,fun e=>absurd rfl e,?_⟩
 rintro h44 s45 ⟨l44,e⟩
 cases e
 have l3144:=Hp.le_trans l38 l44
 have Y1:=X1.le l3144
 have Y2:=X2.le l3144
 obtain⟨a1,n1,c1,a2,n2,c2,a3,n3,c3,qf,ak,nk,ck,ar,cr,ac,cc,tb,tc',aw,cw,RP,k1,s1,s2,g1,tb1,eP⟩:=Y1.seen
 obtain⟨a1',n1',c1',a2',n2',c2',a3',n3',c3',qf',ak',nk',ck',ar',cr',ac',cc',tb',tc'',aw',cw',RP',k1',s1',s2',g1',tb1',eP'⟩:=Y2.seen
 have hRl:RP.length=st.pn.length:=by have:=congrArg List.length eP;simpa using this
 have hRl':RP'.length=st.pn.length:=by have:=congrArg List.length eP';simpa using this
 have hwl:=Z.b.wl
 have hwo:=Z.b.wo
 have hn4:=B.n2
 refine⟨_,fun _=>rd_eqBs,g',0,fun _=>rfl,_,_,_,fun _=>cell_cells k1' rfl,g,0,fun _=>rfl,_,_,_,fun _=>cell_cells k1 rfl,fun x hh=>h44.le hh∧x=.t (.one (.v (vb true))),fun _=>?_,fun e=>absurd (by rw [decide_eq_true rfl];rfl) e,?_⟩
 ·refine R_SameRows_ok g1' g1 (by rw [List.length_map];have:=H.wl;omega) (fun x hx=>?_) ⟨_,rfl,Hp.le_refl _,rfl⟩
  obtain⟨w,hw,rfl⟩:=List.mem_map.1 hx
  have:=hwo w hw
  show w.2.2.length≤1000000
  omega
 rintro h57 p58 ⟨l57,e⟩
 cases e
 refine⟨g',0,fun _=>rfl,_,_,_,fun _=>cell_cells (l57 _ _ k1') rfl,g,0,fun _=>rfl,_,_,_,fun _=>cell_cells (l57 _ _ k1) rfl,?_⟩
 rw [hRl,hRl']
 refine⟨?_,Hp.le_trans l038 (Hp.le_trans l44 l57)⟩
 rw [decide_eq_true rfl,decide_eq_true rfl]
 rfl
end Go.Proofs.YtgmplfdecikgoaaGreatDoor
namespace Go.Vc
open Go Go.RowKit
theorem hp_cell {W:World}{b o:Nat}{v:Value}(h:W.cell? ⟨b,o,none⟩=some v):Hp.cell (hpOf W) b o=some v:=by
 unfold World.cell? at h
 unfold Hp.cell hpOf
 cases hb:W.heap[b]? with
 | none=>rw [hb] at h;cases h
 | some ob=>rw [hb] at h;cases ob<;>simp_all
section
variable {H:Type}{enc:TypeId × Value→H}
theorem handed_sh {a:Assume}{C:Checked}{os:Os}{f:FuncId}{fn:Func}{s:ChangeSpec}{conds:List PathCond}{apart fresh handsOn again:Bool}{X:World→Array Value→Prop}
  (hX:∀(w w':World) (args:Array Value),w.heap=w'.heap→X w args→X w' args)
  (own:ownKnob C.prog.godebug=none) (started:os.Started) (noInit:C.prog.inits.idxOf? f=none) (hfn:C.prog.funcs[f]?=some fn)
  (witness:∃(w:World) (tape:Tape) (i:Input),w.os=os∧(w.forCall tape i).Shaped C.prog∧i.vars=[]∧Input.okWide C.prog (w.forCall tape i) .any w.heap.size f i ∧
   ((s.pre enc C.prog fn conds apart (w.forCall tape i).memory i.args∧X (w.forCall tape i).memory i.args)∧sizedMet enc C.prog fn (OpenSpec.ofChange s) apart (w.forCall tape i).memory i.args)∧a.holds C.prog (lone (Frame.enter C.prog f i.args .normal) [] (w.forCall tape i)))
  (contract:∀(W:World) (base:Nat) (args:Array Value) (ds gs:List (DataW H)) (before:List MemPlace),
   (∀(j:Nat) t v,fn.params[j]?=some t→args[j]?=some v→Value.okWide C.prog W .any base t v) →
   DataW.Whole enc C.prog fn.params.toList s.vars apart W args.toList ds gs before →
   conds.all (PathCond.test C.prog ⟨fn.params.toList,ds,s.plain.varTypes C.prog,gs⟩)=true→X W args→W.ShapedOpen C.prog →
   Calls C.prog f args W fun e W'=>∃ v,e=.returned v∧s.post enc C.prog fn apart fresh handsOn again W args v W') :
  ReturnsInHanded a C os f .any (fun w args=>(s.pre enc C.prog fn conds apart w args∧X w args)∧sizedMet enc C.prog fn (OpenSpec.ofChange s) apart w args) (s.post enc C.prog fn apart fresh handsOn again):=by
 refine returnsInHanded_of_calls own started noInit witness ?_
 intro w tape i _ hsh _ hok hpre _
 obtain⟨_,_,_,fn2,hfn2,_,_,_,_,hval⟩:=hok
 have e:fn2=fn:=Option.some.inj (hfn2.symm.trans hfn)
 subst e
 obtain⟨⟨⟨ds,gs,before,hw,hc⟩,hx⟩,_⟩:=hpre
 have hw2:=DataW.Whole.of_heap (w':=w.forCall tape i) (by rfl) hw
 refine(contract (w.forCall tape i) w.heap.size i.args ds gs before hval hw2 hc (hX _ _ _ (by rfl) hx) hsh).mono fun e W' ⟨v,he,hp⟩=>?_
 subst he
 exact ChangeSpec.post_blind hp
end
end Go.Vc
namespace Go.Proofs.YtgmplfdecikgoaaGreatDoor.topShot
open Go.ChangeShapes Go.WideShapes Go.ChangeAt Go.RowKit Go.Vc
theorem own:ownKnob Tryz.prog.godebug=none:=by kernel_rfl
theorem open0 {H:Type}{enc:TypeId × Value→H}{W:World}{cs:List Value}(L:LeafL Tryz.prog enc W (fun _=>True) (flatIds Tryz.prog 4 44) cs):∃(x0:Int) (x1:Int) (x2:Int) (x3:Int) (x4:Int) (x5:Int) (x6:Int),cs=encE (x0,(x1,x2),(x3,x4),(x5,x6))∧InR x0∧InR x1∧InR x2∧InR x3∧InR x4∧InR x5∧InR x6:=by
 have e:flatIds Tryz.prog 4 44=[3,3,3,3,3,3,3]:=by kernel_rfl
 rw [e] at L
 match cs,L with
 | [v0,v1,v2,v3,v4,v5,v6],L=>
  obtain⟨x0,h0,g0⟩:=leaf_i64 Tryz.underlying3 (L.1)
  cases h0
  obtain⟨x1,h1,g1⟩:=leaf_i64 Tryz.underlying3 (L.2.1)
  cases h1
  obtain⟨x2,h2,g2⟩:=leaf_i64 Tryz.underlying3 (L.2.2.1)
  cases h2
  obtain⟨x3,h3,g3⟩:=leaf_i64 Tryz.underlying3 (L.2.2.2.1)
  cases h3
  obtain⟨x4,h4,g4⟩:=leaf_i64 Tryz.underlying3 (L.2.2.2.2.1)
  cases h4
  obtain⟨x5,h5,g5⟩:=leaf_i64 Tryz.underlying3 (L.2.2.2.2.2.1)
  cases h5
  obtain⟨x6,h6,g6⟩:=leaf_i64 Tryz.underlying3 (L.2.2.2.2.2.2.1)
  cases h6
  exact⟨x0,x1,x2,x3,x4,x5,x6,rfl,g0,g1,g2,g3,g4,g5,g6⟩
theorem open1 {H:Type}{enc:TypeId × Value→H}{W:World}{cs:List Value}(L:LeafL Tryz.prog enc W (fun _=>True) (flatIds Tryz.prog 4 3) cs):∃(x0:Int),cs=encI1 x0∧InR x0:=by
 have e:flatIds Tryz.prog 4 3=[3]:=by kernel_rfl
 rw [e] at L
 match cs,L with
 | [v0],L=>
  obtain⟨x0,h0,g0⟩:=leaf_i64 Tryz.underlying3 (L.1)
  cases h0
  exact⟨x0,rfl,g0⟩
abbrev lay:=Rows.topShotRow.laid
theorem tabs {W:World}(hL:laidMetH Tryz.prog lay W):TabP (hpOf W):=by
 rw [MakeChecks.laidMetH_plain _ _ _ (by kernel_rfl)] at hL
 have h3:laidMet Tryz.prog (("internal/strconv.uint64pow10",Lib.tabData .u64 Lib.pow10Tab) :: lay.drop 3) W:=hL.tail.tail
 have hT:=Lib.tabIs_of_head (g:=4) (n:=20) (by kernel_rfl) (t:=258) (by kernel_rfl) (e:=233) (by kernel_rfl) (by kernel_rfl) (by kernel_rfl) (by kernel_rfl) h3
 intro w hs
 exact var_sub hT hs
theorem star: "*"++ "errors.errorString"= "*errors.errorString":=by decide
theorem rowE (u:TypeId)(h:Tryz.prog.typeName? 3 u=some "*errors.errorString"):u=269:=
 typeName_ptr_named (nm:= "errors.errorString") (by rw [star];kernel_rfl) (by kernel_rfl) (by decide) u (by rw [star];exact h)
theorem errs {W:World}(hL:laidMetH Tryz.prog lay W):TabE (hpOf W):=by
 rw [MakeChecks.laidMetH_plain _ _ _ (by kernel_rfl)] at hL
 have h4:laidMet Tryz.prog (("strconv.ErrRange",_) :: ("strconv.ErrSyntax",_) :: lay.drop 6) W:=hL.tail.tail.tail.tail
 obtain⟨a0,s0,hv0,_⟩:=laid_sentinel (g:=3) (ti:=33) h4 (by kernel_rfl) (by kernel_rfl) Tryz.underlying33 rowE Tryz.underlying269 Tryz.underlying271 rfl rfl Tryz.underlying9 (by kernel_rfl) (by kernel_rfl)
 obtain⟨a1,s1,hv1,_⟩:=laid_sentinel (g:=2) (ti:=33) h4.tail (by kernel_rfl) (by kernel_rfl) Tryz.underlying33 rowE Tryz.underlying269 Tryz.underlying271 rfl rfl Tryz.underlying9 (by kernel_rfl) (by kernel_rfl)
 exact⟨⟨_,_,fun w hs=>vars_sub hv1 hs⟩,⟨_,_,fun w hs=>vars_sub hv0 hs⟩⟩
theorem names {W:World}(hL:laidMetH Tryz.prog lay W):TabQ (hpOf W):=by
 have T:=tabs hL
 have E:=errs hL
 rw [MakeChecks.laidMetH_plain _ _ _ (by kernel_rfl)] at hL
 have h6:laidMet Tryz.prog (("penstock/query.fields",_) :: ("penstock/query.aggs",_) :: lay.drop 8) W:=hL.tail.tail.tail.tail.tail.tail
 exact⟨T,E,laid_texts (texts:=fieldW) (g:=9) (t:=75) (e:=9) h6 (by kernel_rfl) (by kernel_rfl) (by kernel_rfl) (by kernel_rfl) (by kernel_rfl) (by decide),laid_texts (texts:=aggsW) (g:=0) (t:=75) (e:=9) h6.tail (by kernel_rfl) (by kernel_rfl) (by kernel_rfl) (by kernel_rfl) (by kernel_rfl) (by decide)⟩
theorem lens {W:World}(hsh:W.ShapedOpen Tryz.prog):TabM (hpOf W):=by
 obtain⟨m,hm⟩:=Tryz.laysM146.s1_3 W hsh
 exact⟨m,hp_cell hm⟩
theorem door_met (os:Os)(args:Array Value):laidMetH Tryz.prog lay ((World.laidAll Tryz.prog os lay).forCall (fun _ _=>0) ⟨#[],args,[]⟩).memory:=by
 rw [MakeChecks.laidMetH_plain _ _ _ (by kernel_rfl)]
 exact laidMet_laidAll _ (by kernel_rfl) (by kernel_rfl)
set_option maxRecDepth 100000 in
theorem lifted (os:Os)(started:os.Started)(H:Type)(enc:TypeId × Value→H) :
  ReturnsInHanded {} Tryz.checked os 4 .any (fun w args=>(Rows.topShotSpec.pre enc Tryz.prog Tryz.f4 Rows.topShotRow.domain false w args∧laidMetH Tryz.prog lay w)∧sizedMet enc Tryz.prog Tryz.f4 (OpenSpec.ofChange Rows.topShotSpec) false w args) (Rows.topShotSpec.post enc Tryz.prog Tryz.f4 false true false false):=by
 refine handed_sh (C:=Tryz.checked) (X:=fun w _=>laidMetH Tryz.prog lay w) (fun _ _ _ hh h=>h.of_heap hh) own started (by kernel_rfl) Tryz.func4
  (ChangeSpec.witness_shaped (enc:=enc) (C:=Tryz.checked) (os:=os) (X:=fun w _=>laidMetH Tryz.prog lay w) false (World.laidAll Tryz.prog os lay) #[.string ⟨#[]⟩,.slice none 0 0,.slice none 0 0] 8 (World.laidAll_os _ _ _) (World.shaped_of_ZipB (by kernel_rfl) (by kernel_rfl)) (by kernel_rfl) (by kernel_rfl) (by kernel_rfl) (door_met os _)) ?_
 intro W base args ds gs before hval0 hW hcnd hL hsh
 have T:=tabs hL
 have TM:=lens hsh
 have E:=errs hL
 have TQ:=names hL
 have hval:∀(j:Nat) t v,Tryz.f4.params[j]?=some t→args[j]?=some v→Value.okWide Tryz.prog W .any base t v:=hval0
 have hW':=hW
 obtain⟨p,q,hA0,hV,rfl,hfz,hnd⟩:=hW
 have hA:DataW.TrodAll enc Tryz.prog W 0 (fun _=>true) true Tryz.f4.params.toList args.toList ds p:=hA0
 rw [Tryz.params4] at hA hval
 obtain⟨v0,vs0,d0,ds0,p0,q0,hargs,rfl,rfl,h0,r0⟩:=trodAll_cons hA
 obtain⟨v1,vs1,d1,ds1,p1,q1,rfl,rfl,rfl,h1,r1⟩:=trodAll_cons r0
 obtain⟨v2,vs2,d2,ds2,p2,q2,rfl,rfl,rfl,h2,r2⟩:=trodAll_cons r1
 obtain⟨rfl,rfl,rfl⟩:=trodAll_nil r2
 obtain rfl:args=#[v0,v1,v2]:=by cases args;simp_all
 obtain⟨rfl,rfl⟩:=trodVars_none hV
 obtain⟨s0,rfl⟩:=okWide_string Tryz.underlying9 (hval 0 9 v0 rfl rfl)
 obtain⟨b0,e0,_,z0⟩:=leaf_string smTrue Tryz.underlying9 (leafC_of (Sm:=fun _=>True) h0 trivial)
 cases e0
 obtain⟨w1,w2,w3,rfl⟩:=okWide_slice (e:=130) (by kernel_rfl) (hval 1 56 v1 rfl rfl)
 obtain⟨p1,n1,c1,R1,e1,S1,hc1,hm1,_,g1⟩:=leaf_slice (enc:=fun r=>[rowV r]) (sz:=1) (good:=fun r:TRow _=>HasRow (hpOf W) r.1.1 (r.2.flatMap encE)∧r.2.length≤r.1.2∧r.1.2≤maxLen∧∀ y ∈ r.2,True) smTrue (e:=130) (by kernel_rfl) (by kernel_rfl) (by decide) (fun _=>rfl)
  (fun cs L=>by
   obtain⟨a,n,c,l,e,S,hc,hm,_,hg⟩:=leaf_slice (enc:=encE) (sz:=7) (good:=fun y=>True) smTrue (e:=44) (by kernel_rfl) (by kernel_rfl) (by decide) (fun _=>rfl) (fun cs L=>by
    have hf:=leaf_flat smTrue 4 (by kernel_rfl) L
    obtain⟨x0,x1,x2,x3,x4,x5,x6,hy,hg⟩:=open0 hf
    exact⟨(x0,(x1,x2),(x3,x4),(x5,x6)),hy,trivial⟩) L
   cases e
   obtain rfl:=S.1
   exact⟨((a,c),l),rfl,S.2,hc,hm,hg⟩) (leafC_of (Sm:=fun _=>True) h1 trivial)
 cases e1
 obtain⟨w1,w2,w3,rfl⟩:=okWide_slice (e:=3) (by kernel_rfl) (hval 2 48 v2 rfl rfl)
 obtain⟨p2,n2,c2,l2,e2,S2,hc2,hm2,_,g2⟩:=leaf_slice (enc:=encI1) (sz:=1) (good:=fun y=>True) smTrue (e:=3) (by kernel_rfl) (by kernel_rfl) (by decide) (fun _=>rfl)
  (fun cs L=>by
   have hf:=leaf_flat smTrue 4 (by kernel_rfl) L
   obtain⟨x0,hy,hg⟩:=open1 hf
   exact⟨x0,hy,trivial⟩) (leafC_of (Sm:=fun _=>True) h2 trivial)
 cases e2
 refine(calls_law (law_TopShot_ok (s:=s0.data.toList) (tabc_of3 S1 (fun r hr=>⟨(g1 r hr).1,(g1 r hr).2.1⟩)) (SlI.of_slp S2) TQ TM)).mono fun e W' ⟨he,hg⟩=>?_
 subst he
 exact⟨_,rfl,law_post big hW' hg (by kernel_rfl) (tb:=4) (by kernel_rfl) (by kernel_rfl) rfl⟩
theorem over:Rows.topShotRow.holds Tryz.pinned (OpenSpec.ofChange Rows.topShotSpec):=
 OpenClaim.holds_of_wide 4 Tryz.f4 rfl rfl rfl rfl rfl rfl rfl ⟨rfl,rfl,rfl,rfl,rfl⟩ rfl rfl rfl rfl rfl (by kernel_rfl) Tryz.func4 (by kernel_rfl)
  (of_decide_eq_true (by kernel_rfl)) (by unfold Func.isWrapper;first|(rw [if_pos (by decide +kernel)];kernel_rfl)|(rw [if_neg (by decide +kernel)];exact⟨rfl,rfl⟩))
  (fun os started H enc _=>lifted os started H enc)
theorem proved:Rows.TopShotCardSaid:=
 Claim7.holds_tied_plain_at .later [] _ true _ true
  over (fun _ h=>by cases h) (by kernel_rfl) (fun _ h=>by cases h) topShot_row_tie rfl ⟨rfl,rfl⟩ (by kernel_rfl) rfl
  (fun f fn hf hfn=>by
   obtain rfl:f=4:=Option.some.inj ((show Tryz.prog.funcNamed "penstock/penstocktop.TopShot"=some 4 by kernel_rfl).symm.trans hf) |>.symm
   obtain rfl:fn=Tryz.f4:=(Option.some.inj (Tryz.func4.symm.trans hfn)).symm
   exact⟨by kernel_rfl,fun j t ht=>by
    rw [Tryz.params4] at ht
    have hm:t ∈ [9,56,48]:=by simpa using Array.mem_of_getElem? ht
    have hall:([9,56,48].all fun u=>!Tryz.prog.wantsStandIn u)=true:=by kernel_rfl
    exact(show Tryz.prog.wantsStandIn t=false by simpa using List.all_eq_true.1 hall t hm)⟩)
  (by kernel_rfl)
end Go.Proofs.YtgmplfdecikgoaaGreatDoor.topShot
