/-
  Laws and contracts on which the statement's proof stands, part 4. Conditions: those stated at each.
-/
import Derived.RangeFuncNested
import Derived.RangeFuncBound
import Derived.RangeFuncCalls
import Derived.RangeFuncLeaves
import Derived.Shelf.Abstract
import Derived.Shelf.RegionOpen
import Derived.WalkKit
import Derived.OwnWalkIn
import Derived.TacticsInMore
import Derived.LoopNIn
import Derived.LoopIn
import Derived.Lib.SplitLaws
import Derived.Lib.Join
import Derived.Test.YthicpjafcpfjoaaGreatDoorSy3
set_option linter.unusedVariables false
set_option maxRecDepth 100000
namespace Go.Proofs.YthicpjafcpfjoaaGreatDoor
open Go Go.Vc
theorem XB {u0:OaT}{u1 u2:Nat}{u3:OaT}{u4 u5:Nat}{h:Hp}{R:RtT}(H:((decide ((u1:Int)≠(u4:Int)))=true->R (vb false) h)/\((decide ((u1:Int)≠(u4:Int)))=false->∃(I3:LtT) (m4:LmT),I3 [vi 0] h/\∀ vs5 h6,I3 vs5 h6->∃ x7,vs5=[vi x7]/\((decide (x7<(u1:Int)))=true->∃ b10 o11,Ix u0 b10 o11 x7 u1/\∃ x12 x13,Hp.row h6 b10 (o11+x7.toNat*2) 2=some [vi x12,vi x13]/\∃ b14 o15,Ix u3 b14 o15 x7 u4/\∃ x16 x17,Hp.row h6 b14 (o15+x7.toNat*2) 2=some [vi x16,vi x17]/\∃ p18,RdG .neq 54 (.tmp 19) (.tmp 23) (vag [vi x12,vi x13]) (vag [vi x16,vi x17]) h6 (vb p18)/\(p18=true->R (vb false) h6)/\(p18=false->∃ x20,IsW x20 (x7+1)/\I3 [vi x20] h6/\m4 [vi x20] h6<m4 vs5 h6))/\((decide (x7<(u1:Int)))=false->R (vb true) h6))):Qa Pg 170 [vsl u0 u1 u2,vsl u3 u4 u5] h R:=callC ⟨[],[(4,([13],[.one (.int .i64)],[]))],[(6,[0,1,2,3,4,5,6,7,8])]⟩ Tryz.func170 [.one (.v (vsl u0 u1 u2)),.one (.v (vsl u3 u4 u5))] H
theorem Ji {u0:Int}{u1:Int}{u2:Int}{u3:OaT}{u4 u5:Nat}{u6:Bool}{f_0b f_0o:Nat}{f_1b f_1o:Nat}{h:Hp}{R:RtT}(H:∃ x1,Hp.cell h f_0b f_0o=some (vi x1)/\∃ x2 x3,((decide (u0=x1))=true->Hp.row h f_1b f_1o 2=some [vi x2,vi x3])/\∃ p4,((decide (u0=x1))=true->RdG .eql 54 (.tmp 11) (.tmp 12) (vag [vi u1,vi u2]) (vag [vi x2,vi x3]) h (vb p4))/\R (vb (cond (decide (u0=x1)) p4 false)) h):Qa Pg 169 [vag [vi u0,vi u1,vi u2,vsl u3 u4 u5,vb u6],vhp f_0b f_0o,vhp f_1b f_1o] h R:=callO Tryz.func169 [.ag [.v (vi u0),.v (vi u1),.v (vi u2),.v (vsl u3 u4 u5),.v (vb u6)],.one (.hp f_0b f_0o),.one (.hp f_1b f_1o)] H
theorem Gk {u0 u1:Nat}{u2:Int}{u3:Int}{u4:Int}{u5:Int}{u6:Int}{u7:Int}{u8:Int}{h:Hp}{R:RtT}(H:∃ a1 n1 c1,Hp.cell h u0 (u1+2)=some (vsl a1 n1 c1)/\((decide ((n1:Int)=0))=true->Qa Pg 131 [] h fun v2 h3=>∃ x4 x5,v2=vag [vi x4,vi x5]/\R (vag [vi x4,vi x5]) h3)/\((decide ((n1:Int)=0))=false->∃ a7 n7 c7,Hp.cell h u0 (u1+2)=some (vsl a7 n7 c7)/\Qa Pg 109 [vsl a7 n7 c7,vag [vi u2,vi u3,vi u4,vi u5,vi u6,vi u7,vi u8]] h fun v8 h9=>∃ x10 x11,v8=vag [vi x10,vi x11]/\R (vag [vi x10,vi x11]) h9)):Qa Pg 166 [vhp u0 u1,vag [vi u2,vi u3,vi u4,vi u5,vi u6,vi u7,vi u8]] h R:=callC ⟨[],[],[(3,[0,1,2,3,4,5,6,7])]⟩ Tryz.func166 [.one (.hp u0 u1),.ag [.v (vi u2),.v (vi u3),.v (vi u4),.v (vi u5),.v (vi u6),.v (vi u7),.v (vi u8)]] H
theorem Vh {u0 u1:Nat}{u2:Int}{u3:Int}{u4:Int}{u5:Int}{u6:Int}{u7:Int}{u8:Int}{h:Hp}{R:RtT}(H:∃ a1 n1 c1,Hp.cell h u0 u1=some (vsl a1 n1 c1)/\∃(I3:LtT) (m4:LmT),I3 [vsl none 0 0,vi 0] h/\∀ vs5 h6,I3 vs5 h6->∃ a7 n7 c7 x8,vs5=[vsl a7 n7 c7,vi x8]/\((decide (x8<(n1:Int)))=true->let J35:OaT->Nat->Nat->Hp->Prop:=fun a38 n38 c38 h39=>(∃ x40,IsW x40 (x8+1)/\I3 [vsl a38 n38 c38,vi x40] h39/\m4 [vsl a38 n38 c38,vi x40] h39<m4 vs5 h6);∃ b11 o12,Ix a1 b11 o12 x8 n1/\∃ x13 a14 n14 c14,Hp.row h6 b11 (o12+x8.toNat*2) 2=some [vi x13,vsl a14 n14 c14]/\((decide (x13=1))=true->Qa Pg 131 [] h6 fun v15 h16=>∃ x17 x18,v15=vag [vi x17,vi x18]/\∀ b19,h16 b19=none->let h20:=Hp.set h16 b19 (Qb [vi x17,vi x18] 54);Qh Pg (Builtin.append_ #[91,91] 91 #[vsl a7 n7 c7,(vsl (some (⟨b19,0,none⟩:Addr)) 1 1)]) h20 fun v21 h22=>∃ a23 n23 c23,v21=vsl a23 n23 c23/\J35 a23 n23 c23 h22)/\((decide (x13=1))=false->Qa Pg 109 [vsl a14 n14 c14,vag [vi u2,vi u3,vi u4,vi u5,vi u6,vi u7,vi u8]] h6 fun v25 h26=>∃ x27 x28,v25=vag [vi x27,vi x28]/\∀ b29,h26 b29=none->let h30:=Hp.set h26 b29 (Qb [vi x27,vi x28] 54);Qh Pg (Builtin.append_ #[91,91] 91 #[vsl a7 n7 c7,(vsl (some (⟨b29,0,none⟩:Addr)) 1 1)]) h30 fun v31 h32=>∃ a33 n33 c33,v31=vsl a33 n33 c33/\J35 a33 n33 c33 h32))/\((decide (x8<(n1:Int)))=false->R (vsl a7 n7 c7) h6)):Qa Pg 168 [vhp u0 u1,vag [vi u2,vi u3,vi u4,vi u5,vi u6,vi u7,vi u8]] h R:=callC ⟨[],[(3,([5,14],[.one (.slice),.one (.int .i64)],[]))],[]⟩ Tryz.func168 [.one (.hp u0 u1),.ag [.v (vi u2),.v (vi u3),.v (vi u4),.v (vi u5),.v (vi u6),.v (vi u7),.v (vi u8)]] H
theorem Ul {u0 u1:Nat}{u2:Int}{u3:Int}{u4:Int}{u5:Int}{u6:Int}{u7:Int}{u8:Int}{u9:Int}{h:Hp}{R:RtT}(H:∀ b1,h b1=none->let h2:=Hp.set h b1 (Qb [vi u2] 3);Qa Pg 166 [vhp u0 u1,vag [vi u3,vi u4,vi u5,vi u6,vi u7,vi u8,vi u9]] h2 fun v3 h4=>∃ x5 x6,v3=vag [vi x5,vi x6]/\∀ b7,h4 b7=none->let h8:=Hp.set h4 b7 (Qb [vi 0,vi 0] 54);Hp.store h8 b7 0 [vi x5,vi x6] fun h9=>∃ a10 n10 c10,Hp.row h9 u0 (u1+10) 1=some [vsl a10 n10 c10]/\∃ x11,Hp.cell h9 b1 0=some (vi x11)/\∃ x12 x13,Hp.row h9 b7 0 2=some [vi x12,vi x13]/\∃ a14 n14 c14,Hp.cell h9 u0 (u1+7)=some (vsl a14 n14 c14)/\Qa Pg 168 [vhp u0 u1,vag [vi u3,vi u4,vi u5,vi u6,vi u7,vi u8,vi u9]] h9 fun v15 h16=>∃ a17 n17 c17,v15=vsl a17 n17 c17/\Hp.cell h16 u0 (u1+7)=some (vsl a14 n14 c14)/\Hp.row h16 b7 0 2=some [vi x12,vi x13]/\Hp.cell h16 b1 0=some (vi x11)/\Hp.row h16 u0 (u1+10) 1=some [vsl a10 n10 c10]/\Qa Pg 167 [vag [vsl a10 n10 c10],vi x11,vag [vi x12,vi x13],vsl a14 n14 c14,vsl a17 n17 c17] h16 fun v18 h19=>∃ a20 n20 c20 x21 x22 x23 a24 n24 c24 p25 p26,v18=Qe [vag [vsl a20 n20 c20],vag [vi x21,vi x22,vi x23,vsl a24 n24 c24,vb p25],vb p26]/\∀ b27,h19 b27=none->let h28:=Hp.set h19 b27 (Qb [vsl none 0 0] 130);∀ b29,h28 b29=none->let h30:=Hp.set h28 b29 (Qb [vi 0,vi 0,vi 0,vsl none 0 0,vb false] 150);Hp.store h30 b27 0 [vsl a20 n20 c20] fun h31=>Hp.store h31 b29 0 [vi x21,vi x22,vi x23,vsl a24 n24 c24,vb p25] fun h32=>∃ a33 n33 c33,Hp.row h32 b27 0 1=some [vsl a33 n33 c33]/\Hp.store h32 u0 (u1+10) [vsl a33 n33 c33] fun h34=>∃ p35,((!p26)=false->Hp.cell h34 b29 (0+4)=some (vb p35))/\((cond (!p26) true (!p35))=true->R (Qe []) h34)/\((cond (!p26) true (!p35))=false->∃ x37 x38 x39 a40 n40 c40 p41,Hp.row h34 b29 0 5=some [vi x37,vi x38,vi x39,vsl a40 n40 c40,vb p41]/\Qa Pg 81 [vag [vi x37,vi x38,vi x39,vsl a40 n40 c40,vb p41]] h34 fun v42 h43=>∃ x44 x45 x46 a47 n47 c47,v42=vag [vi x44,vi x45,vi x46,vsl a47 n47 c47]/\∃ a48 n48 c48,Hp.cell h43 b27 0=some (vsl a48 n48 c48)/\Qa Pg 74 [vsl a48 n48 c48,(Value.func (.func 169) #[] #[vhp b1 0,vhp b7 0])] h43 fun v49 h50=>∃ x51,v49=vi x51/\∃ a52 n52 c52,Hp.cell h50 b27 0=some (vsl a52 n52 c52)/\∃ b53 o54,Ix a52 b53 o54 x51 n52/\∃ x55 x56 x57 a58 n58 c58 p59,Hp.row h50 b53 (o54+x51.toNat*5) 5=some [vi x55,vi x56,vi x57,vsl a58 n58 c58,vb p59]/\Qa Pg 81 [vag [vi x55,vi x56,vi x57,vsl a58 n58 c58,vb p59]] h50 fun v60 h61=>∃ x62 x63 x64 a65 n65 c65,v60=vag [vi x62,vi x63,vi x64,vsl a65 n65 c65]/\Qa Pg 170 [vsl a47 n47 c47,vsl a65 n65 c65] h61 fun v66 h67=>∃ p68,v66=vb p68/\((!p68)=true->∃ a69 n69 c69,Hp.cell h67 u0 (u1+12)=some (vsl a69 n69 c69)/\∀ b70,h67 b70=none->let h71:=Hp.set h67 b70 (Qb [vb true,vi x44,vi x45,vi x46,vsl a47 n47 c47,vb false,vi x62,vi x63,vi x64,vsl a65 n65 c65] 95);Qh Pg (Builtin.append_ #[48,48] 48 #[vsl a69 n69 c69,(vsl (some (⟨b70,0,none⟩:Addr)) 2 2)]) h71 fun v72 h73=>∃ a74 n74 c74,v72=vsl a74 n74 c74/\Hp.store h73 u0 (u1+12) [vsl a74 n74 c74] fun h75=>R (Qe []) h75)/\((!p68)=false->R (Qe []) h67))):Qa Pg 111 [vhp u0 u1,vi u2,vag [vi u3,vi u4,vi u5,vi u6,vi u7,vi u8,vi u9]] h R:=callC ⟨[8,7,4,6],[],[(2,[0,1,2,3,4,5,6,7,8,9,10,11,12,13,14,15,16,17,18,19,20,21,22]),(9,[0,1,2,3,4,5,6,7,8,9,10,11,12,13])]⟩ Tryz.func111 [.one (.hp u0 u1),.one (.v (vi u2)),.ag [.v (vi u3),.v (vi u4),.v (vi u5),.v (vi u6),.v (vi u7),.v (vi u8),.v (vi u9)]] H
theorem Vi {u0 u1:Nat}{u2:Int}{u3:Int}{u4:Int}{u5:Int}{u6:Int}{u7:Int}{u8:Int}{u9:Int}{h:Hp}{R:RtT}(H:∃ a1 n1 c1,Hp.row h u0 (u1+9) 1=some [vsl a1 n1 c1]/\∃ x2,Hp.cell h u0 (u1+5)=some (vi x2)/\Qa Pg 108 [vag [vsl a1 n1 c1],vi u2,vi x2] h fun v3 h4=>∃ x5 p6,v3=Qe [vi x5,vb p6]/\∃ a7 n7 c7,Hp.cell h4 u0 (u1+1)=some (vsl a7 n7 c7)/\∃ a8 n8 c8,((decide ((n7:Int)=0))=false->Hp.cell h4 u0 (u1+1)=some (vsl a8 n8 c8))/\∃(J9:ShT),((decide ((n7:Int)=0))=false->Qa Pg 109 [vsl a8 n8 c8,vag [vi u3,vi u4,vi u5,vi u6,vi u7,vi u8,vi u9]] h4 fun v10 h11=>∃ x12 x13,v10=vag [vi x12,vi x13]/\J9 (.t (.ag [.v (vi x12),.v (vi x13)])) h11)/\(¬((decide ((n7:Int)=0))=false)->J9 (.t (.ag [.v (vi 0),.v (vi 0)])) h4)/\∀ h14 x15 x16,J9 (.t (.ag [.v (vi x15),.v (vi x16)])) h14->∃(J17:ShT),((decide ((n7:Int)=0))=false->Qa Pg 110 [vb true] h14 fun v18 h19=>∃ x20 x21,v18=vag [vi x20,vi x21]/\J17 (.t (.ag [.v (vi x20),.v (vi x21)])) h19)/\(¬((decide ((n7:Int)=0))=false)->J17 (.t (.ag [.v (vi 0),.v (vi 0)])) h14)/\∀ h22 x23 x24,J17 (.t (.ag [.v (vi x23),.v (vi x24)])) h22->∃ p25,((decide ((n7:Int)=0))=false->RdG .eql 54 (.tmp 44) (.tmp 45) (vag [vi x15,vi x16]) (vag [vi x23,vi x24]) h22 (vb p25))/\let J58:HpT:=fun h59=>(∃ a60 n60 c60,Hp.cell h59 u0 (u1+8)=some (vsl a60 n60 c60)/\∃ b61 o62,Ix a60 b61 o62 u2 n60/\∃ x63,Hp.cell h59 b61 (o62+u2.toNat*1)=some (vi x63)/\∃ x64,IsW x64 (x63+1)/\∃ b65 o66,Ix a60 b65 o66 u2 n60/\Hp.store h59 b65 (o66+u2.toNat*1) [vi x64] fun h67=>∃ a68 n68 c68,Hp.row h67 u0 (u1+9) 1=some [vsl a68 n68 c68]/\Qa Pg 112 [vag [vsl a68 n68 c68],vi u2,vi u3] h67 fun v69 h70=>∃ a71 n71 c71,v69=vag [vsl a71 n71 c71]/\Hp.store h70 u0 (u1+9) [vsl a71 n71 c71] fun h72=>∃ a73 n73 c73,Hp.row h72 u0 (u1+9) 1=some [vsl a73 n73 c73]/\∃ x74,Hp.cell h72 u0 (u1+5)=some (vi x74)/\Qa Pg 62 [vag [vsl a73 n73 c73],vi x74] h72 fun v75 h76=>∃ x77 p78,v75=Qe [vi x77,vb p78]/\((!p78)=true->R (Qe []) h76)/\((!p78)=false->∃ a80 n80 c80,Hp.row h76 u0 (u1+10) 1=some [vsl a80 n80 c80]/\∃ x81,Hp.cell h76 u0 (u1+3)=some (vi x81)/\Qa Pg 113 [vag [vsl a80 n80 c80],vi x81,vi x77] h76 fun v82 h83=>∃ a84 n84 c84 a85 n85 c85,v82=Qe [vag [vsl a84 n84 c84],vsl a85 n85 c85]/\∃(I87:LtT) (m88:LmT),I87 [vi 0] h83/\∀ vs89 h90,I87 vs89 h90->∃ x91,vs89=[vi x91]/\((decide (x91<(n85:Int)))=true->∃ b94 o95,Ix a85 b94 o95 x91 n85/\∃ x96 x97 x98 a99 n99 c99 p100,Hp.row h90 b94 (o95+x91.toNat*5) 5=some [vi x96,vi x97,vi x98,vsl a99 n99 c99,vb p100]/\∃ a101 n101 c101,Hp.cell h90 u0 (u1+12)=some (vsl a101 n101 c101)/\Qa Pg 81 [vag [vi x96,vi x97,vi x98,vsl a99 n99 c99,vb p100]] h90 fun v102 h103=>∃ x104 x105 x106 a107 n107 c107,v102=vag [vi x104,vi x105,vi x106,vsl a107 n107 c107]/\Hp.cell h103 u0 (u1+12)=some (vsl a101 n101 c101)/\∀ b108,h103 b108=none->let h109:=Hp.set h103 b108 (Qb [vb false,vi x104,vi x105,vi x106,vsl a107 n107 c107] 95);Qh Pg (Builtin.append_ #[48,48] 48 #[vsl a101 n101 c101,(vsl (some (⟨b108,0,none⟩:Addr)) 1 1)]) h109 fun v110 h111=>∃ a112 n112 c112,v110=vsl a112 n112 c112/\Hp.store h111 u0 (u1+12) [vsl a112 n112 c112] fun h113=>∃ x115,IsW x115 (x91+1)/\I87 [vi x115] h113/\m88 [vi x115] h113<m88 vs89 h90)/\((decide (x91<(n85:Int)))=false->∃ x116,Hp.cell h90 u0 (u1+3)=some (vi x116)/\∃ x117,Hp.cell h90 u0 (u1+6)=some (vi x117)/\∃ x118,IsW x118 (x77-x117)/\Qa Pg 114 [vag [vsl a84 n84 c84],vi x116,vi x118] h90 fun v119 h120=>∃ a121 n121 c121,v119=vag [vsl a121 n121 c121]/\Hp.store h120 u0 (u1+10) [vsl a121 n121 c121] fun h122=>R (Qe []) h122)));((cond (decide ((n7:Int)=0)) true p25)=true->∃ x26,Hp.cell h22 u0 (u1+3)=some (vi x26)/\∃ x27,Hp.cell h22 u0 (u1+4)=some (vi x27)/\Qa Pg 71 [vi u3,vi x26,vi x27] h22 fun v28 h29=>∃ a30 n30 c30,v28=vsl a30 n30 c30/\∃(I32:LtT) (m33:LmT),I32 [vi 0] h29/\∀ vs34 h35,I32 vs34 h35->∃ x36,vs34=[vi x36]/\((decide (x36<(n30:Int)))=true->let J54:HpT:=fun h55=>(∃ x56,IsW x56 (x36+1)/\I32 [vi x56] h55/\m33 [vi x56] h55<m33 vs34 h35);∃ b39 o40,Ix a30 b39 o40 x36 n30/\∃ x41,Hp.cell h35 b39 (o40+x36.toNat*1)=some (vi x41)/\∃ x42,(p6=true->Hp.cell h35 u0 (u1+3)=some (vi x42))/\∃ x43,(p6=true->IsW x43 (x41+x42))/\∃ x44,(p6=true->Hp.cell h35 u0 (u1+6)=some (vi x44))/\∃ x45,(p6=true->IsW x45 (x43+x44))/\((cond p6 (decide (x45<=x5)) false)=true->∃ x46,Hp.cell h35 u0 (u1+11)=some (vi x46)/\∃ x47,IsW x47 (x46+1)/\Hp.store h35 u0 (u1+11) [vi x47] fun h48=>J54 h48)/\((cond p6 (decide (x45<=x5)) false)=false->Qa Pg 111 [vhp u0 u1,vi x41,vag [vi u3,vi u4,vi u5,vi u6,vi u7,vi u8,vi u9]] h35 fun v51 h52=>v51=Qe []/\J54 h52))/\((decide (x36<(n30:Int)))=false->J58 h35))/\((cond (decide ((n7:Int)=0)) true p25)=false->J58 h22)):Qa Pg 55 [vhp u0 u1,vi u2,vag [vi u3,vi u4,vi u5,vi u6,vi u7,vi u8,vi u9]] h R:=callC ⟨[],[(4,([62],[.one (.int .i64)],[])),(16,([147],[.one (.int .i64)],[]))],[(1,[0,1,2,3,4,5,6,7,8,9,10,11,12,13,14,15]),(2,[0,1,2,3,4,5,6,7,8,9,10,11,12,13,14,15,16,17]),(3,[0,1,2,3,4,5,6,7,8,9,10,11,14,12,13]),(6,[0,1,2,3,4,5,6,7,8,9,10,11,12,13,14,15,16,17]),(11,[0,1,2,3,4,5,6,7,8,9,10,11]),(12,[0,1,2,3,4,5,6,7,8,9,10,11,12,13,14]),(14,[0,1,2,3,4,5,6,7,8,9,10,11,12,13,14,15,16]),(18,[0,1,2,3,4,5,6,7,8,9,10,11,12]),(20,[0,1,2,3,4,5,6,7,8,9,10,11,12,13,14,15,16,17])]⟩ Tryz.func55 [.one (.hp u0 u1),.one (.v (vi u2)),.ag [.v (vi u3),.v (vi u4),.v (vi u5),.v (vi u6),.v (vi u7),.v (vi u8),.v (vi u9)]] H
theorem Qfl {u0:OaT}{u1 u2:Nat}{u3:OaT}{u4 u5:Nat}{u6:OaT}{u7 u8:Nat}{u9:Int}{u10:Int}{u11:Int}{u12:Int}{u13:Int}{h:Hp}{R:RtT}(H:Qa Pg 89 [vag [vsl u0 u1 u2,vsl u3 u4 u5,vsl u6 u7 u8,vi u9,vi u10,vi u11,vi u12]] h fun v1 h2=>∃ e3,v1=ifv e3/\((Option.isSome e3)=true->R (Qe [vp none,ifv e3]) h2)/\((Option.isSome e3)=false->Qa Pg 124 [vi u13] h2 fun v5 h6=>∃ a7 n7 c7 e8,v5=Qe [vag [vsl a7 n7 c7],ifv e8]/\((Option.isSome e8)=true->R (Qe [vp none,ifv e8]) h6)/\((Option.isSome e8)=false->Qh Pg (Instr.makeSlice 46 (vi u13) (vi u13)) h6 fun v10 h11=>∃ a12 n12 c12,v10=vsl a12 n12 c12/\∀ b13,h11 b13=none->let h14:=Hp.set h11 b13 (Qb [vsl u0 u1 u2,vsl u3 u4 u5,vsl u6 u7 u8,vi u9,vi u10,vi u11,vi u12,vsl none 0 0,vsl a12 n12 c12,vsl a7 n7 c7,vsl none 0 0,vi 0,vsl none 0 0] 132);Hp.store h14 b13 0 [vsl none 0 0] fun h15=>∃(I17:LtT) (m18:LmT),I17 [vi 0] h15/\∀ vs19 h20,I17 vs19 h20->∃ x21,vs19=[vi x21]/\((decide (x21<(u1:Int)))=true->∃ b24 o25,Ix u0 b24 o25 x21 u1/\∃ x26 a27 n27 c27,Hp.row h20 b24 (o25+x21.toNat*2) 2=some [vi x26,vsl a27 n27 c27]/\let J33:OaT->Nat->Nat->Hp->Prop:=fun a38 n38 c38 h39=>(∃ a40 n40 c40,Hp.cell h39 b13 0=some (vsl a40 n40 c40)/\∀ b41,h39 b41=none->let h42:=Hp.set h39 b41 (Qb [vi x26,vsl a38 n38 c38] 153);Qh Pg (Builtin.append_ #[27,27] 27 #[vsl a40 n40 c40,(vsl (some (⟨b41,0,none⟩:Addr)) 1 1)]) h42 fun v43 h44=>∃ a45 n45 c45,v43=vsl a45 n45 c45/\Hp.store h44 b13 0 [vsl a45 n45 c45] fun h46=>∃ a47 n47 c47,Hp.cell h46 b13 (0+7)=some (vsl a47 n47 c47)/\∀ b48,h46 b48=none->let h49:=Hp.set h46 b48 (Qb [vi x26] 3);Qh Pg (Builtin.append_ #[46,46] 46 #[vsl a47 n47 c47,(vsl (some (⟨b48,0,none⟩:Addr)) 1 1)]) h49 fun v50 h51=>∃ a52 n52 c52,v50=vsl a52 n52 c52/\Hp.store h51 b13 (0+7) [vsl a52 n52 c52] fun h53=>∃ x55,IsW x55 (x21+1)/\I17 [vi x55] h53/\m18 [vi x55] h53<m18 vs19 h20);((decide (x26≠1))=true->Qa Pg 125 [vsl a27 n27 c27] h20 fun v28 h29=>∃ a30 n30 c30,v28=vsl a30 n30 c30/\J33 a30 n30 c30 h29)/\((decide (x26≠1))=false->J33 a27 n27 c27 h20))/\((decide (x21<(u1:Int)))=false->let J62:HpT:=fun h63=>(let J70:HpT:=fun h71=>R (Qe [vhp b13 0,ifv none]) h71;((decide ((u7:Int)>0))=true->Qa Pg 125 [vsl u6 u7 u8] h63 fun v64 h65=>∃ a66 n66 c66,v64=vsl a66 n66 c66/\Hp.store h65 b13 (0+2) [vsl a66 n66 c66] fun h67=>J70 h67)/\((decide ((u7:Int)>0))=false->J70 h63));((decide ((u4:Int)>0))=true->Qa Pg 125 [vsl u3 u4 u5] h20 fun v56 h57=>∃ a58 n58 c58,v56=vsl a58 n58 c58/\Hp.store h57 b13 (0+1) [vsl a58 n58 c58] fun h59=>J62 h59)/\((decide ((u4:Int)>0))=false->J62 h20))))):Qa Pg 59 [vag [vsl u0 u1 u2,vsl u3 u4 u5,vsl u6 u7 u8,vi u9,vi u10,vi u11,vi u12],vi u13] h R:=callC ⟨[29],[(10,([37],[.one (.int .i64)],[]))],[(7,[0,1,3,2,4,5,6]),(14,[0,1,2,3,4,5,6,7,8,9,10,11,12]),(15,[0,1,2,3,4,5,6,7,8,9,10,11])]⟩ Tryz.func59 [.ag [.v (vsl u0 u1 u2),.v (vsl u3 u4 u5),.v (vsl u6 u7 u8),.v (vi u9),.v (vi u10),.v (vi u11),.v (vi u12)],.one (.v (vi u13))] H
theorem Qkm {h:Hp}{b:Nat}{xs ys:List Value}{t:TypeId}(hl:ys.length=xs.length){K:HpT}(hK:K (h.set b (Qb ys t))):Hp.store (h.set b (Qb xs t)) b 0 ys K:=by
 refine⟨xs.toArray,t,Hp.set_same _ _ _,by simp [hl],?_⟩
 rw [Hp.set_set];have e:QJ xs.toArray.toList 0 ys=ys:=by
  unfold QJ;rw [kA,dC,List.toList_toArray,dY,gL (by omega),d8]
 rw [e];exact hK
section
variable {hi h:Hp}{g:Nat}{cs:List Value}{ar:OaT}{cr:Nat}{rd:List Nat}{aw:OaT}{wn cw:Nat}{ws:List Value}{R':RtT}
theorem Yr.frame (M:Yr hi h g cs ar cr rd aw wn cw ws){f:FuncId}{args:List Value}(H:Qa Pg f args hi fun v hk=>∀ h2,hk.le h2->Yr hk h2 g cs ar cr rd aw wn cw ws->R' v h2):Qa Pg f args h R':=by
 intro w hs;refine(Qa.frame M.le0 H w hs).mono ?_
 rintro e w' ⟨v,h2,rfl,s2,F,h1,l1,kp,k⟩;refine⟨v,h2,rfl,s2,F,k h2 l1 ⟨(kp g _ M.blk M.gn).1,(kp g _ M.blk M.gn).2,Qg.apart ⟨l1,?_,?_⟩ l1 (fun b o hb ho=>ho),Qg.apart ⟨l1,?_,?_⟩ l1 (fun b o hb ho=>ho),M.rg,M.wg,M.rw_⟩⟩
 ·exact M.r.own.keep fun b o hb ho=>(kp b o ho (M.r.new b hb)).1
 ·intro b hb;cases hq:h b with
  | none=>exact absurd hq (Qdt M.r hb)
  | some o=>exact(kp b o hq (M.r.new b hb)).2
 ·exact M.w.own.keep fun b o hb ho=>(kp b o ho (M.w.new b hb)).1
 ·intro b hb;cases hq:h b with
  | none=>exact absurd hq (Qdt M.w hb)
  | some o=>exact(kp b o hq (M.w.new b hb)).2
theorem Yr.putK (M:Yr hi h g cs ar cr rd aw wn cw ws){j:Nat}{v:Value}(hj:j<cs.length){K:HpT}(hK:∀ h',Yr hi h' g (cs.set j v) ar cr rd aw wn cw ws->(∀ b o,b≠g->h b=some o->h' b=some o)->K h'):h.store g j [v] K:=by
 refine QR M.blk (by simp only [fG];omega) ?_
 have e:=Kf cs j v hj;refine hK _ ?_ fun b o hb ho=>(Hp.set_other h _ hb).trans ho
 have key:∀ K2:HpT,(∀ h',Yr hi h' g (cs.set j v) ar cr rd aw wn cw ws->h'=h.set g (Qb (cs.set j v) 132)->K2 h')->K2 (h.set g (Qb (cs.set j v) 132)):=by
  intro K2 hk;obtain⟨c,e0,q1,q2,q3⟩:=M.put hj (K:=fun h'=>Yr hi h' g (cs.set j v) ar cr rd aw wn cw ws) fun h' m=>m
  rw [M.blk] at q1;cases q1;refine hk _ ?_ rfl
  have:QJ (cs.toArray).toList j [v]=cs.set j v:=by rw [List.toList_toArray,e]
  rw [this] at q3;exact q3
 rw [e];exact key _ fun h' m _=>m
theorem Yr.pair (M:Yr hi h g cs ar cr rd aw wn cw ws){b b2:Nat}{xs xs' ys ys':List Value}{t t2:TypeId}(hb:h b=none)(hb2:(h.set b (Qb xs t)) b2=none)(h1:xs'.length=xs.length)(h2:ys'.length=ys.length){K:HpT}
  (hK:∀ h',Yr hi h' g cs ar cr rd aw wn cw ws->h' b=some (Qb xs' t)->h' b2=some (Qb ys' t2)->b≠g->b2≠g->K h'):Hp.store ((h.set b (Qb xs t)).set b2 (Qb ys t2)) b 0 xs' fun h31=>Hp.store h31 b2 0 ys' K:=by
 have hne:b2≠b:=fun q=>by subst q;rw [Hp.set_same] at hb2;cases hb2
 have hb2h:h b2=none:=by rw [<-Hp.set_other h (Qb xs t) hne];exact hb2
 have sl:∀(l vs:List Value),vs.length=l.length->QJ l 0 vs=vs:=fun l vs hl=>by
  unfold QJ;rw [kA,dC,dY,gL (by omega),d8]
 refine QR (l:=xs) (t:=t) (by rw [Hp.set_other _ _ hne.symm,Hp.set_same]) (by omega) ?_
 rw [sl xs xs' h1];refine QR (l:=ys) (t:=t2) (by rw [Hp.set_other _ _ hne,Hp.set_same]) (by omega) ?_
 rw [sl ys ys' h2];refine hK _ (M.le fun x o ho=>?_) (by rw [Hp.set_other _ _ hne.symm,Hp.set_same]) (Hp.set_same _ _ _) (fun q=>by rw [q,M.blk] at hb;cases hb) (fun q=>by rw [q,M.blk] at hb2h;cases hb2h)
 have n1:x≠b:=fun q=>by rw [q,hb] at ho;cases ho
 have n2:x≠b2:=fun q=>by rw [q,hb2h] at ho;cases ho
 rw [Hp.set_other _ _ n2,Hp.set_other _ _ n1,Hp.set_other _ _ n2,Hp.set_other _ _ n1];exact ho
end
section
variable {h:Hp}{R':RtT}
theorem Qex {l m:List Vl}{a b:OaT}{c d:Nat}(S:SlP Qq h a l.length l)(S2:SlP Qq h b m.length m)(hn:l.length<=1000000)(hK:R' (vb (decide (l=m))) h):Qa Pg 170 [vsl a l.length c,vsl b m.length d] h R':=by
 refine XB ?_
 refine⟨fun e=>?_,fun e=>?_⟩
 ·have hne:l≠m:=by intro q;subst q;exact bC e rfl
  rw [cE hne] at hK;exact hK
 ·have hlen:l.length=m.length:=by have:=bB e;omega
  refine⟨fun vs hh=>hh=h/\∃ i:Nat,vs=[vi i]/\i<=l.length/\l.take i=m.take i,fun vs hh=>l.length-(Qm vs 0).toNat,⟨rfl,0,rfl,cH _,rfl⟩,?_⟩
  rintro vs hh ⟨rfl,i,rfl,hi,ht⟩;refine⟨i,rfl,fun e=>?_,fun e=>?_⟩
  ·have hlt:i<l.length:=by have:=bC e;omega
   have hx:l[i]?=some l[i]:=bD hlt
   have hy:m[i]?=some (m[i]'(by omega)):=bD (by omega)
   obtain⟨b1,o1,e1,r1⟩:=S.get (sz:=2) (fun _=>rfl) (by decide) hx
   obtain⟨b2,o2,e2,r2⟩:=S2.get (sz:=2) (fun _=>rfl) (by decide) hy
   have tk:l.take (i+1)=l.take i++[l[i]]:=bJ hlt;have tm:m.take (i+1)=m.take i++[m[i]'(by omega)]:=bJ (by omega)
   refine⟨b1,o1,⟨e1,by omega,by omega⟩,_,_,by rw [bG];exact r1,b2,o2,⟨e2,by omega,by omega⟩,_,_,(show Hp.row hh b2 (o2+((i:Nat):Int).toNat*2) 2=some (Qq (m[i]'(by omega))) by rw [bG];exact r2),!decide (l[i]=m[i]'(by omega)),QcT,fun e3=>?_,fun e3=>?_⟩
   ·have hne:l≠m:=by
     intro q;have h1:l[i]?=m[i]?:=by rw [q]
     rw [hx,hy] at h1;have h2:=dL h1;rw [cC h2] at e3;cases e3
    rw [cE hne] at hK;exact hK
   ·have h2:l[i]=m[i]'(by omega):=by simpa using e3
    refine⟨_,iW,⟨rfl,i+1,rfl,by omega,?_⟩,by simp [Qm];omega⟩
    rw [tk,tm,ht,h2]
  ·have hge:i=l.length:=by have:=bB e;omega
   have heq:l=m:=by rw [hge,dR,hlen,dR] at ht;exact ht
   rw [cC heq] at hK;exact hK
end
section
variable {q qf:Qy}{hi h:Hp}{g:Nat}{a1:OaT}{n1 c1:Nat}{a2:OaT}{n2 c2:Nat}{a3:OaT}{n3 c3:Nat}{ak:OaT}{nk ck:Nat}{ar:OaT}{nr cr:Nat}{ac:OaT}{nc cc:Nat}{tb:OaT}{tn tc late:Nat}{aw:OaT}{wn cw:Nat}{R:List PR}{RW:List (XA Vl (Bool × PK))}{rd:List Nat}{ws:List Value}{st:En}{e:EvL}{R':RtT}
theorem Qfz (M:Yr hi h g (Kg a1 n1 c1 a2 n2 c2 a3 n3 c3 qf ak nk ck ar nr cr ac nc cc tb tn tc late aw wn cw) ar cr rd aw wn cw ws)(I:QjN q qf hi a1 n1 a2 n2 a3 n3 ak nk ac nc tb R RW st)(B:QOk q)(E:YM e)(hK:∀ h',h.le h'->R' (vag (Qq (Zr q e))) h'):Qa Pg 166 [vhp g 0,vag (Xo e)] h R':=by
 refine Gk ?_
 have hn:=I.qa.b.1;unfold Zr at hK;refine⟨_,_,_,Qc M.blk rfl,fun e1=>Zy ⟨_,_,rfl,?_⟩,fun e1=>⟨_,_,_,Qc M.blk rfl,?_⟩⟩
 ·have e1:=bC e1;have hb:qf.by_=[]:=fX.1 (by omega)
  have:=hK h (Hp.le_refl h);rw [bH (I.f.bn.1 hb)] at this;exact this
 ·have e1:=bB e1;have hb:qf.by_≠[]:=fun e2=>e1 (by rw [hn,e2];rfl)
  have hbq:q.by_≠[]:=fun q'=>hb (I.f.bn.2 q')
  have Rp:=I.f.b1 hbq;have hlq:=(Yb (B.b hbq)).2;refine QdQ Rp.ok (by have:=Rp.len;omega) (I.qa.b.le M.le0) fun h' l'=>⟨_,_,rfl,?_⟩
  have:=hK h' l';rw [bE hbq,<-Rp.val e E] at this;exact this
theorem Qee (M:Yr hi h g (Kg a1 n1 c1 a2 n2 c2 a3 n3 c3 qf ak nk ck ar nr cr ac nc cc tb tn tc late aw wn cw) ar cr rd aw wn cw ws)(I:QjN q qf hi a1 n1 a2 n2 a3 n3 ak nk ac nc tb R RW st)(B:QOk q)(E:YM e)(hK:∀ a c h',Qif h h' a c (Qn q e)->R' (vsl a (Qn q e).length c) h'):Qa Pg 168 [vhp g 0,vag (Xo e)] h R':=by
 refine Vh ?_
 have hn:=I.qa.g.len;have han:=I.f.an;have hn4:=B.n2;have hvl:(Qn q e).length=q.aggs.length:=by unfold Qn;rw [bU]
 refine⟨_,_,_,Qc M.blk rfl,fun vs hh=>∃(i:Nat) (a:OaT) (c:Nat),vs=[vsl a ((Qn q e).take i).length c,vi i]/\i<=q.aggs.length/\Qif h hh a c ((Qn q e).take i),fun vs hh=>q.aggs.length-(Qm vs 1).toNat,⟨0,none,0,rfl,cH _,Qg.nil (Hp.le_refl h) _ _⟩,?_⟩
 rintro vs hh ⟨i,a,c,rfl,hi',V⟩;refine⟨a,_,c,_,rfl,fun e1=>?_,fun e1=>?_⟩
 ·have hlt:i<q.aggs.length:=by have:=bC e1;omega
  have hx:q.aggs[i]?=some q.aggs[i]:=bD hlt
  have hxf:qf.aggs[i]?=some (qf.aggs[i]'(by omega)):=bD (by omega)
  obtain⟨k1,k2,k3⟩:=I.f.ag i _ _ hx hxf;obtain⟨b,o,a',c',ha,hrow,hS⟩:=(I.qa.g.le (Hp.le_trans M.le0 V.le0)).row XX (by decide) hxf
  have hvi:(Qn q e)[i]'(by omega)=if (q.aggs[i]).1=1 then(0,0) else ZG e (q.aggs[i]).2:=by unfold Qn;rw [jH]
  have tk:(Qn q e).take (i+1)=(Qn q e).take i++[(Qn q e)[i]'(by omega)]:=bJ (by omega)
  have hal:((Qn q e).take i).length=i:=by rw [bV];omega
  have hg:=B.g _ (cM hlt);intro J35;have hJ:∀(v:Vl) (h41:Hp),hh.le h41->v=(Qn q e)[i]'(by omega)->∀ b19,h41 b19=none->Qh Pg (Builtin.append_ #[91,91] 91 #[vsl a ((Qn q e).take i).length c,vsl (some ⟨b19,0,none⟩) 1 1]) (h41.set b19 (Qb [vi v.1,vi v.2] 54)) fun v21 h22=>∃ a23 n23 c23,v21=vsl a23 n23 c23/\J35 a23 n23 c23 h22:=by
   intro v h41 l41 hv b19 hb19;refine Vec.app ND Ys QkW (V.keep0 l41) (by rw [hal];omega) (by rw [hal];omega) (x:=v) hb19 fun a2' c2' h' V'=>⟨_,_,_,rfl,_,iW,⟨i+1,a2',c2',?_,by omega,?_⟩,by simp [Qm];omega⟩
   ·rw [tk,<-hv];rfl
   ·rw [tk,<-hv];exact V'
  clear_value J35;refine⟨b,o,⟨ha,by omega,by omega⟩,_,_,_,_,by rw [bG];exact hrow,fun e2=>?_,fun e2=>?_⟩
  ·have e2:=bC e2;refine Zy ⟨_,_,rfl,?_⟩
   intro b19 hb19 h20;exact hJ (0,0) hh (Hp.le_refl hh) (by rw [hvi,bH (k1.symm.trans e2)]) b19 hb19
  ·have e2:=bB e2;have hne:(q.aggs[i]).1≠1:=fun q'=>e2 (k1.trans q')
   have Rp:=k3 hne;have hlq:=(Yb (hg.2.2.1 hne)).2;refine QdQ Rp.ok (by have:=Rp.len;omega) hS fun h26 l26=>⟨_,_,rfl,?_⟩
   intro b29 hb29 h30;exact hJ (ZG e (qf.aggs[i]'(by omega)).2) h26 l26 (by rw [hvi,bE hne];exact Rp.val e E) b29 hb29
 ·have hge:i=q.aggs.length:=by have:=bB e1;omega
  rw [cQ (by omega)] at V ⊢
  exact hK a c hh V
end
theorem Qa6 {r:PR}{K:PK}{b1 b2:Nat}{h:Hp}{R':RtT}(h1:h.cell b1 0=some (vi K.1))(h2:h.row b2 0 2=some (Qq K.2))(hK:R' (vb (decide (r.k=K))) h):Qa Pg 169 [vag (Ql r),vhp b1 0,vhp b2 0] h R':=by
 refine Ji ?_
 refine⟨_,h1,_,_,fun _=>h2,decide (r.k.2=K.2),fun _=>XI,?_⟩
 have e:(bif (decide ((r.k.1:Int)=K.1)) then(decide (r.k.2=K.2)) else false)=decide (r.k=K):=by rw [ZP];exact d9.2 (Prod.ext_iff).symm
 show R' (vb (bif (decide ((r.k.1:Int)=K.1)) then(decide (r.k.2=K.2)) else false)) h;rw [e];exact hK
theorem QnR {R:List PR}(hs:(R.map (·.k)).Pairwise Qr){i j:Nat}{x y:PR}(hx:R[i]?=some x)(hy:R[j]?=some y)(e:x.k=y.k):i=j:=by
 obtain⟨hi,ex⟩:=bI.1 hx
 obtain⟨hj,ey⟩:=bI.1 hy
 rcases Nat.lt_trichotomy i j with q|q|q
 ·have:=f6.1 hs i j (by simpa using hi) (by simpa using hj) q
  simp only [jH,ex,ey,e] at this;exact absurd this (YB _)
 ·exact q
 ·have:=f6.1 hs j i (by simpa using hj) (by simpa using hi) q
  simp only [jH,ex,ey,e] at this;exact absurd this (YB _)
theorem Qk0 {ks:List Int}{k:PK}{v:List Vl}{p:Pn}(h:¬(p.t=true/\Yx ks p.rs≠Yx ks (p.rs++[v]))):MN ks k v (some p)=[]:=bE h
theorem QoJ {ks:List Int}{k:PK}{v:List Vl}{p:Pn}(h:p.t=true/\Yx ks p.rs≠Yx ks (p.rs++[v])):MN ks k v (some p)=[(true,k,Yx ks p.rs),(false,k,Yx ks (p.rs++[v]))]:=bH h
theorem Qc1 {h:Hp}{K':RtT}{a:OaT}{R:List PR}{c n:Nat}(hl:n=R.length){fv:Value}{p:PR->Bool}(S:SlP Ql h a R.length R)(hn:R.length<=1000000)(hf:∀ r ∈ R,∀ K2:RtT,K2 (vb (p r)) h->Xl Pg fv [vag (Ql r)] h K2)
  (hy:∀(i:Nat) (r:PR),R[i]?=some r->p r=true->(∀ x ∈ R.take i,p x=false)->K' (vi i) h) (hno:(∀ r ∈ R,p r=false)->K' (vi (-1)) h):Qa Pg 74 [vsl a n c,fv] h K':=by
 subst hl;exact M0 S hn hf hy hno
def Qpb (q:Qy)(k:PK)(v:List Vl)(st:En):En:={ st with pn:=KX k v st.pn,rows:=st.rows++MN (Qd q) k v (atP k st.pn) }
set_option maxHeartbeats 2000000 in
theorem Qb0 {q:Qy}{h0 h:Hp}{g parts N:Nat}{st:En}{e:EvL}{s:Int}{R':RtT}(X:Wr q h0 h g st)(B:QOk q)(E:YM e)(HB:EnB q parts N st)(hN:N<=800000)
  (hK:∀ h',h0.le h'->Wr q h0 h' g (Qpb q (s,Zr q e) (Qn q e) st)->R' (Qe []) h'):Qa Pg 111 [vhp g 0,vi s,vag (Xo e)] h R':=by
 obtain⟨qf,hi,a1,n1,c1,a2,n2,c2,a3,n3,c3,ak,nk,ck,ar,cr,ac,nc,cc,tb,tc,aw,cw,R,RW,l0,M,I⟩:=X;refine Ul ?_
 have hRl:R.length=st.pn.length:=by have:=congrArg List.length I.p;simpa using this
 have hpl:=HB.pl;have hkl:=QA q;have hn4:=B.n2;have hWl:RW.length=st.rows.length:=by have:=congrArg List.length I.w;simpa [QO] using this
 have hwl:=HB.wl;have hks:(R.map (·.k)).Pairwise Qr:=by rw [Qjd I.p];exact Xd.1 HB.ps
 have hao:=Qoo HB (by omega) I.p
 have hvl:(Qn q e).length=(Qd q).length:=by unfold Qn;rw [bU,hkl]
 intro b1 hb1 h2;have l2:h.le h2:=Hp.le_set (Hp.le_refl h) hb1 _;have x1:h2 b1=some (Qb [vi s] 3):=Hp.set_same _ _ _;clear_value h2;refine Qfz (M.le l2) I B E fun h4 l4=>⟨_,_,rfl,?_⟩
 intro b7 hb7 h8;show Hp.store (Hp.set h4 b7 (Qb [vi 0,vi 0] 54)) b7 0 [vi (Zr q e).1,vi (Zr q e).2] _;refine Qkm (by rfl) ?_
 have l9:h4.le (h4.set b7 (Qb [vi (Zr q e).1,vi (Zr q e).2] 54)):=Hp.le_set (Hp.le_refl _) hb7 _;have x7:(h4.set b7 (Qb [vi (Zr q e).1,vi (Zr q e).2] 54)) b7=some (Qb [vi (Zr q e).1,vi (Zr q e).2] 54):=Hp.set_same _ _ _;generalize h4.set b7 (Qb [vi (Zr q e).1,vi (Zr q e).2] 54)=h9 at l9 x7;have l49:=Hp.le_trans l4 l9;have l09:=Hp.le_trans l2 l49;have M9:=M.le l09;have x1:=l49 _ _ x1;have hb7h:h b7=none:=Hp.none_of_le (Hp.le_trans l2 l4) hb7;refine⟨_,_,_,Qx M9.blk (bP rfl),s,Qc x1 rfl,_,_,Qx x7 (bP rfl),_,_,_,Qc M9.blk rfl,?_⟩
 refine Qee M9 I B E fun a17 c17 h16 V16=>⟨_,_,_,rfl,Qc (M9.le V16.le0).blk rfl,Qx (V16.le0 _ _ x7) (bP rfl),Qc (V16.le0 _ _ x1) rfl,Qx (M9.le V16.le0).blk (bP rfl),?_⟩
 have l016:=Hp.le_trans l09 V16.le0;obtain⟨hj,lj,Mj,trj,kpj⟩:=M.rebase_new l016;have x1:=V16.le0 _ _ x1;have x7:=V16.le0 _ _ x7;have y1:hj b1=some (Qb [vi s] 3):=kpj _ _ x1 hb1;have y7:hj b7=some (Qb [vi (Zr q e).1,vi (Zr q e).2] 54):=kpj _ _ x7 hb7h;have hV:SlP Qq hj a17 (Qn q e).length (Qn q e):=⟨rfl,trj _ _ (Qg.row V16) fun b o hb=>Hp.none_of_le l09 (V16.new b (by rw [hb,Qw.at0 (Qg.own V16) b o hb]))⟩
 have Ij:=I.le lj;refine Yr.frame Mj (QhH (k:=(s,Zr q e)) Ij.t (by omega) hks Ij.k hV hvl (by omega) (fun r hr=>(hao r hr).1) (fun r hr=>(hao r hr).2.1) (Gi B E) ?_ ?_)
 · -- it is there
  intro i r a' c' a2' c2' hk hr hrk lk Tk h19 l19 M19;refine⟨_,_,_,_,_,_,_,_,_,_,_,rfl,?_⟩
  obtain⟨p,hp,e1,e2,e3⟩:=Qnc I.p hr;have hpk:p.k=(s,Zr q e):=by rw [<-e1];exact hrk
  have hat:atP (s,Zr q e) st.pn=some p:=by rw [<-hpk];exact Qlx HB.ps (bZ hp)
  have hput:KX (s,Zr q e) (Qn q e) st.pn=st.pn.set i ⟨(s,Zr q e),p.rs++[Qn q e],p.t⟩:=QhV HB.ps hp hpk;have hacs:ZT r.acs (Qn q e)=Wf (Qd q) (p.rs++[Qn q e]):=by rw [Vy,e2]
  have hset:(R.set i ⟨r.k,a2',c2',ZT r.acs (Qn q e),r.t⟩).map prT=(KX (s,Zr q e) (Qn q e) st.pn).map (pnT (Qd q)):=by
   rw [hput,gB,gB,I.p];congr 1
   simp only [prT,pnT];rw [hrk,hacs,e3]
  have hRl2:(R.set i ⟨r.k,a2',c2',ZT r.acs (Qn q e),r.t⟩).length=R.length:=dG;have hil:=(bI.1 hr).1
  intro b27 hb27 h28 b29 hb29 h30;refine M19.pair hb27 hb29 (by rfl) (by rfl) fun h32 M32 w27 w29 g27 g29=>⟨_,_,_,Qx w27 (bP rfl),?_⟩
  refine M32.putK (j:=10) (bP rfl) fun h27 M27 k27=>?_
  have w27:=k27 _ _ g27 w27;have w29:=k27 _ _ g29 w29;have l027:h0.le h27:=Hp.le_trans l0 (Hp.le_trans lj (Hp.le_trans lk M27.le0));have Ik:=Ij.le lk; -- behind all of it
  have fin:∀(hx h':Hp) (aw':OaT) (cw':Nat) (RW':List (XA Vl (Bool × PK))) (rows':List Rw),hk.le hx->Yr hx h' g (Kg a1 n1 c1 a2 n2 c2 a3 n3 c3 qf ak nk ck ar st.rd.length cr ac nc cc a' R.length c' st.late aw' RW'.length cw') ar cr st.rd aw' RW'.length cw' (RW'.flatMap (Zc QT))->QO RW'=rows'.map ZI->(∀ r ∈ RW',Qf hx r.2.1.1 (r.2.2.flatMap Qq))->rows'=st.rows++MN (Qd q) (s,Zr q e) (Qn q e) (some p)->R' (Qe []) h':=by
   intro hx h' aw' cw' RW' rows' lx Mx hw1 hw2 hrows;refine hK h' (Hp.le_trans l0 (Hp.le_trans lj (Hp.le_trans lk (Hp.le_trans lx Mx.le0)))) ⟨qf,hx,a1,n1,c1,a2,n2,c2,a3,n3,c3,ak,nk,ck,ar,cr,ac,nc,cc,a',c',aw',cw',R.set i ⟨r.k,a2',c2',ZT r.acs (Qn q e),r.t⟩,RW',Hp.le_trans l0 (Hp.le_trans lj (Hp.le_trans lk lx)),?_,⟨I.f,Ik.qa.le lx,Ik.k.le lx,Ik.c.le lx,Tk.le lx,hset,?_,hw2⟩⟩
   ·rw [hRl2];exact Mx
   ·rw [hw1,hrows];simp only [Qpb];rw [hat]
  have e4:(bif (!true) then true else(!r.t))=!r.t:=rfl;refine⟨r.t,fun _=>Qc w29 rfl,?_⟩
  rw [e4];refine⟨fun e5=>?_,fun e5=>?_⟩
  ·have ht:p.t=false:=by rw [<-e3];simpa using e5
   refine fin hk h27 aw cw RW st.rows (Hp.le_refl hk) M27 I.w Ik.wi ?_
   rw [Qk0 (by rw [ht];simp),d8]
  ·have ht:p.t=true:=by rw [<-e3];simpa using e5
   have hrm:=bZ hr;have hacl:=(hao r hrm).1;have hkj:=Hp.le_trans lk l19;refine⟨_,_,_,_,_,_,_,Qx w29 (bP rfl),?_⟩
   refine VV (r:=r) ⟨rfl,(Ij.t.i r hrm).le (Hp.le_trans lk M27.le0)⟩ (by omega) fun a34 c34 h30 V30=>⟨_,_,_,_,_,_,rfl,_,_,_,Qc (V30.le0 _ _ w27) rfl,?_⟩
   have M30:=M27.le V30.le0;have z1:=M30.le0 _ _ (lk _ _ y1);have z7:=M30.le0 _ _ (lk _ _ y7);have S30:=(Tk.le M30.le0).s;rw [hRl2] at S30;have hks2:((R.set i ⟨r.k,a2',c2',ZT r.acs (Qn q e),r.t⟩).map (·.k)).Pairwise Qr:=by
    have:(R.set i ⟨r.k,a2',c2',ZT r.acs (Qn q e),r.t⟩).map (·.k)=R.map (·.k):=by
     rw [gB];apply gQ;intro m;rw [g9]
     split
     ·rename_i hm;subst hm;rw [bH (by rw [bU];exact hil),cU,hr];rfl
     ·rfl
    rw [this];exact hks
   have hxi:(R.set i ⟨r.k,a2',c2',ZT r.acs (Qn q e),r.t⟩)[i]?=some ⟨r.k,a2',c2',ZT r.acs (Qn q e),r.t⟩:=fC hil
   refine Qc1 (R:=R.set i ⟨r.k,a2',c2',ZT r.acs (Qn q e),r.t⟩) hRl2.symm (p:=fun r=>decide (r.k=(s,Zr q e))) (by rw [hRl2];exact S30) (by rw [hRl2];omega)
    (fun r0 _ K2 hk2=>⟨169,#[],#[vhp b1 0,vhp b7 0],rfl,⟨_,Tryz.func169,by kernel_rfl,rfl⟩,Qa6 (Qc z1 rfl) (Qx z7 (bP rfl)) hk2⟩)
    (fun m r2 hr2 hp2 _=>⟨_,rfl,?_⟩) (fun hno=>absurd hrk (bB (hno ⟨r.k,a2',c2',ZT r.acs (Qn q e),r.t⟩ (bZ hxi))))
   have hm:m=i:=QnR hks2 hr2 hxi (by rw [bC hp2,hrk])
   subst hm;obtain⟨b,o,ea,hrow⟩:=S30.get Qp (by decide) hxi
   refine⟨_,_,_,Qc (V30.le0 _ _ w27) rfl,b,o,⟨ea,by omega,by omega⟩,_,_,_,_,_,_,_,by rw [bG];exact hrow,?_⟩
   have hacl2:=Qid (acs:=r.acs) (r:=Qn q e) (by omega)
   refine VV (r:=⟨r.k,a2',c2',ZT r.acs (Qn q e),r.t⟩) ⟨rfl,(Tk.i _ (bZ hxi)).le M30.le0⟩ (by simp only;omega) fun a50 c50 h46 V46=>⟨_,_,_,_,_,_,rfl,?_⟩
   have M46:=M30.le V46.le0;have hml:(r.acs.map ZS).length<=1000000:=by rw [bU];omega
   refine Qex ((V30.slp Ys (by decide)).le V46.le0) (V46.slp Ys (by decide)) hml ⟨_,rfl,fun e6=>?_,fun e6=>?_⟩
   ·have hne:r.acs.map ZS≠(ZT r.acs (Qn q e)).map ZS:=by have e6:(!decide (r.acs.map ZS=(ZT r.acs (Qn q e)).map ZS))=true:=e6;simpa using e6
    refine⟨_,_,_,Qc M46.blk rfl,?_⟩
    intro b55 hb55 h56;obtain⟨hx,lx,Mx,trx,_⟩:=M27.rebase_new (Hp.le_trans V30.le0 V46.le0);have o1:=trx _ _ ((Qg.row V30).le V46.le0) fun b o hb=>V30.new b (by rw [hb,Qw.at0 (Qg.own V30) b o hb])
    have o2:=trx _ _ (Qg.row V46) fun b o hb=>Hp.none_of_le V30.le0 (V46.new b (by rw [hb,Qw.at0 (Qg.own V46) b o hb]))
    refine Mx.rows (m:=2) (news:=[vb true,vi r.k.1,vi r.k.2.1,vi r.k.2.2,vsl a34 (r.acs.map ZS).length c34,vb false,vi r.k.1,vi r.k.2.1,vi r.k.2.2,vsl a50 ((ZT r.acs (Qn q e)).map ZS).length c50]) hb55 rfl (by
     intro u hu;simp only [bX,dB,fZ] at hu;rcases hu with rfl|rfl|rfl|rfl|rfl|rfl|rfl|rfl|rfl|rfl<;>rfl) (by omega) fun aw' cw' h58 M58=>⟨_,_,_,rfl,?_⟩
    refine M58.put (j:=12) (bP rfl) fun h60 M60=>?_
    have:=fin hx h60 aw' cw' (RW++[((true,(s,Zr q e)),(a34,c34),r.acs.map ZS),((false,(s,Zr q e)),(a50,c50),(ZT r.acs (Qn q e)).map ZS)]) (st.rows++MN (Qd q) (s,Zr q e) (Qn q e) (some p)) lx;refine this ?_ ?_ ?_ rfl
    ·rw [bO,cX];have er:(([((true,(s,Zr q e)),(a34,c34),r.acs.map ZS),((false,(s,Zr q e)),(a50,c50),(ZT r.acs (Qn q e)).map ZS)]:List (XA Vl (Bool × PK))).flatMap (Zc QT))=[vb true,vi r.k.1,vi r.k.2.1,vi r.k.2.2,vsl a34 (r.acs.map ZS).length c34,vb false,vi r.k.1,vi r.k.2.1,vi r.k.2.2,vsl a50 ((ZT r.acs (Qn q e)).map ZS).length c50]:=by
      rw [hrk];rfl
     rw [er];exact M60
    ·have e7:MN (Qd q) (s,Zr q e) (Qn q e) (some p)=[(true,(s,Zr q e),r.acs.map ZS),(false,(s,Zr q e),(ZT r.acs (Qn q e)).map ZS)]:=by
      have h1:Yx (Qd q) p.rs=r.acs.map ZS:=by rw [e2];rfl
      have h2:Yx (Qd q) (p.rs++[Qn q e])=(ZT r.acs (Qn q e)).map ZS:=by rw [hacs];rfl
      rw [QoJ ⟨ht,by rw [h1,h2];exact hne⟩,h1,h2]
     rw [e7,cD,<-I.w];unfold QO;rw [cD];rfl
    ·intro r' hr';rcases cP.1 hr' with q1|q1
     ·exact(Ik.wi r' q1).le lx
     ·simp only [bX,dB,fZ] at q1;rcases q1 with rfl|rfl
      ·exact o1
      ·exact o2
   ·have heq:r.acs.map ZS=(ZT r.acs (Qn q e)).map ZS:=by have e6:(!decide (r.acs.map ZS=(ZT r.acs (Qn q e)).map ZS))=false:=e6;simpa using e6
    refine fin hk h46 aw cw RW st.rows (Hp.le_refl hk) M46 I.w Ik.wi ?_
    have h1:Yx (Qd q) p.rs=r.acs.map ZS:=by rw [e2];rfl
    have h2:Yx (Qd q) (p.rs++[Qn q e])=(ZT r.acs (Qn q e)).map ZS:=by rw [hacs];rfl
    rw [Qk0 (fun q1=>q1.2 (by rw [h1,h2];exact heq)),d8]
 · -- it is new
  intro i a' c' a2' c2' hk hil hah hna hne lk Tk h19 l19 M19;refine⟨_,_,_,_,_,_,_,_,_,_,_,rfl,?_⟩
  intro b27 hb27 h28 b29 hb29 h30;refine M19.pair hb27 hb29 (by rfl) (by rfl) fun h32 M32 w27 w29 g27 g29=>⟨_,_,_,Qx w27 (bP rfl),?_⟩
  refine M32.putK (j:=10) (bP rfl) fun h27 M27 k27=>⟨false,fun q=>absurd q (by decide),fun _=>?_,fun q=>absurd q (by decide)⟩
  have keys:=Qjd I.p;have mapm:∀ x ∈ st.pn,∃ r ∈ R,r.k=x.k:=by
   intro x hx;have:x.k ∈ R.map (·.k):=by rw [keys];exact dI.2 ⟨x,hx,rfl⟩
   obtain⟨r,hr,e1⟩:=dI.1 this;exact⟨r,hr,e1⟩
  have hat:atP (s,Zr q e) st.pn=none:=by
   unfold atP;rw [kL]
   intro x hx q1;obtain⟨r,hr,e1⟩:=mapm x hx;exact hne r hr (by rw [e1];exact bC q1)
  have hput:KX (s,Zr q e) (Qn q e) st.pn=st.pn.take i++⟨(s,Zr q e),[Qn q e],false⟩ :: st.pn.drop i:=by
   refine QeX (by omega) (fun x hx=>?_) (fun x hx=>?_) (fun x hx q1=>?_)
   ·have:x.k ∈ (R.take i).map (·.k):=by rw [gK,keys,<-gK];exact dI.2 ⟨x,hx,rfl⟩
    obtain⟨r,hr,e1⟩:=dI.1 this;rw [<-e1];exact hah r hr
   ·have h1:(R.map (·.k))[i]?=some x.k:=by rw [keys,cU,hx];rfl
    rw [cU,dD] at h1
    obtain⟨r,hr,e1⟩:=h1;rw [<-e1];exact hna r hr
   ·obtain⟨r,hr,e1⟩:=mapm x hx;exact hne r hr (e1.trans q1)
  have hRl2:(R.take i++(⟨(s,Zr q e),a2',c2',ZT (Xr (Qd q)) (Qn q e),false⟩:PR) :: R.drop i).length=R.length+1:=by rw [bO,cO,bV,dO];omega
  have Ik:=Ij.le lk;refine hK h27 (Hp.le_trans l0 (Hp.le_trans lj (Hp.le_trans lk M27.le0))) ⟨qf,hk,a1,n1,c1,a2,n2,c2,a3,n3,c3,ak,nk,ck,ar,cr,ac,nc,cc,a',c',aw,cw,_,RW,Hp.le_trans l0 (Hp.le_trans lj lk),?_,⟨I.f,Ik.qa,Ik.k,Ik.c,Tk,?_,?_,Ik.wi⟩⟩
  ·rw [hRl2];exact M27
  ·simp only [Qpb];rw [hput,cD,cD,dE,dE,gK,jZ,gK,jZ,I.p];congr 1
  ·simp only [Qpb];rw [hat,I.w];simp [MN]
theorem Qaq {ks:List Int}{C:List PR->List Pn->Prop}(h0:C [] [])(h1:∀ r R p L,prT r=pnT ks p->R.map prT=L.map (pnT ks)->C R L->C (r :: R) (p :: L)):∀{R:List PR} {L:List Pn},R.map prT=L.map (pnT ks)->C R L
 | [],[],_=>h0
 | [],_ :: _,h=>by simp at h
 | _ :: _,[],h=>by simp at h
 | r :: R,p :: L,h=>by
  simp only [dE,jK] at h;exact h1 r R p L h.1 h.2 (Qaq h0 h1 h.2)
theorem Qj4 {ks:List Int}{r:PR}{p:Pn}(h:prT r=pnT ks p):r.k=p.k/\r.acs=Wf ks p.rs/\r.t=p.t:=by
 simp only [prT,pnT,fM] at h;exact h
theorem Qnw {ks:List Int}{size u:Int}{R:List PR}{L:List Pn}(h:R.map prT=L.map (pnT ks)):(R.map (ZB size u)).map prT=(YX size u L).map (pnT ks):=by
 refine Qaq (C:=fun R L=>(R.map (ZB size u)).map prT=(YX size u L).map (pnT ks)) rfl (fun r R p L h1 h2 ih=>?_) h
 obtain⟨e1,e2,e3⟩:=Qj4 h1;unfold YX at ih ⊢;simp only [dE,ih];congr 1
 simp only [prT,pnT,ZB,QjA,QbK,e1,e2,e3]
theorem Qnj {ks:List Int}{size u:Int}{R:List PR}{L:List Pn}(h:R.map prT=L.map (pnT ks)):(R.filter fun r=>!decide (r.k.1+size<=u)).map prT=(GE size u L).map (pnT ks):=by
 refine Qaq (C:=fun R L=>(R.filter fun r=>!decide (r.k.1+size<=u)).map prT=(GE size u L).map (pnT ks)) rfl (fun r R p L h1 h2 ih=>?_) h
 obtain⟨e1,e2,e3⟩:=Qj4 h1;unfold GE QbK at ih ⊢;rw [dZ,dZ,e1];split
 ·rw [dE,dE,ih,h1]
 ·exact ih
theorem Qo6 {ks:List Int}{size u:Int}{R:List PR}{L:List Pn}(h:R.map prT=L.map (pnT ks)):((R.filter (Yp size u)).map Zg).map (fun r=>(r.k,r.acs))=(NO size u L).map (fun p=>(p.k,Wf ks p.rs)):=by
 refine Qaq (C:=fun R L=>((R.filter (Yp size u)).map Zg).map (fun r=>(r.k,r.acs))=(NO size u L).map (fun p=>(p.k,Wf ks p.rs))) rfl (fun r R p L h1 h2 ih=>?_) h
 obtain⟨e1,e2,e3⟩:=Qj4 h1;unfold NO at ih ⊢;have hc:Yp size u r=(!p.t&&QbK size u p):=by unfold Yp QjA QbK;rw [e1,e3]
 rw [dZ,dZ,hc];split
 ·rw [dE,dE,dE,ih];simp only [Zg,e1,e2]
 ·exact ih
def QpZ (f d:Int):Int:=if f<0 then 0 else f-d
theorem QeC {a:OaT}{n c:Nat}{l:List Int}{p d:Int}{h:Hp}{R:RtT}(S:SlI h a n l)(hp:0<=p)(hp':p<n)(hr:InR (l.getD p.toNat 0-d))
  (hK:R (Qe [vi (QpZ (l.getD p.toNat 0) d),vb (decide (0<=l.getD p.toNat 0))]) h):Qa Pg 108 [vag [vsl a n c],vi p,vi d] h R:=by
 refine MZ S hp hp' hr ?_
 unfold QpZ at hK;split
 ·rename_i h1;rw [bH h1,cE (by omega)] at hK
  exact hK
 ·rename_i h1;rw [bE h1,cC (by omega)] at hK
  exact hK
set_option maxHeartbeats 4000000 in
theorem Qeo {q:Qy}{h0 h:Hp}{g parts N p:Nat}{st:En}{e:EvL}{R':RtT}(X:Wr q h0 h g st)(B:QOk q)(E:YM e)(HB:EnB q parts N st)(hN:N<=700000)(hp:p<parts)(hparts:parts<=1000)
  (hK:∀ h',h0.le h'->Wr q h0 h' g (Yl q p e st)->R' (Qe []) h'):Qa Pg 55 [vhp g 0,vi p,vag (Xo e)] h R':=by
 refine Vi ?_
 have hd:=B.d;have ht:=B.t;have hs:=B.s;have hsl:=B.l;have hEt:=E.t;have hfl:=HB.fl;have hrl:=HB.rl;have X0:=X;obtain⟨qf,hi,a1,n1,c1,a2,n2,c2,a3,n3,c3,ak,nk,ck,ar,cr,ac,nc,cc,tb,tc,aw,cw,R,RW,l0,M,I⟩:=X;have hnc:nc=st.far.length:=I.c.1;have hfp:st.far.getD p 0 ∈ st.far:=by rw [bK,bD (by omega)];exact cM _
 have hfb:=HB.fb _ hfp;have F:=I.f;refine⟨_,_,_,Qx M.blk (bP rfl),_,Qc M.blk rfl,?_⟩
 refine QeC (p:=(p:Int)) (d:=qf.delay) (I.c.le M.le0) (by omega) (by omega) (by rw [bG,F.de];unfold InR;omega) ⟨_,_,rfl,?_⟩
 rw [bG,F.de];have hn:(decide ((((n2:Nat):Int):Int)=0))=decide (q.wh=[]):=by
  rw [I.qa.w.1];refine d9.2 ⟨fun h=>F.wn.1 (fX.1 (by omega)),fun h=>by rw [F.wn.2 h];rfl⟩
 refine⟨_,_,_,Qc M.blk rfl,_,_,_,fun _=>Qc M.blk rfl,?_⟩
 rw [hn];refine⟨fun x hh=>h.le hh/\(q.wh≠[]->x=.t (.ag [.v (vi (ZG e q.wh).1),.v (vi (ZG e q.wh).2)])),fun e1=>?_,fun e1=>⟨Hp.le_refl h,fun hw=>absurd (cE hw) e1⟩,?_⟩
 ·have hw:q.wh≠[]:=bB e1;have Rp:=F.w1 hw;have hlq:=(Yb (B.w hw)).2;refine QdQ Rp.ok (by have:=Rp.len;omega) (I.qa.w.le M.le0) fun h' l'=>⟨_,_,rfl,l',fun _=>by rw [Rp.val e E]⟩
 rintro h14 x15 x16 ⟨l14,e14⟩;refine⟨fun x hh=>h.le hh/\(q.wh≠[]->x=.t (.ag [.v (vi (Zf true).1),.v (vi (Zf true).2)])),fun e1=>QP ⟨_,_,rfl,l14,fun _=>rfl⟩,fun e1=>⟨l14,fun hw=>absurd (cE hw) e1⟩,?_⟩
 rintro h22 x23 x24 ⟨l22,e22⟩;refine⟨decide (ZG e q.wh=Zf true),fun e1=>?_,?_⟩
 ·have hw:q.wh≠[]:=bB e1;have e14:=e14 hw;have e22:=e22 hw;cases e14;cases e22;exact XI
 have hask:(bif (decide (q.wh=[])) then true else decide (ZG e q.wh=Zf true))=Qin q e:=by unfold Qin;cases decide (q.wh=[])<;>rfl
 rw [hask];intro J58;have X22:=X0.le l22;have hJ:∀ h59,Wr q h0 h59 g (Yu q (st.far.getD p 0) e st)->J58 h59:=by
  intro h59 X59;have HB2:=QdH B HB E (far:=st.far.getD p 0);obtain⟨ws1,ws2⟩:=NK (q:=q) (far:=st.far.getD p 0) (e:=e) (st:=st);generalize hst2:Yu q (st.far.getD p 0) e st=st2 at X59 HB2 ws1 ws2;clear M I X0 X22 l14 e14 l22 e22 hn hask;obtain⟨qf,hi,a1,n1,c1,a2,n2,c2,a3,n3,c3,ak,nk,ck,ar,cr,ac,nc,cc,tb,tc,aw,cw,R,RW,l0,M,I⟩:=X59;have F:=I.f;have hrl2:=HB2.rl;have hfl2:=HB2.fl;have hnc:nc=st2.far.length:=I.c.1;have hRl:R.length=st2.pn.length:=by have:=congrArg List.length I.p;simpa using this
  have hpl:=HB2.pl;have hwl:=HB2.wl;have hWl:RW.length=st2.rows.length:=by have:=congrArg List.length I.w;simpa [QO] using this
  have hrm:st2.rd.getD p 0 ∈ st2.rd:=by rw [bK,bD (by omega)];exact cM _
  have hrb:=HB2.rb _ hrm;have hao:=Qoo HB2 (by omega) I.p
  obtain⟨bR,eR,hcR,HR⟩:=M.read (p:=p) (x:=st2.rd.getD p 0+1) (by omega)
  have hbd:ar=some ⟨bR,0,none⟩/\(0:Int)<=(p:Int)/\(p:Int)<((st2.rd.length:Nat):Int):=⟨eR,by omega,by omega⟩
  refine⟨_,_,_,Qc M.blk rfl,bR,0,hbd,((st2.rd.getD p 0:Nat):Int),hcR,_,iW,bR,0,hbd,?_⟩
  have ec:((st2.rd.getD p 0:Nat):Int)+1=((st2.rd.getD p 0+1:Nat):Int):=by omega
  rw [ec];refine HR _ fun h67 M67=>?_
  refine⟨_,_,_,Qx M67.blk (bP rfl),?_⟩
  refine Qhh (p:=(p:Int)) (I.c.le M67.le0) (by omega) (by omega) (by omega) fun a71 c71 h70 O70=>⟨_,_,_,rfl,?_⟩
  rw [bG] at O70;obtain⟨hj,lj,Mj,trj,_⟩:=M67.rebase_new O70.le;have hclk:SlI hj a71 nc (see st2.far p e.1):=⟨by rw [N7];exact hnc,trj _ _ O70.row fun b o hb=>O70.new b (by rw [hb,Qw.at0 O70.own b o hb])⟩
  refine Mj.put (j:=9) (bP rfl) fun h72 M72=>?_
  have I72:QjN q qf hj a1 n1 a2 n2 a3 n3 ak nk a71 nc tb R RW (Xf p e st2):=⟨F,I.qa.le lj,I.k.le lj,hclk,I.t.le lj,I.p,I.w,fun r hr=>(I.wi r hr).le lj⟩
  have hstep:Yl q p e st=MG q (Xf p e st2):=by unfold Yl;rw [hst2]
  rw [hstep] at hK;have hlr:(st2.rd.set p (st2.rd.getD p 0+1)).length=st2.rd.length:=dG;refine⟨_,_,_,Qx M72.blk (bP rfl),_,Qc M72.blk rfl,?_⟩
  rw [F.de];refine QaI (hclk.le M72.le0) (by omega) (QgM _ _ _ HB2.fb hEt (by omega)) hd ⟨_,_,rfl,fun e1=>?_,fun e1=>?_⟩
  ·have e2:(Wo q.delay (see st2.far p e.1)).2=false:=by simpa using e1
   have hend:MG q (Xf p e st2)=Xf p e st2:=by unfold MG;rw [bE];show ¬(Wo q.delay (see st2.far p e.1)).2=true;rw [e2];decide
   rw [hend] at hK;refine hK h72 (Hp.le_trans l0 (Hp.le_trans lj M72.le0)) ⟨qf,hj,a1,n1,c1,a2,n2,c2,a3,n3,c3,ak,nk,ck,ar,cr,a71,nc,c71,tb,tc,aw,cw,R,RW,Hp.le_trans l0 lj,?_,I72⟩
   show Yr hj h72 g (Kg a1 n1 c1 a2 n2 c2 a3 n3 c3 qf ak nk ck ar (st2.rd.set p (st2.rd.getD p 0+1)).length cr a71 nc c71 tb R.length tc st2.late aw RW.length cw) ar cr (st2.rd.set p (st2.rd.getD p 0+1)) aw RW.length cw (RW.flatMap (Zc QT));rw [hlr];exact M72
  ·have e2:(Wo q.delay (see st2.far p e.1)).2=true:=by simpa using e1
   have hend:MG q (Xf p e st2)={ Xf p e st2 with pn:=GE q.size ((Wo q.delay (see st2.far p e.1)).1-q.late) (YX q.size (Wo q.delay (see st2.far p e.1)).1 st2.pn),rows:=st2.rows++(NO q.size (Wo q.delay (see st2.far p e.1)).1 st2.pn).map (QaT (Qd q)) }:=by
    unfold MG;rw [bH (show (Wo q.delay (Xf p e st2).far).2=true from e2)]
    rfl
   rw [hend] at hK;have hub:-1001<=(Wo q.delay (see st2.far p e.1)).1/\(Wo q.delay (see st2.far p e.1)).1<=9999:=by
    have hsa:=QgM st2.far p e.1 HB2.fb hEt (by omega)
    unfold Wo;split
    ·simp only;split
     ·omega
     ·rename_i hne;have:=hsa _ (QeK hne);omega
    ·simp only;omega
   generalize (Wo q.delay (see st2.far p e.1)).1=u at *
   refine⟨_,_,_,Qx M72.blk (bP rfl),_,Qc M72.blk rfl,?_⟩
   rw [F.sz];refine Yr.frame M72 (QfJ (size:=q.size) (upto:=u) I72.t (by omega) (fun r hr=>by have:=(hao r hr).2.2;unfold InR;omega) fun a84 c84 a85 c85 hk lk Tk TN h83 l83 M83=>⟨_,_,_,_,_,_,rfl,?_⟩)
   have Ik:=I72.le lk;have hNm:∀ r ∈ (R.filter (Yp q.size u)).map Zg,r.acs.length<=1000:=by intro r hr;obtain⟨r0,h0',rfl⟩:=dI.1 hr;have:=(hao r0 (jX.1 h0').1).1;have h4:=B.n2;rw [QA] at this;show r0.acs.length<=1000;omega
   have hNeq:((R.filter (Yp q.size u)).map Zg).map (fun r=>((false,r.k),r.acs.map ZS))=((NO q.size u st2.pn).map (QaT (Qd q))).map ZI:=by
    have:=congrArg (List.map fun x:PK × List AcS=>(((false,x.1),x.2.map ZS):(Bool × PK) × List Vl)) (Qo6 (size:=q.size) (u:=u) I.p)
    simp only [fN] at this ⊢;exact this
   have hNl:((R.filter (Yp q.size u)).map Zg).length<=R.length:=by rw [bU];exact jJ _ _
   generalize (R.filter (Yp q.size u)).map Zg=NN at *
   refine⟨fun vs hh=>∃(i:Nat) (hx:Hp) (aw':OaT) (cw':Nat) (RW':List (XA Vl (Bool × PK))),vs=[vi i]/\i<=NN.length/\hk.le hx/\Yr hx hh g (Kg a1 n1 c1 a2 n2 c2 a3 n3 c3 qf ak nk ck ar st2.rd.length cr a71 nc c71 tb R.length tc st2.late aw' RW'.length cw') ar cr (st2.rd.set p (st2.rd.getD p 0+1)) aw' RW'.length cw' (RW'.flatMap (Zc QT))/\QO RW'=st2.rows.map ZI++(NN.take i).map (fun r=>((false,r.k),r.acs.map ZS))/\∀ r ∈ RW',Qf hx r.2.1.1 (r.2.2.flatMap Qq),fun vs hh=>NN.length-(Qm vs 0).toNat,⟨0,hk,aw,cw,RW,rfl,cH _,Hp.le_refl hk,M83,by rw [I.w];simp,Ik.wi⟩,?_⟩
   rintro vs hh ⟨i,hx,aw',cw',RW',rfl,hi',lx,Mx,hw1,hw2⟩;have hW':RW'.length=st2.rows.length+i:=by
    have:=congrArg List.length hw1;simp [QO] at this;omega
   refine⟨i,rfl,fun e3=>?_,fun e3=>?_⟩
   ·have hlt:i<NN.length:=by have:=bC e3;omega
    have hxi:NN[i]?=some NN[i]:=bD hlt
    have hmem:=cM hlt;have tk:NN.take (i+1)=NN.take i++[NN[i]]:=bJ hlt;have lhh:=Hp.le_trans lx Mx.le0;obtain⟨b,o,ea,hr⟩:=(TN.s.le lhh).get Qp (by decide) hxi
    have hri:=(TN.i _ hmem).le lhh;have hal:=hNm _ hmem;generalize NN[i]=r at *
    refine⟨b,o,⟨ea,by omega,by omega⟩,_,_,_,_,_,_,_,by rw [bG];exact hr,_,_,_,Qc Mx.blk rfl,?_⟩
    refine VV (r:=r) ⟨rfl,hri⟩ hal fun a107 c107 h103 V103=>⟨_,_,_,_,_,_,rfl,Qc (Mx.le V103.le0).blk rfl,?_⟩
    intro b108 hb108 h109;obtain⟨hy,ly,My,try_,_⟩:=Mx.rebase_new V103.le0;have o1:=try_ _ _ (Qg.row V103) fun b o hb=>V103.new b (by rw [hb,Qw.at0 (Qg.own V103) b o hb])
    refine My.rows (m:=1) (news:=[vb false,vi r.k.1,vi r.k.2.1,vi r.k.2.2,vsl a107 (r.acs.map ZS).length c107]) hb108 rfl (by
     intro u hu;simp only [bX,dB,fZ] at hu;rcases hu with rfl|rfl|rfl|rfl|rfl<;>rfl) (by omega) fun aw2 cw2 h111 M111=>⟨_,_,_,rfl,?_⟩
    refine M111.put (j:=12) (bP rfl) fun h113 M113=>⟨_,iW,⟨i+1,hy,aw2,cw2,RW'++[((false,r.k),(a107,c107),r.acs.map ZS)],rfl,by omega,Hp.le_trans lx ly,?_,?_,?_⟩,by simp [Qm];omega⟩
    ·rw [bO,cX];exact M113
    ·rw [tk,cD,<-cG,<-hw1];unfold QO;rw [cD];rfl
    ·intro r' hr';rcases cP.1 hr' with q1|q1
     ·exact(hw2 r' q1).le ly
     ·rw [cB.1 q1];exact o1
   ·have hge:i=NN.length:=by have:=bB e3;omega
    subst hge;rw [dR] at hw1;refine⟨_,Qc Mx.blk rfl,_,Qc Mx.blk rfl,_,isW (by rw [F.la];unfold InR;omega),?_⟩
    rw [F.sz,F.la];have hml:(R.map (ZB q.size u)).length=R.length:=bU _;have drp:=fun(K':RtT) (hK':∀ a' c' h',hx.le h'->Tb h' a' ((R.map (ZB q.size u)).filter fun r=>!decide (r.k.1+q.size<=u-q.late))->K' (vag [vsl a' ((R.map (ZB q.size u)).filter fun r=>!decide (r.k.1+q.size<=u-q.late)).length c']) h')=>
     QfM (h:=hx) (K':=K') (c:=c84) (size:=q.size) (upto:=u-q.late) (Tk.le lx) (by rw [hml];omega) (fun r hr=>by
      obtain⟨r0,h0',rfl⟩:=dI.1 hr;have:=(hao r0 h0').2.2;show InR (r0.k.1+q.size);unfold InR;omega) hK'
    rw [hml] at drp;refine Yr.frame Mx (drp _ fun a121 c121 hz lz Tz h120 l120 M120=>⟨_,_,_,rfl,?_⟩)
    refine M120.put (j:=10) (bP rfl) fun h122 M122=>?_
    have lall:h0.le hz:=Hp.le_trans l0 (Hp.le_trans lj (Hp.le_trans lk (Hp.le_trans lx lz)));have lkz:=Hp.le_trans lx lz;refine hK h122 (Hp.le_trans lall M122.le0) ⟨qf,hz,a1,n1,c1,a2,n2,c2,a3,n3,c3,ak,nk,ck,ar,cr,a71,nc,c71,a121,c121,aw',cw',(R.map (ZB q.size u)).filter fun r=>!decide (r.k.1+q.size<=u-q.late),RW',lall,?_,⟨F,Ik.qa.le lkz,Ik.k.le lkz,Ik.c.le lkz,Tz,Qnj (Qnw I.p),?_,fun r hr=>(hw2 r hr).le lz⟩⟩
    ·show Yr hz h122 g (Kg a1 n1 c1 a2 n2 c2 a3 n3 c3 qf ak nk ck ar (st2.rd.set p (st2.rd.getD p 0+1)).length cr a71 nc c71 a121 _ c121 st2.late aw' RW'.length cw') ar cr (st2.rd.set p (st2.rd.getD p 0+1)) aw' RW'.length cw' (RW'.flatMap (Zc QT));rw [hlr];exact M122
    ·show QO RW'=(st2.rows++(NO q.size u st2.pn).map (QaT (Qd q))).map ZI;rw [hw1,cD,hNeq]
 clear_value J58;refine⟨fun e1=>?_,fun e1=>?_⟩
 ·have hw:Yu q (st.far.getD p 0) e st=(ZK e.1 q.size q.slide).foldl (Xu q (st.far.getD p 0) e) st:=by unfold Yu;rw [bH e1]
  rw [hw] at hJ;have M22:=M.le l22;have cS:∀{qf:Qy},Nf q qf->vi qf.size=vi q.size:=fun F=>by rw [F.sz]
  refine⟨_,Qc M22.blk rfl,_,Qc M22.blk rfl,?_⟩
  rw [F.sz,F.sl];refine QaD (by omega) (by omega) (by omega) (by omega) (by omega) (by omega) fun a30 n30 c30 h29 l29 SS hnew=>⟨_,_,_,rfl,?_⟩
  have hsb:=JZ B E;have hsm:=VY B (e:=e);have hn30:n30=(ZK e.1 q.size q.slide).length:=SS.1;generalize ZK e.1 q.size q.slide=ss at *
  -- the windows' slice is not the engine's
  refine⟨fun vs hh=>∃(k:Nat) (hb:Hp),vs=[vi k]/\k<=ss.length/\h0.le hb/\SlI hb a30 n30 ss/\Wr q hb hh g ((ss.take k).foldl (Xu q (st.far.getD p 0) e) st),fun vs hh=>ss.length-(Qm vs 0).toNat,?_,?_⟩
  ·obtain⟨hj,lj,Mj,trj,_⟩:=M22.rebase_new l29;refine⟨0,hj,rfl,cH _,Hp.le_trans l0 lj,⟨SS.1,trj _ _ SS.2 hnew⟩,?_⟩
   rw [kA];exact⟨qf,hj,a1,n1,c1,a2,n2,c2,a3,n3,c3,ak,nk,ck,ar,cr,ac,nc,cc,tb,tc,aw,cw,R,RW,Hp.le_refl hj,Mj,I.le lj⟩
  rintro vs hh ⟨k,hb,rfl,hk,lb,Sb,Xb⟩;refine⟨k,rfl,fun e2=>?_,fun e2=>?_⟩
  ·have hlt:k<ss.length:=by have:=bC e2;omega
   obtain⟨b,o,ea,hc⟩:=(Sb.le Xb.le0).get (i:=k) (by omega)
   have hgd:ss.getD k 0=ss[k]:=by rw [bK,bD hlt];rfl
   have tk:ss.take (k+1)=ss.take k++[ss[k]]:=bJ hlt;have hsk:=hsb _ (cM hlt);have HBk:=K6 (far:=st.far.getD p 0) B E (ss.take k) HB (fun s hs=>hsb s (jO hs))
   rw [bV,dX hk] at HBk;rw [hgd] at hc;generalize ss[k]=s at *
   intro J54;have hJ2:∀ h',Wr q hb h' g (Xu q (st.far.getD p 0) e ((ss.take k).foldl (Xu q (st.far.getD p 0) e) st) s)->J54 h':=by
    intro h' X';refine⟨_,iW,⟨k+1,hb,rfl,by omega,lb,Sb,?_⟩,by simp [Qm];omega⟩
    rw [tk,f7];exact X'
   clear_value J54;generalize (ss.take k).foldl (Xu q (st.far.getD p 0) e) st=stk at *
   have Xb0:=Xb;obtain⟨qf,hi,a1,n1,c1,a2,n2,c2,a3,n3,c3,ak,nk,ck,ar,cr,ac,nc,cc,tb,tc,aw,cw,R,RW,l0,M,I⟩:=Xb;have F:=I.f;refine⟨b,o,⟨ea,by omega,by omega⟩,s,by rw [bG];exact hc,_,fun _=>Qc M.blk rfl,_,fun _=>isW (by rw [F.sz];unfold InR;omega),_,fun _=>Qc M.blk rfl,_,fun _=>isW (by rw [F.sz,F.la];unfold InR;omega),?_⟩
   have hl:(bif (decide (0<=st.far.getD p 0)) then(decide ((s+qf.size+qf.late:Int)<=QpZ (st.far.getD p 0) q.delay)) else false)=QiT q (st.far.getD p 0) s:=by
    unfold QiT QpZ;rw [F.sz,F.la];by_cases h1:0<=st.far.getD p 0
    ·rw [cC h1,bE (by omega)];rfl
    ·rw [cE h1];rfl
   rw [hl];refine⟨fun e3=>?_,fun e3=>?_⟩
   ·have hll:=HBk.ll;refine⟨_,Qc M.blk rfl,_,iW,?_⟩
    refine M.put (j:=11) (bP rfl) fun h48 M48=>hJ2 h48 ?_
    unfold Xu;rw [bH e3];exact⟨qf,hi,a1,n1,c1,a2,n2,c2,a3,n3,c3,ak,nk,ck,ar,cr,ac,nc,cc,tb,tc,aw,cw,R,RW,l0,M48,⟨I.f,I.qa,I.k,I.c,I.t,I.p,I.w,I.wi⟩⟩
   ·refine Qb0 Xb0 B E HBk (by omega) fun h52 l52 X52=>⟨rfl,hJ2 h52 ?_⟩
    unfold Xu;rw [bE (by rw [e3];decide)]
    exact X52
  ·have hge:k=ss.length:=by have:=bB e2;omega
   rw [hge,dR] at Xb;refine hJ hh ?_
   obtain⟨qf,hi,a1,n1,c1,a2,n2,c2,a3,n3,c3,ak,nk,ck,ar,cr,ac,nc,cc,tb,tc,aw,cw,R,RW,l0,M,I⟩:=Xb;exact⟨qf,hi,a1,n1,c1,a2,n2,c2,a3,n3,c3,ak,nk,ck,ar,cr,ac,nc,cc,tb,tc,aw,cw,R,RW,Hp.le_trans lb l0,M,I⟩
 ·have hw:Yu q (st.far.getD p 0) e st=st:=by unfold Yu;rw [bE (by rw [e1];decide)]
  rw [hw] at hJ;exact hJ h22 X22
theorem Qpj (l:List Nat):(l.map fun n:Nat=>vi n)=(l.map fun n:Nat=>(n:Int)).map vi:=by rw [fN];rfl
theorem Wr.seen {q:Qy}{h0 h:Hp}{g:Nat}{st:En}(X:Wr q h0 h g st):∃(a1:OaT) (n1 c1:Nat) (a2:OaT) (n2 c2:Nat) (a3:OaT) (n3 c3:Nat) (qf:Qy) (ak:OaT) (nk ck:Nat) (ar:OaT) (cr:Nat) (ac:OaT) (cc:Nat) (tb:OaT) (tc:Nat) (aw:OaT) (cw:Nat) (R:List PR),
  h g=some (Qb (Kg a1 n1 c1 a2 n2 c2 a3 n3 c3 qf ak nk ck ar st.rd.length cr ac st.far.length cc tb R.length tc st.late aw (st.rows.map ZI).length cw) 132)/\SlI h ar st.rd.length (st.rd.map fun n:Nat=>(n:Int))/\SlI h ac st.far.length st.far/\Ky Qq QT h aw (st.rows.map ZI).length (st.rows.map ZI) /\
   Tb h tb R/\R.map prT=st.pn.map (pnT (Qd q)):=by
 obtain⟨qf,hi,a1,n1,c1,a2,n2,c2,a3,n3,c3,ak,nk,ck,ar,cr,ac,nc,cc,tb,tc,aw,cw,R,RW,l0,M,I⟩:=X;have hWl:RW.length=(st.rows.map ZI).length:=by have:=congrArg List.length I.w;simpa [QO] using this
 have hnc:nc=st.far.length:=I.c.1;subst hnc;refine⟨a1,n1,c1,a2,n2,c2,a3,n3,c3,qf,ak,nk,ck,ar,cr,ac,cc,tb,tc,aw,cw,R,?_,?_,I.c.le M.le0,⟨RW,I.w,rfl,M.w.row,fun r hr=>(I.wi r hr).le M.le0⟩,I.t.le M.le0,I.p⟩
 ·rw [<-hWl];exact M.blk
 ·have:=M.r;rw [Qpj] at this;exact this.sli
end Go.Proofs.YthicpjafcpfjoaaGreatDoor
namespace Go.Vc
open Go
structure Par (h0 h:Hp)(L:List Hp):Prop where
 z:h0.le h
 l:∀ p ∈ L,h0.le p/\p.le h
 dj:L.Pairwise fun p q=>∀ b,p b≠none->q b≠none->h0 b≠none
section
variable {P:Program}{h0 h:Hp}{L:List Hp}
theorem Par.nil (l:h0.le h):Par h0 h []:=⟨l,fun p hp=>(by cases hp),List.Pairwise.nil⟩
theorem Par.grow (D:Par h0 h L){h':Hp}(l:h.le h'):Par h0 h' L:=⟨Hp.le_trans D.z l,fun p hp=>⟨(D.l p hp).1,Hp.le_trans (D.l p hp).2 l⟩,D.dj⟩
theorem Par.sub {L':List Hp}(D:Par h0 h L)(s:L'.Sublist L):Par h0 h L':=⟨D.z,fun p hp=>D.l p (s.mem hp),D.dj.sublist s⟩
theorem Par.fresh (D:Par h0 h L):Par h0 h (h0 :: L):=by
 refine⟨D.z,fun p hp=>?_,fD.2 ⟨fun q hq b x _=>x,D.dj⟩⟩
 rcases bX.1 hp with rfl|hp
 ·exact⟨Hp.le_refl _,D.z⟩
 ·exact D.l p hp
theorem Par.at (D:Par h0 h L){i:Nat}{p:Hp}(hi:L[i]?=some p):h0.le p/\p.le h:=D.l p (bZ hi)
theorem Par.two (D:Par h0 h L){i j:Nat}{p q:Hp}(hi:L[i]?=some p)(hj:L[j]?=some q)(hne:i≠j):∀ b,p b≠none->q b≠none->h0 b≠none:=by
 obtain⟨hi',ei⟩:=bI.1 hi
 obtain⟨hj',ej⟩:=bI.1 hj
 have:=f6.1 D.dj;intro b x y;rcases Nat.lt_or_gt_of_ne hne with q1|q1
 ·have:=this i j hi' hj' q1 b;rw [ei,ej] at this;exact this x y
 ·have:=this j i hj' hi' q1 b;rw [ei,ej] at this;exact this y x
theorem Par.upd (D:Par h0 h L){i:Nat}{p p' h':Hp}(hi:L[i]?=some p)(z:h0.le h')(z1:h0.le p')(l1:p'.le h')(hk:∀ q b o,(∃ j,j≠i/\L[j]?=some q)->q b=some o->h' b=some o)(hn:∀ q b,(∃ j,j≠i/\L[j]?=some q)->p' b≠none->q b≠none->h0 b≠none):Par h0 h' (L.set i p'):=by
 have hil:=(bI.1 hi).1
 have key:∀{k:Nat} {t:Hp},(L.set i p')[k]?=some t->(k=i/\t=p')\/(k≠i/\L[k]?=some t):=by
  intro k t h1;by_cases hki:k=i
  ·subst hki;rw [fC hil] at h1
   exact .inl ⟨rfl,(dL h1).symm⟩
  ·rw [gU (fun e=>hki e.symm)] at h1
   exact .inr ⟨hki,h1⟩
 refine⟨z,fun t ht=>?_,f6.2 fun a c ha hc hac b x y=>?_⟩
 ·obtain⟨k,hk'⟩:=gX ht
  rcases key hk' with ⟨_,rfl⟩|⟨q1,q2⟩
  ·exact⟨z1,l1⟩
  ·exact⟨(D.at q2).1,fun b o ho=>hk t b o ⟨k,q1,q2⟩ ho⟩
 ·rcases key (bD ha) with ⟨q1,q2⟩|⟨q1,q2⟩
  ·rcases key (bD hc) with ⟨q3,q4⟩|⟨q3,q4⟩
   ·omega
   ·rw [q2] at x;exact hn _ b ⟨c,q3,q4⟩ x y
  ·rcases key (bD hc) with ⟨q3,q4⟩|⟨q3,q4⟩
   ·rw [q4] at y;exact hn _ b ⟨a,q1,q2⟩ y x
   ·exact D.two q2 q4 (by omega) b x y
theorem Par.call (D:Par h0 h L){i:Nat}{p:Hp}(hi:L[i]?=some p){f:FuncId}{args:List Value}{R:RtT}(H:Qa P f args p fun v p'=>h0.le p'/\∀ h',Par h0 h' (L.set i p')->R v h'):Qa P f args h R:=by
 intro w hs;obtain⟨zp,lp⟩:=D.at hi;refine(Qa.frame lp H w hs).mono ?_
 rintro e w' ⟨v,h2,rfl,s2,F,p',l1,kp,z1,k⟩;refine⟨v,h2,rfl,s2,F,k h2 (D.upd hi (Hp.le_trans z1 l1) z1 l1 (fun q b o hq ho=>?_) fun q b hq x y=>?_)⟩
 ·obtain⟨j,hj,hq⟩:=hq;cases hp:p b with
  | none=>exact(kp b o ((D.at hq).2 b o ho) hp).1
  | some o'=>
   cases hz:h0 b with
   | none=>exact absurd hz (D.two hi hq (fun e=>hj e.symm) b (by rw [hp];simp) (by rw [ho];simp))
   | some o2=>
    have e1:=(D.at hq).1 b o2 hz;rw [ho] at e1;cases e1;exact l1 b o (z1 b o hz)
 ·obtain⟨j,hj,hq⟩:=hq;cases hz:h0 b with
  | some o2=>simp
  | none=>
   exfalso;cases ho:q b with
   | none=>exact y ho
   | some o=>
    cases hp:p b with
    | none=>exact x (kp b o ((D.at hq).2 b o ho) hp).2
    | some o'=>exact D.two hi hq (fun e=>hj e.symm) b (by rw [hp];simp) (by rw [ho];simp) hz
theorem Par.adopt (D:Par h0 h L){i:Nat}{p:Hp}(hi:L[i]?=some p){h':Hp}(l:h.le h'):∃ p',p.le p'/\Par h0 h' (L.set i p')/\(∀ b o,h' b=some o->h b=none->p' b=some o)/\∀ b,h b≠none->p' b=p b:=by
 obtain⟨zp,lp⟩:=D.at hi;have e1:∀ b,h b=none->(fun b=>if h b=none then h' b else p b:Hp) b=h' b:=fun b hb=>bH hb
 have e2:∀ b,h b≠none->(fun b=>if h b=none then h' b else p b:Hp) b=p b:=fun b hb=>bE hb
 generalize (fun b=>if h b=none then h' b else p b:Hp)=p' at e1 e2
 have lpp:p.le p':=fun b o ho=>by
  have:=lp b o ho;rw [e2 b (by rw [this];simp)];exact ho
 refine⟨p',lpp,D.upd hi (Hp.le_trans D.z l) (Hp.le_trans zp lpp) (fun b o ho=>?_) (fun q b o hq ho=>?_) (fun q b hq x y=>?_),fun b o ho hn=>(e1 b hn).trans ho,e2⟩
 ·cases hb:h b with
  | none=>rw [e1 b hb] at ho;exact ho
  | some ob=>
   rw [e2 b (by rw [hb];simp)] at ho
   exact l b o (lp b o ho)
 ·obtain⟨j,_,hq⟩:=hq;exact l b o ((D.at hq).2 b o ho)
 ·obtain⟨j,hj,hq⟩:=hq;cases hy:q b with
  | none=>exact absurd hy y
  | some o=>
   have hb:=(D.at hq).2 b o hy;rw [e2 b (by rw [hb];simp)] at x
   exact D.two hi hq (fun e=>hj e.symm) b x y
theorem Par.store (D:Par h0 h L){i:Nat}{p:Hp}(hi:L[i]?=some p){g:Nat}(hp:p g≠none)(h0g:h0 g=none)(ob:Obj):Par h0 (h.set g ob) (L.set i (p.set g ob)):=by
 obtain⟨zp,lp⟩:=D.at hi;have zs:∀{k:Hp},h0.le k->h0.le (k.set g ob):=fun {k} l b o ho=>by
  have hb:b≠g:=fun e=>by rw [e,h0g] at ho;cases ho
  rw [Hp.set_other _ _ hb];exact l b o ho
 refine D.upd hi (zs D.z) (zs zp) (fun b o ho=>?_) (fun q b o hq ho=>?_) fun q b hq x y=>?_
 ·by_cases e:b=g
  ·subst e;rw [Hp.set_same] at ho ⊢;exact ho
  ·rw [Hp.set_other _ _ e] at ho ⊢;exact lp b o ho
 ·obtain⟨j,hj,hq⟩:=hq;have hb:b≠g:=fun e=>by
   subst e;exact D.two hi hq (fun e=>hj e.symm) b hp (by rw [ho];simp) h0g
  rw [Hp.set_other _ _ hb];exact(D.at hq).2 b o ho
 ·obtain⟨j,hj,hq⟩:=hq;by_cases e:b=g
  ·subst e;exact D.two hi hq (fun e=>hj e.symm) b hp y
  ·rw [Hp.set_other _ _ e] at x;exact D.two hi hq (fun e=>hj e.symm) b x y
end
theorem Par.one {h0 p:Hp}(l:h0.le p):Par h0 p [p]:=⟨l,fun x hx=>by rw [cB.1 hx];exact⟨l,Hp.le_refl p⟩,pC ..⟩
theorem Par.last {h0 h:Hp}{L:List Hp}(D:Par h0 h L){i:Nat}{p:Hp}(hi:L[i]?=some p):p.le h:=(D.at hi).2
theorem Par.swap {h0 h p q:Hp}{L:List Hp}(P:Par h0 h (p :: q :: L)):Par h0 h (q :: p :: L):=by
 obtain⟨z,l,d⟩:=P;refine⟨z,fun x hx=>l x ?_,?_⟩
 ·simp only [bX] at hx ⊢;rcases hx with h|h|h
  ·exact .inr (.inl h)
  ·exact .inl h
  ·exact .inr (.inr h)
 ·simp only [fD,bX] at d ⊢;obtain⟨d1,d2,d3⟩:=d;refine⟨fun x hx=>?_,fun x hx=>d1 x (.inr hx),d3⟩
  rcases hx with rfl|hx
  ·exact fun b u v=>d1 q (.inl rfl) b v u
  ·exact d2 x hx
theorem Par.rest {h0 h p q:Hp}(D:Par h0 h [p,q]):∃ r,Par p h [r]/\q.le r/\∀ b,q b≠none->h0 b=none->p b=none:=by
 have hp:=D.at (i:=0) rfl;have hq:=D.at (i:=1) rfl;have dj:=D.two (i:=0) (j:=1) rfl rfl (by decide)
 have e1:∀ b,p b≠none->(fun b=>if p b=none then q b else p b:Hp) b=p b:=fun b hb=>bE hb
 have e2:∀ b,p b=none->(fun b=>if p b=none then q b else p b:Hp) b=q b:=fun b hb=>bH hb
 generalize (fun b=>if p b=none then q b else p b:Hp)=r at e1 e2
 have l1:p.le r:=fun b o ho=>(e1 b (by rw [ho];simp)).trans ho
 refine⟨r,⟨hp.2,fun x hx=>?_,pC ..⟩,fun b o ho=>?_,fun b hb h0b=>?_⟩
 ·rw [cB.1 hx];refine⟨l1,fun b o ho=>?_⟩
  cases hb:p b with
  | none=>rw [e2 b hb] at ho;exact hq.2 b o ho
  | some o'=>rw [e1 b (by rw [hb];simp)] at ho;exact hp.2 b o ho
 ·cases hb:p b with
  | none=>exact(e2 b hb).trans ho
  | some o'=>
   have h0b:=dj b (by rw [hb];simp) (by rw [ho];simp)
   cases h0o:h0 b with
   | none=>exact absurd h0o h0b
   | some o2=>
    have q1:=hp.1 b o2 h0o;have q2:=hq.1 b o2 h0o;rw [ho] at q2;cases q2;rw [e1 b (by rw [hb];simp)]
    exact q1
 ·cases hpb:p b with
  | none=>rfl
  | some o=>exact absurd h0b (dj b (by rw [hpb];simp) hb)
section
variable {hi h:Hp}{L:List Ow}
theorem QC.sub {L':List Ow}(O:QC hi h L)(hs:L'.Sublist L):QC hi h L':=⟨O.le,fun s h1=>O.own s (hs.mem h1),fun s h1=>O.new s (hs.mem h1),O.dj.sublist hs⟩
theorem QC.cons {h':Hp}(O:QC hi h L)(l:h.le h'){s:Ow}(O':s.own h')(hn:∀ b,s.at b->h b=none):QC hi h' (s :: L):=by
 have O2:=O.grow l;refine⟨O2.le,fun t ht=>?_,fun t ht b hb=>?_,fD.2 ⟨fun y hy b hb hb'=>?_,O.dj⟩⟩
 ·rcases bX.1 ht with rfl|q
  ·exact O'
  ·exact O2.own t q
 ·rcases bX.1 ht with rfl|q
  ·exact Hp.none_of_le O.le (hn b hb)
  ·exact O.new t q b hb
 ·exact Ow.al (O.own y hy) hb' (hn b hb)
theorem QC.ins {h':Hp}{x:Ow}(O:QC hi h (x :: L))(l:h.le h'){s:Ow}(O':s.own h')(hn:∀ b,s.at b->h b=none):QC hi h' (x :: s :: L):=by
 have O2:=O.grow l;have Os:=(O.sub (gN x L)).cons l O' hn;obtain⟨d1,d2⟩:=fD.1 O.dj;refine⟨O2.le,fun t ht=>?_,fun t ht b hb=>?_,fD.2 ⟨fun y hy b hb hb'=>?_,Os.dj⟩⟩
 ·rcases bX.1 ht with rfl|q
  ·exact O2.own _ (bS ..)
  ·exact Os.own t q
 ·rcases bX.1 ht with rfl|q
  ·exact O.new _ (bS ..) b hb
  ·exact Os.new t q b hb
 ·rcases bX.1 hy with rfl|q
  ·exact Ow.al (O.own x (bS ..)) hb (hn b hb')
  ·exact d1 y q b hb hb'
theorem QC.shut1 {x s:Ow}(O:QC hi h (x :: s :: L)):∃ hj:Hp,hi.le hj/\QC hj h (x :: L)/\Qf hj s.a s.xs:=by
 obtain⟨hj,lj,Oj,kj⟩:=O.rebase (L':=x :: L) (List.Sublist.cons_cons x (gN s L));refine⟨hj,lj,Oj,?_⟩
 have hs:s ∈ x :: s :: L:=by simp
 have hrow:=(O.ownV hs).row;obtain⟨d1,d2⟩:=fD.1 O.dj;obtain⟨d3,d4⟩:=fD.1 d2;rcases hrow with e|⟨b,o,ha,hr⟩
 ·exact .inl e
 ·refine .inr ⟨b,o,ha,?_⟩
  have hb0:o=0:=(O.own s hs).at0 b o ha;subst hb0;unfold Hp.row at hr ⊢;cases hq:h b with
  | none=>rw [hq] at hr;cases hr
  | some ob=>
   rw [kj b ob hq fun t ht q1=>?_]
   ·rw [hq] at hr;exact hr
   ·rcases bX.1 ht with rfl|ht
    ·exact d1 s (bS ..) b q1 ha
    ·exact d3 t ht b ha q1
end
end Go.Vc
namespace Go.Proofs.YthicpjafcpfjoaaGreatDoor
open Go Go.Vc
def QeN (h hi:Hp):Hp:=fun b=>if h b=none then hi b else none
theorem QqP {h hi:Hp}:(QeN h hi).le hi:=fun b o ho=>by
 unfold QeN at ho;split at ho
 ·exact ho
 ·cases ho
theorem Qoz {h hi:Hp}{b:Nat}(hb:h b≠none):QeN h hi b=none:=by unfold QeN;rw [bE hb]
theorem QiJ {h hi hk:Hp}(l:hi.le hk):(QeN h hi).le (QeN h hk):=fun b o ho=>by
 unfold QeN at ho ⊢;split at ho
 ·rename_i hn;rw [bH hn];exact l b o ho
 ·cases ho
theorem Qlm {h hi:Hp}{a:OaT}{xs:List Value}(H:Qf hi a xs)(hn:∀ b o,a=some ⟨b,o,none⟩->h b=none):Qf (QeN h hi) a xs:=by
 refine Qf.over H fun b o ob ha ho=>?_
 unfold QeN;rw [bH (hn b o ha)];exact ho
theorem Qip (l:List Vl):∀ u ∈ l.flatMap Qq,u.oneCell'=true:=by
 intro u hu;obtain⟨r,_,hr⟩:=fP.1 hu;simp only [Qq,bX,dB,fZ] at hr;rcases hr with rfl|rfl<;>rfl
theorem QkX (R:List (XA Vl (Bool × PK))):∀ u ∈ R.flatMap (Zc QT),u.oneCell'=true:=by
 intro u hu;obtain⟨r,_,hr⟩:=fP.1 hu;simp only [Zc,QT,bX,dB,fZ] at hr;rcases hr with rfl|rfl|rfl|rfl|rfl<;>rfl
section
variable {h:Hp}{K':RtT}{a:OaT}{c:Nat}
theorem Qju {l:List Vl}(S:Qf h a (l.flatMap Qq))(hn:l.length<=1000000)(hK:∀ a' c' h',Qg h h' 54 2 a' l.length c' (l.flatMap Qq)->K' (vsl a' l.length c') h'):Qa Pg 123 [vsl a l.length c] h K':=by
 refine Xs ?_
 have hle:∀ x:Vl,(Qq x).length=2:=fun _=>rfl
 refine⟨_,XS (e:=54) (by kernel_rfl),fun e=>?_,fun e=>?_⟩
 ·have h0:l.flatMap Qq=[]:=by
   rcases S with h1|⟨b,o,ha,_⟩
   ·exact h1
   ·rw [ha] at e;cases e
  have hn0:l=[]:=by have:=congrArg List.length h0;rw [Qi hle] at this;exact dS (by simp at this;omega)
  subst hn0;exact hK none 0 h (Qg.nil (Hp.le_refl h) _ _)
 ·intro b3 hb3 h4;have O0:Qg h h4 54 2 (some ⟨b3,0,none⟩) 0 0 []:=Qg.mk_new (Hp.le_refl h) hb3 _ [] rfl (by simp [maxLen])
  refine Qg.append ND O0 (S.le (Hp.le_set (Hp.le_refl h) hb3 _)) (Qi hle l) (Qip l) (by omega) (by omega) fun a' c' h' O' _ _=>⟨_,_,_,rfl,?_⟩
  rw [dY,dC] at *
  exact hK a' c' h' O'
theorem Qjl {l:List (XA Vl (Bool × PK))}(S:Qf h a (l.flatMap (Zc QT)))(hn:l.length<=1000000)(hK:∀ a' c' h',Qg h h' 95 5 a' l.length c' (l.flatMap (Zc QT))->K' (vsl a' l.length c') h'):Qa Pg 122 [vsl a l.length c] h K':=by
 refine Wt ?_
 have hle:∀ x:XA Vl (Bool × PK),(Zc QT x).length=5:=fun _=>rfl
 refine⟨_,XS (e:=95) (by kernel_rfl),fun e=>?_,fun e=>?_⟩
 ·have h0:l.flatMap (Zc QT)=[]:=by
   rcases S with h1|⟨b,o,ha,_⟩
   ·exact h1
   ·rw [ha] at e;cases e
  have hn0:l=[]:=by have:=congrArg List.length h0;rw [Qi hle] at this;exact dS (by simp at this;omega)
  subst hn0;exact hK none 0 h (Qg.nil (Hp.le_refl h) _ _)
 ·intro b3 hb3 h4;have O0:Qg h h4 95 5 (some ⟨b3,0,none⟩) 0 0 []:=Qg.mk_new (Hp.le_refl h) hb3 _ [] rfl (by simp [maxLen])
  refine Qg.append QkH O0 (S.le (Hp.le_set (Hp.le_refl h) hb3 _)) (Qi hle l) (QkX l) (by omega) (by omega) fun a' c' h' O' _ _=>⟨_,_,_,rfl,?_⟩
  rw [dY,dC] at *
  exact hK a' c' h' O'
theorem Qpn {l:List (XA Vl (Bool × PK))}{i:Nat}{r:XA Vl (Bool × PK)}(hx:l[i]?=some r)(b:OaT)(d:Nat):QJ (l.flatMap (Zc QT)) (i*5+4) [vsl b r.2.2.length d]=(l.set i (r.1,(b,d),r.2.2)).flatMap (Zc QT):=by
 obtain⟨hi,er⟩:=bI.1 hx
 have hle:∀ x:XA Vl (Bool × PK),(Zc QT x).length=5:=fun _=>rfl
 have e1:l=l.take i++r :: l.drop (i+1):=by rw [<-er,<-dM hi,dV]
 have e2:l.set i (r.1,(b,d),r.2.2)=l.take i++(r.1,(b,d),r.2.2) :: l.drop (i+1):=by rw [kR,bH hi]
 have hA:((l.take i).flatMap (Zc QT)).length=i*5:=by rw [Qi hle,bV,dX (by omega)]
 rw [e2];conv=>lhs;rw [e1]
 rw [cX,cX,dP,dP];have h3:=XN ((l.take i).flatMap (Zc QT)) (Zc QT r++(l.drop (i+1)).flatMap (Zc QT)) 4 [vsl b r.2.2.length d];rw [hA] at h3;rw [h3];rfl
theorem Ud {L:List ((Bool × PK) × List Vl)}{n:Nat}(G:Ky Qq QT h a n L)(hn:L.length<=1000000)(hx:∀ x ∈ L,x.2.length<=1000)
  (hK:∀ a' c' h' hN,h.le h'->hN.le h'->(∀ b,h b≠none->hN b=none)->n<=c'->Ky Qq QT hN a' n L->K' (vsl a' n c') h'):Qa Pg 58 [vsl a n c] h K':=by
 refine Qb1 ?_
 obtain⟨RW,eW,hnL,hrow,hin⟩:=G;have hRl:RW.length=L.length:=QmW eW;have hnR:n=RW.length:=by omega
 subst hnR;refine Qjl hrow (by omega) fun a3 c3 h2 O2=>⟨_,_,_,rfl,?_⟩
 have O2':QC h h2 [⟨95,5,a3,RW.length,c3,RW.flatMap (Zc QT)⟩]:=by
  have:=(QC.nil (Hp.le_refl h)).push O2.le (s:=⟨95,5,a3,RW.length,c3,RW.flatMap (Zc QT)⟩) O2.own (fun b hb=>O2.new b hb)
  simpa using this
 refine⟨fun vs hh=>∃(i:Nat) (hi:Hp) (N:List (XA Vl (Bool × PK))),vs=[vi i]/\i<=RW.length/\h.le hi/\N.length=i/\QC hi hh [⟨95,5,a3,RW.length,c3,(N++RW.drop i).flatMap (Zc QT)⟩]/\QO N=QO (RW.take i)/\∀ r ∈ N,Qf (QeN h hi) r.2.1.1 (r.2.2.flatMap Qq),
  fun vs hh=>RW.length-(Qm vs 0).toNat,⟨0,h,[],rfl,cH _,Hp.le_refl h,rfl,by simpa using O2',rfl,fun r hr=>by cases hr⟩,?_⟩
 clear O2 O2';rintro vs hh ⟨i,hi,N,rfl,hi',lhi,hNl,O,eN,hNi⟩;refine⟨i,rfl,fun e=>?_,fun e=>?_⟩
 ·have hlt:i<RW.length:=by have:=bC e;omega
  have hxr:RW[i]?=some RW[i]:=bD hlt
  have hat:(N++RW.drop i)[i]?=some RW[i]:=by rw [dA (by omega),hNl,fT,fK,gC];exact hxr
  have hal:(RW[i]).2.2.length<=1000:=by
   have:(QO RW)[i]?=some ((RW[i]).1,(RW[i]).2.2):=by unfold QO;rw [cU,hxr];rfl
   rw [eW] at this;exact hx _ (bZ this)
  have hri:=hin _ (cM hlt);have tk:RW.take (i+1)=RW.take i++[RW[i]]:=bJ hlt;have dr:RW.drop i=RW[i] :: RW.drop (i+1):=dM hlt;generalize RW[i]=r at *
  have OV:=O.ownV (bS ..);have S:SlP (Zc QT) hh a3 RW.length (N++RW.drop i):=⟨by rw [bO,hNl,dO];omega,OV.row⟩
  obtain⟨b,o,ea,hr⟩:=S.get (sz:=5) (fun _=>rfl) (by decide) hat
  have ho:o=0:=OV.own.at0 b o ea;subst ho;refine⟨b,0,⟨ea,by omega,by omega⟩,r.2.1.1,r.2.2.length,r.2.1.2,by rw [bG,mY];exact Hp.row_cell hr (i:=4) rfl,?_⟩
  refine O.frame (Qju (hri.le lhi) (by omega) fun a17 c17 hk O17 h16 l16 O16=>⟨_,_,_,rfl,b,0,⟨ea,by omega,by omega⟩,?_⟩)
  have est:0+(i:Int).toNat*5+1+3=0+(i*5+4):=by rw [bG];omega
  rw [est];refine O16.store (j:=0) rfl (i:=i*5+4) (by simp) (by simp only [fG];omega) ea fun h20 O20 _=>?_
  simp only [cZ] at O20;rw [Qpn hat] at O20;have eset:(N++RW.drop i).set i (r.1,(a17,c17),r.2.2)=(N++[(r.1,(a17,c17),r.2.2)])++RW.drop (i+1):=by
   rw [gF _ _ (by omega),hNl,fT,dr,cZ,cG]
   rfl
  rw [eset] at O20;refine⟨_,iW,⟨i+1,hk,N++[(r.1,(a17,c17),r.2.2)],rfl,by omega,Hp.le_trans lhi O17.le,by simp [hNl],O20,?_,fun r' hr'=>?_⟩,by simp [Qm];omega⟩
  ·rw [tk];unfold QO at eN ⊢;rw [cD,cD,eN];rfl
  ·rcases cP.1 hr' with q1|q1
   ·exact(hNi r' q1).le (QiJ O17.le)
   ·rw [cB.1 q1];refine Qlm O17.row fun b' o' hb'=>?_
    have h0':o'=0:=O17.own.at0 b' o' hb';subst h0';exact Hp.none_of_le lhi (O17.new b' hb')
 ·have hge:i=RW.length:=by have:=bB e;omega
  subst hge;rw [jU,d8] at O;rw [dR] at eN;have OV:=O.ownV (bS ..);refine hK a3 c3 hh (QeN h hh) (Hp.le_trans lhi O.le) QqP (fun b hb=>Qoz hb) OV.own.cap ⟨N,eN.trans eW,by omega,?_,fun r hr=>(hNi r hr).le (QiJ O.le)⟩
  refine Qlm OV.row fun b' o' hb'=>?_
  have h0':o'=0:=OV.own.at0 b' o' hb';subst h0';exact Hp.none_of_le lhi (OV.new b' hb')
end
theorem Qcv {u0:Int}{u1:Int}{u2:Int}{u3:Int}{u4:Int}{u5:Int}{u6:Int}{h:Hp}{R:RtT}(H:((cond (decide (u0<0)) true (decide (u0>9999)))=true->R (ifv (some (119,vi 1))) h)/\((cond (decide (u0<0)) true (decide (u0>9999)))=false->∀ b2,h b2=none->let h3:=Hp.set h b2 (Qb [vi u1,vi u2,vi u3,vi u4,vi u5,vi u6] 54);∃(I5:LtT) (m6:LmT),I5 [vi 0] h3/\∀ vs7 h8,I5 vs7 h8->∃ x9,vs7=[vi x9]/\((decide (x9<((3:Nat):Int)))=true->∃ b12 o13,((some (⟨b2,0,none⟩:Addr))=some ⟨b12,o13,none⟩/\(0:Int)<=x9/\x9<((3:Nat):Int))/\∃ x14 x15,Hp.row h8 b12 (o13+x9.toNat*2) 2=some [vi x14,vi x15]/\Qa Pg 159 [vag [vi x14,vi x15]] h8 fun v16 h17=>∃ e18,v16=ifv e18/\((Option.isSome e18)=true->R (ifv e18) h17)/\((Option.isSome e18)=false->((decide (x14=2))=true->R (ifv (some (119,vi 3))) h17)/\((decide (x14=2))=false->((cond (decide (x15<(-1000))) true (decide (x15>1000)))=true->R (ifv (some (119,vi 1))) h17)/\((cond (decide (x15<(-1000))) true (decide (x15>1000)))=false->∃ x22,IsW x22 (x9+1)/\I5 [vi x22] h17/\m6 [vi x22] h17<m6 vs7 h8))))/\((decide (x9<((3:Nat):Int)))=false->R (ifv none) h8))):Qa Pg 104 [vag [vi u0,vi u1,vi u2,vi u3,vi u4,vi u5,vi u6]] h R:=callC ⟨[],[(4,([23],[.one (.int .i64)],[]))],[]⟩ Tryz.func104 [.ag [.v (vi u0),.v (vi u1),.v (vi u2),.v (vi u3),.v (vi u4),.v (vi u5),.v (vi u6)]] H
theorem QfE {u0:Int}{h:Hp}{R:RtT}(H:((cond (decide (u0<1)) true (decide (u0>3)))=true->R (Qe [vp none,(ifv (some (119,vi 1)))]) h)/\((cond (decide (u0<1)) true (decide (u0>3)))=false->Qh Pg (Instr.makeSlice 38 (vi u0) (vi u0)) h fun v2 h3=>∃ a4 n4 c4,v2=vsl a4 n4 c4/\∀ b5,h3 b5=none->let h6:=Hp.set h3 b5 (Qb [vsl a4 n4 c4] 105);R (Qe [vhp b5 0,ifv none]) h6)):Qa Pg 41 [vi u0] h R:=callC ⟨[14],[],[]⟩ Tryz.func41 [.one (.v (vi u0))] H
theorem UG {u0 u1:Nat}{h:Hp}{R:RtT}(H:∃ a1 n1 c1,Hp.cell h u0 u1=some (vsl a1 n1 c1)/\R (vi (n1:Int)) h ):Qa Pg 53 [vhp u0 u1] h R:=callO Tryz.func53 [.one (.hp u0 u1)] H
theorem GO {u0 u1:Nat}{u2:Int}{u3:Int}{u4:Int}{u5:Int}{u6:Int}{u7:Int}{u8:Int}{u9:Int}{h:Hp}{R:RtT}(H:∃ a1 n1 c1,((decide (u2<0))=false->Hp.cell h u0 u1=some (vsl a1 n1 c1))/\((cond (decide (u2<0)) true (decide (u2>=(n1:Int))))=true->R (ifv (some (119,vi 5))) h)/\((cond (decide (u2<0)) true (decide (u2>=(n1:Int))))=false->Qa Pg 104 [vag [vi u3,vi u4,vi u5,vi u6,vi u7,vi u8,vi u9]] h fun v3 h4=>∃ e5,v3=ifv e5/\((Option.isSome e5)=true->R (ifv e5) h4)/\((Option.isSome e5)=false->∃ a7 n7 c7,Hp.cell h4 u0 u1=some (vsl a7 n7 c7)/\∃ b8 o9,Ix a7 b8 o9 u2 n7/\∃ a10 n10 c10,Hp.cell h4 b8 (o9+u2.toNat*1)=some (vsl a10 n10 c10)/\((decide ((n10:Int)=40))=true->R (ifv (some (119,vi 6))) h4)/\((decide ((n10:Int)=40))=false->∃ a12 n12 c12,Hp.cell h4 u0 u1=some (vsl a12 n12 c12)/\∃ a13 n13 c13,Hp.cell h4 u0 u1=some (vsl a13 n13 c13)/\∃ b14 o15,Ix a13 b14 o15 u2 n13/\∃ a16 n16 c16,Hp.cell h4 b14 (o15+u2.toNat*1)=some (vsl a16 n16 c16)/\∀ b17,h4 b17=none->let h18:=Hp.set h4 b17 (Qb [vi u3,vi u4,vi u5,vi u6,vi u7,vi u8,vi u9] 56);Qh Pg (Builtin.append_ #[51,51] 51 #[vsl a16 n16 c16,(vsl (some (⟨b17,0,none⟩:Addr)) 1 1)]) h18 fun v19 h20=>∃ a21 n21 c21,v19=vsl a21 n21 c21/\Hp.cell h20 u0 u1=some (vsl a12 n12 c12)/\∃ b22 o23,Ix a12 b22 o23 u2 n12/\Hp.store h20 b22 (o23+u2.toNat*1) [vsl a21 n21 c21] fun h24=>R (ifv none) h24)))):Qa Pg 44 [vhp u0 u1,vi u2,vag [vi u3,vi u4,vi u5,vi u6,vi u7,vi u8,vi u9]] h R:=callC ⟨[],[],[(8,[0,1,2,3,4,5,6,7,8,9,10,11,12,13,14,15,16])]⟩ Tryz.func44 [.one (.hp u0 u1),.one (.v (vi u2)),.ag [.v (vi u3),.v (vi u4),.v (vi u5),.v (vi u6),.v (vi u7),.v (vi u8),.v (vi u9)]] H
theorem Vz {u0 u1:Nat}{u2:Int}{u3:Int}{h:Hp}{R:RtT}(H:∃ a1 n1 c1,((decide (u2<0))=false->Hp.cell h u0 u1=some (vsl a1 n1 c1))/\∃ a2 n2 c2,((cond (cond (decide (u2<0)) true (decide (u2>=(n1:Int)))) true (decide (u3<0)))=false->Hp.cell h u0 u1=some (vsl a2 n2 c2))/\∃ b3 o4,((cond (cond (decide (u2<0)) true (decide (u2>=(n1:Int)))) true (decide (u3<0)))=false->Ix a2 b3 o4 u2 n2)/\∃ a5 n5 c5,((cond (cond (decide (u2<0)) true (decide (u2>=(n1:Int)))) true (decide (u3<0)))=false->Hp.cell h b3 (o4+u2.toNat*1)=some (vsl a5 n5 c5))/\((cond (cond (cond (decide (u2<0)) true (decide (u2>=(n1:Int)))) true (decide (u3<0))) true (decide (u3>=(n5:Int))))=true->R (Qe [vag [vi 0,vi 0,vi 0,vi 0,vi 0,vi 0,vi 0],vb false]) h)/\((cond (cond (cond (decide (u2<0)) true (decide (u2>=(n1:Int)))) true (decide (u3<0))) true (decide (u3>=(n5:Int))))=false->∃ a7 n7 c7,Hp.cell h u0 u1=some (vsl a7 n7 c7)/\∃ b8 o9,Ix a7 b8 o9 u2 n7/\∃ a10 n10 c10,Hp.cell h b8 (o9+u2.toNat*1)=some (vsl a10 n10 c10)/\∃ b11 o12,Ix a10 b11 o12 u3 n10/\∃ x13 x14 x15 x16 x17 x18 x19,Hp.row h b11 (o12+u3.toNat*7) 7=some [vi x13,vi x14,vi x15,vi x16,vi x17,vi x18,vi x19]/\R (Qe [vag [vi x13,vi x14,vi x15,vi x16,vi x17,vi x18,vi x19],vb true]) h)):Qa Pg 54 [vhp u0 u1,vi u2,vi u3] h R:=callO Tryz.func54 [.one (.hp u0 u1),.one (.v (vi u2)),.one (.v (vi u3))] H
theorem Gq {u0 u1:Nat}{h:Hp}{R:RtT}(H:∃ a1 n1 c1,Hp.cell h u0 u1=some (vsl a1 n1 c1)/\∃(I3:LtT) (m4:LmT),I3 [vsl none 0 0,vi 0] h/\∀ vs5 h6,I3 vs5 h6->∃ a7 n7 c7 x8,vs5=[vsl a7 n7 c7,vi x8]/\((decide (x8<(n1:Int)))=true->∃ b11 o12,Ix a1 b11 o12 x8 n1/\∃ a13 n13 c13,Hp.cell h6 b11 (o12+x8.toNat*1)=some (vsl a13 n13 c13)/\Qa Pg 45 [vsl a13 n13 c13] h6 fun v14 h15=>∃ a16 n16 c16,v14=vsl a16 n16 c16/\∀ b17,h15 b17=none->let h18:=Hp.set h15 b17 (Qb [vsl a16 n16 c16] 51);Qh Pg (Builtin.append_ #[38,38] 38 #[vsl a7 n7 c7,(vsl (some (⟨b17,0,none⟩:Addr)) 1 1)]) h18 fun v19 h20=>∃ a21 n21 c21,v19=vsl a21 n21 c21/\∃ x23,IsW x23 (x8+1)/\I3 [vsl a21 n21 c21,vi x23] h20/\m4 [vsl a21 n21 c21,vi x23] h20<m4 vs5 h6)/\((decide (x8<(n1:Int)))=false->R (vsl a7 n7 c7) h6)):Qa Pg 11 [vhp u0 u1] h R:=callC ⟨[],[(3,([3,11],[.one (.slice),.one (.int .i64)],[]))],[]⟩ Tryz.func11 [.one (.hp u0 u1)] H
theorem Xx {u0:OaT}{u1 u2:Nat}{h:Hp}{R:RtT}(H:∃ p1,RdG .eql 51 (.tmp 3) (.const (vsl none 0 0)) (vsl u0 u1 u2) (vsl none 0 0) h (vb p1)/\(p1=true->R (vsl none 0 0) h)/\(p1=false->∀ b3,h b3=none->let h4:=Hp.set h b3 (Qb [] 56);Qh Pg (Builtin.append_ #[51,51] 51 #[(vsl (some (⟨b3,0,none⟩:Addr)) 0 0),vsl u0 u1 u2]) h4 fun v5 h6=>∃ a7 n7 c7,v5=vsl a7 n7 c7/\R (vsl a7 n7 c7) h6)):Qa Pg 45 [vsl u0 u1 u2] h R:=callO Tryz.func45 [.one (.v (vsl u0 u1 u2))] H
theorem Qq2:ElT Pg 51 56 7 56:=.of (by kernel_rfl) (by kernel_rfl) (by decide)
abbrev EvT:=Xe Xo 7 56 51
def KT (g:Nat)(L:List (List EvL))(h:Hp)(F:NpT):Prop:=∃ t G,h g=some (Qb [vsl (some ⟨t,0,none⟩) L.length L.length] 105)/\EvT h G t L/\F=(fun b=>b=g\/G b)/\¬ G g
theorem QnD (g:Nat)(L:List (List EvL)):Fp (KT g L) where
 al:=by
  rintro h F ⟨t,G,hg,D,rfl,hn⟩ b (rfl|hb)
  ·rw [hg];simp
  ·exact D.al b hb
 keep:=by
  rintro h h' F ⟨t,G,hg,D,rfl,hn⟩ hk;exact⟨t,G,hk g (.inl rfl) _ hg,D.keep fun b hb o ho=>hk b (.inr hb) o ho,rfl,hn⟩
theorem QcF {e:EvL}{h:Hp}{R:RtT}(hK:∀ h',h.le h'->R (ifv (QG (QcD e))) h'):Qa Pg 104 [vag (Xo e)] h R:=by
 refine Qcv ?_
 refine⟨fun q=>?_,fun q=>?_⟩
 ·have:QcD e=1:=by unfold QcD;rw [bH (by simp [bT] at q;omega)]
  rw [this] at hK;exact hK h (Hp.le_refl h)
 have e1:QcD e=QjX [e.2.1,e.2.2.1,e.2.2.2]:=by unfold QcD;rw [bE (by simp [bT] at q;omega)]
 rw [e1] at hK;clear e1 q;intro b2 hb2 h3;have l3:h.le h3:=Hp.le_set (Hp.le_refl h) hb2 _;have S:SlP Qq h3 (some ⟨b2,0,none⟩) 3 [e.2.1,e.2.2.1,e.2.2.2]:=⟨rfl,Qf.new _ _ [vi e.2.1.1,vi e.2.1.2,vi e.2.2.1.1,vi e.2.2.1.2,vi e.2.2.2.1,vi e.2.2.2.2] _⟩;clear_value h3;have hl:[e.2.1,e.2.2.1,e.2.2.2].length=3:=rfl;generalize [e.2.1,e.2.2.1,e.2.2.2]=l at *
 refine⟨fun vs hh=>hh=h3/\∃ i:Nat,vs=[vi i]/\i<=3/\QjX l=QjX (l.drop i),fun vs hh=>3-(Qm vs 0).toNat,⟨rfl,0,rfl,by decide,rfl⟩,?_⟩
 rintro vs hh ⟨rfl,i,rfl,hi,hc⟩;refine⟨i,rfl,fun q=>?_,fun q=>?_⟩
 ·have hlt:i<3:=by have:=bC q;omega
  have hx:l[i]?=some (l[i]'(by omega)):=bD (by omega)
  rw [Qdw (by omega:i<l.length),QjX] at hc
  obtain⟨b,o,ha,hr⟩:=S.get Ys (by decide) hx
  generalize l[i]'(by omega)=v at *
  have A:(some ⟨b2,0,none⟩:OaT)=some ⟨b,o,none⟩/\(0:Int)<=i/\(i:Int)<(3:Nat):=⟨ha,by omega,by omega⟩
  refine⟨b,o,A,_,_,hr,VJ (v:=v) ⟨_,rfl,fun q2=>?_,fun q2=>⟨fun q3=>?_,fun q3=>⟨fun q4=>?_,fun q4=>?_⟩⟩⟩⟩
  ·rw [Zj] at q2;have hg:¬ Qo v:=fun hg=>by simp [hg] at q2
   have:Qcz v=3:=by unfold Qcz;rw [bH (.inl hg)]
   rw [this,bE (by decide)] at hc
   rw [bE hg];rw [hc] at hK;exact hK hh l3
  ·have:Qcz v=3:=by unfold Qcz;rw [bH (.inr (bC q3))]
   rw [this,bE (by decide)] at hc
   rw [hc] at hK;exact hK hh l3
  ·rw [Zj] at q2;have hg:Qo v:=by
    by_cases hg:Qo v
    ·exact hg
    ·simp [hg] at q2
   have h2:¬ v.1=2:=bB q3;have:Qcz v=1:=by unfold Qcz;rw [bE (by simp [hg,h2]),bH (by simp [bT] at q4;omega)]
   rw [this,bE (by decide)] at hc
   rw [hc] at hK;exact hK hh l3
  ·rw [Zj] at q2;have hg:Qo v:=by
    by_cases hg:Qo v
    ·exact hg
    ·simp [hg] at q2
   have h2:¬ v.1=2:=bB q3;have:Qcz v=0:=by unfold Qcz;rw [bE (by simp [hg,h2]),bE (by simp [bT] at q4;omega)]
   rw [this,bH rfl] at hc;exact⟨_,iW,⟨rfl,i+1,rfl,by omega,hc⟩,by simp [Qm];omega⟩
 ·have hge:i=3:=by have:=bB q;omega
  subst hge;rw [fQ (by omega)] at hc
  rw [hc] at hK;exact hK hh l3
theorem Qqc:ElT Pg 38 51 1 24:=.of (by kernel_rfl) (by kernel_rfl) (by decide)
theorem Qfc {n:Int}{h:Hp}{R:RtT}(hK1:¬(1<=n/\n<=3)->R (Qe [vp none,ifv (QG 1)]) h)
  (hK2:1<=n->n<=3->∀ g h' F',h.le h'->(∀ b,F' b->h b=none)->KT g (List.replicate n.toNat []) h' F'->R (Qe [vhp g 0,ifv none]) h'):Qa Pg 41 [vi n] h R:=by
 refine QfE ?_
 refine⟨fun e=>hK1 (by simp [bT] at e;omega),fun e=>?_⟩
 have hn:1<=n/\n<=3:=by simp [bT] at e;omega
 have en:n=((n.toNat:Nat):Int):=by omega
 rw [en];refine Ua Qqc (z:=[vsl none 0 0]) (by kernel_rfl) (by omega) (by omega) fun b hb=>⟨_,_,_,rfl,?_⟩
 intro b5 hb5 h6;have D:=Xe.new (enc:=Xo) (sz:=7) (e:=56) (T:=51) hb n.toNat;have hne:b5≠b:=fun e=>by rw [e,Hp.set_same] at hb5;cases hb5
 have l1:h.le (h.set b (Qb ((List.replicate n.toNat [vsl none 0 0]).flatten) 51)):=Hp.le_set (Hp.le_refl h) hb _;refine hK2 hn.1 hn.2 b5 h6 _ (Hp.le_set l1 hb5 _) ?_ ⟨b,fun x=>x=b,?_,D.le (Hp.le_set (Hp.le_refl _) hb5 _),rfl,hne⟩
 ·rintro x (rfl|rfl)
  ·exact Hp.none_of_le l1 hb5
  ·exact hb
 ·have e2:(List.replicate n.toNat ([]:List EvL)).length=n.toNat:=by simp
  rw [e2];exact Hp.set_same _ _ _
section
variable {h:Hp}{F:NpT}{g:Nat}{L:List (List EvL)}
theorem KT.c (D:KT g L h F):∃ t G,h.cell g 0=some (vsl (some ⟨t,0,none⟩) L.length L.length)/\EvT h G t L/\F=(fun b=>b=g\/G b)/\¬ G g:=by
 obtain⟨t,G,hg,D,e,hn⟩:=D;exact⟨t,G,Qc hg rfl,D,e,hn⟩
theorem Ko (D:KT g L h F){R:RtT}(hK:R (vi L.length) h):Qa Pg 53 [vhp g 0] h R:=by
 refine UG ?_
 obtain⟨t,G,hc,_⟩:=D.c;exact⟨_,_,_,hc,hK⟩
def Vg (L:List (List EvL))(p:Int)(e:EvL):List (List EvL) × Int:=
 if p<0\/p>=L.length then(L,5) else if QcD e≠0 then(L,QcD e) else if (L.getD p.toNat []).length=40 then(L,6) else(L.set p.toNat (L.getD p.toNat []++[e]),0)
theorem QhN {α:Type}{L:List (List α)}{i:Nat}(h:i<L.length):L[i]?=some (L.getD i []):=by
 rw [bK,bD h];rfl
theorem Qft (D:KT g L h F){p:Int}{e:EvL}(hs:∀ l ∈ L,l.length<=40){R:RtT}(hK:∀ h' F',KT g (Vg L p e).1 h' F'->Mut F h F' h'->R (ifv (QG (Vg L p e).2)) h') :
  Qa Pg 44 [vhp g 0,vi p,vag (Xo e)] h R:=by
 refine GO ?_
 have Dq:=D;obtain⟨t,G,hc,DT,eF,hn⟩:=D.c;refine⟨_,_,_,fun _=>hc,fun q=>?_,fun q=>?_⟩
 ·have:Vg L p e=(L,5):=by unfold Vg;rw [bH (by simp [bT] at q;omega)]
  rw [this] at hK;exact hK h F Dq (Mut.of_le (Hp.le_refl h))
 have hp:¬(p<0\/p>=L.length):=by simp [bT] at q;omega
 refine QcF fun h4 l4=>⟨_,rfl,fun q2=>?_,fun q2=>?_⟩
 ·rw [Zj] at q2;have hne:QcD e≠0:=by simpa using q2
  have:Vg L p e=(L,QcD e):=by unfold Vg;rw [bE hp,bH hne]
  rw [this] at hK;exact hK h4 F ((QnD g L).keep Dq fun b _ o ho=>l4 b o ho) (Mut.of_le l4)
 rw [Zj] at q2;have he:¬ QcD e≠0:=by simpa using q2
 have hp2:p.toNat<L.length:=by omega
 have hL:=QhN hp2;have hlen:(L.getD p.toNat []).length<=40:=hs _ (bZ hL);obtain⟨a,c,hcell,_⟩:=(DT.le l4).cell hL;have hc4:=Hp.cell_le l4 hc;have A:(some ⟨t,0,none⟩:OaT)=some ⟨t,0,none⟩/\(0:Int)<=p/\p<(L.length:Nat):=⟨rfl,by omega,by omega⟩
 refine⟨_,_,_,hc4,t,0,A,_,_,_,hcell,fun q3=>?_,fun q3=>?_⟩
 ·have:Vg L p e=(L,6):=by unfold Vg;rw [bE hp,bE he,bH (by have:=bC q3;omega)]
  rw [this] at hK;exact hK h4 F ((QnD g L).keep Dq fun b _ o ho=>l4 b o ho) (Mut.of_le l4)
 have h40:¬(L.getD p.toNat []).length=40:=by have:=bB q3;omega
 have:Vg L p e=(L.set p.toNat (L.getD p.toNat []++[e]),0):=by unfold Vg;rw [bE hp,bE he,bE h40]
 rw [this] at hK;refine⟨_,_,_,hc4,_,_,_,hc4,t,0,A,_,_,_,hcell,fun b17 hb17=>?_⟩
 refine(DT.le l4).app Qq2 Qew Qjh hL (by omega) (by omega) hcell hb17 fun a' c' h20 hk hst=>⟨_,_,_,rfl,?_⟩
 have hg4:h4 g=some (Qb [vsl (some ⟨t,0,none⟩) L.length L.length] 105):=by obtain⟨t',G',hg',_,_,_⟩:=Dq;have e1:h.cell g 0=some (vsl (some ⟨t',0,none⟩) L.length L.length):=Qc hg' rfl;rw [hc] at e1;cases e1;exact l4 _ _ hg'
 have hg20:=hk g _ (.inl hn) hg4;refine⟨Qc hg20 rfl,t,0,A,hst _ fun h24 F24 D24 M24=>?_⟩
 have hg24:h24 g=some (Qb [vsl (some ⟨t,0,none⟩) L.length L.length] 105):=M24.keep g _ hn hg4;have hn24:¬ F24 g:=fun hf=>by
  rcases M24.new g hf with h1|h1
  ·exact hn h1
  ·rw [hg4] at h1;cases h1
 refine hK h24 (fun b=>b=g\/F24 b) ⟨t,F24,by rw [dG];exact hg24,D24,rfl,hn24⟩ ?_
 rw [eF];refine(Mut.of_le l4).trans ⟨fun b o hb ho=>M24.keep b o (fun hG=>hb (.inr hG)) ho,?_⟩
 rintro b (rfl|hb)
 ·exact .inl (.inl rfl)
 ·rcases M24.new b hb with h1|h1
  ·exact .inl (.inr h1)
  ·exact .inr h1
def Qh0 (L:List (List EvL))(p n:Int):EvL × Bool:=
 if p<0\/p>=L.length\/n<0\/n>=(L.getD p.toNat []).length then((0,(0,0),(0,0),(0,0)),false) else((L.getD p.toNat []).getD n.toNat (0,(0,0),(0,0),(0,0)),true)
theorem Qfs (D:KT g L h F){p n:Int}{R:RtT}(hK:R (Qe [vag (Xo (Qh0 L p n).1),vb (Qh0 L p n).2]) h):Qa Pg 54 [vhp g 0,vi p,vi n] h R:=by
 refine Vz ?_
 obtain⟨t,G,hc,DT,eF,hn⟩:=D.c;by_cases hp:p<0\/p>=L.length
 ·have:Qh0 L p n=((0,(0,0),(0,0),(0,0)),false):=by unfold Qh0;rw [bH (by omega)]
  rw [this] at hK;have hc1:(bif (decide (p<0)) then true else(decide (p>=((L.length:Nat):Int))))=true:=by simp [bT];omega
  refine⟨_,_,_,fun _=>hc,none,0,0,fun q=>?_,0,0,fun q=>?_,none,0,0,fun q=>?_,fun _=>hK,fun q=>?_⟩<;>rw [hc1] at q<;>cases q
 have hp2:p.toNat<L.length:=by omega
 have hL:=QhN hp2;obtain⟨a,c,hcell,S⟩:=DT.cell hL;have A:(some ⟨t,0,none⟩:OaT)=some ⟨t,0,none⟩/\(0:Int)<=p/\p<(L.length:Nat):=⟨rfl,by omega,by omega⟩
 refine⟨_,_,_,fun _=>hc,_,_,_,fun _=>hc,t,0,fun _=>A,_,_,_,fun _=>hcell,fun q=>?_,fun q=>?_⟩
 ·have:Qh0 L p n=((0,(0,0),(0,0),(0,0)),false):=by
   unfold Qh0;rw [bH];simp [bT] at q;simp only [bK] at q ⊢
   omega
  rw [this] at hK;exact hK
 have hb:¬(n<0)/\¬ n>=(L.getD p.toNat []).length:=by
  simp [bT] at q;simp only [bK]
  omega
 have:Qh0 L p n=((L.getD p.toNat []).getD n.toNat (0,(0,0),(0,0),(0,0)),true):=by unfold Qh0;rw [bE (by omega)]
 rw [this] at hK;generalize L.getD p.toNat []=l at *
 have hx:l[n.toNat]?=some (l.getD n.toNat (0,(0,0),(0,0),(0,0))):=by rw [bK,bD (by omega)];rfl
 obtain⟨b,o,ha,hr⟩:=S.get Qew (by decide) hx
 exact⟨_,_,_,hc,t,0,A,_,_,_,hcell,b,o,⟨ha,by omega,by omega⟩,_,_,_,_,_,_,_,hr,hK⟩
theorem QmQ {a:OaT}{n c:Nat}{l:List EvL}{h:Hp}{R:RtT}(S:SlP Xo h a n l)(hn:n<=1000000)(hK:∀ a' c' h',Qg h h' 56 7 a' n c' (l.flatMap Xo)->R (vsl a' n c') h') :
  Qa Pg 45 [vsl a n c] h R:=by
 refine Xx ?_
 have hl:=S.1;have hfl:(l.flatMap Xo).length=n*7:=by rw [Qi Qew,<-hl]
 refine⟨_,XS (e:=56) (by kernel_rfl),fun e=>?_,fun e=>?_⟩
 ·have h0:l.flatMap Xo=[]:=by
   rcases S.2 with h1|⟨b,o,ha,_⟩
   ·exact h1
   ·rw [ha] at e;cases e
  rw [h0] at hfl;have hn0:n=0:=by simp at hfl;omega
  subst hn0;have:=hK none 0 h (by rw [h0];exact Qg.nil (Hp.le_refl h) _ _)
  exact this
 ·intro b3 hb3 h4;have O0:Qg h h4 56 7 (some ⟨b3,0,none⟩) 0 0 []:=Qg.mk_new (Hp.le_refl h) hb3 _ [] rfl (by simp [maxLen])
  refine Qg.append Qq2 O0 (S.le (Hp.le_set (Hp.le_refl h) hb3 _)).2 hfl (Qpo l) (by omega) (by omega) fun a' c' h' O' _ _=>⟨_,_,_,rfl,?_⟩
  rw [dY,dC] at *
  exact hK a' c' h' O'
theorem Qe8 (D:KT g L h F)(hs:∀ l ∈ L,l.length<=1000)(hn:L.length<=1000){R:RtT}(hK:∀ a n c h',h.le h'->Qfj Xo h' a n L->R (vsl a n c) h'):Qa Pg 11 [vhp g 0] h R:=by
 refine Gq ?_
 obtain⟨t,G,hc,DT,eF,_⟩:=D.c;refine⟨_,_,_,hc,fun vs hh=>∃(i:Nat) (a:OaT) (c:Nat),vs=[vsl a (L.take i).length c,vi i]/\i<=L.length/\QeS Xo 51 h hh a c (L.take i),fun vs hh=>L.length-(Qm vs 1).toNat,
  ⟨0,none,0,rfl,cH _,QeS.nil (Hp.le_refl h)⟩,?_⟩
 rintro vs hh ⟨i,a,c,rfl,hi,B⟩;refine⟨_,_,_,_,rfl,fun q=>?_,fun q=>?_⟩
 ·have hlt:i<L.length:=by have:=bC q;omega
  have hx:L[i]?=some L[i]:=bD hlt
  obtain⟨a1,c1,hcell,S⟩:=DT.cell hx;have hl1:=hs _ (cM hlt);have tk:L.take (i+1)=L.take i++[L[i]]:=bJ hlt;have tl:(L.take i).length=i:=by rw [bV];omega
  refine⟨t,0,⟨rfl,by omega,by omega⟩,_,_,_,Hp.cell_le B.le0 hcell,QmQ (S.le B.le0) (by omega) fun a2 c2 h15 O15=>⟨_,_,_,rfl,?_⟩⟩
  intro b17 hb17 h18;refine B.app Qqc O15 (by omega) (by omega) hb17 fun a' c' h' B'=>⟨_,_,_,rfl,_,iW,⟨i+1,a',c',?_,by omega,by rw [tk];exact B'⟩,by simp [Qm];omega⟩
  rw [tk,bO];try rfl
 ·have hge:i=L.length:=by have:=bB q;omega
  subst hge;rw [cQ (cJ _)] at B ⊢;exact hK a L.length c hh B.le0 B.r
end
theorem QgU {u0 u1:Nat}{h:Hp}{R:RtT}(H:Qa Pg 100 [vhp u0 u1] h fun v1 h2=>∃ x3,v1=vi x3/\∃ x4,IsW x4 (x3-2)/\((2:Int)≠0/\InR (Int.tdiv x4 2))/\R (vi (Int.tdiv x4 2)) h2):Qa Pg 117 [vhp u0 u1] h R:=callO Tryz.func117 [.one (.hp u0 u1)] H
theorem QhM {u0:Int}{h:Hp}{R:RtT}(H:∃ x1,RdG .shr 3 (.tmp 5) (.const (vk .u64 8)) (vi u0) (vk .u64 8) h (vi x1)/\∃ x2,RdG .shr 3 (.tmp 8) (.const (vk .u64 16)) (vi u0) (vk .u64 16) h (vi x2)/\∃ x3,RdG .shr 3 (.tmp 11) (.const (vk .u64 24)) (vi u0) (vk .u64 24) h (vi x3)/\∀ b4,h b4=none->let h5:=Hp.set h b4 (Qb [(vk .u8 (IntKind.wrap .u8 u0)),(vk .u8 (IntKind.wrap .u8 x1)),(vk .u8 (IntKind.wrap .u8 x2)),(vk .u8 (IntKind.wrap .u8 x3))] 5);∃ s6,Rd Pg (convert 207 9 (vsl (some (⟨b4,0,none⟩:Addr)) 4 4)) h5 (vs s6)/\R (vs s6) h5):Qa Pg 158 [vi u0] h R:=callO Tryz.func158 [.one (.v (vi u0))] H
theorem Qeg {u0:ByteArray}{h:Hp}{R:RtT}(H:∃ x1,Rd Pg (Instr.index 9 (vs u0) (vi 0)) h (vk .u8 x1)/\∃ x2,Rd Pg (Instr.index 9 (vs u0) (vi 1)) h (vk .u8 x2)/\∃ x3,RdG .shl 3 (.tmp 8) (.const (vk .u64 8)) (vi (IntKind.wrap .i64 x2)) (vk .u64 8) h (vi x3)/\∃ x4,Rd Pg (binOp .or 3 (vi (IntKind.wrap .i64 x1)) (vi x3)) h (vi x4)/\∃ x5,Rd Pg (Instr.index 9 (vs u0) (vi 2)) h (vk .u8 x5)/\∃ x6,RdG .shl 3 (.tmp 13) (.const (vk .u64 16)) (vi (IntKind.wrap .i64 x5)) (vk .u64 16) h (vi x6)/\∃ x7,Rd Pg (binOp .or 3 (vi x4) (vi x6)) h (vi x7)/\∃ x8,Rd Pg (Instr.index 9 (vs u0) (vi 3)) h (vk .u8 x8)/\∃ x9,RdG .shl 3 (.tmp 18) (.const (vk .u64 24)) (vi (IntKind.wrap .i64 x8)) (vk .u64 24) h (vi x9)/\∃ x10,Rd Pg (binOp .or 3 (vi x7) (vi x9)) h (vi x10)/\R (vi x10) h):Qa Pg 174 [vs u0] h R:=callC ⟨[],[],[(1,[0,1,2,3,4,5,6,7,8,9,10,11,12,13,14,15,16,17,18])]⟩ Tryz.func174 [.one (.v (vs u0))] H
theorem Qhx {u0:Int}{u1:Int}{h:Hp}{R:RtT}(H:Qa Pg 158 [vi u0] h fun v1 h2=>∃ s3,v1=vs s3/\∃ s4,RdG .add 9 (.const (vs ⟨#[84]⟩)) (.tmp 6) (vs ⟨#[84]⟩) (vs s3) h2 (vs s4)/\Qa Pg 158 [vi u1] h2 fun v5 h6=>∃ s7,v5=vs s7/\∃ s8,RdG .add 9 (.tmp 7) (.tmp 9) (vs s4) (vs s7) h6 (vs s8)/\R (vs s8) h6):Qa Pg 103 [vi u0,vi u1] h R:=callO Tryz.func103 [.one (.v (vi u0)),.one (.v (vi u1))] H
theorem Qd2 {u0 u1:Nat}{h:Hp}{R:RtT}(H:Qa Pg 100 [vhp u0 u1] h fun v1 h2=>∃ x3,v1=vi x3/\((decide (x3<4))=true->R (ifv (some (119,vi 6))) h2)/\((decide (x3<4))=false->Qa Pg 101 [vhp u0 u1,vi 1,(vs ⟨#[]⟩)] h2 fun v5 h6=>∃ e7,v5=ifv e7/\let J13:OtT->Hp->Prop:=fun e15 h16=>(let J25:OtT->Hp->Prop:=fun e27 h28=>(let J34:OtT->Hp->Prop:=fun e36 h37=>R (ifv e36) h37;((Option.isNone e27)=true->Qa Pg 102 [vhp u0 u1] h28 fun v29 h30=>∃ e31,v29=ifv e31/\J34 e31 h30)/\((Option.isNone e27)=false->J34 e27 h28));((Option.isNone e15)=true->Qa Pg 103 [vi 2,vi 0] h16 fun v17 h18=>∃ s19,v17=vs s19/\Qa Pg 101 [vhp u0 u1,vi 0,vs s19] h18 fun v20 h21=>∃ e22,v20=ifv e22/\J25 e22 h21)/\((Option.isNone e15)=false->J25 e15 h16));((Option.isNone e7)=true->Qa Pg 102 [vhp u0 u1] h6 fun v8 h9=>∃ e10,v8=ifv e10/\J13 e10 h9)/\((Option.isNone e7)=false->J13 e7 h6))):Qa Pg 43 [vhp u0 u1] h R:=callO Tryz.func43 [.one (.hp u0 u1)] H
theorem QgF {u0 u1:Nat}{h:Hp}{R:RtT}(H:Qa Pg 100 [vhp u0 u1] h fun v1 h2=>∃ x3,v1=vi x3/\((decide (x3<4))=true->R (Qe [vi 0,vi 0,(ifv (some (119,vi 4)))]) h2)/\((decide (x3<4))=false->∃(I6:LtT) (m7:LmT),I6 [vi 0,vi 0,vi 0] h2/\∀ vs8 h9,I6 vs8 h9->∃ x10 x11 x12,vs8=[vi x10,vi x11,vi x12]/\((decide (x12<2))=true->let J38:Int->Int->Hp->Prop:=fun x44 x45 h46=>(∃ x47,IsW x47 (x12+1)/\I6 [vi x44,vi x45,vi x47] h46/\m7 [vi x44,vi x45,vi x47] h46<m7 vs8 h9);Qa Pg 126 [vhp u0 u1,vi x12] h9 fun v15 h16=>∃ s17 e18,v15=Qe [vs s17,ifv e18]/\((Option.isSome e18)=true->R (Qe [vi 0,vi 0,ifv e18]) h16)/\((Option.isSome e18)=false->∃ s20,Rd Pg (Instr.sliceAt 9 (vs s17) (some (vi 1)) (some (vi 5)) none) h16 (vs s20)/\∃ s21,Rd Pg (Instr.sliceAt 9 (vs s17) (some (vi 5)) (some (vi 9)) none) h16 (vs s21)/\Qa Pg 174 [vs s20] h16 fun v22 h23=>∃ x24,v22=vi x24/\Rd Pg (Instr.sliceAt 9 (vs s17) (some (vi 5)) (some (vi 9)) none) h23 (vs s21)/\Qa Pg 174 [vs s21] h23 fun v25 h26=>∃ x27,v25=vi x27/\∃ x28,Rd Pg (Instr.index 9 (vs s17) (vi 0)) h26 (vk .u8 x28)/\∃(J29:ShT),((cond (decide (x28=84)) (decide (x24>x10)) false)=true->Qa Pg 117 [vhp u0 u1] h26 fun v30 h31=>∃ x32,v30=vi x32/\J29 (.t (.one (.v (vi x32)))) h31)/\(¬((cond (decide (x28=84)) (decide (x24>x10)) false)=true)->J29 (.t (.one (.v (vi 0)))) h26)/\∀ h33 x34,J29 (.t (.one (.v (vi x34)))) h33->∃ x35,((cond (decide (x28=84)) (decide (x24>x10)) false)=true->IsW x35 (x34*256))/\((cond (cond (decide (x28=84)) (decide (x24>x10)) false) (decide (x27<=x35)) false)=true->J38 x24 x27 h33)/\((cond (cond (decide (x28=84)) (decide (x24>x10)) false) (decide (x27<=x35)) false)=false->J38 x10 x11 h33)))/\((decide (x12<2))=false->((decide (x10=0))=true->R (Qe [vi 0,vi 0,(ifv (some (119,vi 4)))]) h9)/\((decide (x10=0))=false->R (Qe [vi x10,vi x11,ifv none]) h9)))):Qa Pg 116 [vhp u0 u1] h R:=callC ⟨[],[(4,([2,3,14],[.one (.int .i64),.one (.int .i64),.one (.int .i64)],[]))],[(9,[0,1,3,4,2,5,6,7])]⟩ Tryz.func116 [.one (.hp u0 u1)] H
theorem QhP {u0 u1:Nat}{h:Hp}{R:RtT}(H:Qa Pg 115 [vhp u0 u1] h fun v1 h2=>∃ p3,v1=vb p3/\(p3=true->R (Qe [(vs ⟨#[]⟩),(ifv (some (119,vi 7)))]) h2)/\(p3=false->Qa Pg 116 [vhp u0 u1] h2 fun v5 h6=>∃ x7 x8 e9,v5=Qe [vi x7,vi x8,ifv e9]/\((Option.isSome e9)=true->R (Qe [(vs ⟨#[]⟩),ifv e9]) h6)/\((Option.isSome e9)=false->∃(I12:LtT) (m13:LmT),I12 [(vs ⟨#[]⟩),vi 0] h6/\∀ vs14 h15,I12 vs14 h15->∃ s16 x17,vs14=[vs s16,vi x17]/\∃ x18,IsW x18 (x17*256)/\((decide (x18<x8))=true->(2:Int)≠0/\Qa Pg 117 [vhp u0 u1] h15 fun v21 h22=>∃ x23,v21=vi x23/\∃ x24,IsW x24 ((Int.tmod x7 2)*x23)/\∃ x25,IsW x25 (2+x24)/\∃ x26,IsW x26 (x25+x17)/\Qa Pg 126 [vhp u0 u1,vi x26] h22 fun v27 h28=>∃ s29 e30,v27=Qe [vs s29,ifv e30]/\((Option.isSome e30)=true->R (Qe [(vs ⟨#[]⟩),ifv e30]) h28)/\((Option.isSome e30)=false->∃ s32,RdG .add 9 (.tmp 45) (.tmp 46) (vs s16) (vs s29) h28 (vs s32)/\∃ x34,IsW x34 (x17+1)/\I12 [vs s32,vi x34] h28/\m13 [vs s32,vi x34] h28<m13 vs14 h15))/\((decide (x18<x8))=false->∃ s35,Rd Pg (Instr.sliceAt 9 (vs s16) none (some (vi x8)) none) h15 (vs s35)/\R (Qe [vs s35,ifv none]) h15)))):Qa Pg 60 [vhp u0 u1] h R:=callC ⟨[],[(8,([7,8],[.one (.str),.one (.int .i64)],[]))],[]⟩ Tryz.func60 [.one (.hp u0 u1)] H
theorem QfK {u0 u1:Nat}{u2:ByteArray}{h:Hp}{R:RtT}(H:∀ b1,h b1=none->let h2:=Hp.set h b1 (Qb [vhp u0 u1] 34);∀ b3,h2 b3=none->let h4:=Hp.set h2 b3 (Qb [ifv none] 59);∃ q5,Hp.cell h4 b1 0=some (vp q5)/\Qa Pg 115 [vp q5] h4 fun v6 h7=>∃ p8,v6=vb p8/\(p8=true->Hp.store h7 b3 0 [(ifv (some (119,vi 7)))] fun h9=>∃ e10,Hp.cell h9 b3 0=some (ifv e10)/\R (ifv e10) h9)/\(p8=false->∃ q12,Hp.cell h7 b1 0=some (vp q12)/\Qa Pg 116 [vp q12] h7 fun v13 h14=>∃ x15 x16 e17,v13=Qe [vi x15,vi x16,ifv e17]/\∀ b18,h14 b18=none->let h19:=Hp.set h14 b18 (Qb [ifv none] 59);Hp.store h19 b18 0 [ifv e17] fun h20=>∃ e21,Hp.cell h20 b18 0=some (ifv e21)/\((Option.isSome e21)=true->∃ e22,Hp.cell h20 b18 0=some (ifv e22)/\Hp.store h20 b3 0 [ifv e22] fun h23=>∃ e24,Hp.cell h23 b3 0=some (ifv e24)/\R (ifv e24) h23)/\((Option.isSome e21)=false->∃ q26,Hp.cell h20 b1 0=some (vp q26)/\Qa Pg 117 [vp q26] h20 fun v27 h28=>∃ x29,v27=vi x29/\∃ x30,IsW x30 (x29*256)/\((decide ((((ByteArray.size u2:Nat):Int):Int)>x30))=true->Hp.store h28 b3 0 [(ifv (some (119,vi 6)))] fun h31=>∃ e32,Hp.cell h31 b3 0=some (ifv e32)/\R (ifv e32) h31)/\((decide ((((ByteArray.size u2:Nat):Int):Int)>x30))=false->∃ x34,IsW x34 (x15+1)/\(2:Int)≠0/\∃ q35,Hp.cell h28 b1 0=some (vp q35)/\Qa Pg 117 [vp q35] h28 fun v36 h37=>∃ x38,v36=vi x38/\∃ x39,IsW x39 ((Int.tmod x34 2)*x38)/\∃ x40,IsW x40 (2+x39)/\∀ b41,h37 b41=none->let h42:=Hp.set h37 b41 (Qb [vi 0] 3);Hp.store h42 b41 0 [vi x40] fun h43=>Qh Pg (convert 9 207 (vs u2)) h43 fun v44 h45=>∃ a46 n46 c46,v44=vsl a46 n46 c46/\Qa Pg 118 [vsl a46 n46 c46,vi 256] h45 fun v47 h48=>∃(y49:Value),v47=y49/\∃(hc50:_) (good51:Value->Prop) (xs52:List Value) (I53:LtT),Qjz Pg (y49) hc50 good51 xs52/\I53 [] h48/\(∀ l h',I53 l h'->Hp.le hc50 h'/\ZJ h48 h')/\(∀ l54 h55 (x56:Value),good51 x56->List.length l54<List.length xs52->I53 l54 h55->∃ a57 n57 c57,x56=vsl a57 n57 c57/\∃ q58,Hp.cell h55 b1 0=some (vp q58)/\∃ x59,Hp.cell h55 b41 0=some (vi x59)/\∃ s60,Rd Pg (convert 207 9 (vsl a57 n57 c57)) h55 (vs s60)/\Qa Pg 101 [vp q58,vi x59,vs s60] h55 fun v61 h62=>∃ e63,v61=ifv e63/\Hp.store h62 b18 0 [ifv e63] fun h64=>∃ e65,Hp.cell h64 b18 0=some (ifv e65)/\((Option.isSome e65)=true->∃ e66,Hp.cell h64 b18 0=some (ifv e66)/\Hp.store h64 b3 0 [ifv e66] fun h67=>ZJ h48 h67/\(l54++[x56] <+: xs52->∃ e68,Hp.cell h67 b3 0=some (ifv e68)/\R (ifv e68) h67))/\((Option.isSome e65)=false->∃ x70,Hp.cell h64 b41 0=some (vi x70)/\∃ x71,IsW x71 (x70+1)/\Hp.store h64 b41 0 [vi x71] fun h72=>I53 (l54++[x56]) h72))/\∀ h73,I53 xs52 h73->∃ q75,Hp.cell h73 b1 0=some (vp q75)/\Qa Pg 102 [vp q75] h73 fun v76 h77=>∃ e78,v76=ifv e78/\Hp.store h77 b18 0 [ifv e78] fun h79=>∃ e80,Hp.cell h79 b18 0=some (ifv e80)/\let J91:HpT:=fun h92=>(∃ e93,Hp.cell h92 b18 0=some (ifv e93)/\let J101:HpT:=fun h102=>(∃ e103,Hp.cell h102 b18 0=some (ifv e103)/\Hp.store h102 b3 0 [ifv e103] fun h104=>∃ e105,Hp.cell h104 b3 0=some (ifv e105)/\R (ifv e105) h104);((Option.isNone e93)=true->∃ q94,Hp.cell h92 b1 0=some (vp q94)/\Qa Pg 102 [vp q94] h92 fun v95 h96=>∃ e97,v95=ifv e97/\Hp.store h96 b18 0 [ifv e97] fun h98=>J101 h98)/\((Option.isNone e93)=false->J101 h92));((Option.isNone e80)=true->∃ q81,Hp.cell h79 b1 0=some (vp q81)/\(2:Int)≠0/\Qa Pg 103 [vi x34,(vi ((ByteArray.size u2:Nat):Int))] h79 fun v82 h83=>∃ s84,v82=vs s84/\Hp.cell h83 b1 0=some (vp q81)/\Qa Pg 101 [vp q81,(vi (Int.tmod x34 2)),vs s84] h83 fun v85 h86=>∃ e87,v85=ifv e87/\Hp.store h86 b18 0 [ifv e87] fun h88=>J91 h88)/\((Option.isNone e80)=false->J91 h79))))):Qa Pg 56 [vhp u0 u1,vs u2] h R:=callC ⟨[2,4,7,8],[(11,([],[.one (.slice)],[]))],[(18,[0,1,2,3,4,5,6,7,8])]⟩ Tryz.func56 [.one (.hp u0 u1),.one (.v (vs u2))] H
theorem Jg {u0:OaT}{u1 u2:Nat}{u3:Int}{h:Hp}{R:RtT}(H:∀ b1,h b1=none->let h2:=Hp.set h b1 (Qb [vsl u0 u1 u2] 207);∀ b3,h2 b3=none->let h4:=Hp.set h2 b3 (Qb [vi u3] 3);∃ x5,Hp.cell h4 b3 0=some (vi x5)/\((decide (x5<1))=true->False)/\((decide (x5<1))=false->R (Value.func (.func 175) #[] #[vhp b1 0,vhp b3 0]) h4)):Qa Pg 118 [vsl u0 u1 u2,vi u3] h R:=callC ⟨[2,3],[],[]⟩ Tryz.func118 [.one (.v (vsl u0 u1 u2)),.one (.v (vi u3))] H
structure DK where
 kept:List (LuT)
 now:List (LuT)
 wait:List (Int × LuT)
 fuse:Int
 down:Bool
def NQ (x:Int × LuT):List Value:=[vi x.1,vs (bs x.2)]
theorem UW (l:List (LuT)):l.flatMap YF=l.map fun x=>vs (bs x):=by
 induction l with
 | nil=>rfl
 | cons x l ih=>rw [dP,ih];rfl
theorem QlI (l:List (LuT))(i:Nat)(d:LuT)(h:i<l.length):QJ (l.flatMap YF) i [vs (bs d)]=(l.set i d).flatMap YF:=by
 rw [UW,UW,Kf _ _ _ (by simpa using h),gB]
def ZA (l:LuT):LuT:=l++List.replicate (256-l.length) 0
def QQ (s:DK):DK × Int:=if s.down then(s,7) else if s.fuse=0 then({ s with down:=true,fuse:=-1 },7) else({ s with fuse:=max (s.fuse-1) (-1) },0)
def Qer (s:DK)(i:Int):LuT × Int:=if s.down then([],7) else if i<0\/i>=s.now.length then([],1) else(s.now.getD i.toNat [],0)
def Qu (s:DK)(i:Int)(d:LuT):DK × Int:=
 if i<0\/i>=s.now.length\/d.length>256 then(s,1) else if (QQ s).2≠0 then QQ s else
  ({ (QQ s).1 with now:=s.now.set i.toNat (ZA d),wait:=s.wait++[(i,ZA d)] },0)
def QU (s:DK):DK × Int:=if (QQ s).2≠0 then QQ s else({ (QQ s).1 with kept:=s.now,wait:=[] },0)
def Qrh (k:Int)(i:Nat):Bool:=decide (k / 2 ^ (i % 64) % 2=1)
def Qcl (k:Int):Nat->List (Int × LuT)->List (LuT)->List (LuT)
 | _,[],l=>l
 | i,t :: ts,l=>Qcl k (i+1) ts (if Qrh k i then l.set t.1.toNat t.2 else l)
structure DK.wf (s:DK)(n:Nat):Prop where
 k:s.kept.length=n
 w:s.now.length=n
 t:∀ x ∈ s.wait,0<=x.1/\x.1<n
 f:-1<=s.fuse
 f2:s.fuse<=9223372036854775807
 n1:1<=n
 n2:n<=160
def dkF (tT:TypeId)(aK:OaT)(cK:Nat)(aN:OaT)(cN:Nat)(aW:OaT)(cW:Nat)(s:DK):List Fld:=
 [.s 9 1 aK s.kept.length cK (s.kept.flatMap YF),.s 9 1 aN s.now.length cN (s.now.flatMap YF),.s tT 2 aW s.wait.length cW (s.wait.flatMap NQ),.v (vi s.fuse),.v (vb s.down)]
def Z5 (T tT:TypeId)(h:Hp)(F:NpT)(g:Nat)(s:DK):Prop:=∃ aK cK aN cN aW cW,F=ftR g (dkF tT aK cK aN cN aW cW s)/\Rec h g T (dkF tT aK cK aN cN aW cW s)
section
variable {T tT:TypeId}{h:Hp}{F:NpT}{g:Nat}{s:DK}
theorem Z5.al (D:Z5 T tT h F g s):∀ b,F b->h b≠none:=by
 obtain⟨aK,cK,aN,cN,aW,cW,rfl,R⟩:=D;exact R.al
theorem Z5.keep {h':Hp}(D:Z5 T tT h F g s)(hk:∀ b,F b->∀ o,h b=some o->h' b=some o):Z5 T tT h' F g s:=by
 obtain⟨aK,cK,aN,cN,aW,cW,rfl,R⟩:=D;exact⟨aK,cK,aN,cN,aW,cW,rfl,R.keep hk⟩
theorem Z5.le {h':Hp}(D:Z5 T tT h F g s)(hl:h.le h'):Z5 T tT h' F g s:=D.keep fun b _ o ho=>hl b o ho
theorem Z5.c3 (D:Z5 T tT h F g s):h.cell g (0+3)=some (vi s.fuse):=by
 obtain⟨aK,cK,aN,cN,aW,cW,rfl,R⟩:=D;exact R.cell (j:=3) rfl
theorem Z5.c4 (D:Z5 T tT h F g s):h.cell g (0+4)=some (vb s.down):=by
 obtain⟨aK,cK,aN,cN,aW,cW,rfl,R⟩:=D;exact R.cell (j:=4) rfl
theorem Z5.v3 (D:Z5 T tT h F g s){x:Int}{K:HpT}(hK:∀ h' F',Z5 T tT h' F' g { s with fuse:=x }->Mut F h F' h'->K h'):h.store g (0+3) [vi x] K:=by
 obtain⟨aK,cK,aN,cN,aW,cW,rfl,R⟩:=D;exact R.put (j:=3) (f':=.v (vi x)) rfl (fun b o ho _=>ho) trivial (fun b hb=>hb.elim) (fun h'' _ R' M=>hK h'' _ ⟨aK,cK,aN,cN,aW,cW,rfl,R'⟩ M) rfl
theorem Z5.v4 (D:Z5 T tT h F g s){x:Bool}{K:HpT}(hK:∀ h' F',Z5 T tT h' F' g { s with down:=x }->Mut F h F' h'->K h'):h.store g (0+4) [vb x] K:=by
 obtain⟨aK,cK,aN,cN,aW,cW,rfl,R⟩:=D;exact R.put (j:=4) (f':=.v (vb x)) rfl (fun b o ho _=>ho) trivial (fun b hb=>hb.elim) (fun h'' _ R' M=>hK h'' _ ⟨aK,cK,aN,cN,aW,cW,rfl,R'⟩ M) rfl
theorem Z5.noWait (D:Z5 T tT h F g s){K:HpT}(hK:∀ h' F',Z5 T tT h' F' g { s with wait:=[] }->Mut F h F' h'->K h'):h.store g (0+2) [vsl none 0 0] K:=by
 obtain⟨aK,cK,aN,cN,aW,cW,rfl,R⟩:=D;exact R.put (j:=2) (f':=.s tT 2 none 0 0 []) rfl (fun b o ho _=>ho) (Qw.nil h tT 2) (fun b hb=>by cases hb) (fun h'' _ R' M=>hK h'' _ ⟨aK,cK,aN,cN,none,0,rfl,R'⟩ M) rfl
theorem Z5.nowS (D:Z5 T tT h F g s):∃ a c,h.cell g (0+1)=some (vsl a s.now.length c)/\SlB h a s.now.length s.now /\
  ∀(i:Nat) (d:LuT) (b o:Nat) (K:HpT),i<s.now.length->a=some ⟨b,o,none⟩->(∀ h' F',h' g=h g->Z5 T tT h' F' g { s with now:=s.now.set i d }->Mut F h F' h'->K h')->h.store b (o+i*1) [vs (bs d)] K:=by
 obtain⟨aK,cK,aN,cN,aW,cW,rfl,R⟩:=D;have O:Qw h 9 1 aN s.now.length cN (s.now.flatMap YF):=R.own 1 _ rfl;refine⟨aN,cN,R.cell (j:=1) rfl,⟨rfl,O.row⟩,fun i d b o K hi ha hK=>?_⟩
 rw [f8];refine R.elem (j:=1) rfl (by simp) (by simp;omega) ha fun h' hg' R' M=>?_
 rw [QlI _ _ _ hi] at R' M;have e:(dkF tT aK cK aN cN aW cW s).set 1 (.s 9 1 aN s.now.length cN ((s.now.set i d).flatMap YF))=dkF tT aK cK aN cN aW cW { s with now:=s.now.set i d }:=by simp [dkF]
 rw [e] at R' M;exact hK h' _ hg' ⟨aK,cK,aN,cN,aW,cW,rfl,R'⟩ M
theorem Z5.waitS (D:Z5 T tT h F g s):∃ a c,h.cell g (0+2)=some (vsl a s.wait.length c)/\SlP NQ h a s.wait.length s.wait:=by
 obtain⟨aK,cK,aN,cN,aW,cW,rfl,R⟩:=D;have O:Qw h tT 2 aW s.wait.length cW (s.wait.flatMap NQ):=R.own 2 _ rfl;exact⟨aW,cW,R.cell (j:=2) rfl,⟨rfl,O.row⟩⟩
end
section
variable {T tT:TypeId}{h:Hp}{F:NpT}{g:Nat}{s:DK}
theorem Z5.waitApp {tS:TypeId}{bytes:Nat}(E:ElT Pg tS tT 2 bytes)(D:Z5 T tT h F g s)(hb:(s.wait.length+1)*bytes<=140737488355328)(hb2:s.wait.length+1<=140737488355328){x:Int × LuT}{a:OaT}{c:Nat}(hc:h.cell g (0+2)=some (vsl a s.wait.length c)){b:Nat}(hbn:h b=none){ty:TypeId}{K:RtT}
  (hK:∀ a' c' h',(∀ K2:HpT,(∀ h'' F',Z5 T tT h'' F' g { s with wait:=s.wait++[x] }->Mut F h F' h''->K2 h'')->h'.store g (0+2) [vsl a' (s.wait.length+1) c'] K2)->K (vsl a' (s.wait.length+1) c') h') :
  Qh Pg (Builtin.append_ #[tS,tS] ty #[vsl a s.wait.length c,vsl (some ⟨b,0,none⟩) 1 1]) (h.set b (Qb (NQ x) tT)) K:=by
 obtain⟨aK,cK,aN,cN,aW,cW,rfl,R⟩:=D;have hca:=R.cell (j:=2) rfl;rw [show (0+2:Nat)=2 from rfl,hca] at hc
 simp only [Fld.val,bQ,Value.slice.injEq] at hc;obtain⟨rfl,_,rfl⟩:=hc;have hl:h.le (h.set b (Qb (NQ x) tT)):=Hp.le_set (Hp.le_refl h) hbn _;have O:Qw (h.set b (Qb (NQ x) tT)) tT 2 aW s.wait.length cW (s.wait.flatMap NQ):=(R.own 2 _ rfl:Qw h tT 2 aW s.wait.length cW (s.wait.flatMap NQ)).le hl;refine Jb E O (Qf.new _ _ (NQ x) _) (m:=1) rfl (by simp [NQ,Value.oneCell']) hb hb2 fun a' c' h' O' k1 k2 _ _=>hK a' c' h' fun K2 hK2=>?_
 have e:(dkF tT aK cK aN cN aW cW s).set 2 (.s tT 2 a' (s.wait.length+1) c' (s.wait.flatMap NQ++NQ x))=dkF tT aK cK aN cN a' c' { s with wait:=s.wait++[x] }:=by simp [dkF]
 refine R.put (h':=h') (j:=2) (f':=.s tT 2 a' (s.wait.length+1) c' (s.wait.flatMap NQ++NQ x)) rfl (fun b' o ho hat=>k1 b' o (hl b' o ho) hat) O' (fun b' hb'=>?_) (fun h'' _ R' M=>by rw [e] at R' M;exact hK2 h'' _ ⟨aK,cK,aN,cN,a',c',rfl,R'⟩ M) rfl
 rcases k2 b' hb' with e|e
 ·exact .inl (e.trans hb')
 ·exact .inr (Hp.none_of_le hl e)
end
def le4 (n:Nat):LuT:=[UInt8.ofNat n,UInt8.ofNat (n / 256),UInt8.ofNat (n / 65536),UInt8.ofNat (n / 16777216)]
def un4 (l:LuT):Nat:=(l.getD 0 0).toNat+256*(l.getD 1 0).toNat+65536*(l.getD 2 0).toNat+16777216*(l.getD 3 0).toNat
theorem Qlc {n:Nat}(h:n<4294967296):un4 (le4 n)=n:=by
 simp [un4,le4];omega
def Yz (e k:Nat):LuT:=84 :: (le4 e++le4 k)
theorem Qmh (e k:Nat):(Yz e k).length=9:=rfl
def QD (s:DK):Nat:=(s.now.length-2) / 2
def ZL (room:Nat)(p:Nat × Nat)(x:LuT):Nat × Nat:=
 if (x.getD 0 0=84/\un4 ((x.drop 1).take 4)>p.1)/\un4 ((x.drop 5).take 4)<=room then(un4 ((x.drop 1).take 4),un4 ((x.drop 5).take 4)) else p
def QdI (s:DK):Nat × Nat:=ZL (QD s*256) (ZL (QD s*256) (0,0) (s.now.getD 0 [])) (s.now.getD 1 [])
def GD (s:DK):Nat->Nat × Nat
 | 0=>(0,0)
 | i+1=>ZL (QD s*256) (GD s i) (s.now.getD i [])
theorem QmS (s:DK):GD s 2=QdI s:=rfl
def Zi (s:DK):(Nat × Nat) × Int:=if s.now.length<4 then((0,0),4) else if s.down then((0,0),7) else if (QdI s).1=0 then((0,0),4) else(QdI s,0)
def Z7 (t:LuT)(k:Nat):LuT:=(t.drop (k*256)).take 256
def Zl (t:LuT):List (LuT):=(List.range ((t.length+255) / 256)).map (Z7 t)
def Qv:DK->Nat->List (LuT)->DK × Int
 | s,_,[]=>(s,0)
 | s,i,c :: cs=>if (Qu s i c).2≠0 then Qu s i c else Qv (Qu s i c).1 (i+1) cs
def QeP (s:DK)(e k:Nat):DK × Int:=
 if (QU s).2≠0 then QU s else if (Qu (QU s).1 ((e % 2:Nat):Int) (Yz e k)).2≠0 then Qu (QU s).1 ((e % 2:Nat):Int) (Yz e k) else QU (Qu (QU s).1 ((e % 2:Nat):Int) (Yz e k)).1
def Kd (s:DK)(t:LuT):DK × Int:=
 if s.down then(s,7) else if (Zi s).2≠0 then(s,(Zi s).2) else if t.length>QD s*256 then(s,6) else
  if (Qv s (2+((Zi s).1.1+1) % 2*QD s) (Zl t)).2≠0 then Qv s (2+((Zi s).1.1+1) % 2*QD s) (Zl t)
  else QeP (Qv s (2+((Zi s).1.1+1) % 2*QD s) (Zl t)).1 ((Zi s).1.1+1) t.length
def WM (s:DK):DK × Int:=if s.now.length<4 then(s,6) else if (Qu s 1 []).2≠0 then Qu s 1 [] else
 if (QU (Qu s 1 []).1).2≠0 then QU (Qu s 1 []).1 else if (Qu (QU (Qu s 1 []).1).1 0 (Yz 2 0)).2≠0 then Qu (QU (Qu s 1 []).1).1 0 (Yz 2 0) else
  QU (Qu (QU (Qu s 1 []).1).1 0 (Yz 2 0)).1
def Qgt (s:DK)(e i:Nat):LuT:=s.now.getD (2+e % 2*QD s+i) []
def Qaz (s:DK)(e m:Nat):LuT:=(List.range m).flatMap (Qgt s e)
def QiE (s:DK):LuT × Int:=if s.down then([],7) else if (Zi s).2≠0 then([],(Zi s).2) else((Qaz s (Zi s).1.1 (((Zi s).1.2+255) / 256)).take (Zi s).1.2,0)
structure DOK (s:DK)(n:Nat):Prop where
 wf:s.wf n
 l1:∀ x ∈ s.now,x.length=256
 l2:∀ x ∈ s.kept,x.length=256
 l3:∀ x ∈ s.wait,x.2.length=256
theorem Qgv {l:LuT}(h:l.length<=256):(ZA l).length=256:=by simp [ZA];omega
theorem DOK.up {s:DK}{n:Nat}(D:DOK s n){f:Int}(hf:-1<=f/\f<=9223372036854775807){b:Bool}:DOK { s with fuse:=f,down:=b } n:=
 ⟨⟨D.wf.k,D.wf.w,D.wf.t,hf.1,hf.2,D.wf.n1,D.wf.n2⟩,D.l1,D.l2,D.l3⟩
theorem DOK.stepD {s:DK}{n:Nat}(D:DOK s n):DOK (QQ s).1 n:=by
 have h1:=D.wf.f;have h2:=D.wf.f2;unfold QQ;split
 ·exact D
 ·split
  ·exact D.up (f:=-1) (b:=true) (by omega)
  ·have:=D.up (f:=max (s.fuse-1) (-1)) (b:=s.down) (by omega)
   exact this
theorem Un (s:DK):(QQ s).1.now=s.now/\(QQ s).1.kept=s.kept/\(QQ s).1.wait=s.wait:=by
 unfold QQ;split
 ·exact⟨rfl,rfl,rfl⟩
 ·split<;>exact⟨rfl,rfl,rfl⟩
theorem QpV {α:Type}{l:List α}{i:Nat}{x y:α}(h:y ∈ l.set i x):y ∈ l\/y=x:=by
 rcases gO h with h1|h1
 ·exact .inl h1
 ·exact .inr h1
theorem DOK.write {s:DK}{n:Nat}(D:DOK s n)(i:Int)(d:LuT):DOK (Qu s i d).1 n:=by
 have S:=D.stepD;have e:=Un s;unfold Qu;split
 ·exact D
 ·rename_i h;split
  ·exact S
  ·refine⟨⟨?_,?_,?_,S.wf.f,S.wf.f2,S.wf.n1,S.wf.n2⟩,?_,?_,?_⟩
   ·exact S.wf.k
   ·simp only [dG];exact D.wf.w
   ·intro x hx;rcases cP.1 hx with h1|h1
    ·exact D.wf.t x h1
    ·simp at h1;subst h1;have:=D.wf.w;simp only;omega
   ·intro x hx;rcases QpV hx with h1|h1
    ·exact D.l1 x h1
    ·rw [h1];exact Qgv (by omega)
   ·exact S.l2
   ·intro x hx;rcases cP.1 hx with h1|h1
    ·exact D.l3 x h1
    ·simp at h1;subst h1;exact Qgv (by omega)
theorem DOK.flush {s:DK}{n:Nat}(D:DOK s n):DOK (QU s).1 n:=by
 have S:=D.stepD;unfold QU;split
 ·exact S
 ·exact⟨⟨D.wf.w,S.wf.w,(fun x hx=>absurd hx dB),S.wf.f,S.wf.f2,S.wf.n1,S.wf.n2⟩,S.l1,D.l1,(fun x hx=>absurd hx dB)⟩
theorem QbS (s:DK)(i:Int)(d:LuT):(Qu s i d).1.wait.length<=s.wait.length+1:=by
 have e:=Un s;unfold Qu;split
 ·simp
 ·split
  ·rw [e.2.2];omega
  ·simp
theorem Mr (s:DK):(QU s).1.wait.length<=s.wait.length:=by
 have e:=Un s;unfold QU;split
 ·rw [e.2.2];omega
 ·simp
theorem UC:∀(cs:List (LuT)) (s:DK) (i:Nat) (c:LuT),(Qv s i cs).2=0->Qv s i (cs++[c])=Qu (Qv s i cs).1 ((i+cs.length:Nat):Int) c
 | [],s,i,c,_=>by
  simp only [dC,Qv,fB,gC];split
  ·rfl
  ·rename_i h;have h2:(Qu s i c).2=0:=by simpa using h
   rw [<-h2]
 | x :: cs,s,i,c,h=>by
  rw [Qv] at h;split at h
  ·rename_i h1;exact absurd h h1
  ·rename_i h1;rw [dN,Qv,bE h1,UC cs _ _ c h,Qv,bE h1];congr 1
   rw [cO];omega
theorem UE:∀(cs ds:List (LuT)) (s:DK) (i:Nat),(Qv s i cs).2≠0->Qv s i (cs++ds)=Qv s i cs
 | [],ds,s,i,h=>absurd rfl h
 | c :: cs,ds,s,i,h=>by
  rw [dN,Qv,Qv];rw [Qv] at h;split
  ·rfl
  ·rename_i h1;rw [bE h1] at h;exact UE cs ds _ _ h
theorem DOK.writes {n:Nat}:∀(cs:List (LuT)) {s:DK} (i:Nat),DOK s n->DOK (Qv s i cs).1 n
 | [],s,i,D=>D
 | c :: cs,s,i,D=>by
  rw [Qv];split
  ·exact D.write _ _
  ·exact DOK.writes cs _ (D.write _ _)
theorem Kx:∀(cs:List (LuT)) (s:DK) (i:Nat),(Qv s i cs).1.wait.length<=s.wait.length+cs.length
 | [],s,i=>by simp [Qv]
 | c :: cs,s,i=>by
  rw [Qv];have h1:=QbS s i c;have h2:=Kx cs (Qu s i c).1 (i+1);rw [cO];split<;>omega
theorem DOK.newD {n:Nat}(h1:1<=n)(h2:n<=160){z:LuT}(hz:z.length=256):DOK ⟨List.replicate n z,List.replicate n z,[],-1,false⟩ n:=
 ⟨⟨dK,dK,(fun x hx=>absurd hx dB),by simp,by simp,h1,h2⟩,(fun x hx=>by rw [fH hx];exact hz),(fun x hx=>by rw [fH hx];exact hz),(fun x hx=>absurd hx dB)⟩
theorem QgL {u0:ByteArray}{h:Hp}{R:RtT}(H:∃ x1,IsW x1 (256-((ByteArray.size u0:Nat):Int))/\Qh Pg (Instr.makeSlice 207 (vi x1) (vi x1)) h fun v2 h3=>∃ a4 n4 c4,v2=vsl a4 n4 c4/\∃ s5,Rd Pg (convert 207 9 (vsl a4 n4 c4)) h3 (vs s5)/\∃ s6,RdG .add 9 (.tmp 3) (.tmp 8) (vs u0) (vs s5) h3 (vs s6)/\R (vs s6) h3):Qa Pg 98 [vs u0] h R:=callO Tryz.func98 [.one (.v (vs u0))] H
theorem QiL {u0:Int}{h:Hp}{R:RtT}(H:((cond (decide (u0<1)) true (decide (u0>160)))=true->R (Qe [vp none,(ifv (some (119,vi 1)))]) h)/\((cond (decide (u0<1)) true (decide (u0>160)))=false->Qa Pg 98 [(vs ⟨#[]⟩)] h fun v2 h3=>∃ s4,v2=vs s4/\∀ b5,h3 b5=none->let h6:=Hp.set h3 b5 (Qb [vs s4] 9);Qa Pg 97 [(vsl (some (⟨b5,0,none⟩:Addr)) 1 1),vi u0] h6 fun v7 h8=>∃ a9 n9 c9,v7=vsl a9 n9 c9/\Qa Pg 99 [vsl a9 n9 c9] h8 fun v10 h11=>∃ a12 n12 c12,v10=vsl a12 n12 c12/\∀ b13,h11 b13=none->let h14:=Hp.set h11 b13 (Qb [vsl a9 n9 c9,vsl a12 n12 c12,vsl none 0 0,(vi (-1)),vb false] 188);R (Qe [vhp b13 0,ifv none]) h14)):Qa Pg 42 [vi u0] h R:=callC ⟨[20],[],[]⟩ Tryz.func42 [.one (.v (vi u0))] H
theorem V4 {u0 u1:Nat}{h:Hp}{R:RtT}(H:∃ a1 n1 c1,Hp.cell h u0 (u1+1)=some (vsl a1 n1 c1)/\R (vi (n1:Int)) h ):Qa Pg 100 [vhp u0 u1] h R:=callO Tryz.func100 [.one (.hp u0 u1)] H
theorem Qah {u0 u1:Nat}{h:Hp}{R:RtT}(H:∃ p1,Hp.cell h u0 (u1+4)=some (vb p1)/\∃ x2,((!p1)=true->Hp.cell h u0 (u1+3)=some (vi x2))/\let J7:HpT:=fun h8=>(∃ p9,Hp.cell h8 u0 (u1+4)=some (vb p9)/\(p9=true->R (ifv (some (119,vi 7))) h8)/\(p9=false->∃ x11,Hp.cell h8 u0 (u1+3)=some (vi x11)/\∃ x12,IsW x12 (x11-1)/\∃ x13,Rd Pg (Builtin.max_ #[3,3] 3 #[vi x12,(vi (-1))]) h8 (vi x13)/\Hp.store h8 u0 (u1+3) [vi x13] fun h14=>R (ifv none) h14));((cond (!p1) (decide (x2=0)) false)=true->Hp.store h u0 (u1+4) [vb true] fun h3=>Hp.store h3 u0 (u1+3) [(vi (-1))] fun h4=>J7 h4)/\((cond (!p1) (decide (x2=0)) false)=false->J7 h)):Qa Pg 157 [vhp u0 u1] h R:=callO Tryz.func157 [.one (.hp u0 u1)] H
theorem QaX {u0 u1:Nat}{u2:Int}{h:Hp}{R:RtT}(H:∃ p1,Hp.cell h u0 (u1+4)=some (vb p1)/\(p1=true->R (Qe [(vs ⟨#[]⟩),(ifv (some (119,vi 7)))]) h)/\(p1=false->∃ a3 n3 c3,((decide (u2<0))=false->Hp.cell h u0 (u1+1)=some (vsl a3 n3 c3))/\((cond (decide (u2<0)) true (decide (u2>=(n3:Int))))=true->R (Qe [(vs ⟨#[]⟩),(ifv (some (119,vi 1)))]) h)/\((cond (decide (u2<0)) true (decide (u2>=(n3:Int))))=false->∃ a5 n5 c5,Hp.cell h u0 (u1+1)=some (vsl a5 n5 c5)/\∃ b6 o7,Ix a5 b6 o7 u2 n5/\∃ s8,Hp.cell h b6 (o7+u2.toNat*1)=some (vs s8)/\R (Qe [vs s8,ifv none]) h))):Qa Pg 126 [vhp u0 u1,vi u2] h R:=callO Tryz.func126 [.one (.hp u0 u1),.one (.v (vi u2))] H
theorem NE {u0 u1:Nat}{u2:Int}{u3:ByteArray}{h:Hp}{R:RtT}(H:∃ a1 n1 c1,((decide (u2<0))=false->Hp.cell h u0 (u1+1)=some (vsl a1 n1 c1))/\((cond (cond (decide (u2<0)) true (decide (u2>=(n1:Int)))) true (decide ((((ByteArray.size u3:Nat):Int):Int)>256)))=true->R (ifv (some (119,vi 1))) h)/\((cond (cond (decide (u2<0)) true (decide (u2>=(n1:Int)))) true (decide ((((ByteArray.size u3:Nat):Int):Int)>256)))=false->Qa Pg 157 [vhp u0 u1] h fun v3 h4=>∃ e5,v3=ifv e5/\let J26:HpT:=fun h27=>R (ifv e5) h27;((Option.isNone e5)=true->∃ a6 n6 c6,Hp.cell h4 u0 (u1+1)=some (vsl a6 n6 c6)/\Qa Pg 98 [vs u3] h4 fun v7 h8=>∃ s9,v7=vs s9/\Hp.cell h8 u0 (u1+1)=some (vsl a6 n6 c6)/\∃ b10 o11,Ix a6 b10 o11 u2 n6/\Hp.store h8 b10 (o11+u2.toNat*1) [vs s9] fun h12=>∃ a13 n13 c13,Hp.cell h12 u0 (u1+2)=some (vsl a13 n13 c13)/\∃ a14 n14 c14,Hp.cell h12 u0 (u1+1)=some (vsl a14 n14 c14)/\∃ b15 o16,Ix a14 b15 o16 u2 n14/\∃ s17,Hp.cell h12 b15 (o16+u2.toNat*1)=some (vs s17)/\∀ b18,h12 b18=none->let h19:=Hp.set h12 b18 (Qb [vi u2,vs s17] 224);Qh Pg (Builtin.append_ #[186,186] 186 #[vsl a13 n13 c13,(vsl (some (⟨b18,0,none⟩:Addr)) 1 1)]) h19 fun v20 h21=>∃ a22 n22 c22,v20=vsl a22 n22 c22/\Hp.store h21 u0 (u1+2) [vsl a22 n22 c22] fun h23=>J26 h23)/\((Option.isNone e5)=false->J26 h4))):Qa Pg 101 [vhp u0 u1,vi u2,vs u3] h R:=callC ⟨[],[],[(5,[0,1,2,3,4,5,6,7,8]),(6,[0,1,2,3,4,5,6,7,8,9,10,11,12,13,14,15,16,17,18])]⟩ Tryz.func101 [.one (.hp u0 u1),.one (.v (vi u2)),.one (.v (vs u3))] H
theorem NH {u0 u1:Nat}{h:Hp}{R:RtT}(H:Qa Pg 157 [vhp u0 u1] h fun v1 h2=>∃ e3,v1=ifv e3/\let J12:HpT:=fun h13=>R (ifv e3) h13;((Option.isNone e3)=true->∃ a4 n4 c4,Hp.cell h2 u0 u1=some (vsl a4 n4 c4)/\∃ a5 n5 c5,Hp.cell h2 u0 (u1+1)=some (vsl a5 n5 c5)/\Qh Pg (Builtin.copy_ #[162,162] 3 #[vsl a4 n4 c4,vsl a5 n5 c5]) h2 fun v6 h7=>∃ x8,v6=vi x8/\Hp.store h7 u0 (u1+2) [vsl none 0 0] fun h9=>J12 h9)/\((Option.isNone e3)=false->J12 h2)):Qa Pg 102 [vhp u0 u1] h R:=callC ⟨[],[],[(3,[0,1,2,3,4,5,6,7,8])]⟩ Tryz.func102 [.one (.hp u0 u1)] H
theorem QaU {u0 u1:Nat}{h:Hp}{R:RtT}(H:∃ p1,Hp.cell h u0 (u1+4)=some (vb p1)/\R (vb p1) h ):Qa Pg 115 [vhp u0 u1] h R:=callO Tryz.func115 [.one (.hp u0 u1)] H
theorem WU {u0:OaT}{u1 u2:Nat}{h:Hp}{R:RtT}(H:∃ p1,RdG .eql 162 (.tmp 3) (.const (vsl none 0 0)) (vsl u0 u1 u2) (vsl none 0 0) h (vb p1)/\(p1=true->R (vsl none 0 0) h)/\(p1=false->∀ b3,h b3=none->let h4:=Hp.set h b3 (Qb [] 9);Qh Pg (Builtin.append_ #[162,162] 162 #[(vsl (some (⟨b3,0,none⟩:Addr)) 0 0),vsl u0 u1 u2]) h4 fun v5 h6=>∃ a7 n7 c7,v5=vsl a7 n7 c7/\R (vsl a7 n7 c7) h6)):Qa Pg 99 [vsl u0 u1 u2] h R:=callO Tryz.func99 [.one (.v (vsl u0 u1 u2))] H
theorem WE {u0:OaT}{u1 u2:Nat}{u3:Int}{h:Hp}{R:RtT}(H:((decide (u3<0))=true->False)/\((decide (u3<0))=false->Qa Pg 156 [(vk .u64 (IntKind.wrap .u64 (u1:Int))),(vk .u64 (IntKind.wrap .u64 u3))] h fun v2 h3=>∃ x4 x5,v2=Qe [(vk .u64 x4),(vk .u64 x5)]/\((cond (decide (x4>0)) true (decide (x5>9223372036854775807)))=true->False)/\((cond (decide (x4>0)) true (decide (x5>9223372036854775807)))=false->Qh Pg (Instr.makeSlice 162 (vi (IntKind.wrap .i64 x5)) (vi (IntKind.wrap .i64 x5))) h3 fun v7 h8=>∃ a9 n9 c9,v7=vsl a9 n9 c9/\Qh Pg (Builtin.copy_ #[162,162] 3 #[vsl a9 n9 c9,vsl u0 u1 u2]) h8 fun v10 h11=>∃ x12,v10=vi x12/\∃(I14:LtT) (m15:LmT),I14 [vi x12] h11/\∀ vs16 h17,I14 vs16 h17->∃ x18,vs16=[vi x18]/\((decide (x18<(n9:Int)))=true->∃ a21 n21 c21,Rd Pg (Instr.sliceAt 162 (vsl a9 n9 c9) (some (vi x18)) none none) h17 (vsl a21 n21 c21)/\∃ a22 n22 c22,Rd Pg (Instr.sliceAt 162 (vsl a9 n9 c9) none (some (vi x18)) none) h17 (vsl a22 n22 c22)/\Qh Pg (Builtin.copy_ #[162,162] 3 #[vsl a21 n21 c21,vsl a22 n22 c22]) h17 fun v23 h24=>∃ x25,v23=vi x25/\∃ x26,IsW x26 (x18+x25)/\I14 [vi x26] h24/\m15 [vi x26] h24<m15 vs16 h17)/\((decide (x18<(n9:Int)))=false->R (vsl a9 n9 c9) h17)))):Qa Pg 97 [vsl u0 u1 u2,vi u3] h R:=callC ⟨[],[(8,([8],[.one (.int .i64)],[]))],[(9,[0,1,2,3,4,5,6,7,8,9])]⟩ Tryz.func97 [.one (.v (vsl u0 u1 u2)),.one (.v (vi u3))] H
theorem Qba {u0:Int}{u1:Int}{h:Hp}{R:RtT}(H:(false=true->Qa Pg 209 [(vk .u32 (IntKind.wrap .u32 u0)),(vk .u32 (IntKind.wrap .u32 u1))] h fun v1 h2=>∃ x3 x4,v1=Qe [(vk .u32 x3),(vk .u32 x4)]/\R (Qe [(vk .u64 (IntKind.wrap .u64 x3)),(vk .u64 (IntKind.wrap .u64 x4))]) h2)/\(false=false->Qa Pg 210 [(vk .u64 u0),(vk .u64 u1)] h fun v6 h7=>∃ x8 x9,v6=Qe [(vk .u64 x8),(vk .u64 x9)]/\R (Qe [(vk .u64 x8),(vk .u64 x9)]) h7)):Qa Pg 156 [(vk .u64 u0),(vk .u64 u1)] h R:=callO Tryz.func156 [.one (.v (vk .u64 u0)),.one (.v (vk .u64 u1))] H
theorem Qae {u0:Int}{u1:Int}{h:Hp}{R:RtT}(H:∃ x1,Rd Pg (binOp .and 43 (vk .u64 u0) (vk .u64 4294967295)) h (vk .u64 x1)/\∃ x2,Rd Pg (binOp .shr 43 (vk .u64 u0) (vk .u64 32)) h (vk .u64 x2)/\∃ x3,Rd Pg (binOp .and 43 (vk .u64 u1) (vk .u64 4294967295)) h (vk .u64 x3)/\∃ x4,Rd Pg (binOp .shr 43 (vk .u64 u1) (vk .u64 32)) h (vk .u64 x4)/\∃ x5,Rd Pg (binOp .mul 43 (vk .u64 x1) (vk .u64 x3)) h (vk .u64 x5)/\∃ x6,Rd Pg (binOp .mul 43 (vk .u64 x2) (vk .u64 x3)) h (vk .u64 x6)/\∃ x7,Rd Pg (binOp .shr 43 (vk .u64 x5) (vk .u64 32)) h (vk .u64 x7)/\∃ x8,Rd Pg (binOp .add 43 (vk .u64 x6) (vk .u64 x7)) h (vk .u64 x8)/\∃ x9,Rd Pg (binOp .and 43 (vk .u64 x8) (vk .u64 4294967295)) h (vk .u64 x9)/\∃ x10,Rd Pg (binOp .shr 43 (vk .u64 x8) (vk .u64 32)) h (vk .u64 x10)/\∃ x11,Rd Pg (binOp .mul 43 (vk .u64 x1) (vk .u64 x4)) h (vk .u64 x11)/\∃ x12,Rd Pg (binOp .add 43 (vk .u64 x9) (vk .u64 x11)) h (vk .u64 x12)/\∃ x13,Rd Pg (binOp .mul 43 (vk .u64 x2) (vk .u64 x4)) h (vk .u64 x13)/\∃ x14,Rd Pg (binOp .add 43 (vk .u64 x13) (vk .u64 x10)) h (vk .u64 x14)/\∃ x15,Rd Pg (binOp .shr 43 (vk .u64 x12) (vk .u64 32)) h (vk .u64 x15)/\∃ x16,Rd Pg (binOp .add 43 (vk .u64 x14) (vk .u64 x15)) h (vk .u64 x16)/\∃ x17,Rd Pg (binOp .mul 43 (vk .u64 u0) (vk .u64 u1)) h (vk .u64 x17)/\R (Qe [(vk .u64 x16),(vk .u64 x17)]) h):Qa Pg 210 [(vk .u64 u0),(vk .u64 u1)] h R:=callO Tryz.func210 [.one (.v (vk .u64 u0)),.one (.v (vk .u64 u1))] H
theorem Qrl:ElT Pg 207 5 1 1:=.of (by kernel_rfl) (by kernel_rfl) (by decide)
theorem Qov:ElT Pg 162 9 1 16:=.of (by kernel_rfl) (by kernel_rfl) (by decide)
theorem QqL:ElT Pg 186 224 2 24:=.of (by kernel_rfl) (by kernel_rfl) (by decide)
abbrev PD:=Z5 188 224
theorem KZ {f:Int}(h:f≠0):QG f=some (119,vi f):=by unfold QG;rw [bE h]
def Yk (n:Nat):LuT:=List.replicate n 0
theorem QiQ (h:Hp)(b m:Nat)(t:TypeId):(h.set b (Qb ((List.replicate m [vk .u8 0]).flatten) t)).row b 0 (Yk m).length=some ((Yk m).map fun x=>vk .u8 (x.toNat:Nat)):=by
 rw [Qi2];have:=Qg1 h b ((List.replicate m (0:UInt8)).map fun x=>vk .u8 (x.toNat:Nat)) t
 rw [bU] at this;exact this
theorem QaZ {l:LuT}{h:Hp}{R:RtT}(hl:l.length<=256)(hK:∀ h',h.le h'->R (vs (bs (ZA l))) h'):Qa Pg 98 [vs (bs l)] h R:=by
 refine QgL ?_
 rw [Zp];have e:(256:Int)-(l.length:Nat)=((256-l.length:Nat):Int):=by omega
 refine⟨_,iW,?_⟩
 rw [e];refine Ua Qrl (z:=[vk .u8 0]) (by kernel_rfl) (by omega) (by omega) fun b hb=>⟨_,_,_,rfl,_,?_,_,QhI (m:=Yk (256-l.length)) (by simp [Yk,maxLen];omega),?_⟩
 ·have:=QeU (P:=Pg) (h:=h.set b (Qb ((List.replicate (256-l.length) [vk .u8 0]).flatten) 5)) (src:=207) (dst:=9) (e:=5) (by kernel_rfl) (by kernel_rfl) (by kernel_rfl) (c:=256-l.length) (QiQ h b (256-l.length) _)
  rw [show (Yk (256-l.length)).length=256-l.length by simp [Yk]] at this
  exact this
 ·exact hK _ (Hp.le_set (Hp.le_refl h) hb _)
theorem Qjq {x y:Nat}(hx:x<4294967296)(hy:y<4294967296)(hxy:x*y<4294967296){h:Hp}{R:RtT}(hK:R (Qe [vk .u64 0,vk .u64 (x*y:Nat)]) h):Qa Pg 156 [vk .u64 x,vk .u64 y] h R:=by
 refine Qba ?_
 refine⟨fun e=>(by cases e),fun _=>Qae ?_⟩
 refine⟨_,QbQ hx,_,Gp hx,_,QbQ hy,_,Gp hy,_,GC hxy,_,GC (a:=0) (b:=y) (by omega),_,Gp hxy,_,Qan (a:=0*y) (b:=0) (by omega),_,QbQ (a:=0*y+0) (by omega),_,Gp (a:=0*y+0) (by omega),_,GC (a:=x) (b:=0) (by omega),
  _,Qan (a:=0*y+0) (b:=x*0) (by omega),_,GC (a:=0) (b:=0) (by omega),_,Qan (a:=0*0) (b:=0) (by omega),_,Gp (a:=0*y+0+x*0) (by omega),_,Qan (a:=0*0+0) (b:=0) (by omega),_,GC hxy,_,_,rfl,?_⟩
 simpa using hK
theorem Qbf {w:LuT}{n c:Nat}{a:OaT}{h:Hp}{R:RtT}(hn:1<=n)(hn2:n<=1000)(S:SlB h a 1 [w])
  (hK:∀ a' h',Qg h h' 9 1 a' n n ((List.replicate n w).flatMap YF)->R (vsl a' n n) h'):Qa Pg 97 [vsl a 1 c,vi n] h R:=by
 refine WE ?_
 have w1:IntKind.wrap .u64 ((1:Nat):Int)=((1:Nat):Int):=by decide
 have w2:IntKind.wrap .u64 (n:Int)=(n:Nat):=by rw [IntKind.wrap_u64];omega
 have w3:IntKind.wrap .i64 ((1*n:Nat):Int)=(n:Nat):=by rw [IntKind.wrap_i64];omega
 rw [w1,w2];refine⟨fun e=>by have:=bC e;omega,fun _=>Qjq (x:=1) (y:=n) (by omega) (by omega) (by omega) ⟨_,_,rfl,fun e=>?_,fun _=>?_⟩⟩
 ·simp [bT] at e;omega
 rw [w3];refine Ua Qov (z:=[vs ⟨#[]⟩]) (by kernel_rfl) (by omega) (by omega) fun b hb=>⟨_,_,_,rfl,?_⟩
 generalize hL0:(List.replicate n [vs ⟨#[]⟩]).flatten=L0;have hL0l:L0.length=n:=by rw [<-hL0];simp
 have oneW:∀ m,∀ u ∈ List.replicate m (vs (bs w)),u.oneCell'=true:=by intro m u hu;rw [List.mem_replicate] at hu;rw [hu.2];rfl
 have S1:=S.le (Hp.le_set (Hp.le_refl h) hb (Qb L0 9));refine QfV (e:=9) (by kernel_rfl) (by kernel_rfl) (L:=L0) (ys:=[vs (bs w)]) (Hp.set_same _ _ _) S1.2 (by rw [fG];omega) (by rw [fG];omega) (oneW 1) (by simp) ⟨_,rfl,?_⟩
 rw [Hp.set_set];refine⟨fun vs' hh=>∃(m:Nat) (L:List Value),vs'=[vi m]/\1<=m/\m<=n/\hh=h.set b (Qb L 9)/\L.length=n/\L.take m=List.replicate m (vs (bs w)),fun vs' hh=>n-(Qm vs' 0).toNat,⟨1,_,rfl,by omega,hn,rfl,?_,?_⟩,?_⟩
 ·rw [Yy _ _ _ (by simp;omega)];exact hL0l
 ·unfold QJ;simp
 rintro vs' hh ⟨m,L,rfl,hm1,hmn,rfl,hLl,hLt⟩;refine⟨m,rfl,fun e=>?_,fun e=>?_⟩
 ·have hlt:m<n:=by have:=bC e;omega
  refine⟨_,_,_,YC (e:=9) (by kernel_rfl) (by kernel_rfl) (by omega) (by omega),_,_,_,XK (e:=9) (by kernel_rfl) (by kernel_rfl) (by omega) (by omega),?_⟩
  rw [bG];have hcut:MT (some ⟨b,0,none⟩) m n (szT Pg 9)=some ⟨b,m,none⟩:=by
   have e1:szT Pg 9=1:=by kernel_rfl
   unfold MT;rw [bE (by omega),e1,gJ,Yq]
   simp
  rw [hcut];have hrow:Qf (h.set b (Qb L 9)) (some ⟨b,0,none⟩) (List.replicate (min m (n-m)) (vs (bs w))):=by
   refine .inr ⟨b,0,rfl,?_⟩
   rw [Qx (Hp.set_same _ _ _) (by rw [dK];omega),pZ,dK]
   have:L.take (min m (n-m))=(L.take m).take (min m (n-m)):=by rw [jI];congr 1;omega
   rw [this,hLt,List.take_replicate];congr 2
   omega
  refine QfV (e:=9) (by kernel_rfl) (by kernel_rfl) (L:=L) (Hp.set_same _ _ _) hrow (by rw [dK]) (by rw [dK];omega) (oneW _) (by rw [ne_eq,List.replicate_eq_nil_iff];omega) ⟨_,rfl,?_⟩
  rw [dK,Hp.set_set];have hk:1<=min m (n-m)/\m+min m (n-m)<=n:=by omega
  refine⟨_,iW,⟨m+min m (n-m),_,by push_cast;rfl,by omega,hk.2,rfl,?_,?_⟩,by simp [Qm];omega⟩
  ·rw [Yy _ _ _ (by rw [dK];omega)];exact hLl
  ·unfold QJ;rw [hLt];have e1:(List.replicate m (vs (bs w))++List.replicate (min m (n-m)) (vs (bs w))).length=m+min m (n-m):=by simp
   rw [jM e1,List.replicate_append_replicate]
 ·have hge:m=n:=by have:=bB e;omega
  subst hge;rw [cQ (by omega)] at hLt
  refine hK (some ⟨b,0,none⟩) _ ?_
  have hfl:(List.replicate m w).flatMap YF=L:=by rw [hLt,UW,gI]
  rw [hfl];exact Qg.mk_new (Hp.le_refl h) hb _ _ (by omega) (by simp only [maxLen];omega)
theorem QlW {a:OaT}{n c:Nat}{l:List (LuT)}{h:Hp}{R:RtT}(S:SlB h a n l)(hn:n<=1000000)(hK:∀ a' c' h',Qg h h' 9 1 a' n c' (l.flatMap YF)->R (vsl a' n c') h') :
  Qa Pg 99 [vsl a n c] h R:=by
 refine WU ?_
 have hl:=S.1;have hfl:(l.flatMap YF).length=n*1:=by rw [Qi ZM,<-hl]
 refine⟨_,XS (e:=9) (by kernel_rfl),fun e=>?_,fun e=>?_⟩
 ·have h0:l.flatMap YF=[]:=by
   rcases S.2 with h1|⟨b,o,ha,_⟩
   ·exact h1
   ·rw [ha] at e;cases e
  rw [h0] at hfl;have hn0:n=0:=by simpa using hfl.symm
  subst hn0;have:=hK none 0 h (by rw [h0];exact Qg.nil (Hp.le_refl h) _ _)
  exact this
 ·intro b3 hb3 h4;have O0:Qg h h4 9 1 (some ⟨b3,0,none⟩) 0 0 []:=Qg.mk_new (Hp.le_refl h) hb3 _ [] rfl (by simp [maxLen])
  refine Qg.append Qov O0 (S.le (Hp.le_set (Hp.le_refl h) hb3 _)).2 hfl (Qji l) (by omega) (by omega) fun a' c' h' O' _ _=>⟨_,_,_,rfl,?_⟩
  rw [dY,dC] at *
  exact hK a' c' h' O'
def Gx (n:Nat):DK:=⟨List.replicate n (Yk 256),List.replicate n (Yk 256),[],-1,false⟩
theorem Qqr {T tT:TypeId}{h:Hp}{g:Nat}(hg:h g=none){s:DK}{aK:OaT}{cK:Nat}{aN:OaT}{cN:Nat}(hw:s.wait=[])(OK:Qw h 9 1 aK s.kept.length cK (s.kept.flatMap YF))(ON:Qw h 9 1 aN s.now.length cN (s.now.flatMap YF))(hd:∀ b,aK=some ⟨b,0,none⟩->aN≠some ⟨b,0,none⟩) :
  Rec (h.set g (Qb ((dkF tT aK cK aN cN none 0 s).map Fld.val) T)) g T (dkF tT aK cK aN cN none 0 s):=by
 have hW:Qw h tT 2 none s.wait.length 0 (s.wait.flatMap NQ):=by rw [hw];exact Qw.nil h tT 2
 refine Rec.new hg ?_ ?_
 ·intro j f hf;match j,hf with
  | 0,hf=>cases hf;exact OK
  | 1,hf=>cases hf;exact ON
  | 2,hf=>cases hf;exact hW
  | 3,hf=>cases hf;trivial
  | 4,hf=>cases hf;trivial
 ·intro j k f f' b hj hk hb hb';match j,hj with
  | 0,hj=>
   cases hj;match k,hk with
   | 0,_=>rfl
   | 1,hk=>cases hk;exact(hd b hb hb').elim
   | 2,hk=>cases hk;cases hb'
   | 3,hk=>cases hk;exact hb'.elim
   | 4,hk=>cases hk;exact hb'.elim
  | 1,hj=>
   cases hj;match k,hk with
   | 0,hk=>cases hk;exact(hd b hb' hb).elim
   | 1,_=>rfl
   | 2,hk=>cases hk;cases hb'
   | 3,hk=>cases hk;exact hb'.elim
   | 4,hk=>cases hk;exact hb'.elim
  | 2,hj=>cases hj;cases hb
  | 3,hj=>cases hj;exact hb.elim
  | 4,hj=>cases hj;exact hb.elim
theorem Qpf {tT:TypeId}{aK:OaT}{cK:Nat}{aN:OaT}{cN:Nat}{s:DK}{h:Hp}{g:Nat}(hg:h g=none)(hK:∀ b,aK=some ⟨b,0,none⟩->h b=none)(hN:∀ b,aN=some ⟨b,0,none⟩->h b=none):∀ b,ftR g (dkF tT aK cK aN cN none 0 s) b->h b=none:=by
 rintro b (rfl|⟨j,f,hf,hb⟩)
 ·exact hg
 ·match j,hf with
  | 0,hf=>cases hf;exact hK b hb
  | 1,hf=>cases hf;exact hN b hb
  | 2,hf=>cases hf;cases hb
  | 3,hf=>cases hf;exact hb.elim
  | 4,hf=>cases hf;exact hb.elim
theorem Qim {n:Int}{h:Hp}{R:RtT}(hK1:¬(1<=n/\n<=160)->R (Qe [vp none,ifv (QG 1)]) h)
  (hK2:1<=n->n<=160->∀ g h' F',h.le h'->(∀ b,F' b->h b=none)->PD h' F' g (Gx n.toNat)->R (Qe [vhp g 0,ifv none]) h'):Qa Pg 42 [vi n] h R:=by
 refine QiL ?_
 refine⟨fun e=>hK1 (by simp [bT] at e;omega),fun e=>?_⟩
 have hn:1<=n/\n<=160:=by simp [bT] at e;omega
 refine QaZ (l:=[]) (by simp) fun h3 l3=>⟨_,rfl,?_⟩
 intro b5 hb5 h6;have en:n=((n.toNat:Nat):Int):=by omega
 rw [en];refine Qbf (w:=Yk 256) (by omega) (by omega) ⟨rfl,Qf.new _ _ [vs (bs (Yk 256))] _⟩ fun a9 h8 O9=>⟨_,_,_,rfl,?_⟩
 have S9:SlB h8 a9 n.toNat (List.replicate n.toNat (Yk 256)):=O9.slp ZM (by decide)
 refine QlW S9 (by omega) fun a12 c12 h11 O12=>⟨_,_,_,rfl,?_⟩
 intro b13 hb13 h14;have l6:h.le h6:=Hp.le_set l3 hb5 _;have l11:h6.le h11:=Hp.le_trans O9.le O12.le;have len:(Gx n.toNat).kept.length=n.toNat:=by simp [Gx]
 have len2:(Gx n.toNat).now.length=n.toNat:=by simp [Gx]
 have RR:=Qqr (T:=188) (tT:=224) (s:=Gx n.toNat) (aK:=a9) (cK:=n.toNat) (aN:=a12) (cN:=c12) hb13 rfl (by rw [len];exact O9.own.le O12.le) (by rw [len2];exact O12.own) fun b hb hb'=>by
  have h1:=O12.new b hb';exact absurd h1 (by
   rcases O9.own.2 with ⟨q,_⟩|⟨g',cur,q,q2,_⟩
   ·rw [q] at hb;cases hb
   ·rw [q] at hb;cases hb;rw [q2];simp)
 refine hK2 hn.1 hn.2 b13 h14 _ (Hp.le_set (Hp.le_trans l6 l11) hb13 _) ?_ ⟨a9,n.toNat,a12,c12,none,0,rfl,?_⟩
 ·exact Qpf (Hp.none_of_le (Hp.le_trans l6 l11) hb13) (fun b hb=>Hp.none_of_le l6 (O9.new b hb)) fun b hb=>Hp.none_of_le (Hp.le_trans l6 O9.le) (O12.new b hb)
 ·have e2:(dkF 224 a9 n.toNat a12 c12 none 0 (Gx n.toNat)).map Fld.val=[vsl a9 n.toNat n.toNat,vsl a12 n.toNat c12,vsl none 0 0,vi (-1),vb false]:=by simp [dkF,Fld.val,Gx]
  rw [e2] at RR;exact RR
section
variable {h:Hp}{F:NpT}{g:Nat}{s:DK}
theorem Km (D:PD h F g s){R:RtT}(hK:R (vi s.now.length) h):Qa Pg 100 [vhp g 0] h R:=by
 refine V4 ?_
 obtain⟨a,c,h1,h2,h3⟩:=D.nowS;exact⟨_,_,_,h1,hK⟩
theorem Qal (D:PD h F g s){R:RtT}(hK:R (vb s.down) h):Qa Pg 115 [vhp g 0] h R:=by
 refine QaU ?_
 exact⟨_,D.c4,hK⟩
theorem QaB (D:PD h F g s)(hf:-1<=s.fuse/\s.fuse<=9223372036854775807){R:RtT}(hK:∀ h' F',PD h' F' g (QQ s).1->Mut F h F' h'->R (ifv (QG (QQ s).2)) h'):Qa Pg 157 [vhp g 0] h R:=by
 refine Qah ?_
 refine⟨_,D.c4,_,fun _=>D.c3,?_⟩
 intro J7;unfold QQ at hK;cases hd:s.down with
 | true=>
  rw [hd,bH rfl] at hK;refine⟨fun e=>(by cases e),fun _=>⟨_,D.c4,fun _=>hK h F D ⟨fun b o _ ho=>ho,fun b hb=>.inl hb⟩,fun e=>by rw [hd] at e;cases e⟩⟩
 | false=>
  rw [hd,bE (by simp)] at hK
  refine⟨fun e=>?_,fun e=>?_⟩
  ·have h0:s.fuse=0:=bC e;rw [bH h0] at hK;refine D.v4 fun h3 F3 D3 M3=>D3.v3 fun h4 F4 D4 M4=>⟨_,D4.c4,fun _=>hK h4 F4 D4 (M3.trans M4),fun e=>(by cases e)⟩
  ·have h0:¬ s.fuse=0:=bB e;rw [bE h0] at hK;refine⟨_,D.c4,fun e=>by (rw [hd] at e;cases e),fun _=>⟨_,D.c3,_,iW,_,Qkh,D.v3 fun h' F' D' M'=>hK h' F' (by rw [hd] at D';exact D') M'⟩⟩
theorem UA (D:PD h F g s){i:Int}{R:RtT}(hK:R (Qe [vs (bs (Qer s i).1),ifv (QG (Qer s i).2)]) h):Qa Pg 126 [vhp g 0,vi i] h R:=by
 refine QaX ?_
 unfold Qer at hK;obtain⟨a,c,h1,h2,h3⟩:=D.nowS;refine⟨_,D.c4,fun e=>?_,fun e=>⟨_,_,_,fun _=>h1,fun e2=>?_,fun e2=>?_⟩⟩
 ·rw [bH e] at hK;exact hK
 ·have:i<0\/i>=s.now.length:=by simp [bT] at e2;omega
  rw [bE (by rw [e];simp),bH this] at hK;exact hK
 ·have:¬(i<0\/i>=s.now.length):=by simp [bT] at e2;omega
  rw [bE (by rw [e];simp),bE this] at hK
  obtain⟨b,o,ha,hc⟩:=h2.get1 (i:=i.toNat) (by omega)
  exact⟨_,_,_,h1,b,o,⟨ha,by omega,by omega⟩,_,hc,hK⟩
theorem WP (D:PD h F g s){n:Nat}(W:s.wf n)(hw:s.wait.length<=1000000){i:Int}{d:LuT}{R:RtT}(hK:∀ h' F',PD h' F' g (Qu s i d).1->Mut F h F' h'->R (ifv (QG (Qu s i d).2)) h') :
  Qa Pg 101 [vhp g 0,vi i,vs (bs d)] h R:=by
 refine NE ?_
 rw [Zp];unfold Qu at hK;obtain⟨a,c,h1,h2,h3⟩:=D.nowS;refine⟨_,_,_,fun _=>h1,fun e=>?_,fun e=>?_⟩
 ·have:i<0\/i>=s.now.length\/d.length>256:=by simp [bT] at e;omega
  rw [bH this] at hK;exact hK h F D ⟨fun b o _ ho=>ho,fun b hb=>.inl hb⟩
 have hi:¬(i<0\/i>=s.now.length\/d.length>256):=by simp [bT] at e;omega
 rw [bE hi] at hK;refine QaB D ⟨W.f,W.f2⟩ fun h4 F4 D4 M4=>⟨_,rfl,?_⟩
 intro J26;by_cases hs:(QQ s).2=0
 ·rw [bE (by simpa using hs)] at hK
  have en:QG (QQ s).2=none:=by rw [hs];rfl
  have J:∀ h' F',PD h' F' g { (QQ s).1 with now:=s.now.set i.toNat (ZA d),wait:=s.wait++[(i,ZA d)] }->Mut F h F' h'->J26 h':=by intro h' F' D' M';show R (ifv (QG (QQ s).2)) h';rw [hs];exact hK h' F' D' M'
  have hnow:(QQ s).1.now=s.now:=by unfold QQ;split<;>(try split)<;>rfl
  have hwait:(QQ s).1.wait=s.wait:=by unfold QQ;split<;>(try split)<;>rfl
  refine⟨fun _=>?_,fun e=>by rw [en] at e;cases e⟩
  obtain⟨a4,c4,k1,k2,k3⟩:=D4.nowS;refine⟨_,_,_,k1,QaZ (by omega) fun h8 l8=>⟨_,rfl,?_⟩⟩
  have D8:=D4.le l8;obtain⟨a8,c8,q1,q2,q3⟩:=D8.nowS;have k1':=Hp.cell_le l8 k1;rw [k1'] at q1;simp only [bQ,Value.slice.injEq,kI] at q1;obtain⟨rfl,rfl⟩:=q1;rw [hnow] at k1' q2 q3;obtain⟨b,o,ha,_⟩:=q2.get1 (i:=i.toNat) (by omega)
  rw [hnow];refine⟨k1',b,o,⟨ha,by omega,by omega⟩,q3 i.toNat (ZA d) b o _ (by omega) ha fun h12 F12 _ D12 M12=>?_⟩
  obtain⟨aW,cW,w1,w2⟩:=D12.waitS;obtain⟨aN,cN,n1,n2,n3⟩:=D12.nowS;have hlen:(s.now.set i.toNat (ZA d)).length=s.now.length:=by simp
  simp only at n1 n2 w1 w2;obtain⟨bN,oN,haN,hcN⟩:=n2.get1 (i:=i.toNat) (by omega)
  have hget:(s.now.set i.toNat (ZA d)).getD i.toNat []=ZA d:=by rw [bK,fC (by omega)];rfl
  rw [hget] at hcN;refine⟨_,_,_,w1,_,_,_,n1,bN,oN,⟨haN,by omega,by omega⟩,_,hcN,?_⟩
  intro b18 hb18 h19;refine D12.waitApp QqL (x:=(i,ZA d)) (by simp only [hwait];omega) (by simp only [hwait];omega) w1 hb18 fun a' c' h21 hst=>⟨_,_,_,rfl,?_⟩
  refine hst _ fun h23 F23 D23 M23=>J h23 F23 ?_ ((M4.trans (Mut.of_le l8)).trans (M12.trans M23))
  simp only [hwait] at D23;exact D23
 ·rw [bH hs] at hK;have en:(QG (QQ s).2).isNone=false:=by rw [Md];simpa using hs
  refine⟨fun e=>by (rw [en] at e;cases e),fun _=>hK h4 F4 D4 M4⟩
theorem WO (D:PD h F g s){n:Nat}(W:s.wf n){R:RtT}(hK:∀ h' F',PD h' F' g (QU s).1->Mut F h F' h'->R (ifv (QG (QU s).2)) h') :
  Qa Pg 102 [vhp g 0] h R:=by
 refine NH ?_
 unfold QU at hK;refine QaB D ⟨W.f,W.f2⟩ fun h2 F2 D2 M2=>⟨_,rfl,?_⟩
 intro J12;by_cases hs:(QQ s).2=0
 ·rw [bE (by simpa using hs)] at hK
  have en:QG (QQ s).2=none:=by rw [hs];rfl
  have hnow:(QQ s).1.now=s.now:=by unfold QQ;split<;>(try split)<;>rfl
  have hkept:(QQ s).1.kept=s.kept:=by unfold QQ;split<;>(try split)<;>rfl
  refine⟨fun _=>?_,fun e=>by rw [en] at e;cases e⟩
  obtain⟨aK,cK,aN,cN,aW,cW,rfl,RR⟩:=D2;have OK:Qw h2 9 1 aK (QQ s).1.kept.length cK ((QQ s).1.kept.flatMap YF):=RR.own 0 _ rfl;have ON:Qw h2 9 1 aN (QQ s).1.now.length cN ((QQ s).1.now.flatMap YF):=RR.own 1 _ rfl;have hkn:(QQ s).1.kept.length=(QQ s).1.now.length:=by rw [hkept,hnow,W.k,W.w]
  refine⟨_,_,_,RR.cell (j:=0) rfl,_,_,_,RR.cell (j:=1) rfl,?_⟩
  rw [<-hkn];refine QgZ (e:=9) (by kernel_rfl) (by kernel_rfl) OK ON.row (by rw [Qi ZM,<-hkn,f8]) (Qji _) (fun b ob ha O'=>⟨_,rfl,?_⟩) (fun h0=>by rw [hkept,W.k] at h0;have:=W.n1;omega)
  obtain⟨R',M'⟩:=RR.inner (j:=0) rfl ha O';have e:(dkF 224 aK cK aN cN aW cW (QQ s).1).set 0 (.s 9 1 aK (QQ s).1.kept.length cK ((QQ s).1.now.flatMap YF))=dkF 224 aK cK aN cN aW cW { (QQ s).1 with kept:=(QQ s).1.now }:=by
   simp [dkF,hkn]
  rw [e] at R' M';have D7:PD (h2.set b ob) _ g { (QQ s).1 with kept:=(QQ s).1.now }:=⟨aK,cK,aN,cN,aW,cW,rfl,R'⟩
  refine D7.noWait fun h9 F9 D9 M9=>?_
  show R (ifv (QG (QQ s).2)) h9;rw [hs];refine hK h9 F9 ?_ (M2.trans (M'.trans M9))
  simp only [hnow] at D9 ⊢;exact D9
 ·rw [bH hs] at hK;have en:(QG (QQ s).2).isNone=false:=by rw [Md];simpa using hs
  refine⟨fun e=>by (rw [en] at e;cases e),fun _=>hK h2 F2 D2 M2⟩
end
section
variable {P:Program}{h:Hp}
theorem Qhb {t:TypeId}{x y:Operand}{k:Int}{j:Nat}(hj:j<64)(hk:0<=k):Rd P (eqGuard .shr t x y (vi k) (vk .u64 j) >>= fun _=>binOp .shr t (vi k) (vk .u64 j)) h (vi (k / 2 ^ j)):=by
 intro w _;rw [eqGuard_shr];have e:min ((j:Nat):Int).toNat IntKind.i64.bits=j:=by simp only [IntKind.bits,bG];omega
 simp only [binOp,shift_shr_any _ _ _ _ (show (0:Int)<=(j:Nat) by omega),Sem.run_bind,Sem.run_pure,Result.andThen_ok,e]
theorem QhE {t:TypeId}{x y:Operand}{k:Int}{j:Nat}(hj:j<64)(hk:InR (k*2 ^ j)):Rd P (eqGuard .shl t x y (vi k) (vk .u64 j) >>= fun _=>binOp .shl t (vi k) (vk .u64 j)) h (vi (k*2 ^ j)):=by
 intro w _;rw [eqGuard_shl];have e:min ((j:Nat):Int).toNat IntKind.i64.bits=j:=by simp only [IntKind.bits,bG];omega
 simp only [binOp,shift_shl_any _ _ _ _ (show (0:Int)<=(j:Nat) by omega),Sem.run_bind,Sem.run_pure,Result.andThen_ok,e]
 rw [<-isW hk]
theorem QjZ {t:TypeId}{a b j:Nat}(ha:a<2 ^ j)(hab:a+2 ^ j*b<4611686018427387904):Rd P (binOp .or t (vi a) (vi (2 ^ j*b:Nat))) h (vi (a+2 ^ j*b:Nat)):=by
 intro w _;have e0:=Nat.two_pow_add_eq_or_of_lt ha b;generalize 2 ^ j*b=c at *
 have e:(BitVec.ofInt 64 (a:Int) ||| BitVec.ofInt 64 (c:Int)).toNat=a+c:=by
  rw [BitVec.toNat_or,BitVec.ofInt_natCast,BitVec.ofInt_natCast,BitVec.toNat_ofNat,BitVec.toNat_ofNat,pB (by omega),pB (by omega),Nat.or_comm,<-e0]
  omega
 have e2:((a+c:Nat):Int)=IntKind.wrap .i64 ((a+c:Nat):Int):=iW
 have e3:binOp .or t (vi a) (vi c)=(pure (.int .i64 (IntKind.wrap .i64 ((BitVec.ofInt 64 (a:Int) ||| BitVec.ofInt 64 (c:Int)).toNat:Int))):Sem Value):=by simp [binOp,Op.intBits,IntKind.bits];rfl
 rw [e3,e,<-e2,Sem.run_pure]
end
theorem QaO (n:Nat):IntKind.wrap .u8 (n:Int)=((UInt8.ofNat n).toNat:Int):=by
 rw [IntKind.wrap_u8];simp
theorem KC {h:Hp}{F:NpT}{g:Nat}{s:DK}(D:PD h F g s)(hn:2<=s.now.length/\s.now.length<=1000){R:RtT}(hK:R (vi (QD s)) h):Qa Pg 117 [vhp g 0] h R:=by
 refine QgU ?_
 refine Km D ⟨_,rfl,_,iW,⟨by decide,?_⟩,?_⟩
 ·rw [mP (by omega)];unfold InR;omega
 ·have e:Int.tdiv ((s.now.length:Int)-2) 2=(QD s:Int):=by
   rw [mP (by omega)]
   unfold QD;omega
  rw [e];exact hK
theorem Qak {n:Nat}(hn:n<=4611686018427387904){h:Hp}{R:RtT}(hK:∀ h',h.le h'->R (vs (bs (le4 n))) h'):Qa Pg 158 [vi n] h R:=by
 refine QhM ?_
 refine⟨_,Qhb (j:=8) (by decide) (by omega),_,Qhb (j:=16) (by decide) (by omega),_,Qhb (j:=24) (by decide) (by omega),fun b hb=>⟨bs (le4 n),?_,?_⟩⟩
 ·have e:[(vk .u8 (IntKind.wrap .u8 n)),(vk .u8 (IntKind.wrap .u8 ((n:Int) / 2 ^ 8))),(vk .u8 (IntKind.wrap .u8 ((n:Int) / 2 ^ 16))),(vk .u8 (IntKind.wrap .u8 ((n:Int) / 2 ^ 24)))]=(le4 n).map fun x=>vk .u8 (x.toNat:Nat):=by
   have e1:(n:Int) / 2 ^ 8=((n / 256:Nat):Int):=by omega
   have e2:(n:Int) / 2 ^ 16=((n / 65536:Nat):Int):=by omega
   have e3:(n:Int) / 2 ^ 24=((n / 16777216:Nat):Int):=by omega
   rw [e1,e2,e3,QaO,QaO,QaO,QaO];rfl
  refine QeU (P:=Pg) (e:=5) (by kernel_rfl) (by kernel_rfl) (by kernel_rfl) (l:=le4 n) ?_
  have:=Qg1 h b ((le4 n).map fun x=>vk .u8 (x.toNat:Nat)) 5
  rw [<-e] at this ⊢;exact this
 ·exact hK _ (Hp.le_set (Hp.le_refl h) hb _)
theorem VZ {l:LuT}(hl:4<=l.length){h:Hp}{R:RtT}(hK:R (vi (un4 l)) h):Qa Pg 174 [vs (bs l)] h R:=by
 refine Qeg ?_
 have hu:∀ i,(l.getD i 0).toNat<256:=fun i=>j7 _
 have wr:∀ i,IntKind.wrap .i64 (((l.getD i 0).toNat:Nat):Int)=((l.getD i 0).toNat:Nat):=fun i=>(isW (by have:=hu i;unfold InR;omega)).symm
 have h0:=hu 0;have h1:=hu 1;have h2:=hu 2;have h3:=hu 3;refine⟨_,YW (by kernel_rfl) (by decide) (by omega),_,YW (by kernel_rfl) (by decide) (by omega),(((2 ^ 8*(l.getD 1 0).toNat:Nat)):Int),?_,(((l.getD 0 0).toNat+2 ^ 8*(l.getD 1 0).toNat:Nat):Int),?_,_,YW (by kernel_rfl) (by decide) (by omega),(((2 ^ 16*(l.getD 2 0).toNat:Nat)):Int),?_,(((l.getD 0 0).toNat+2 ^ 8*(l.getD 1 0).toNat+2 ^ 16*(l.getD 2 0).toNat:Nat):Int),?_,_,YW (by kernel_rfl) (by decide) (by omega),(((2 ^ 24*(l.getD 3 0).toNat:Nat)):Int),?_,(((l.getD 0 0).toNat+2 ^ 8*(l.getD 1 0).toNat+2 ^ 16*(l.getD 2 0).toNat+2 ^ 24*(l.getD 3 0).toNat:Nat):Int),?_,?_⟩
 ·have:=QhE (P:=Pg) (h:=h) (t:=3) (x:=.tmp 8) (y:=.const (vk .u64 8)) (k:=((l.getD 1 0).toNat:Nat)) (j:=8) (by decide) (by unfold InR;omega)
  rw [show (((2 ^ 8*(l.getD 1 0).toNat:Nat)):Int)=((l.getD 1 0).toNat:Int)*2 ^ 8 by omega]
  rw [show (1:Int).toNat=1 from rfl,wr 1]
  exact this
 ·rw [show (0:Int).toNat=0 from rfl,wr 0]
  exact QjZ (j:=8) (by omega) (by omega)
 ·have:=QhE (P:=Pg) (h:=h) (t:=3) (x:=.tmp 13) (y:=.const (vk .u64 16)) (k:=((l.getD 2 0).toNat:Nat)) (j:=16) (by decide) (by unfold InR;omega)
  rw [show (((2 ^ 16*(l.getD 2 0).toNat:Nat)):Int)=((l.getD 2 0).toNat:Int)*2 ^ 16 by omega]
  rw [show (2:Int).toNat=2 from rfl,wr 2]
  exact this
 ·exact QjZ (j:=16) (by omega) (by omega)
 ·have:=QhE (P:=Pg) (h:=h) (t:=3) (x:=.tmp 18) (y:=.const (vk .u64 24)) (k:=((l.getD 3 0).toNat:Nat)) (j:=24) (by decide) (by unfold InR;omega)
  rw [show (((2 ^ 24*(l.getD 3 0).toNat:Nat)):Int)=((l.getD 3 0).toNat:Int)*2 ^ 24 by omega]
  rw [show (3:Int).toNat=3 from rfl,wr 3]
  exact this
 ·exact QjZ (j:=24) (by omega) (by omega)
 ·have e:(((l.getD 0 0).toNat+2 ^ 8*(l.getD 1 0).toNat+2 ^ 16*(l.getD 2 0).toNat+2 ^ 24*(l.getD 3 0).toNat:Nat):Int)=(un4 l:Nat):=rfl;rw [e];exact hK
theorem QaV {e k:Nat}(he:e<=4611686018427387904)(hk:k<=4611686018427387904){h:Hp}{R:RtT}(hK:∀ h',h.le h'->R (vs (bs (Yz e k))) h'):Qa Pg 103 [vi e,vi k] h R:=by
 refine Qhx ?_
 refine Qak he fun h2 l2=>⟨_,rfl,_,QhI (l:=[84]) (m:=le4 e) (by simp [le4,maxLen]),?_⟩
 refine Qak hk fun h3 l3=>⟨_,rfl,_,QhI (l:=[84]++le4 e) (m:=le4 k) (by simp [le4,maxLen]),?_⟩
 exact hK _ (Hp.le_trans l2 l3)
theorem Qjj {s:DK}{n:Nat}(W:s.wf n)(hd:s.down=false){i:Nat}(hi:i<n):Qer s i=(s.now.getD i [],0):=by
 unfold Qer;rw [bE (by rw [hd];decide),bE (by have:=W.w;omega),bG]
theorem Qdp {s:DK}{n:Nat}(D:DOK s n){i:Nat}(hi:i<n):(s.now.getD i []).length=256:=by
 have h1:i<s.now.length:=by rw [D.wf.w];exact hi
 rw [bK,bD h1]
 exact D.l1 _ (cM h1)
theorem QaE {h:Hp}{F:NpT}{g:Nat}{s:DK}{n:Nat}(D:PD h F g s)(hD:DOK s n){R:RtT}(hK:R (Qe [vi (Zi s).1.1,vi (Zi s).1.2,ifv (QG (Zi s).2)]) h):Qa Pg 116 [vhp g 0] h R:=by
 refine QgF ?_
 have hw:=hD.wf.w;have hn2:=hD.wf.n2;unfold Zi at hK;refine Km D ⟨_,rfl,fun e=>?_,fun e=>?_⟩
 ·simp only [gR] at e;rw [bH (by omega),KZ (by decide)] at hK
  exact hK
 ·simp only [gD] at e;rw [bE (by omega)] at hK
  refine⟨fun vs hh=>∃ i:Nat,i<=2/\(i=0\/s.down=false)/\vs=[vi (GD s i).1,vi (GD s i).2,vi i]/\hh=h,fun vs _=>2-(Qm vs 2).toNat,⟨0,by decide,.inl rfl,rfl,rfl⟩,?_⟩
  rintro vs8 hh ⟨i,hi,hd,rfl,rfl⟩;refine⟨_,_,_,rfl,fun e1=>?_,fun e1=>?_⟩
  ·simp only [gR] at e1;intro J38;by_cases hdn:s.down=true
   ·rw [bH hdn,KZ (by decide)] at hK
    have hr:Qer s i=([],7):=by unfold Qer;rw [bH hdn]
    refine UA D ?_
    rw [hr,KZ (by decide)]
    exact⟨_,_,rfl,fun _=>hK,fun e2=>by cases e2⟩
   ·have hdf:s.down=false:=by simpa using hdn
    refine UA D ?_
    rw [Qjj hD.wf hdf (i:=i) (by omega)]
    refine⟨_,_,rfl,fun e2=>by simp [QG] at e2,fun _=>?_⟩
    have hlen:=Qdp hD (i:=i) (by omega)
    generalize hx:s.now.getD i []=x at hlen ⊢;have c1:∀ hh,Rd Pg (Instr.sliceAt 9 (vs (bs x)) (some (vi 1)) (some (vi 5)) none) hh (vs (bs ((x.drop 1).take 4))):=fun hh=>Qez (by kernel_rfl) (by decide) (by decide) (by omega)
    have c2:∀ hh,Rd Pg (Instr.sliceAt 9 (vs (bs x)) (some (vi 5)) (some (vi 9)) none) hh (vs (bs ((x.drop 5).take 4))):=fun hh=>Qez (by kernel_rfl) (by decide) (by decide) (by omega)
    refine⟨_,c1 _,_,c2 _,VZ (by simp;omega) ⟨_,rfl,c2 _,VZ (by simp;omega) ⟨_,rfl,_,YW (i:=0) (l:=x) (by kernel_rfl) (by decide) (by omega),?_⟩⟩⟩
    have h84:((((x.getD (0:Int).toNat 0).toNat:Nat):Int)=84)↔x.getD 0 0=84:=by
     constructor
     ·intro e;have:(x.getD 0 0).toNat=84:=by exact_mod_cast e
      exact UInt8.toNat_inj.1 (by rw [this];rfl)
     ·intro e;rw [show (0:Int).toNat=0 from rfl,e]
      rfl
    have hstep:GD s (i+1)=ZL (QD s*256) (GD s i) x:=by rw [<-hx];rfl
    simp only [ZP];refine⟨fun v h2=>h2=hh/\∃ z:Int,v=.t (.one (.v (vi z)))/\(((((x.getD (0:Int).toNat 0).toNat:Nat):Int)=84/\((un4 ((x.drop 1).take 4):Nat):Int)>(GD s i).1)->z=QD s),fun e2=>?_,fun e2=>⟨rfl,0,rfl,fun e3=>absurd (cC e3) e2⟩,?_⟩
    ·exact KC D (by omega) ⟨_,rfl,rfl,_,rfl,fun _=>rfl⟩
    ·rintro h33 z ⟨rfl,z',ez,hz⟩;cases ez;have hnext:∀ p:Nat × Nat,GD s (i+1)=p->J38 (p.1:Int) (p.2:Int) h33:=by
      intro p hp;refine⟨_,iW,⟨i+1,by omega,.inr hdf,by rw [hp];rfl,rfl⟩,?_⟩
      show 2-((i:Int)+1).toNat<2-(i:Int).toNat;omega
     refine⟨if ((((x.getD (0:Int).toNat 0).toNat:Nat):Int)=84/\((un4 ((x.drop 1).take 4):Nat):Int)>(GD s i).1) then((QD s*256:Nat):Int) else 0,fun e2=>?_,fun e2=>?_,fun e2=>?_⟩
     ·have e2':=bC e2;rw [bH e2',hz e2'];have:QD s<=160:=by unfold QD;omega
      have:=isW (e:=(QD s:Int)*256) (by unfold InR;omega)
      simpa using this
     ·have e2':=bC e2;rw [bH e2'.1] at e2';have:=hnext (un4 ((x.drop 1).take 4),un4 ((x.drop 5).take 4)) (by rw [hstep];unfold ZL;rw [bH ⟨⟨h84.1 e2'.1.1,by have:=e2'.1.2;omega⟩,by have:=e2'.2;omega⟩])
      exact this
     ·have e2':=bB e2;have:=hnext (GD s i) (by
       rw [hstep];unfold ZL;rw [bE ?_]
       rintro⟨⟨k1,k2⟩,k3⟩;have k4:((((x.getD (0:Int).toNat 0).toNat:Nat):Int)=84/\((un4 ((x.drop 1).take 4):Nat):Int)>(GD s i).1):=⟨h84.2 k1,by omega⟩
       refine e2' ⟨k4,?_⟩
       rw [bH k4];omega)
      exact this
  ·simp only [gD] at e1;obtain rfl:i=2:=by omega
   have hdf:s.down=false:=by
    rcases hd with h1|h1
    ·omega
    ·exact h1
   rw [bE (by rw [hdf];decide)] at hK
   rw [QmS];refine⟨fun e2=>?_,fun e2=>?_⟩
   ·simp only [gR] at e2;rw [bH (by omega),KZ (by decide)] at hK
    exact hK
   ·simp only [gD] at e2;rw [bE (by omega)] at hK
    exact hK
theorem Qb7 (f:Int):(QG f).isNone=decide (f=0):=by
 unfold QG;split<;>simp [*]
theorem XT (f:Int):(QG f).isSome=!decide (f=0):=by
 unfold QG;split<;>simp [*]
theorem KA {f:Int}(h:(QG f).isNone=true):f=0:=by rw [Qb7] at h;simpa using h
theorem some_of {f:Int}(h:(QG f).isNone=false):f≠0:=by rw [Qb7] at h;simpa using h
theorem QqA (l:LuT):un4 l<4294967296:=by
 have h0:=j7 (l.getD 0 0);have h1:=j7 (l.getD 1 0);have h2:=j7 (l.getD 2 0);have h3:=j7 (l.getD 3 0);unfold un4;omega
theorem Ni {r:Nat}{p:Nat × Nat}(hp:p.2<=r/\p.1<4294967296)(x:LuT):(ZL r p x).2<=r/\(ZL r p x).1<4294967296:=by
 unfold ZL;split
 ·rename_i h;exact⟨h.2,QqA _⟩
 ·exact hp
theorem Qei {s:DK}(h:(Zi s).2=0):(Zi s).1.2<=QD s*256/\s.down=false/\4<=s.now.length/\(Zi s).1.1<4294967296/\(Zi s).1=QdI s/\(QdI s).1≠0:=by
 have k:=Ni (Ni (r:=QD s*256) (p:=(0,0)) ⟨cH _,by decide⟩ (s.now.getD 0 [])) (s.now.getD 1 [])
 unfold Zi at h ⊢;split at h
 ·simp at h
 ·rename_i h1;rw [bE h1];split at h
  ·simp at h
  ·rename_i h2;rw [bE h2];split at h
   ·simp at h
   ·rename_i h3;rw [bE h3];exact⟨k.1,by simpa using h2,by omega,k.2,rfl,h3⟩
theorem Qe2 {h:Hp}{F:NpT}{g:Nat}{s:DK}{n:Nat}(D:PD h F g s)(hD:DOK s n)(hw:s.wait.length<=900000){R:RtT}(hK:∀ h' F',PD h' F' g (WM s).1->Mut F h F' h'->R (ifv (QG (WM s).2)) h'):Qa Pg 43 [vhp g 0] h R:=by
 refine Qd2 ?_
 unfold WM at hK;refine Km D ⟨_,rfl,fun e=>?_,fun e=>?_⟩
 ·simp only [gR] at e;have:=hK h F (by rw [bH (by omega)];exact D) (Mut.of_le (Hp.le_refl h))
  rw [bH (by omega)] at this
  exact this
 ·simp only [gD] at e;rw [bE (by omega)] at hK
  have w1:=QbS s 1 [];refine WP (d:=[]) D hD.wf (by omega) fun h1 F1 D1 M1=>⟨_,rfl,?_⟩
  intro J13;have X1:=hD.write 1 [];have f1w:=Mr (Qu s 1 []).1;refine⟨fun e1=>?_,fun e1=>?_⟩
  ·rw [bE (by rw [KA e1];decide)] at hK
   refine WO D1 X1.wf fun h2 F2 D2 M2=>⟨_,rfl,?_⟩
   show And _ _;refine⟨fun e2=>?_,fun e2=>?_⟩
   ·rw [bE (by rw [KA e2];decide)] at hK
    refine QaV (e:=2) (k:=0) (by decide) (by decide) fun h3 l3=>⟨_,rfl,?_⟩
    refine WP (D2.le l3) X1.flush.wf (by omega) fun h4 F4 D4 M4=>⟨_,rfl,?_⟩
    show And _ _;refine⟨fun e3=>?_,fun e3=>?_⟩
    ·rw [bE (by rw [KA e3];decide)] at hK
     refine WO D4 (X1.flush.write _ _).wf fun h5 F5 D5 M5=>⟨_,rfl,?_⟩
     exact hK h5 F5 D5 ((((M1.trans M2).trans (Mut.of_le l3)).trans M4).trans M5)
    ·rw [bH (some_of e3)] at hK;exact hK h4 F4 D4 (((M1.trans M2).trans (Mut.of_le l3)).trans M4)
   ·rw [bH (some_of e2)] at hK;show And _ _;exact⟨fun e3=>absurd (KA e3) (some_of e2),fun _=>hK h2 F2 D2 (M1.trans M2)⟩
  ·rw [bH (some_of e1)] at hK;show And _ _;refine⟨fun e3=>absurd (KA e3) (some_of e1),fun _=>?_⟩
   show And _ _;exact⟨fun e3=>absurd (KA e3) (some_of e1),fun _=>hK h1 F1 D1 M1⟩
theorem Qec (s:DK)(e m:Nat):Qaz s e (m+1)=Qaz s e m++Qgt s e m:=by simp [Qaz,kK]
theorem Qlg {s:DK}{n:Nat}(D:DOK s n)(h4:4<=s.now.length){e i:Nat}(hi:i<QD s):2+e % 2*QD s+i<n:=by
 have hw:=D.wf.w;have h2:e % 2<2:=pL _ (by decide)
 unfold QD at hi ⊢;rcases g8 (e % 2) 1 with h|h
 ·have:e % 2=0:=by omega
  rw [this];omega
 ·have:e % 2=1:=by omega
  rw [this];omega
theorem Qbo {s:DK}{n:Nat}(D:DOK s n)(h4:4<=s.now.length)(e:Nat):∀ m,m<=QD s->(Qaz s e m).length=m*256
 | 0,_=>rfl
 | m+1,h=>by
  rw [Qec,bO,Qbo D h4 e m (by omega)]
  have:=Qdp D (Qlg D h4 (e:=e) (i:=m) (by omega))
  unfold Qgt;omega
theorem QgX {h:Hp}{F:NpT}{g:Nat}{s:DK}{n:Nat}(D:PD h F g s)(hD:DOK s n){R:RtT}(hK:R (Qe [vs (bs (QiE s).1),ifv (QG (QiE s).2)]) h):Qa Pg 60 [vhp g 0] h R:=by
 refine QhP ?_
 unfold QiE at hK;refine Qal D ⟨_,rfl,fun e=>?_,fun e=>?_⟩
 ·rw [bH e,KZ (by decide)] at hK
  exact hK
 ·rw [bE (by rw [e];decide)] at hK
  refine QaE D hD ⟨_,_,_,rfl,fun e1=>?_,fun e1=>?_⟩
  ·rw [XT] at e1;rw [bH (by simpa using e1)] at hK
   exact hK
  ·rw [XT] at e1;have e0:(Zi s).2=0:=by simpa using e1
   rw [bE (by rw [e0];decide)] at hK
   obtain⟨r1,r2,r3,r4,r5,r6⟩:=Qei e0;generalize (Zi s).1.1=ep at *
   generalize (Zi s).1.2=k at *
   have hw:=hD.wf.w;have hn2:=hD.wf.n2;have hh:QD s<=80:=by unfold QD;omega
   refine⟨fun v hh=>∃ i:Nat,i<=(k+255) / 256/\v=[vs (bs (Qaz s ep i)),vi i]/\hh=h,fun v _=>k-(Qm v 1).toNat,⟨0,cH _,rfl,rfl⟩,?_⟩
   rintro v hh ⟨i,hi,rfl,rfl⟩;refine⟨_,_,rfl,_,iW,fun e2=>?_,fun e2=>?_⟩
   ·simp only [gR] at e2;have hi2:i<QD s:=by omega
    have hs:=Qlg hD r3 (e:=ep) hi2;have ht:Int.tmod (ep:Int) 2=((ep % 2:Nat):Int):=by rw [mL (by omega)];rfl
    have hm:((ep % 2:Nat):Int)*(QD s:Int)=((ep % 2*QD s:Nat):Int):=by rw [pP]
    refine⟨by decide,KC D (by omega) ⟨_,rfl,((ep % 2*QD s:Nat):Int),?_,((2+ep % 2*QD s:Nat):Int),?_,((2+ep % 2*QD s+i:Nat):Int),?_,?_⟩⟩
    ·rw [ht,hm];exact iW
    ·have:=isW (e:=2+((ep % 2*QD s:Nat):Int)) (by unfold InR;omega)
     rw [show ((2+ep % 2*QD s:Nat):Int)=2+((ep % 2*QD s:Nat):Int) by omega]
     exact this
    ·have:=isW (e:=((2+ep % 2*QD s:Nat):Int)+(i:Int)) (by unfold InR;omega)
     rw [show ((2+ep % 2*QD s+i:Nat):Int)=((2+ep % 2*QD s:Nat):Int)+(i:Int) by omega]
     exact this
    ·refine UA D ?_
     rw [Qjj hD.wf r2 hs];refine⟨_,_,rfl,fun e3=>by simp [QG] at e3,fun _=>⟨_,QhI (m:=Qgt s ep i) ?_,_,iW,⟨i+1,by omega,by rw [Qec];rfl,rfl⟩,?_⟩⟩
     ·rw [Qbo hD r3 ep i (by omega)]
      unfold Qgt;rw [Qdp hD hs];unfold maxLen;omega
     ·show k-((i:Int)+1).toNat<k-(i:Int).toNat;omega
   ·simp only [gD] at e2;obtain rfl:i=(k+255) / 256:=by omega
    have hl:=Qbo hD r3 ep ((k+255) / 256) (by omega)
    refine⟨_,Qpz (by kernel_rfl) (by omega) (by omega),?_⟩
    rw [bG];exact hK
open Go.RowKit Go.Shelf
attribute [local go_sem] Oper.semAt_some
def UI (b off len n:Nat)(v:Value):Prop:=∃ o m,v=vsl (some ⟨b,off+o,none⟩) m m/\o+m<=len/\m<=n
def Qhf (b off len n k:Nat):Value:=vsl (some ⟨b,off+min (k*n) len,none⟩) (min n (len-k*n)) (min n (len-k*n))
theorem QmU (b off len n k:Nat):UI b off len n (Qhf b off len n k):=⟨_,_,rfl,by omega,by omega⟩
def QbN (b off len n k:Nat):{ v:Value // UI b off len n v }:=⟨_,QmU b off len n k⟩
def XF (b off len n k:Nat):List { v:Value // UI b off len n v }:=(List.range k).map (QbN b off len n)
theorem Nj (b off len n k:Nat):XF b off len n (k+1)=XF b off len n k++[QbN b off len n k]:=by simp [XF,kK]
theorem QcM (b off len n k:Nat):(XF b off len n k).length=k:=by simp [XF]
def WC (b off len n:Nat):List Value:=(List.range ((len+n-1) / n)).map (Qhf b off len n)
theorem MV (b off len n:Nat):(WC b off len n).length=(len+n-1) / n:=by simp [WC]
theorem QkB (b off len n:Nat){k:Nat}(hk:k<(len+n-1) / n):(XF b off len n k++[QbN b off len n k]).map (·.1) <+: WC b off len n:=by
 rw [<-Nj];have e:(XF b off len n (k+1)).map (·.1)=(WC b off len n).take (k+1):=by
  unfold XF WC;rw [fN,<-gK,List.take_range,dX (by omega)]
  rfl
 rw [e];exact List.take_prefix _ _
set_option maxHeartbeats 2000000 in
theorem Qme (l Bs Bn b off len cap n:Nat)(hn:1<=n)(hle:len<=cap)(hreach:len+n<=140737488351232)(hc:Hp)(hB1:hc.cell Bs 0=some (vsl (some ⟨b,off,none⟩) len cap))(hB2:hc.cell Bn 0=some (vi n))(J Jx:List { v:Value // UI b off len n v }->World->Prop)(hJ:∀ s W,J s W->J s W.drew)
  (hY:∀ pre x W,J pre W->pre.length<(len+n-1) / n->YieldAt Fence.wide 1 Pg l #[x.1] W fun e W'=>
   (e=.returned (.bool true)/\J (pre++[x]) W'/\(Sub hc W->Sub hc W'))\/(e=.returned (.bool false)/\Jx (pre++[x]) W'))
  (W:World) (hs:Sub hc W) (h0:J [] W) :
  CallsIn Fence.wide 2 Pg 175 #[.func (.yield l) #[] #[],vhp Bs 0,vhp Bn 0] W fun e W'=>(∃ v,e=.returned v) /\
   ((∃ ys,ys.map (·.1)=WC b off len n/\J ys W')\/(∃ pre,pre.map (·.1) <+: WC b off len n/\Jx pre W')):=by
 refine callsIn_of_wp Tryz.func175 rfl trivial ?_ rfl
 simp only [Tryz.ntmps175,jA,cO,fB,Nat.reduceAdd,Nat.reduceSub,Array.replicate_succ,Array.replicate_zero,List.push_toArray,List.append_toArray,dC,dN];gi_wp2
 gi_loopw [4] (fun i wr=>∃ k:Nat,k<=(len+n-1) / n/\i=.int .i64 ((k*n:Nat):Int)/\J (XF b off len n k) wr/\Sub hc wr)
  (fun i _=>len+n-(intOf i).toNat)
 case atStart=>exact⟨0,cH _,by simp,h0,hs⟩
 case round=>
  obtain⟨k,hk,rfl,hJs,hss⟩:=hrel;have hc1:=Zt hB1 hss;have hc2:=Zt hB2 hss;by_cases hlt:k*n<len
  ·have hk1:k<(len+n-1) / n:=by
    rw [Nat.lt_iff_add_one_le,Nat.le_div_iff_mul_le (by omega)]
    rw [gE];omega
   gi_wp2
   refine wpIn_wide.2 ?_
   go_region
   have hJ2:=hJ _ _ hJs;have hs2:Vc.Sub hc wr.drew:=fun b o h=>hss b o h
   have hd1:=Zt hB1 hs2;have hd2:=Zt hB2 hs2;generalize wr.drew=W1 at *
   obtain⟨fn,tmps,assign,body,hy,hR⟩:=hY _ (QbN b off len n k) W1 hJ2 (by rw [QcM];exact hk1)
   have hm:(if len-k*n<n then((len-k*n:Nat):Int) else(n:Int))=((min n (len-k*n):Nat):Int):=by split<;>omega
   have hm2:min (n:Int) ((len-k*n:Nat):Int)=((min n (len-k*n):Nat):Int):=by omega
   first
    | rw [hm]
    | rw [hm2]
   have hpv:(QbN b off len n k).val=vsl (some ⟨b,off+k*n,none⟩) (min n (len-k*n)) (min n (len-k*n)):=by show Qhf b off len n k=_;unfold Qhf;rw [dX (gG hlt)]
   rw [hpv] at hy;obtain⟨m,hmm⟩:∃ m,m=min n (len-k*n):=⟨_,rfl⟩
   rw [<-hmm] at hy ⊢;have hm1:1<=m:=by omega
   have hm2:k*n+m<=len:=by omega
   have hm3:m<=n:=by omega
   clear hmm hm hpv;have hmk:k*n+m-k*n=m:=by omega
   have hy':=hy;rw [<-hmk] at hy';gi_wp2
   refine hR.mono ?_
   rintro e W3 (⟨rfl,hJ3,hk3⟩|⟨rfl,hJx3⟩)
   ·have hs3:=hk3 hs2;have he2:=Zt hB2 hs3;gi_wp2
    go_roundw
    case rel=>exact⟨k+1,by omega,by rw [gE,j9];simp,by rw [Nj];exact hJ3,hs3⟩
    case measure=>simp [intOf];omega
   ·gi_wp2
    refine bodyPost_ret (results_none rfl _ _ _) rfl ?_
    exact⟨⟨_,rfl⟩,.inr ⟨_,QkB b off len n hk1,hJx3⟩⟩
  ·gi_wp2
   have hkK:k=(len+n-1) / n:=by
    refine Nat.le_antisymm hk ?_
    have:(len+n-1) / n<k+1:=by
     rw [k9 (by omega),gE]
     omega
    omega
   go_end0
   exact⟨⟨_,rfl⟩,.inl ⟨_,by rw [hkK];simp [XF,WC,QbN],hJs⟩⟩
theorem QmT (Bs Bn b off len cap n:Nat)(hn:1<=n)(hle:len<=cap)(hreach:len+n<=140737488351232)(hc:Hp)(hcell:∀ b o,hc b=some o->o.isCells=true)(hB1:hc.cell Bs 0=some (vsl (some ⟨b,off,none⟩) len cap))(hB2:hc.cell Bn 0=some (vi n)) :
  Qjz Pg (Value.func (.func 175) #[] #[vhp Bs 0,vhp Bn 0]) hc (UI b off len n) (WC b off len n):=by
 refine⟨hcell,_,_,_,rfl,Tryz.func175,by kernel_rfl,by kernel_rfl,fun w hs=>?_⟩
 intro l J Jx W hW hJ hJx hY h0;have hsW:Vc.Sub hc W:=fun b o hb=>by
  have h1:=hs b o hb;exact(hW.block b (cT.1 h1).1).trans h1
 refine Qme l Bs Bn b off len cap n hn hle hreach hc hB1 hB2 J Jx (fun s W1 hj=>hJ s W1 W1.drew none hj ⟨rfl,rfl,rfl,cJ _,fun _ _ _=>rfl⟩ (by intro r e;cases e)) (fun pre x W1 hj hl=>?_) W hsW h0
 exact hY pre x W1 hj (by rw [MV];exact hl)
theorem QnP {b off len cap n:Nat}(hn:1<=n)(hn2:n<=1000000)(hle:len<=cap)(hreach:len<=140737487351232){h:Hp}{R:RtT}
  (hK:∀ Bs Bn h' hc,h Bs=none->h Bn=none->Bn≠Bs->h'=(h.set Bs (Qb [vsl (some ⟨b,off,none⟩) len cap] 207)).set Bn (Qb [vi n] 3)->hc.le h'->(∀ b,b≠Bs->b≠Bn->hc b=none) ->
   Qjz Pg (Value.func (.func 175) #[] #[vhp Bs 0,vhp Bn 0]) hc (UI b off len n) (WC b off len n) ->
   R (Value.func (.func 175) #[] #[vhp Bs 0,vhp Bn 0]) h') :
  Qa Pg 118 [vsl (some ⟨b,off,none⟩) len cap,vi n] h R:=by
 refine Jg ?_
 intro Bs hBs h2 Bn hBn h4;have hne:Bn≠Bs:=fun e=>by subst e;simp [h2,Hp.set] at hBn
 have hBn':h Bn=none:=by rw [<-hBn];exact(Hp.set_other _ _ hne).symm
 refine⟨(n:Int),by simp [h4,Hp.cell,Hp.set,Qb],fun e=>?_,fun _=>?_⟩
 ·simp at e;omega
 ·let hc:Hp:=fun i=>if i=Bn then some (Qb [vi n] 3) else if i=Bs then some (Qb [vsl (some ⟨b,off,none⟩) len cap] 207) else none
  refine hK Bs Bn h4 hc hBs hBn' hne rfl (fun b' o hb'=>?_) (fun b' e1 e2=>by simp [hc,e1,e2]) (QmT Bs Bn b off len cap n hn hle (by omega) hc (fun b' o hb'=>?_) ?_ ?_)
  ·simp only [hc] at hb';simp only [h4,h2,Hp.set];split
   ·rename_i e;rw [bH e] at hb';exact hb'
   ·rename_i e;rw [bE e] at hb';split
    ·rename_i e;rw [bH e] at hb';exact hb'
    ·rename_i e;rw [bE e] at hb';cases hb'
  ·simp only [hc] at hb';split at hb'
   ·cases hb';rfl
   ·split at hb'
    ·cases hb';rfl
    ·cases hb'
  ·simp [Hp.cell,hc,Qb,qA hne]
  ·simp [Hp.cell,hc,Qb]
end Go.Proofs.YthicpjafcpfjoaaGreatDoor
namespace Go.Proofs.YthicpjafcpfjoaaGreatDoor
open Go Go.Vc
theorem QoR {h:Hp}{F:NpT}{g:Nat}{s:DK}(D:PD h F g s){b:Nat}(hb:F b){o:Obj}(ho:h b=some o):o.isCells=true:=by
 obtain⟨aK,cK,aN,cN,aW,cW,rfl,R⟩:=D;exact R.cells hb ho
def Ks (t:LuT):Value->LuT
 | .slice (some a) m _=>(t.drop a.off).take m
 | _=>[]
theorem Qas (b:Nat)(t:LuT):(WC b 0 t.length 256).map (Ks t)=Zl t:=by
 unfold WC Zl;rw [fN];refine kG fun k hk=>?_
 simp only [mM] at hk;have h1:k*256<t.length:=by omega
 show (t.drop (0+min (k*256) t.length)).take (min 256 (t.length-k*256))=(t.drop (k*256)).take 256;rw [dY,dX (gG h1)];rcases Nat.le_total 256 (t.length-k*256) with h2|h2
 ·rw [dX h2]
 ·rw [Nat.min_eq_right h2,cQ (by simp),cQ (by simp;omega)]
def bxF (B:Hp)(b18 b41:Nat)(e:OtT)(i:Int):Hp:=(B.set b18 (Qb [ifv e] 59)).set b41 (Qb [vi i] 3)
theorem YY (B:Hp){b18 b41:Nat}(hne:b18≠b41)(e:OtT)(i:Int):bxF B b18 b41 e i b18=some (Qb [ifv e] 59):=by
 unfold bxF;rw [Hp.set_other _ _ hne,Hp.set_same]
theorem Qep (B:Hp){b18 b41:Nat}(e:OtT)(i:Int):bxF B b18 b41 e i b41=some (Qb [vi i] 3):=by
 unfold bxF;rw [Hp.set_same]
theorem Qjb (B:Hp){b18 b41 b:Nat}(h1:b≠b18)(h2:b≠b41)(e:OtT)(i:Int):bxF B b18 b41 e i b=B b:=by
 unfold bxF;rw [Hp.set_other _ _ h2,Hp.set_other _ _ h1]
theorem G9 (B:Hp){b18 b41:Nat}(hne:b18≠b41)(e e2:OtT)(i:Int):(bxF B b18 b41 e i).set b18 (Qb [ifv e2] 59)=bxF B b18 b41 e2 i:=by
 funext b
 unfold bxF Hp.set;by_cases h1:b=b18
 ·subst h1;simp [hne]
 ·simp [h1]
theorem QmJ (B:Hp){b18 b41:Nat}(e:OtT)(i i2:Int):(bxF B b18 b41 e i).set b41 (Qb [vi i2] 3)=bxF B b18 b41 e i2:=by
 funext b
 unfold bxF Hp.set;by_cases h1:b=b41
 ·simp [h1]
 ·simp [h1]
theorem Qfh (h:Hp):ZJ h h:=fun b o h1 h2=>by rw [h1] at h2;cases h2
theorem Uw {h0 h:Hp}(N:ZJ h0 h)(b:Nat)(l:List Value)(t:TypeId):ZJ h0 (h.set b (Qb l t)):=by
 intro b2 o h1 h2;by_cases e:b2=b
 ·subst e;rw [Hp.set_same] at h1;cases h1;rfl
 ·rw [Hp.set_other _ _ e] at h1;exact N b2 o h1 h2
theorem QcB {h0 h:Hp}{F:NpT}{g:Nat}{s:DK}(D:PD h F g s){n:Nat}(W:s.wf n)(hw:s.wait.length<=1000000)(N:ZJ h0 h){i:Int}{d:LuT}{R:RtT}(hK:∀ h' F',PD h' F' g (Qu s i d).1->Mut F h F' h'->ZJ h0 h'->R (ifv (QG (Qu s i d).2)) h') :
  Qa Pg 101 [vhp g 0,vi i,vs (bs d)] h R:=by
 refine Qa.less (WP D W hw (R:=fun v h'=>∃ F',PD h' F' g (Qu s i d).1/\Mut F h F' h'/\v=ifv (QG (Qu s i d).2)) fun h' F' D' M'=>⟨F',D',M',rfl⟩) ?_
 rintro v h' ⟨F',D',M',rfl⟩;obtain⟨h2,l,M2,k,hc⟩:=M'.trim;have D2:=D'.keep k;refine⟨h2,l,hK h2 F' D2 M2 fun b o h1 h3=>?_⟩
 rcases hc b o h1 with ⟨_,h4⟩|h4
 ·exact N b o h4 h3
 ·exact QoR D2 h4 h1
theorem G6 {F F':NpT}{h hX bx:Hp}(S:Bes F h F' hX bx){g:Nat}{s:DK}(D:PD hX F' g s){b18 b3:Nat}{t18 t3:TypeId}{e:OtT}{u:Value}(x18:bx b18=some (Qb [ifv e] t18))(x3:bx b3=some (Qb [u] t3)){R:RtT}(hR:∀ h2,PD h2 F' g s->Mut F h F' h2->R (ifv e) h2) :
  ∃(e1:OtT),Hp.cell hX b18 0=some (ifv e1)/\Hp.store hX b3 0 [ifv e1] fun h1=>∃(e2:OtT),Hp.cell h1 b3 0=some (ifv e2)/\R (ifv e2) h1:=by
 refine⟨e,S.get x18,S.put x3 fun S2=>⟨e,S2.get (Hp.set_same _ _ _),hR _ (D.keep fun b hb o ho=>?_) S2.m⟩⟩
 rw [Hp.set_other]
 ·exact ho
 ·intro e2;subst e2;exact(S.n _ _ x3).2 hb
theorem JJ {h bx hX:Hp}{F F':NpT}(S:Bes F h F' hX bx){g:Nat}{s:DK}(D:PD hX F' g s){b:Nat}{o o2:Obj}(hx:bx b=some o):PD (hX.set b o2) F' g s:=by
 refine D.keep fun b2 hb o3 ho=>?_
 rw [Hp.set_other]
 ·exact ho
 ·intro e;subst e;exact(S.n _ _ hx).2 hb
theorem Ng {h:Hp}{F:NpT}{g:Nat}{s:DK}{n:Nat}(D:PD h F g s)(hD:DOK s n)(hw:s.wait.length<=900000){t:LuT}(ht:t.length<=1000000){R:RtT}(hK:∀ h' F',PD h' F' g (Kd s t).1->Mut F h F' h'->R (ifv (QG (Kd s t).2)) h'):Qa Pg 56 [vhp g 0,vs (bs t)] h R:=by
 refine QfK ?_
 rw [Zp];unfold Kd at hK;have S0:=Bes.start D.al;intro b1 hb1 h2 b3 hb3 h4;have S1:=S0.alloc hb1 (Qb [vhp g 0] 34);have S2:=S1.alloc hb3 (Qb [ifv none] 59);have x1:=S1.keepA (o:=Qb [ifv none] 59) (Hp.set_same _ _ _) hb3;have x3:=Hp.set_same (Hp.set (fun _=>none) b1 (Qb [vhp g 0] 34)) b3 (Qb [ifv none] 59)
 have D2:PD h4 F g s:=D.le (Hp.le_trans (Hp.le_set (Hp.le_refl h) hb1 _) (Hp.le_set (Hp.le_refl h2) hb3 _));change Bes F h F h4 _ at S2;generalize hbx:Hp.set (Hp.set (fun _=>none) b1 (Qb [vhp g 0] 34)) b3 (Qb [ifv none] 59)=bx at S2 x1 x3
 refine⟨some ⟨g,0,none⟩,S2.get x1,Qal D2 ⟨_,rfl,fun e=>?_,fun e=>?_⟩⟩
 ·rw [bH e] at hK;refine S2.put x3 fun S3=>⟨_,S3.get (Hp.set_same _ _ _),?_⟩
  have:=hK _ F (JJ S2 D2 x3) S3.m;change R (ifv (QG 7)) _ at this;rw [KZ (by decide)] at this
  exact this
 rw [bE (by rw [e];decide)] at hK
 refine⟨some ⟨g,0,none⟩,S2.get x1,QaE D2 hD ⟨_,_,_,rfl,?_⟩⟩
 intro b18 hb18 h19;have S3:=S2.alloc hb18 (Qb [ifv none] 59);have y1:=S2.keepA (o:=Qb [ifv none] 59) x1 hb18;have y3:=S2.keepA (o:=Qb [ifv none] 59) x3 hb18;have n1:b1≠b18:=fun e=>by subst e;rw [S2.x _ _ x1] at hb18;cases hb18
 have n3:b3≠b18:=fun e=>by subst e;rw [S2.x _ _ x3] at hb18;cases hb18
 have D3:PD h19 F g s:=D2.le (Hp.le_set (Hp.le_refl h4) hb18 _);refine S3.put (Hp.set_same _ _ _) fun S4=>?_
 have D4:=JJ S3 D3 (o2:=Qb [ifv (QG (Zi s).2)] 59) (Hp.set_same bx b18 (Qb [ifv none] 59));have z1:((bx.set b18 (Qb [ifv none] 59)).set b18 (Qb [ifv (QG (Zi s).2)] 59)) b1=some (Qb [vhp g 0] 34):=by rw [Hp.set_other _ _ n1];exact y1
 have z3:((bx.set b18 (Qb [ifv none] 59)).set b18 (Qb [ifv (QG (Zi s).2)] 59)) b3=some (Qb [ifv none] 59):=by rw [Hp.set_other _ _ n3];exact y3
 have z18:=Hp.set_same (bx.set b18 (Qb [ifv none] 59)) b18 (Qb [ifv (QG (Zi s).2)] 59);refine⟨_,S4.get z18,fun e1=>?_,fun e1=>?_⟩
 ·rw [XT] at e1;have e1':(Zi s).2≠0:=by simpa using e1
  rw [bH e1'] at hK;exact G6 S4 D4 z18 z3 fun h2 k1 k2=>hK h2 F k1 k2
 rw [XT] at e1;have e0:(Zi s).2=0:=by simpa using e1
 rw [bE (by rw [e0];decide)] at hK
 obtain⟨r1,r2,r3,r4,r5,r6⟩:=Qei e0;clear r5 r6 r1;generalize (Zi s).1.1=ep at hK r4 ⊢;have hwf:=hD.wf.w;have hn2:=hD.wf.n2;have hh:QD s<=80:=by unfold QD;omega
 refine⟨some ⟨g,0,none⟩,S4.get z1,KC D4 (by omega) ⟨_,rfl,_,iW,fun e2=>?_,fun e2=>?_⟩⟩
 ·simp only [gR] at e2;rw [bH (by omega)] at hK
  refine S4.put z3 fun S5=>⟨_,S5.get (Hp.set_same _ _ _),?_⟩
  have:=hK _ F (JJ S4 D4 z3) S5.m;change R (ifv (QG 6)) _ at this;rw [KZ (by decide)] at this
  exact this
 simp only [gD] at e2;rw [bE (by omega)] at hK
 have htm:Int.tmod ((ep:Int)+1) 2=(((ep+1) % 2:Nat):Int):=by rw [mL (by omega)];omega
 have hmul:(((ep+1) % 2:Nat):Int)*(QD s:Int)=(((ep+1) % 2*QD s:Nat):Int):=by rw [pP]
 have hlt:=pL (ep+1) (show 0<2 by decide)
 have hml:(ep+1) % 2*QD s<=80:=by
  rcases g8 ((ep+1) % 2) 1 with k|k
  ·rw [show (ep+1) % 2=0 by omega];omega
  ·rw [show (ep+1) % 2=1 by omega];omega
 refine⟨(ep:Int)+1,iW,by decide,some ⟨g,0,none⟩,S4.get z1,KC D4 (by omega) ⟨_,rfl,(((ep+1) % 2*QD s:Nat):Int),?_,((2+(ep+1) % 2*QD s:Nat):Int),?_,?_⟩⟩
 ·rw [htm,hmul];exact iW
 ·have:=isW (e:=2+(((ep+1) % 2*QD s:Nat):Int)) (by unfold InR;omega)
  rw [show ((2+(ep+1) % 2*QD s:Nat):Int)=2+(((ep+1) % 2*QD s:Nat):Int) by omega]
  exact this
 generalize hi0:2+(ep+1) % 2*QD s=i0 at hK ⊢;rw [e0] at z1 z3 z18 S4 D4 ⊢;change _ at S4;generalize hbx4:(bx.set b18 (Qb [ifv none] 59)).set b18 (Qb [ifv (QG 0)] 59)=bx4 at S4 z1 z3 z18;generalize hh4:(h19.set b18 (Qb [ifv (QG 0)] 59))=hh4 at S4 D4 ⊢;intro b41 hb41 h42;have S5:=S4.alloc hb41 (Qb [vi 0] 3);have D5:PD h42 F g s:=D4.le (Hp.le_set (Hp.le_refl _) hb41 _);have m1:b1≠b41:=fun e=>by subst e;rw [S4.x _ _ z1] at hb41;cases hb41
 have m3:b3≠b41:=fun e=>by subst e;rw [S4.x _ _ z3] at hb41;cases hb41
 have m18:b18≠b41:=fun e=>by subst e;rw [S4.x _ _ z18] at hb41;cases hb41
 refine S5.put (Hp.set_same _ _ _) fun S6=>?_
 have D6:=JJ S5 D5 (o2:=Qb [vi i0] 3) (Hp.set_same bx4 b41 (Qb [vi 0] 3));have u1:((bx4.set b41 (Qb [vi 0] 3)).set b41 (Qb [vi i0] 3)) b1=some (Qb [vhp g 0] 34):=by rw [Hp.set_other _ _ m1,Hp.set_other _ _ m1];exact z1
 have u3:((bx4.set b41 (Qb [vi 0] 3)).set b41 (Qb [vi i0] 3)) b3=some (Qb [ifv none] 59):=by rw [Hp.set_other _ _ m3,Hp.set_other _ _ m3];exact z3
 have u18:((bx4.set b41 (Qb [vi 0] 3)).set b41 (Qb [vi i0] 3)) b18=some (Qb [ifv (QG 0)] 59):=by rw [Hp.set_other _ _ m18,Hp.set_other _ _ m18];exact z18
 have u41:=Hp.set_same (bx4.set b41 (Qb [vi 0] 3)) b41 (Qb [vi i0] 3);generalize (bx4.set b41 (Qb [vi 0] 3)).set b41 (Qb [vi i0] 3)=bx6 at S6 u1 u3 u18 u41;generalize h42.set b41 (Qb [vi i0] 3)=h43 at S6 D6 ⊢;refine Qi3 (P:=Pg) (e:=5) (by kernel_rfl) (by kernel_rfl) (by kernel_rfl) fun bb cap tail fz hbb hcap=>⟨_,_,_,rfl,?_⟩
 generalize hob:Obj.cells ((t.map fun x=>vk .u8 (x.toNat:Nat)).toArray++tail) 5 fz=ob
 have S7:=S6.alloc hbb ob;have D7:PD (h43.set bb ob) F g s:=D6.le (Hp.le_set (Hp.le_refl _) hbb _);have v1:=S6.keepA (o:=ob) u1 hbb;have v3:=S6.keepA (o:=ob) u3 hbb;have v18:=S6.keepA (o:=ob) u18 hbb;have v41:=S6.keepA (o:=ob) u41 hbb;have vb:=Hp.set_same bx6 bb ob;generalize bx6.set bb ob=bx7 at S7 v1 v3 v18 v41 vb;generalize h43.set bb ob=h45 at S7 D7 ⊢;refine QnP (n:=256) (by decide) (by decide) hcap (by omega) ?_
 intro Bs Bn h48 hc hBs hBn hne hh48 hle hother hseq;have S8:=(S7.alloc hBs (Qb [vsl (some ⟨bb,0,none⟩) t.length cap] 207));have hBn2:(h45.set Bs (Qb [vsl (some ⟨bb,0,none⟩) t.length cap] 207)) Bn=none:=by rw [Hp.set_other _ _ hne];exact hBn
 have S9:=S8.alloc hBn2 (Qb [vi (256:Nat)] 3);rw [<-hh48] at S9;have D9:PD h48 F g s:=D7.le (by rw [hh48];exact Hp.le_trans (Hp.le_set (Hp.le_refl _) hBs _) (Hp.le_set (Hp.le_refl _) hBn2 _))
 have w1:=S8.keepA (o:=Qb [vi (256:Nat)] 3) (S7.keepA (o:=Qb [vsl (some ⟨bb,0,none⟩) t.length cap] 207) v1 hBs) hBn2;have w3:=S8.keepA (o:=Qb [vi (256:Nat)] 3) (S7.keepA (o:=Qb [vsl (some ⟨bb,0,none⟩) t.length cap] 207) v3 hBs) hBn2;have w18:=S8.keepA (o:=Qb [vi (256:Nat)] 3) (S7.keepA (o:=Qb [vsl (some ⟨bb,0,none⟩) t.length cap] 207) v18 hBs) hBn2;have w41:=S8.keepA (o:=Qb [vi (256:Nat)] 3) (S7.keepA (o:=Qb [vsl (some ⟨bb,0,none⟩) t.length cap] 207) v41 hBs) hBn2;have wb:=S8.keepA (o:=Qb [vi (256:Nat)] 3) (S7.keepA (o:=Qb [vsl (some ⟨bb,0,none⟩) t.length cap] 207) vb hBs) hBn2;have ws:=S8.keepA (o:=Qb [vi (256:Nat)] 3) (Hp.set_same bx7 Bs (Qb [vsl (some ⟨bb,0,none⟩) t.length cap] 207)) hBn2;have wn:=Hp.set_same (bx7.set Bs (Qb [vsl (some ⟨bb,0,none⟩) t.length cap] 207)) Bn (Qb [vi (256:Nat)] 3);have p1:bb≠b18:=fun e=>by subst e;rw [S6.x _ _ u18] at hbb;cases hbb
 have p2:bb≠b41:=fun e=>by subst e;rw [S6.x _ _ u41] at hbb;cases hbb
 have p3:Bs≠b18:=fun e=>by subst e;rw [S7.x _ _ v18] at hBs;cases hBs
 have p4:Bs≠b41:=fun e=>by subst e;rw [S7.x _ _ v41] at hBs;cases hBs
 have p5:Bn≠b18:=fun e=>by subst e;rw [S7.x _ _ v18] at hBn;cases hBn
 have p6:Bn≠b41:=fun e=>by subst e;rw [S7.x _ _ v41] at hBn;cases hBn
 generalize (bx7.set Bs (Qb [vsl (some ⟨bb,0,none⟩) t.length cap] 207)).set Bn (Qb [vi (256:Nat)] 3)=bx9 at S9 w1 w3 w18 w41 wb ws wn;have hcb:hc.le bx9:=by
  intro b o ho;have h1:=hle b o ho;by_cases e1:b=Bs
  ·subst e1;rw [S9.x _ _ ws] at h1;rw [<-h1];exact ws
  ·by_cases e2:b=Bn
   ·subst e2;rw [S9.x _ _ wn] at h1;rw [<-h1];exact wn
   ·rw [hother b e1 e2] at ho;cases ho
 obtain⟨B,hB⟩:∃ B:Hp,B=fun b=>if b=b18\/b=b41 then none else bx9 b:=⟨_,rfl⟩
 have hBo:∀ b,b≠b18->b≠b41->B b=bx9 b:=fun b k1 k2=>by rw [hB];simp [k1,k2]
 have hb9:bx9=bxF B b18 b41 none (i0:Int):=by
  funext b
  by_cases e1:b=b41
  ·subst e1;rw [Qep];exact w41
  ·by_cases e2:b=b18
   ·subst e2;rw [YY _ m18];exact w18
   ·rw [Qjb _ e2 e1,hBo b e2 e1]
 have hcB:∀ e i,hc.le (bxF B b18 b41 e i):=by
  intro e i b o ho;have e1:b≠b18:=fun e=>by
   subst e;rw [hother _ (qA p3) (qA p5)] at ho;cases ho
  have e2:b≠b41:=fun e=>by
   subst e;rw [hother _ (qA p4) (qA p6)] at ho;cases ho
  rw [Qjb _ e1 e2,hBo b e1 e2];exact hcb b o ho
 have q1:∀ e i,bxF B b18 b41 e i b1=some (Qb [vhp g 0] 34):=fun e i=>by rw [Qjb _ n1 m1,hBo _ n1 m1];exact w1
 have q3:∀ e i,bxF B b18 b41 e i b3=some (Qb [ifv none] 59):=fun e i=>by rw [Qjb _ n3 m3,hBo _ n3 m3];exact w3
 have qb:∀ e i,bxF B b18 b41 e i bb=some ob:=fun e i=>by rw [Qjb _ p1 p2,hBo _ p1 p2];exact wb
 rw [hb9] at S9;have hWn:∀ cs:List (LuT),cs.length<=4000->(Qv s i0 cs).1.wait.length<=1000000:=fun cs hcs=>by
  have:=Kx cs s i0;omega
 refine⟨_,rfl,hc,UI bb 0 t.length 256,WC bb 0 t.length 256,fun l h'=>(Qv s i0 (l.map (Ks t))).2=0/\∃ F' e,PD h' F' g (Qv s i0 (l.map (Ks t))).1/\Bes F h F' h' (bxF B b18 b41 e ((i0+l.length:Nat):Int))/\ZJ h48 h',hseq,⟨rfl,F,none,D9,S9,Qfh h48⟩,?_,?_,?_⟩
 ·rintro l h' ⟨_,F',e,_,S',N'⟩;exact⟨fun b o ho=>S'.x b o (hcB _ _ b o ho),N'⟩
 ·rintro l h55 x ⟨o,m,rfl,hom,hm⟩ hl ⟨hz,F',e,D',S',N'⟩;have hl2:l.length<=4000:=by
   rw [MV] at hl;omega
  refine⟨_,_,_,rfl,some ⟨g,0,none⟩,S'.get (q1 _ _),_,S'.get (Qep _ _ _),bs ((t.drop o).take m),?_,?_⟩
  ·have hbb2:=S'.x _ _ (qb e ((i0+l.length:Nat):Int));rw [<-hob] at hbb2;have hr:=QeU (P:=Pg) (src:=207) (dst:=9) (e:=5) (by kernel_rfl) (by kernel_rfl) (by kernel_rfl) (c:=m) (QlS hbb2 (i:=o) (m:=m) hom)
   rw [show ((t.drop o).take m).length=m by simp;omega] at hr
   exact hr
  ·have hDD:=(DOK.writes (l.map (Ks t)) i0 hD);have hcont:Ks t (vsl (some ⟨bb,0+o,none⟩) m m)=(t.drop o).take m:=by show (t.drop (0+o)).take m=_;rw [dY]
   have hsn:=UC (l.map (Ks t)) s i0 ((t.drop o).take m) hz;rw [bU] at hsn;have hmap:(l++[vsl (some ⟨bb,0+o,none⟩) m m]).map (Ks t)=l.map (Ks t)++[(t.drop o).take m]:=by rw [cD,List.map_singleton,hcont]
   refine QcB D' hDD.wf (hWn _ (by simpa using hl2)) N' fun h62 F2 D2 M2 N2=>⟨_,rfl,?_⟩
   have S2:=S'.call M2 D2.al;refine S2.put (YY _ m18 _ _) fun S3=>?_
   have D3:=JJ S2 D2 (o2:=Qb [ifv (QG (Qu (Qv s i0 (l.map (Ks t))).1 ((i0+l.length:Nat):Int) ((t.drop o).take m)).2)] 59) (YY _ m18 _ _);have N3:=Uw N2 b18 [ifv (QG (Qu (Qv s i0 (l.map (Ks t))).1 ((i0+l.length:Nat):Int) ((t.drop o).take m)).2)] 59;rw [G9 _ m18] at S3;refine⟨_,S3.get (YY _ m18 _ _),fun e1=>?_,fun e1=>?_⟩
   ·rw [XT] at e1;have e1':(Qu (Qv s i0 (l.map (Ks t))).1 ((i0+l.length:Nat):Int) ((t.drop o).take m)).2≠0:=by simpa using e1
    refine⟨_,S3.get (YY _ m18 _ _),S3.put (q3 _ _) fun S4=>⟨Uw N3 _ _ _,fun hpre=>⟨_,S4.get (Hp.set_same _ _ _),?_⟩⟩⟩
    obtain⟨rest,hrest⟩:=hpre;have hch:Zl t=(l.map (Ks t)++[(t.drop o).take m])++rest.map (Ks t):=by
     rw [<-Qas bb t,<-hrest,cD,hmap]
    have hfin:Qv s i0 (Zl t)=Qu (Qv s i0 (l.map (Ks t))).1 ((i0+l.length:Nat):Int) ((t.drop o).take m):=by rw [hch,UE _ _ _ _ (by rw [hsn];exact e1'),hsn]
    rw [hfin,bH e1'] at hK;exact hK _ F2 (JJ S3 D3 (q3 _ _)) S4.m
   ·rw [XT] at e1;have e1':(Qu (Qv s i0 (l.map (Ks t))).1 ((i0+l.length:Nat):Int) ((t.drop o).take m)).2=0:=by simpa using e1
    refine⟨_,S3.get (Qep _ _ _),_,iW,S3.put (Qep _ _ _) fun S4=>?_⟩
    have D4:=JJ S3 D3 (o2:=Qb [vi (((i0+l.length:Nat):Int)+1)] 3) (Qep _ _ _);rw [QmJ] at S4;refine⟨by rw [hmap,hsn];exact e1',F2,QG (Qu (Qv s i0 (l.map (Ks t))).1 ((i0+l.length:Nat):Int) ((t.drop o).take m)).2,by rw [hmap,hsn];exact D4,?_,Uw N3 _ _ _⟩
    rw [bO,fG];exact S4
 ·rintro h73 ⟨hz,F',e,D',S',N'⟩;rw [Qas] at hz D';rw [bE (by rw [hz];decide)] at hK
  unfold QeP at hK;have hDD:=(DOK.writes (Zl t) i0 hD);have hlen:(Zl t).length<=4000:=by unfold Zl;simp;omega
  have hW0:=hWn (Zl t) hlen;have hW1:(Qv s i0 (Zl t)).1.wait.length<=904000:=by have:=Kx (Zl t) s i0;omega
  generalize (Qv s i0 (Zl t)).1=sa at *
  have hf:=Mr sa;refine⟨some ⟨g,0,none⟩,S'.get (q1 _ _),WO D' hDD.wf fun h77 F2 D2 M2=>⟨_,rfl,?_⟩⟩
  have T2:=S'.call M2 D2.al;refine T2.put (YY _ m18 _ _) fun T3=>?_
  have E3:=JJ T2 D2 (o2:=Qb [ifv (QG (QU sa).2)] 59) (YY _ m18 _ _);rw [G9 _ m18] at T3;refine⟨_,T3.get (YY _ m18 _ _),?_⟩
  intro J91;refine⟨fun e1=>?_,fun e1=>?_⟩
  ·have e1':=KA e1;rw [bE (by rw [e1'];decide)] at hK
   refine⟨some ⟨g,0,none⟩,T3.get (q1 _ _),by decide,QaV (e:=ep+1) (k:=t.length) (by omega) (by omega) fun h83 l83=>⟨_,rfl,?_⟩⟩
   have T4:=T3.grow l83;have E4:=E3.le l83;rw [htm];refine⟨T4.get (q1 _ _),WP E4 hDD.flush.wf (by omega) fun h86 F5 D5 M5=>⟨_,rfl,?_⟩⟩
   have T5:=T4.call M5 D5.al;refine T5.put (YY _ m18 _ _) fun T6=>?_
   have E6:=JJ T5 D5 (o2:=Qb [ifv (QG (Qu (QU sa).1 (((ep+1) % 2:Nat):Int) (Yz (ep+1) t.length)).2)] 59) (YY _ m18 _ _);rw [G9 _ m18] at T6;refine⟨_,T6.get (YY _ m18 _ _),?_⟩
   show And _ _;refine⟨fun e2=>?_,fun e2=>?_⟩
   ·have e2':=KA e2;rw [bE (by rw [e2'];decide)] at hK
    refine⟨some ⟨g,0,none⟩,T6.get (q1 _ _),WO E6 (hDD.flush.write _ _).wf fun h96 F7 D7 M7=>⟨_,rfl,?_⟩⟩
    have T7:=T6.call M7 D7.al;refine T7.put (YY _ m18 _ _) fun T8=>?_
    have E8:=JJ T7 D7 (o2:=Qb [ifv (QG (QU (Qu (QU sa).1 (((ep+1) % 2:Nat):Int) (Yz (ep+1) t.length)).1).2)] 59) (YY _ m18 _ _);rw [G9 _ m18] at T8;exact G6 T8 E8 (YY _ m18 _ _) (q3 _ _) fun h2 k1 k2=>hK h2 F7 k1 k2
   ·have e2':=some_of e2;rw [bH e2'] at hK;exact G6 T6 E6 (YY _ m18 _ _) (q3 _ _) fun h2 k1 k2=>hK h2 F5 k1 k2
  ·have e1':=some_of e1;rw [bH e1'] at hK;refine⟨_,T3.get (YY _ m18 _ _),?_⟩
   show And _ _;exact⟨fun e2=>absurd (KA e2) e1',fun _=>G6 T3 E3 (YY _ m18 _ _) (q3 _ _) fun h2 k1 k2=>hK h2 F2 k1 k2⟩
structure Sv (l:List (LuT))(n e:Nat)(t:LuT):Prop where
 len:l.length=n
 n4:4<=n
 e1:1<=e
 e2:e<4294967296
 room:t.length<=(n-2) / 2*256
 hd:l.getD (e % 2) []=ZA (Yz e t.length)
 oth:(l.getD ((e+1) % 2) []).getD 0 0=84->un4 (((l.getD ((e+1) % 2) []).drop 1).take 4)<e
 dat:∀ k,k<(t.length+255) / 256->l.getD (2+e % 2*((n-2) / 2)+k) []=ZA (Z7 t k)
theorem QdO (e k:Nat)(he:e<4294967296)(hk:k<4294967296):(ZA (Yz e k)).getD 0 0=84/\un4 (((ZA (Yz e k)).drop 1).take 4)=e/\un4 (((ZA (Yz e k)).drop 5).take 4)=k:=by
 have h1:((ZA (Yz e k)).drop 1).take 4=le4 e:=rfl;have h2:((ZA (Yz e k)).drop 5).take 4=le4 k:=rfl;rw [h1,h2,Qlc he,Qlc hk];exact⟨rfl,rfl,rfl⟩
theorem QkG (e:Nat):(e % 2=0/\(e+1) % 2=1)\/(e % 2=1/\(e+1) % 2=0):=by omega
theorem Sv.last {s:DK}{n e:Nat}{t:LuT}(h:Sv s.now n e t)(hn:n<=160)(hd:s.down=false):Zi s=((e,t.length),0):=by
 have hH:QD s=(n-2) / 2:=by unfold QD;rw [h.len]
 have hr:=h.room;obtain⟨f1,f2,f3⟩:=QdO e t.length h.e2 (by omega)
 have h4:=h.n4;have e1:=h.e1;have key:QdI s=(e,t.length):=by
  unfold QdI;rw [hH];rcases QkG e with ⟨p1,p2⟩|⟨p1,p2⟩
  ·have hd0:=h.hd;have ho:=h.oth;rw [p1] at hd0;rw [p2] at ho;rw [hd0];have k1:ZL ((n-2) / 2*256) (0,0) (ZA (Yz e t.length))=(e,t.length):=by unfold ZL;rw [f1,f2,f3,bH ⟨⟨rfl,by show e>0;omega⟩,hr⟩]
   rw [k1];unfold ZL;rw [bE];rintro⟨⟨k2,k3⟩,_⟩;have:=ho k2;simp only at k3;omega
  ·have hd0:=h.hd;have ho:=h.oth;rw [p1] at hd0;rw [p2] at ho;rw [hd0];have k1:(ZL ((n-2) / 2*256) (0,0) (s.now.getD 0 [])).1<e:=by
    unfold ZL;split
    ·rename_i hh;exact ho hh.1.1
    ·show 0<e;omega
   generalize ZL ((n-2) / 2*256) (0,0) (s.now.getD 0 [])=p at k1;unfold ZL;rw [f1,f2,f3,bH ⟨⟨rfl,k1⟩,hr⟩]
 unfold Zi;rw [h.len,bE (by omega),bE (by rw [hd];decide),key,bE (by show ¬ e=0;omega)]
theorem QkL (t:LuT){k:Nat}(h:(k+1)*256<=t.length):ZA (Z7 t k)=(t.drop (k*256)).take 256:=by
 have:(Z7 t k).length=256:=by unfold Z7;simp;omega
 unfold ZA;rw [this];simp [Z7]
theorem Vu (t:LuT):∀ m,m*256<=t.length->(List.range m).flatMap (fun k=>ZA (Z7 t k))=t.take (m*256)
 | 0,_=>by simp
 | m+1,h=>by
  rw [kK,cX,Vu t m (by omega),dW,QkL t h,gE,j9,List.take_add]
theorem QoT (t:LuT):((List.range ((t.length+255) / 256)).flatMap (fun k=>ZA (Z7 t k))).take t.length=t:=by
 rcases Nat.eq_zero_or_pos (t.length % 256) with h|h
 ·have e:(t.length+255) / 256*256=t.length:=by omega
  rw [Vu t _ (by omega),e,jI,Nat.min_self,dR]
 ·obtain⟨m,hm⟩:∃ m,m=t.length / 256:=⟨_,rfl⟩
  have e:(t.length+255) / 256=m+1:=by omega
  rw [e,kK,cX,Vu t m (by omega),dW]
  have h3:ZA (Z7 t m)=t.drop (m*256)++List.replicate (256-(Z7 t m).length) 0:=by
   unfold ZA;congr 1
   unfold Z7;rw [cQ (by simp;omega)]
  rw [h3,<-cG,dV,gP (cJ _),dR]
theorem Sv.load {s:DK}{n e:Nat}{t:LuT}(h:Sv s.now n e t)(hn:n<=160)(hd:s.down=false):QiE s=(t,0):=by
 unfold QiE;rw [bE (by rw [hd];decide),h.last hn hd,bE (by simp)]
 have e1:Qaz s e ((t.length+255) / 256)=(List.range ((t.length+255) / 256)).flatMap (fun k=>ZA (Z7 t k)):=by
  unfold Qaz;rw [List.flatMap_def,List.flatMap_def];congr 1
  refine kG fun k hk=>?_
  simp only [mM] at hk;have:=h.dat k hk;unfold Qgt QD;rw [h.len];exact this
 show ((Qaz s e ((t.length+255) / 256)).take t.length,(0:Int))=_;rw [e1,QoT]
theorem getD_set_ne {l:List (LuT)}{i j:Nat}(h:i≠j)(x:LuT):(l.set i x).getD j []=l.getD j []:=by
 rw [bK,gU h,bK]
theorem Jp {l:List (LuT)}{i:Nat}(h:i<l.length)(x:LuT):(l.set i x).getD i []=x:=by
 rw [bK,fC h];rfl
def Oth (n e j:Nat):Prop:=2+(e+1) % 2*((n-2) / 2)<=j/\j<2+(e+1) % 2*((n-2) / 2)+(n-2) / 2
theorem Qm8 {n e j:Nat}(ho:Oth n e j):j≠e % 2/\j≠(e+1) % 2/\∀ k,k<(n-2) / 2->j≠2+e % 2*((n-2) / 2)+k:=by
 unfold Oth at ho;rcases QkG e with ⟨p1,p2⟩|⟨p1,p2⟩
 ·rw [p2] at ho ⊢;rw [p1];refine⟨by omega,by omega,fun k hk=>by omega⟩
 ·rw [p2] at ho ⊢;rw [p1];refine⟨by omega,by omega,fun k hk=>by omega⟩
theorem Sv.set {l:List (LuT)}{n e:Nat}{t:LuT}(h:Sv l n e t){j:Nat}(ho:Oth n e j)(x:LuT):Sv (l.set j x) n e t:=by
 obtain⟨h1,h2,h3⟩:=Qm8 ho;have hr:=h.room;exact⟨by rw [dG];exact h.len,h.n4,h.e1,h.e2,h.room,by rw [getD_set_ne h1];exact h.hd,by rw [getD_set_ne h2];exact h.oth,fun k hk=>by rw [getD_set_ne (h3 k (by omega))];exact h.dat k hk⟩
theorem Sv.keep {n e:Nat}{t:LuT}(k:Int):∀(w:List (Int × LuT)) (i:Nat) {l:List (LuT)},Sv l n e t->(∀ x ∈ w,Oth n e x.1.toNat)->Sv (Qcl k i w l) n e t
 | [],i,l,h,_=>h
 | x :: w,i,l,h,hw=>by
  rw [Qcl];refine Sv.keep k w (i+1) ?_ (fun y hy=>hw y (bY _ hy))
  split
  ·exact h.set (hw x bS) _
  ·exact h
theorem Qci (s:DK)(hd:s.down=false):((QQ s).2=0/\(QQ s).1.down=false/\(s.fuse=-1->(QQ s).1.fuse=-1))\/((QQ s).2=7/\(QQ s).1.down=true/\s.fuse≠-1):=by
 unfold QQ;rw [bE (by rw [hd];decide)]
 split
 ·rename_i h;right;exact⟨rfl,rfl,by omega⟩
 ·left;refine⟨rfl,hd,fun h=>?_⟩
  show max (s.fuse-1) (-1)=-1;omega
structure Qof (s s':DK):Prop where
 now:s'.now=s.now
 kept:s'.kept=s.kept
 wait:s'.wait=s.wait
theorem KB {s:DK}(hd:s.down=false){i:Int}{d:LuT}(hi:0<=i/\i<s.now.length)(hl:d.length<=256) :
  ((Qu s i d).2=0/\(Qu s i d).1.down=false/\(s.fuse=-1->(Qu s i d).1.fuse=-1)/\(Qu s i d).1.now=s.now.set i.toNat (ZA d)/\(Qu s i d).1.kept=s.kept/\(Qu s i d).1.wait=s.wait++[(i,ZA d)]) \/
  ((Qu s i d).2=7/\(Qu s i d).1.down=true/\s.fuse≠-1/\Qof s (Qu s i d).1):=by
 have e:=Un s;unfold Qu;rw [bE (by omega)]
 rcases Qci s hd with ⟨h1,h2,h3⟩|⟨h1,h2,h3⟩
 ·left;rw [bE (by rw [h1];decide)]
  exact⟨rfl,h2,h3,rfl,e.2.1,rfl⟩
 ·right;rw [bH (by rw [h1];decide)]
  exact⟨h1,h2,h3,⟨e.1,e.2.1,e.2.2⟩⟩
theorem Kt {s:DK}(hd:s.down=false) :
  ((QU s).2=0/\(QU s).1.down=false/\(s.fuse=-1->(QU s).1.fuse=-1)/\(QU s).1.now=s.now/\(QU s).1.kept=s.now/\(QU s).1.wait=[]) \/
  ((QU s).2=7/\(QU s).1.down=true/\s.fuse≠-1/\Qof s (QU s).1):=by
 have e:=Un s;unfold QU;rcases Qci s hd with ⟨h1,h2,h3⟩|⟨h1,h2,h3⟩
 ·left;rw [bE (by rw [h1];decide)]
  exact⟨rfl,h2,h3,e.1,rfl,rfl⟩
 ·right;rw [bH (by rw [h1];decide)]
  exact⟨h1,h2,h3,⟨e.1,e.2.1,e.2.2⟩⟩
structure QnM (s:DK)(n e:Nat)(t:LuT):Prop where
 now:Sv s.now n e t
 kept:Sv s.kept n e t
 wait:s.wait=[]
def Saf (s:DK)(n e:Nat)(t:LuT)(t':LuT):Prop:=∀ k,Sv (Qcl k 0 s.wait s.kept) n e t\/Sv (Qcl k 0 s.wait s.kept) n (e+1) t'
theorem Saf.stays {s s':DK}{n e:Nat}{t t':LuT}(h:Saf s n e t t')(S:Qof s s'):Saf s' n e t t':=by
 intro k;have:=h k;rw [S.wait,S.kept];exact this
structure QlY (s:DK)(n e:Nat)(t:LuT):Prop where
 now:Sv s.now n e t
 kept:Sv s.kept n e t
 wait:∀ x ∈ s.wait,Oth n e x.1.toNat
theorem QlY.saf {s:DK}{n e:Nat}{t:LuT}(h:QlY s n e t)(t':LuT):Saf s n e t t':=fun k=>.inl (h.kept.keep k s.wait 0 h.wait)
theorem QjG (t:LuT)(k:Nat):(Z7 t k).length<=256:=by unfold Z7;simp;omega
theorem QgO (t:LuT):Zl t=(List.range ((t.length+255) / 256)).map (Z7 t):=rfl
theorem Qey {n e:Nat}{t t':LuT}(hr:t'.length<=(n-2) / 2*256):∀(m:Nat) {s:DK},QlY s n e t->s.down=false->m<=(t'.length+255) / 256 ->
  (let w:=Qv s (2+(e+1) % 2*((n-2) / 2)) ((List.range m).map (Z7 t'))
   (w.2=0/\w.1.down=false/\(s.fuse=-1->w.1.fuse=-1)/\QlY w.1 n e t/\∀ k,k<m->w.1.now.getD (2+(e+1) % 2*((n-2) / 2)+k) []=ZA (Z7 t' k))\/(w.2=7/\w.1.down=true/\s.fuse≠-1/\QlY w.1 n e t))
 | 0,s,M,hd,_=>.inl ⟨rfl,hd,fun h=>h,M,fun k hk=>by omega⟩
 | m+1,s,M,hd,hm=>by
  intro w;have ih:=Qey hr m M hd (by omega)
  have hw:w=Qv s (2+(e+1) % 2*((n-2) / 2)) ((List.range m).map (Z7 t')++[Z7 t' m]):=by show Qv _ _ _=_;rw [kK,cD];rfl
  generalize hb:2+(e+1) % 2*((n-2) / 2)=b at ih hw ⊢;simp only at ih;rcases ih with ⟨i1,i2,i3,i4,i5⟩|⟨i1,i2,i3,i4⟩
  ·rw [UC _ _ _ _ i1,bU,mU] at hw;generalize (Qv s b ((List.range m).map (Z7 t'))).1=sm at i2 i3 i4 i5 hw;have ho:Oth n e (b+m):=by unfold Oth;rw [hb];omega
   have hlen:=i4.now.len;have hlt:b+m<n:=by
    have:=Qm8 ho;unfold Oth at ho;have h4:=i4.now.n4;have:(e+1) % 2*((n-2) / 2)<=(n-2) / 2:=by
     rcases QkG e with ⟨p1,p2⟩|⟨p1,p2⟩<;>rw [p2]<;>omega
    omega
   rcases KB i2 (i:=((b+m:Nat):Int)) (d:=Z7 t' m) (by omega) (QjG t' m) with ⟨c1,c2,c3,c4,c5,c6⟩|⟨c1,c2,c3,c4⟩
   ·left;rw [hw];rw [bG] at c4;refine⟨c1,c2,fun h=>c3 (i3 h),⟨by rw [c4];exact i4.now.set ho _,by rw [c5];exact i4.kept,fun x hx=>?_⟩,fun k hk=>?_⟩
    ·rw [c6] at hx;rcases cP.1 hx with h1|h1
     ·exact i4.wait x h1
     ·simp only [cB] at h1;subst h1;exact ho
    ·rw [c4];by_cases hkm:k=m
     ·subst hkm;exact Jp (by omega) _
     ·rw [getD_set_ne (by omega)]
      exact i5 k (by omega)
   ·right;rw [hw];exact⟨c1,c2,fun h=>c3 (i3 h),⟨by rw [c4.now];exact i4.now,by rw [c4.kept];exact i4.kept,fun x hx=>i4.wait x (by rw [<-c4.wait];exact hx)⟩⟩
  ·right;rw [UE _ _ _ _ (by rw [i1];decide)] at hw
   rw [hw];exact⟨i1,i2,i3,i4⟩
theorem Sv.next {l:List (LuT)}{n e:Nat}{t t':LuT}(h:Sv l n e t)(he:e+1<4294967296)(hr:t'.length<=(n-2) / 2*256)(hn:n<=160)(hd:∀ k,k<(t'.length+255) / 256->l.getD (2+(e+1) % 2*((n-2) / 2)+k) []=ZA (Z7 t' k)) :
  Sv (l.set ((e+1) % 2) (ZA (Yz (e+1) t'.length))) n (e+1) t':=by
 have h4:=h.n4;have hlen:=h.len;have hr0:=h.room;obtain⟨f1,f2,f3⟩:=QdO e t.length h.e2 (by omega)
 have hp:(e+1+1) % 2=e % 2:=by omega
 have hne:(e+1) % 2≠e % 2:=by omega
 refine⟨by rw [dG];exact h.len,h4,by omega,he,hr,Jp (by omega) _,?_,?_⟩
 ·rw [hp,getD_set_ne hne,h.hd,f2];intro _;omega
 ·intro k hk;rw [getD_set_ne (by omega)]
  exact hd k hk
theorem QoF {s:DK}{n e:Nat}{t t':LuT}(G:QnM s n e t)(hd:s.down=false)(hn:n<=160)(he:e+1<4294967296)(hr:t'.length<=(n-2) / 2*256) :
  ((Kd s t').2=0/\(Kd s t').1.down=false/\(s.fuse=-1->(Kd s t').1.fuse=-1)/\QnM (Kd s t').1 n (e+1) t')\/((Kd s t').2=7/\(Kd s t').1.down=true/\s.fuse≠-1/\Saf (Kd s t').1 n e t t'):=by
 have hH:QD s=(n-2) / 2:=by unfold QD;rw [G.now.len]
 have M:QlY s n e t:=⟨G.now,G.kept,by rw [G.wait];intro x hx;exact absurd hx dB⟩
 have W:=Qey hr _ M hd (cJ _);rw [<-QgO] at W;have h4:=G.now.n4;unfold Kd;rw [bE (by rw [hd];decide),G.now.last hn hd,bE (by simp),hH,bE (by omega)]
 simp only at W ⊢;generalize Qv s (2+(e+1) % 2*((n-2) / 2)) (Zl t')=w at W ⊢;obtain⟨sa,fa⟩:=w;simp only at W ⊢;rcases W with ⟨w1,w2,w3,w4,w5⟩|⟨w1,w2,w3,w4⟩
 ·rw [bE (by omega)]
  unfold QeP;rcases Kt w2 with ⟨a1,a2,a3,a4,a5,a6⟩|⟨a1,a2,a3,a4⟩
  ·rw [bE (by omega)]
   generalize (QU sa).1=sb at a2 a3 a4 a5 a6 ⊢;have hlt:(e+1) % 2<2:=pL _ (by decide)
   have hNb:Sv sb.now n e t:=by rw [a4];exact w4.now
   have hlen:=hNb.len;have nx:Sv (sb.now.set ((e+1) % 2) (ZA (Yz (e+1) t'.length))) n (e+1) t':=hNb.next he hr hn (by rw [a4];exact w5)
   have hS:Saf sb n e t t':=by intro k;rw [a6,Qcl,a5];exact .inl w4.now
   rcases KB a2 (i:=(((e+1) % 2:Nat):Int)) (d:=Yz (e+1) t'.length) (by omega) (by rw [Qmh];decide) with ⟨b1,b2,b3,b4,b5,b6⟩|⟨b1,b2,b3,b4⟩
   ·rw [bE (by omega)]
    generalize (Qu sb (((e+1) % 2:Nat):Int) (Yz (e+1) t'.length)).1=sc at b2 b3 b4 b5 b6 ⊢;rw [bG] at b4;have hSc:Saf sc n e t t':=by
     intro k;rw [b6,a6,b5,dC,Qcl,Qcl,bG];split
     ·right;rw [a5,<-a4];exact nx
     ·left;rw [a5];exact w4.now
    rcases Kt b2 with ⟨c1,c2,c3,c4,c5,c6⟩|⟨c1,c2,c3,c4⟩
    ·left;exact⟨c1,c2,fun h=>c3 (b3 (a3 (w3 h))),⟨by rw [c4,b4];exact nx,by rw [c5,b4];exact nx,c6⟩⟩
    ·right;exact⟨c1,c2,fun h=>c3 (b3 (a3 (w3 h))),hSc.stays c4⟩
   ·rw [bH (by omega)]
    right;exact⟨b1,b2,fun h=>b3 (a3 (w3 h)),hS.stays b4⟩
  ·rw [bH (by omega)]
   right;exact⟨a1,a2,fun h=>a3 (w3 h),(w4.saf t').stays a4⟩
 ·rw [bH (by omega)]
  right;exact⟨w1,w2,w3,w4.saf t'⟩
theorem Qny {s:DK}{n e:Nat}{t t':LuT}(G:QnM s n e t)(hd:s.down=false)(hn:n<=160)(hr:¬ t'.length<=(n-2) / 2*256):Kd s t'=(s,6):=by
 have hH:QD s=(n-2) / 2:=by unfold QD;rw [G.now.len]
 unfold Kd;rw [bE (by rw [hd];decide),G.now.last hn hd,bE (by simp),hH,bH (by omega)]
theorem QjO {s:DK}{n:Nat}(D:DOK s n)(hd:s.down=false)(hf:s.fuse=-1)(h4:4<=n):(WM s).2=0/\(WM s).1.down=false/\(WM s).1.fuse=-1/\QnM (WM s).1 n 2 []:=by
 have hw:=D.wf.w;have hw2:=D.wf.n2;unfold WM;rw [bE (by omega)]
 rcases KB hd (i:=1) (d:=[]) (by omega) (by decide) with ⟨a1,a2,a3,a4,a5,a6⟩|⟨_,_,h,_⟩
 ·rw [bE (by omega)]
  generalize (Qu s 1 []).1=sa at *
  rcases Kt a2 with ⟨b1,b2,b3,b4,b5,b6⟩|⟨_,_,h,_⟩
  ·rw [bE (by omega)]
   generalize (QU sa).1=sb at *
   rcases KB b2 (i:=0) (d:=Yz 2 0) (by rw [b4,a4,dG];omega) (by decide) with ⟨c1,c2,c3,c4,c5,c6⟩|⟨_,_,h,_⟩
   ·rw [bE (by omega)]
    generalize (Qu sb 0 (Yz 2 0)).1=sc at *
    rcases Kt c2 with ⟨e1,e2,e3,e4,e5,e6⟩|⟨_,_,h,_⟩
    ·refine⟨e1,e2,e3 (c3 (b3 (a3 hf))),?_⟩
     have hnow:sc.now=(s.now.set 1 (ZA [])).set 0 (ZA (Yz 2 0)):=by rw [c4,b4,a4];rfl
     have key:Sv sc.now n 2 []:=by
      rw [hnow];refine⟨by rw [dG,dG];exact hw,h4,by decide,by decide,by simp,Jp (by rw [dG];omega) _,?_,fun k hk=>absurd hk (by simp)⟩
      rw [show (2+1) % 2=1 from rfl,getD_set_ne (by decide),Jp (by omega)]
      intro h;exact absurd h (by decide)
     exact⟨by rw [e4];exact key,by rw [e5];exact key,e6⟩
    ·exact absurd (c3 (b3 (a3 hf))) h
   ·exact absurd (b3 (a3 hf)) h
  ·exact absurd (a3 hf) h
 ·exact absurd hf h
theorem DOK.save {s:DK}{n:Nat}(D:DOK s n)(t:LuT):DOK (Kd s t).1 n:=by
 unfold Kd;split
 ·exact D
 ·split
  ·exact D
  ·split
   ·exact D
   ·have h:=DOK.writes (Zl t) (2+((Zi s).1.1+1) % 2*QD s) D;split
    ·exact h
    ·unfold QeP;split
     ·exact h.flush
     ·split
      ·exact h.flush.write _ _
      ·exact(h.flush.write _ _).flush
theorem DOK.format {s:DK}{n:Nat}(D:DOK s n):DOK (WM s).1 n:=by
 unfold WM;split
 ·exact D
 ·have h:=D.write 1 [];split
  ·exact h
  ·split
   ·exact h.flush
   ·split
    ·exact h.flush.write _ _
    ·exact(h.flush.write _ _).flush
theorem QlP {n:Nat}(h1:1<=n)(h2:n<=160):DOK (Gx n) n:=DOK.newD h1 h2 (z:=Yk 256) (by simp [Yk])
structure W7 (h0 h:Hp)(F:NpT)(g:Nat)(s:DK)(n e:Nat)(t:LuT):Prop where
 le:h0.le h
 nw:∀ b,F b->h0 b=none
 p:PD h F g s
 D:DOK s n
 G:QnM s n e t
 d:s.down=false
theorem W7.grow {h0 h h':Hp}{F:NpT}{g:Nat}{s:DK}{n e:Nat}{t:LuT}(S:W7 h0 h F g s n e t)(l:h.le h'):W7 h0 h' F g s n e t:=
 ⟨Hp.le_trans S.le l,S.nw,S.p.le l,S.D,S.G,S.d⟩
theorem W7.read {h0 h:Hp}{F:NpT}{g:Nat}{s:DK}{n e:Nat}{t:LuT}(S:W7 h0 h F g s n e t){R:RtT}(hK:R (Qe [vs (bs t),ifv none]) h):Qa Pg 60 [vhp g 0] h R:=by
 refine QgX S.p S.D ?_
 rw [S.G.now.load S.D.wf.n2 S.d];exact hK
theorem W7.writeBig {h0 h:Hp}{F:NpT}{g:Nat}{s:DK}{n e:Nat}{t:LuT}(S:W7 h0 h F g s n e t){t':LuT}(h1:t'.length<=1000000)(hr:¬ t'.length<=(n-2) / 2*256){R:RtT}(hK:∀ h' F',W7 h0 h' F' g s n e t->R (ifv (QG 6)) h'):Qa Pg 56 [vhp g 0,vs (bs t')] h R:=by
 refine Ng S.p S.D (by rw [S.G.wait];exact cH _) h1 fun h' F' D' M'=>?_
 rw [Qny S.G S.d S.D.wf.n2 hr] at D' ⊢;exact hK h' F' ⟨(M'.old S.le S.nw).1,(M'.old S.le S.nw).2,D',S.D,S.G,S.d⟩
structure Qrk (h0 h:Hp)(F:NpT)(g:Nat)(s:DK)(n e:Nat)(t t':LuT):Prop where
 le:h0.le h
 nw:∀ b,F b->h0 b=none
 p:PD h F g s
 D:DOK s n
 S:Saf s n e t t'
theorem W7.write {h0 h:Hp}{F:NpT}{g:Nat}{s:DK}{n e:Nat}{t:LuT}(S:W7 h0 h F g s n e t)(he:e+1<4294967296){t':LuT}(h1:t'.length<=1000000)(hr:t'.length<=(n-2) / 2*256){R:RtT}
  (hK:∀ h' F' s',W7 h0 h' F' g s' n (e+1) t'->(s.fuse=-1->s'.fuse=-1)->R (ifv (QG 0)) h') (hF:∀ h' F' s',Qrk h0 h' F' g s' n e t t'->s'.wait.length<=900000->s.fuse≠-1->R (ifv (QG 7)) h'):Qa Pg 56 [vhp g 0,vs (bs t')] h R:=by
 refine Ng S.p S.D (by rw [S.G.wait];exact cH _) h1 fun h' F' D' M'=>?_
 have O:=M'.old S.le S.nw;rcases QoF S.G S.d S.D.wf.n2 he hr with ⟨k1,k2,k3,k4⟩|⟨k1,k2,k3,k4⟩
 ·rw [k1];exact hK h' F' _ ⟨O.1,O.2,D',S.D.save _,k4,k2⟩ k3
 ·rw [k1];refine hF h' F' _ ⟨O.1,O.2,D',S.D.save _,k4⟩ ?_ k3
  have hw0:=S.G.wait;have hh:(Kd s t').1.wait.length<=900000:=by
   have hl:(Zl t').length<=4000:=by unfold Zl;simp;omega
   have hc:=Kx (Zl t') s (2+((Zi s).1.1+1) % 2*QD s);rw [hw0,fB] at hc;unfold Kd;split
   ·rw [hw0];exact cH _
   ·split
    ·rw [hw0];exact cH _
    ·split
     ·rw [hw0];exact cH _
     ·split
      ·omega
      ·unfold QeP;have f1:=Mr (Qv s (2+((Zi s).1.1+1) % 2*QD s) (Zl t')).1;have f2:=QbS (QU (Qv s (2+((Zi s).1.1+1) % 2*QD s) (Zl t')).1).1 ((((Zi s).1.1+1) % 2:Nat):Int) (Yz ((Zi s).1.1+1) t'.length);have f3:=Mr (Qu (QU (Qv s (2+((Zi s).1.1+1) % 2*QD s) (Zl t')).1).1 ((((Zi s).1.1+1) % 2:Nat):Int) (Yz ((Zi s).1.1+1) t'.length)).1;split
       ·omega
       ·split<;>omega
  exact hh
theorem Qkd {h0 h:Hp}{F:NpT}{g n:Nat}(hl:h0.le h)(hn:∀ b,F b->h0 b=none)(D:PD h F g (Gx n))(h1:1<=n)(h2:n<=160)(h4:4<=n){R:RtT}(hK:∀ h' F' s',W7 h0 h' F' g s' n 2 []->s'.fuse=-1->R (ifv (QG 0)) h'):Qa Pg 43 [vhp g 0] h R:=by
 have hD:=QlP h1 h2;refine Qe2 D hD (by simp [Gx]) fun h' F' D' M'=>?_
 obtain⟨k1,k2,k3,k4⟩:=QjO hD rfl rfl h4;rw [k1];exact hK h' F' _ ⟨(M'.old hl hn).1,(M'.old hl hn).2,D',hD.format,k4,k2⟩ k3
theorem MQ {u0 u1:Nat}{h:Hp}{R:RtT}(H:∃ a1 n1 c1,Hp.cell h u0 u1=some (vsl a1 n1 c1)/\((decide ((n1:Int)=0))=true->Hp.store h u0 (u1+1) [vb true] fun h2=>R (vs ⟨#[]⟩) h2)/\((decide ((n1:Int)=0))=false->∃ a4 n4 c4,Hp.cell h u0 u1=some (vsl a4 n4 c4)/\∃ b5 o6,Ix a4 b5 o6 0 n4/\∃ s7,Hp.cell h b5 (o6+(0:Int).toNat*1)=some (vs s7)/\∃ a8 n8 c8,Hp.cell h u0 u1=some (vsl a8 n8 c8)/\∃ a9 n9 c9,Rd Pg (Instr.sliceAt 162 (vsl a8 n8 c8) (some (vi 1)) none none) h (vsl a9 n9 c9)/\Hp.store h u0 u1 [vsl a9 n9 c9] fun h10=>R (vs s7) h10)):Qa Pg 184 [vhp u0 u1] h R:=callO Tryz.func184 [.one (.hp u0 u1)] H
theorem Vp {u0 u1:Nat}{u2:Int}{u3:Int}{h:Hp}{R:RtT}(H:Qa Pg 184 [vhp u0 u1] h fun v1 h2=>∃ s3,v1=vs s3/\Qa Pg 145 [vs s3] h2 fun v4 h5=>∃ x6 e7,v4=Qe [vi x6,ifv e7]/\∃(J8:ShT),((Option.isSome e7)=false->Qa Pg 119 [vi x6] h5 fun v9 h10=>∃ s11,v9=vs s11/\J8 (.t (.one (.v (vs s11)))) h10)/\(¬((Option.isSome e7)=false)->J8 (.t (.one (.v (vs ⟨#[]⟩)))) h5)/\∀ h12 s13,J8 (.t (.one (.v (vs s13)))) h12->∃ p14,((Option.isSome e7)=false->RdG .neq 9 (.tmp 21) (.tmp 22) (vs s13) (vs s3) h12 (vb p14))/\((cond (cond (cond (Option.isSome e7) true p14) true (decide (x6<u2))) true (decide (x6>u3)))=true->Hp.store h12 u0 (u1+1) [vb true] fun h15=>R (vi u2) h15)/\((cond (cond (cond (Option.isSome e7) true p14) true (decide (x6<u2))) true (decide (x6>u3)))=false->R (vi x6) h12)):Qa Pg 128 [vhp u0 u1,vi u2,vi u3] h R:=callO Tryz.func128 [.one (.hp u0 u1),.one (.v (vi u2)),.one (.v (vi u3))] H
theorem GK {u0 u1:Nat}{h:Hp}{R:RtT}(H:Qa Pg 184 [vhp u0 u1] h fun v1 h2=>∃ s3,v1=vs s3/\Qa Pg 231 [vs s3] h2 fun v4 h5=>∃ x6 x7 e8,v4=Qe [vag [vi x6,vi x7],ifv e8]/\∃ p9,Hp.cell h5 u0 (u1+1)=some (vb p9)/\Hp.store h5 u0 (u1+1) [(vb (cond p9 true (Option.isSome e8)))] fun h10=>R (vag [vi x6,vi x7]) h10):Qa Pg 185 [vhp u0 u1] h R:=callO Tryz.func185 [.one (.hp u0 u1)] H
theorem MO {u0 u1:Nat}{u2:OaT}{u3 u4:Nat}{u5:OaT}{u6 u7:Nat}{u8:OaT}{u9 u10:Nat}{u11:Int}{u12:Int}{u13:Int}{u14:Int}{h:Hp}{R:RtT}(H:Qa Pg 128 [vhp u0 u1,(vi (-1000)),vi 9999] h fun v1 h2=>∃ x3,v1=vi x3/\Qa Pg 185 [vhp u0 u1] h2 fun v4 h5=>∃ x6 x7,v4=vag [vi x6,vi x7]/\Qa Pg 128 [vhp u0 u1,vi 0,vi 1] h5 fun v8 h9=>∃ x10,v8=vi x10/\let J44:Int->Int->Int->OaT->Nat->Nat->Bool->Hp->Prop:=fun x60 x61 x62 a63 n63 c63 p64 h65=>R (vag [vi x60,vi x61,vi x62,vsl a63 n63 c63,vb p64]) h65;∃(I12:LtT) (m13:LmT),I12 [vi 0,vi x3,vi x6,vi x7,vsl none 0 0,(vb (decide (x10=1)))] h9/\∀ vs14 h15,I12 vs14 h15->∃ x16 x17 x18 x19 a20 n20 c20 p21,vs14=[vi x16,vi x17,vi x18,vi x19,vsl a20 n20 c20,vb p21]/\((decide (x16<(u3:Int)))=true->∃ b24 o25,Ix u2 b24 o25 x16 u3/\∃ x26 a27 n27 c27,Hp.row h15 b24 (o25+x16.toNat*2) 2=some [vi x26,vsl a27 n27 c27]/\Qa Pg 128 [vhp u0 u1,vi 0,vi 120] h15 fun v28 h29=>∃ x30,v28=vi x30/\Qa Pg 128 [vhp u0 u1,(vi (-1099511627776)),vi 1099511627776] h29 fun v31 h32=>∃ x33,v31=vi x33/\Qa Pg 128 [vhp u0 u1,(vi (-1000000000)),vi 1000000000] h32 fun v34 h35=>∃ x36,v34=vi x36/\∀ b37,h35 b37=none->let h38:=Hp.set h35 b37 (Qb [vi x26,vi x30,vi x33,vi x36] 155);Qh Pg (Builtin.append_ #[148,148] 148 #[vsl a20 n20 c20,(vsl (some (⟨b37,0,none⟩:Addr)) 1 1)]) h38 fun v39 h40=>∃ a41 n41 c41,v39=vsl a41 n41 c41/\∃ x43,IsW x43 (x16+1)/\I12 [vi x43,vi x17,vi x18,vi x19,vsl a41 n41 c41,vb p21] h40/\m13 [vi x43,vi x17,vi x18,vi x19,vsl a41 n41 c41,vb p21] h40<m13 vs14 h15)/\((decide (x16<(u3:Int)))=false->J44 x17 x18 x19 a20 n20 c20 p21 h15)):Qa Pg 129 [vhp u0 u1,vag [vsl u2 u3 u4,vsl u5 u6 u7,vsl u8 u9 u10,vi u11,vi u12,vi u13,vi u14]] h R:=callC ⟨[],[(3,([19],[.one (.int .i64)],[(2,[.int .i64,.int .i64,.int .i64,.slice,.bool])]))],[(5,[0,1,2,3,4,6,8,5,7,9,10,11,12,13,14])]⟩ Tryz.func129 [.one (.hp u0 u1),.ag [.v (vsl u2 u3 u4),.v (vsl u5 u6 u7),.v (vsl u8 u9 u10),.v (vi u11),.v (vi u12),.v (vi u13),.v (vi u14)]] H
theorem NF {u0 u1:Nat}{u2:OaT}{u3 u4:Nat}{u5:OaT}{u6 u7:Nat}{u8:OaT}{u9 u10:Nat}{u11:Int}{u12:Int}{u13:Int}{u14:Int}{h:Hp}{R:RtT}(H:Qa Pg 128 [vhp u0 u1,vi 0,vi 1] h fun v1 h2=>∃ x3,v1=vi x3/\Qa Pg 128 [vhp u0 u1,(vi (-1000)),vi 9999] h2 fun v4 h5=>∃ x6,v4=vi x6/\Qa Pg 185 [vhp u0 u1] h5 fun v7 h8=>∃ x9 x10,v7=vag [vi x9,vi x10]/\let J35:Bool->Int->Int->Int->OaT->Nat->Nat->Hp->Prop:=fun p51 x52 x53 x54 a55 n55 c55 h56=>R (vag [vb p51,vi x52,vi x53,vi x54,vsl a55 n55 c55]) h56;∃(I12:LtT) (m13:LmT),I12 [vi 0,(vb (decide (x3=1))),vi x6,vi x9,vi x10,vsl none 0 0] h8/\∀ vs14 h15,I12 vs14 h15->∃ x16 p17 x18 x19 x20 a21 n21 c21,vs14=[vi x16,vb p17,vi x18,vi x19,vi x20,vsl a21 n21 c21]/\((decide (x16<(u3:Int)))=true->Qa Pg 185 [vhp u0 u1] h15 fun v24 h25=>∃ x26 x27,v24=vag [vi x26,vi x27]/\∀ b28,h25 b28=none->let h29:=Hp.set h25 b28 (Qb [vi x26,vi x27] 54);Qh Pg (Builtin.append_ #[91,91] 91 #[vsl a21 n21 c21,(vsl (some (⟨b28,0,none⟩:Addr)) 1 1)]) h29 fun v30 h31=>∃ a32 n32 c32,v30=vsl a32 n32 c32/\∃ x34,IsW x34 (x16+1)/\I12 [vi x34,vb p17,vi x18,vi x19,vi x20,vsl a32 n32 c32] h31/\m13 [vi x34,vb p17,vi x18,vi x19,vi x20,vsl a32 n32 c32] h31<m13 vs14 h15)/\((decide (x16<(u3:Int)))=false->J35 p17 x18 x19 x20 a21 n21 c21 h15)):Qa Pg 130 [vhp u0 u1,vag [vsl u2 u3 u4,vsl u5 u6 u7,vsl u8 u9 u10,vi u11,vi u12,vi u13,vi u14]] h R:=callC ⟨[],[(3,([18],[.one (.int .i64)],[(2,[.bool,.int .i64,.int .i64,.int .i64,.slice])]))],[(4,[0,1,2,3,4,5,6,7,8,9])]⟩ Tryz.func130 [.one (.hp u0 u1),.ag [.v (vsl u2 u3 u4),.v (vsl u5 u6 u7),.v (vsl u8 u9 u10),.v (vi u11),.v (vi u12),.v (vi u13),.v (vi u14)]] H
theorem Qht {u0 u1:Nat}{h:Hp}{R:RtT}(H:∃ a1 n1 c1,Hp.cell h u0 (u1+8)=some (vsl a1 n1 c1)/\∃ x2,Hp.cell h u0 (u1+11)=some (vi x2)/\∃ a3 n3 c3,Hp.cell h u0 (u1+10)=some (vsl a3 n3 c3)/\∃ a4 n4 c4,Hp.cell h u0 (u1+12)=some (vsl a4 n4 c4)/\Xl Pg (Value.func (.func 119) #[] #[]) [(vi (n1:Int))] h fun v5 h6=>∃ s7,v5=vs s7/\Hp.cell h6 u0 (u1+12)=some (vsl a4 n4 c4)/\Hp.cell h6 u0 (u1+10)=some (vsl a3 n3 c3)/\Hp.cell h6 u0 (u1+11)=some (vi x2)/\Xl Pg (Value.func (.func 119) #[] #[]) [vi x2] h6 fun v8 h9=>∃ s10,v8=vs s10/\Hp.cell h9 u0 (u1+12)=some (vsl a4 n4 c4)/\Hp.cell h9 u0 (u1+10)=some (vsl a3 n3 c3)/\Xl Pg (Value.func (.func 119) #[] #[]) [(vi (n3:Int))] h9 fun v11 h12=>∃ s13,v11=vs s13/\Hp.cell h12 u0 (u1+12)=some (vsl a4 n4 c4)/\Xl Pg (Value.func (.func 119) #[] #[]) [(vi (n4:Int))] h12 fun v14 h15=>∃ s16,v14=vs s16/\∀ b17,h15 b17=none->let h18:=Hp.set h15 b17 (Qb [vs s7,vs s10,vs s13,vs s16] 9);∃ a19 n19 c19,Hp.cell h18 u0 (u1+8)=some (vsl a19 n19 c19)/\∃(I21:LtT) (m22:LmT),I21 [(vsl (some (⟨b17,0,none⟩:Addr)) 4 4),vi 0] h18/\∀ vs23 h24,I21 vs23 h24->∃ a25 n25 c25 x26,vs23=[vsl a25 n25 c25,vi x26]/\((decide (x26<(n19:Int)))=true->∃ a29 n29 c29,Hp.cell h24 u0 (u1+8)=some (vsl a29 n29 c29)/\∃ b30 o31,Ix a29 b30 o31 x26 n29/\∃ x32,Hp.cell h24 b30 (o31+x26.toNat*1)=some (vi x32)/\∃ a33 n33 c33,Hp.cell h24 u0 (u1+9)=some (vsl a33 n33 c33)/\∃ b34 o35,Ix a33 b34 o35 x26 n33/\∃ x36,Hp.cell h24 b34 (o35+x26.toNat*1)=some (vi x36)/\Xl Pg (Value.func (.func 119) #[] #[]) [vi x32] h24 fun v37 h38=>∃ s39,v37=vs s39/\Hp.cell h38 b34 (o35+x26.toNat*1)=some (vi x36)/\Hp.cell h38 u0 (u1+9)=some (vsl a33 n33 c33)/\Xl Pg (Value.func (.func 119) #[] #[]) [vi x36] h38 fun v40 h41=>∃ s42,v40=vs s42/\∀ b43,h41 b43=none->let h44:=Hp.set h41 b43 (Qb [vs s39,vs s42] 9);Qh Pg (Builtin.append_ #[162,162] 162 #[vsl a25 n25 c25,(vsl (some (⟨b43,0,none⟩:Addr)) 2 2)]) h44 fun v45 h46=>∃ a47 n47 c47,v45=vsl a47 n47 c47/\∃ x49,IsW x49 (x26+1)/\I21 [vsl a47 n47 c47,vi x49] h46/\m22 [vsl a47 n47 c47,vi x49] h46<m22 vs23 h24)/\((decide (x26<(n19:Int)))=false->∃ a50 n50 c50,Hp.cell h24 u0 (u1+10)=some (vsl a50 n50 c50)/\∃(I52:LtT) (m53:LmT),I52 [vsl a25 n25 c25,vi 0] h24/\∀ vs54 h55,I52 vs54 h55->∃ a56 n56 c56 x57,vs54=[vsl a56 n56 c56,vi x57]/\((decide (x57<(n50:Int)))=true->∃ b60 o61,Ix a50 b60 o61 x57 n50/\∃ x62 x63 x64 a65 n65 c65 p66,Hp.row h55 b60 (o61+x57.toNat*5) 5=some [vi x62,vi x63,vi x64,vsl a65 n65 c65,vb p66]/\let J69:ByteArray->Prop:=fun s76=>(Xl Pg (Value.func (.func 119) #[] #[]) [vi x62] h55 fun v77 h78=>∃ s79,v77=vs s79/\Qa Pg 120 [vag [vi x63,vi x64]] h78 fun v80 h81=>∃ s82,v80=vs s82/\∀ b83,h81 b83=none->let h84:=Hp.set h81 b83 (Qb [vs s79,vs s82,vs s76] 9);Qh Pg (Builtin.append_ #[162,162] 162 #[vsl a56 n56 c56,(vsl (some (⟨b83,0,none⟩:Addr)) 3 3)]) h84 fun v85 h86=>∃ a87 n87 c87,v85=vsl a87 n87 c87/\∃(I89:LtT) (m90:LmT),I89 [vsl a87 n87 c87,vi 0] h86/\∀ vs91 h92,I89 vs91 h92->∃ a93 n93 c93 x94,vs91=[vsl a93 n93 c93,vi x94]/\((decide (x94<(n65:Int)))=true->∃ b97 o98,Ix a65 b97 o98 x94 n65/\∃ x99 x100 x101 x102,Hp.row h92 b97 (o98+x94.toNat*4) 4=some [vi x99,vi x100,vi x101,vi x102]/\Xl Pg (Value.func (.func 119) #[] #[]) [vi x100] h92 fun v103 h104=>∃ s105,v103=vs s105/\Xl Pg (Value.func (.func 119) #[] #[]) [vi x101] h104 fun v106 h107=>∃ s108,v106=vs s108/\Xl Pg (Value.func (.func 119) #[] #[]) [vi x102] h107 fun v109 h110=>∃ s111,v109=vs s111/\∀ b112,h110 b112=none->let h113:=Hp.set h110 b112 (Qb [vs s105,vs s108,vs s111] 9);Qh Pg (Builtin.append_ #[162,162] 162 #[vsl a93 n93 c93,(vsl (some (⟨b112,0,none⟩:Addr)) 3 3)]) h113 fun v114 h115=>∃ a116 n116 c116,v114=vsl a116 n116 c116/\∃ x118,IsW x118 (x94+1)/\I89 [vsl a116 n116 c116,vi x118] h115/\m90 [vsl a116 n116 c116,vi x118] h115<m90 vs91 h92)/\((decide (x94<(n65:Int)))=false->∃ x119,IsW x119 (x57+1)/\I52 [vsl a93 n93 c93,vi x119] h92/\m53 [vsl a93 n93 c93,vi x119] h92<m53 vs54 h55));(p66=true->J69 ⟨#[49]⟩)/\(p66=false->J69 ⟨#[48]⟩))/\((decide (x57<(n50:Int)))=false->∃ a120 n120 c120,Hp.cell h55 u0 (u1+12)=some (vsl a120 n120 c120)/\∃(I122:LtT) (m123:LmT),I122 [vsl a56 n56 c56,vi 0] h55/\∀ vs124 h125,I122 vs124 h125->∃ a126 n126 c126 x127,vs124=[vsl a126 n126 c126,vi x127]/\((decide (x127<(n120:Int)))=true->∃ b130 o131,Ix a120 b130 o131 x127 n120/\∃ p132 x133 x134 x135 a136 n136 c136,Hp.row h125 b130 (o131+x127.toNat*5) 5=some [vb p132,vi x133,vi x134,vi x135,vsl a136 n136 c136]/\let J139:ByteArray->Prop:=fun s146=>(Xl Pg (Value.func (.func 119) #[] #[]) [vi x133] h125 fun v147 h148=>∃ s149,v147=vs s149/\Qa Pg 120 [vag [vi x134,vi x135]] h148 fun v150 h151=>∃ s152,v150=vs s152/\∀ b153,h151 b153=none->let h154:=Hp.set h151 b153 (Qb [vs s146,vs s149,vs s152] 9);Qh Pg (Builtin.append_ #[162,162] 162 #[vsl a126 n126 c126,(vsl (some (⟨b153,0,none⟩:Addr)) 3 3)]) h154 fun v155 h156=>∃ a157 n157 c157,v155=vsl a157 n157 c157/\∃(I159:LtT) (m160:LmT),I159 [vsl a157 n157 c157,vi 0] h156/\∀ vs161 h162,I159 vs161 h162->∃ a163 n163 c163 x164,vs161=[vsl a163 n163 c163,vi x164]/\((decide (x164<(n136:Int)))=true->∃ b167 o168,Ix a136 b167 o168 x164 n136/\∃ x169 x170,Hp.row h162 b167 (o168+x164.toNat*2) 2=some [vi x169,vi x170]/\Qa Pg 120 [vag [vi x169,vi x170]] h162 fun v171 h172=>∃ s173,v171=vs s173/\∀ b174,h172 b174=none->let h175:=Hp.set h172 b174 (Qb [vs s173] 9);Qh Pg (Builtin.append_ #[162,162] 162 #[vsl a163 n163 c163,(vsl (some (⟨b174,0,none⟩:Addr)) 1 1)]) h175 fun v176 h177=>∃ a178 n178 c178,v176=vsl a178 n178 c178/\∃ x180,IsW x180 (x164+1)/\I159 [vsl a178 n178 c178,vi x180] h177/\m160 [vsl a178 n178 c178,vi x180] h177<m160 vs161 h162)/\((decide (x164<(n136:Int)))=false->∃ x181,IsW x181 (x127+1)/\I122 [vsl a163 n163 c163,vi x181] h162/\m123 [vsl a163 n163 c163,vi x181] h162<m123 vs124 h125));(p132=true->J139 ⟨#[49]⟩)/\(p132=false->J139 ⟨#[48]⟩))/\((decide (x127<(n120:Int)))=false->Qa Pg 121 [vsl a126 n126 c126,(vs ⟨#[32]⟩)] h125 fun v182 h183=>∃ s184,v182=vs s184/\R (vs s184) h183)))):Qa Pg 57 [vhp u0 u1] h R:=callC ⟨[],[(4,([4,50],[.one (.slice),.one (.int .i64)],[])),(16,([4,102],[.one (.slice),.one (.int .i64)],[])),(9,([4,82],[.one (.slice),.one (.int .i64)],[])),(29,([4,151],[.one (.slice),.one (.int .i64)],[])),(22,([4,128],[.one (.slice),.one (.int .i64)],[]))],[(2,[0,1,2,3,4,5,7,8,9,10,11,13,14,15,16,17,18,19,21,22,23,24,25,26,6,12,20,27,28,29]),(6,[0,1,2,3,4,5,6,7,8,10,11,12,13,14,15,16,17,18,9,19,20,21,22]),(14,[0,1,2,3,5,6,8,4,7,9,10,11]),(18,[0,1,2,3,5,6,7,9,10,11,4,8,12,13,14,15]),(27,[0,1,2,3,4,5,7,8,9,6,10,11,12,13])]⟩ Tryz.func57 [.one (.hp u0 u1)] H
theorem Qfu {u0:ByteArray}{u1:OaT}{u2 u3:Nat}{u4:OaT}{u5 u6:Nat}{u7:OaT}{u8 u9:Nat}{u10:Int}{u11:Int}{u12:Int}{u13:Int}{u14:Int}{h:Hp}{R:RtT}(H:Qa Pg 59 [vag [vsl u1 u2 u3,vsl u4 u5 u6,vsl u7 u8 u9,vi u10,vi u11,vi u12,vi u13],vi u14] h fun v1 h2=>∃ q3 e4,v1=Qe [vp q3,ifv e4]/\((Option.isSome e4)=true->R (Qe [vp none,ifv e4]) h2)/\((Option.isSome e4)=false->Qa Pg 127 [vs u0,(vs ⟨#[32]⟩)] h2 fun v6 h7=>∃ a8 n8 c8,v6=vsl a8 n8 c8/\∀ b9,h7 b9=none->let h10:=Hp.set h7 b9 (Qb [vsl a8 n8 c8,vb false] 219);Qa Pg 128 [vhp b9 0,vi 1,vi 3] h10 fun v11 h12=>∃ x13,v11=vi x13/\Qa Pg 128 [vhp b9 0,vi 0,vi 1099511627776] h12 fun v14 h15=>∃ x16,v14=vi x16/\∃ b17 o18,q3=some ⟨b17,o18,none⟩/\Hp.store h15 b17 (o18+11) [vi x16] fun h19=>Qa Pg 128 [vhp b9 0,vi 0,vi 10000] h19 fun v20 h21=>∃ x22,v20=vi x22/\Qa Pg 128 [vhp b9 0,vi 0,vi 10000] h21 fun v23 h24=>∃ x25,v23=vi x25/\∃ x26,((decide (x13≠u14))=false->IsW x26 (x22+x25))/\∃ a27 n27 c27,((decide (x13≠u14))=false->Hp.cell h24 b9 0=some (vsl a27 n27 c27))/\((cond (decide (x13≠u14)) true (decide (x26>(n27:Int))))=true->R (Qe [vp none,(ifv (some (119,vi 4)))]) h24)/\((cond (decide (x13≠u14)) true (decide (x26>(n27:Int))))=false->∃(I30:LtT) (m31:LmT),I30 [vi 0] h24/\∀ vs32 h33,I30 vs32 h33->∃ x34,vs32=[vi x34]/\((decide (x34<u14))=true->∃ b37 o38,q3=some ⟨b37,o38,none⟩/\∃ a39 n39 c39,Hp.cell h33 b37 (o38+8)=some (vsl a39 n39 c39)/\Qa Pg 128 [vhp b9 0,vi 0,vi 40] h33 fun v40 h41=>∃ x42,v40=vi x42/\Hp.cell h41 b37 (o38+8)=some (vsl a39 n39 c39)/\∃ b43 o44,Ix a39 b43 o44 x34 n39/\Hp.store h41 b43 (o44+x34.toNat*1) [vi x42] fun h45=>∃ b46 o47,q3=some ⟨b46,o47,none⟩/\∃ a48 n48 c48,Hp.cell h45 b46 (o47+9)=some (vsl a48 n48 c48)/\Qa Pg 128 [vhp b9 0,(vi (-1)),vi 9999] h45 fun v49 h50=>∃ x51,v49=vi x51/\Hp.cell h50 b46 (o47+9)=some (vsl a48 n48 c48)/\∃ b52 o53,Ix a48 b52 o53 x34 n48/\Hp.store h50 b52 (o53+x34.toNat*1) [vi x51] fun h54=>∃ x56,IsW x56 (x34+1)/\I30 [vi x56] h54/\m31 [vi x56] h54<m31 vs32 h33)/\((decide (x34<u14))=false->∃(I58:LtT) (m59:LmT),I58 [vi 0] h33/\∀ vs60 h61,I58 vs60 h61->∃ x62,vs60=[vi x62]/\((decide (x62<x22))=true->∃ b65 o66,q3=some ⟨b65,o66,none⟩/\∃ a67 n67 c67,Hp.cell h61 b65 (o66+10)=some (vsl a67 n67 c67)/\Qa Pg 129 [vhp b9 0,vag [vsl u1 u2 u3,vsl u4 u5 u6,vsl u7 u8 u9,vi u10,vi u11,vi u12,vi u13]] h61 fun v68 h69=>∃ x70 x71 x72 a73 n73 c73 p74,v68=vag [vi x70,vi x71,vi x72,vsl a73 n73 c73,vb p74]/\Hp.cell h69 b65 (o66+10)=some (vsl a67 n67 c67)/\∀ b75,h69 b75=none->let h76:=Hp.set h69 b75 (Qb [vi x70,vi x71,vi x72,vsl a73 n73 c73,vb p74] 150);Qh Pg (Builtin.append_ #[128,128] 128 #[vsl a67 n67 c67,(vsl (some (⟨b75,0,none⟩:Addr)) 1 1)]) h76 fun v77 h78=>∃ a79 n79 c79,v77=vsl a79 n79 c79/\∃ b80 o81,q3=some ⟨b80,o81,none⟩/\Hp.store h78 b80 (o81+10) [vsl a79 n79 c79] fun h82=>∃ x84,IsW x84 (x62+1)/\I58 [vi x84] h82/\m59 [vi x84] h82<m59 vs60 h61)/\((decide (x62<x22))=false->∃(I86:LtT) (m87:LmT),I86 [vi 0] h61/\∀ vs88 h89,I86 vs88 h89->∃ x90,vs88=[vi x90]/\((decide (x90<x25))=true->∃ b93 o94,q3=some ⟨b93,o94,none⟩/\∃ a95 n95 c95,Hp.cell h89 b93 (o94+12)=some (vsl a95 n95 c95)/\Qa Pg 130 [vhp b9 0,vag [vsl u1 u2 u3,vsl u4 u5 u6,vsl u7 u8 u9,vi u10,vi u11,vi u12,vi u13]] h89 fun v96 h97=>∃ p98 x99 x100 x101 a102 n102 c102,v96=vag [vb p98,vi x99,vi x100,vi x101,vsl a102 n102 c102]/\Hp.cell h97 b93 (o94+12)=some (vsl a95 n95 c95)/\∀ b103,h97 b103=none->let h104:=Hp.set h97 b103 (Qb [vb p98,vi x99,vi x100,vi x101,vsl a102 n102 c102] 95);Qh Pg (Builtin.append_ #[48,48] 48 #[vsl a95 n95 c95,(vsl (some (⟨b103,0,none⟩:Addr)) 1 1)]) h104 fun v105 h106=>∃ a107 n107 c107,v105=vsl a107 n107 c107/\∃ b108 o109,q3=some ⟨b108,o109,none⟩/\Hp.store h106 b108 (o109+12) [vsl a107 n107 c107] fun h110=>∃ x112,IsW x112 (x90+1)/\I86 [vi x112] h110/\m87 [vi x112] h110<m87 vs88 h89)/\((decide (x90<x25))=false->∃ p113,Hp.cell h89 b9 (0+1)=some (vb p113)/\∃ a114 n114 c114,(p113=false->Hp.cell h89 b9 0=some (vsl a114 n114 c114))/\((cond p113 true (decide ((n114:Int)>0)))=true->R (Qe [vp none,(ifv (some (119,vi 4)))]) h89)/\((cond p113 true (decide ((n114:Int)>0)))=false->R (Qe [vp q3,ifv none]) h89))))))):Qa Pg 61 [vs u0,vag [vsl u1 u2 u3,vsl u4 u5 u6,vsl u7 u8 u9,vi u10,vi u11,vi u12,vi u13],vi u14] h R:=callC ⟨[27],[(11,([55],[.one (.int .i64)],[])),(17,([77],[.one (.int .i64)],[])),(21,([95],[.one (.int .i64)],[]))],[(13,[0,1,2,3,4,5,6,7,8]),(14,[0,1,2,3,4,5,6,7,8,9]),(18,[0,1,2,3,4,5,6,7,8,9,10,11,12,13,14]),(22,[0,1,2,3,4,5,6,7,8,9,10,11,12])]⟩ Tryz.func61 [.one (.v (vs u0)),.ag [.v (vsl u1 u2 u3),.v (vsl u4 u5 u6),.v (vsl u7 u8 u9),.v (vi u10),.v (vi u11),.v (vi u12),.v (vi u13)],.one (.v (vi u14))] H
open Go.Txt
abbrev Wds:=LuT
theorem QdC:∀(w r:Wds),(32:UInt8) ∉ w->Lib.index (w++32 :: r) [32]=(w.length:Nat)
 | [],r,_=>by
  show Lib.index (32 :: r) [32]=_;unfold Lib.index;rw [bH (by simp [List.isPrefixOf])]
  rfl
 | c :: w,r,h=>by
  have hc:c≠32:=fun e=>h (by rw [e];exact bS ..)
  have ih:=QdC w r fun hm=>h (bY _ hm)
  rw [dN];unfold Lib.index;have hp:([32]:Wds).isPrefixOf (c :: (w++32 :: r))=false:=by simp [List.isPrefixOf,qA hc]
  rw [hp,bE (by decide),ih,bE (by rw [pH];omega),cO]
  omega
theorem Qea:∀(w:Wds),(32:UInt8) ∉ w->Lib.index w [32]=-1
 | [],_=>rfl
 | c :: w,h=>by
  have hc:c≠32:=fun e=>h (by rw [e];exact bS ..)
  have ih:=Qea w fun hm=>h (bY _ hm)
  unfold Lib.index;have hp:([32]:Wds).isPrefixOf (c :: w)=false:=by simp [List.isPrefixOf,qA hc]
  rw [hp,bE (by decide),ih,bH (by decide)]
def Yw (s:Wds):List Wds:=Lib.split s [32]
theorem Qok {w:Wds}(h:(32:UInt8) ∉ w):Yw w=[w]:=by
 unfold Yw Lib.split;rw [Lib.count_miss (Qea w h)];rfl
theorem Qmo {w r:Wds}(h:(32:UInt8) ∉ w):Yw (w++32 :: r)=w :: Yw r:=by
 unfold Yw Lib.split;have hi:=QdC w r h;rw [Lib.count_hit (by decide) hi]
 have hd:(w++32 :: r).drop (w.length+[(32:UInt8)].length)=r:=by rw [<-gZ,List.drop_left];rfl
 rw [hd,mK,Lib.splitK,bE (by rw [hi,pH];omega),hi]
 rw [bG,gC,mN,hd]
theorem Qf6:∀{ws:List Wds},ws≠[]->(∀ w ∈ ws,(32:UInt8) ∉ w)->Yw (Lib.join ws [32])=ws
 | [],h,_=>absurd rfl h
 | [w],_,h=>by rw [Lib.join_one];exact Qok (h w (bS ..))
 | w :: v :: r,_,h=>by
  have e:Lib.join (w :: v :: r) [32]=w++32 :: Lib.join (v :: r) [32]:=by rw [Lib.join_cons,Lib.join_cons];unfold Lib.joinTail;simp
  rw [e,Qmo (h w (bS ..)),Qf6 (by simp) fun x hx=>h x (bY _ hx)]
theorem QmZ {s:Wds}{k:Nat}:(Lib.splitK [32] 0 k s).length<=k+1:=by
 induction k generalizing s with
 | zero=>exact cJ _
 | succ k ih=>
  unfold Lib.splitK;split
  ·simp
  ·rw [cO];have:=ih (s:=s.drop ((Lib.index s [32]).toNat+[(32:UInt8)].length));omega
theorem Qmw {s:Wds}{k:Nat}:∀ w ∈ Lib.splitK [32] 0 k s,w.length<=s.length:=by
 induction k generalizing s with
 | zero=>intro w hw;rw [cB.1 hw];exact cJ _
 | succ k ih=>
  intro w hw;unfold Lib.splitK at hw;split at hw
  ·rw [cB.1 hw];exact cJ _
  ·rcases bX.1 hw with rfl|h
   ·rw [bV];exact Nat.min_le_right ..
   ·have:=ih w h;rw [dO] at this;omega
theorem Qjc (s:Wds):1<=(Yw s).length/\(Yw s).length<=s.length+1/\∀ w ∈ Yw s,w.length<=s.length:=by
 refine⟨?_,?_,Qmw⟩
 ·unfold Yw Lib.split;generalize Lib.count s [32]=k;cases k with
  | zero=>exact cJ _
  | succ k=>unfold Lib.splitK;split<;>simp
 ·have h1:Lib.count s [32]<=s.length:=by rw [Lib.count_one];exact List.count_le_length
  have:=QmZ (s:=s) (k:=Lib.count s [32]);unfold Yw Lib.split;omega
theorem QiN {l:Wds}(h:∀ c ∈ l,isD c):(32:UInt8) ∉ l:=fun hm=>by
 have:=h 32 hm;unfold isD at this;revert this;decide
theorem GU (n:Int):(32:UInt8) ∉ Lib.itoa n:=by
 unfold Lib.itoa;split
 ·intro hm;rcases bX.1 hm with e|hm
  ·revert e;decide
  ·exact QiN (W4 _).1 hm
 ·exact QiN (W4 _).1
theorem Qeb (v:Vl):(32:UInt8) ∉ Z9 v:=by
 unfold Z9;split
 ·decide
 ·split
  ·exact GU _
  ·split<;>decide
theorem QpM {n:Int}:∃ c r,Lib.itoa n=c :: r/\c≠110/\c≠116/\c≠102:=by
 unfold Lib.itoa;split
 ·exact⟨45,_,rfl,by decide,by decide,by decide⟩
 ·obtain⟨d1,d2,d3,d4⟩:=W4 n.toNat;match hx:Lib.decDigits n.toNat,d3 with
  | c :: r,_=>
   rw [hx] at d1;have:=d1 c (bS ..);unfold isD at this;refine⟨c,r,rfl,?_,?_,?_⟩<;>(rintro rfl;revert this;decide)
theorem Qq1 {v:Vl}(hv:Qo v):Wz (Z9 v)=(v,0):=by
 obtain⟨a,b⟩:=v;unfold Qo at hv;simp only at hv;rcases hv with ⟨rfl,rfl⟩|⟨rfl,h1,h2⟩|⟨rfl,rfl|rfl⟩
 ·rfl
 ·obtain⟨c,r,e,n1,n2,n3⟩:=QpM (n:=b);have et:Z9 (1,b)=Lib.itoa b:=rfl;rw [et];have hn:Lib.itoa b≠Wv:=by rw [e];intro h;unfold Wv at h;injection h with h _;exact n1 h
  have hw:¬(Lib.itoa b=Xm\/Lib.itoa b=Xp):=by
   rw [e];rintro(h|h)
   ·unfold Xm at h;injection h with h _;exact n2 h
   ·unfold Xp at h;injection h with h _;exact n3 h
  unfold Wz;rw [bE hn,bE hw,Qbt (by omega) (by omega)]
  simp only;rw [bH ⟨trivial,h1,h2⟩];unfold Xa;rw [bE (by omega)]
 ·rfl
 ·rfl
theorem Qdi {v:Vl}(hv:Qo v):(Z9 v).length<=14:=by
 unfold Qo at hv;unfold Z9;split
 ·decide
 ·split
  ·exact Qi4 (by omega) (by omega)
  ·split<;>decide
abbrev RdW:=List Wds × Bool
def wdR:RdW->Wds × RdW
 | ([],_)=>([],([],true))
 | (w :: l,b)=>(w,(l,b))
def nmV (lo hi:Int)(w:Wds):Option Int:=match Lib.atoiAll w with|.ok n=>if Lib.itoa n=w/\lo<=n/\n<=hi then some n else none|_=>none
def nmR (lo hi:Int)(s:RdW):Int × RdW:=match nmV lo hi (wdR s).1 with|some n=>(n,(wdR s).2)|none=>(lo,((wdR s).2.1,true))
def vlR (s:RdW):Vl × RdW:=((Wz (wdR s).1).1,((wdR s).2.1,(wdR s).2.2||decide ((Wz (wdR s).1).2≠0)))
def QZ {κ α:Type}(f:κ->RdW->α × RdW):List κ->RdW->List α × RdW
 | [],s=>([],s)
 | k :: l,s=>((f k s).1 :: (QZ f l (f k s).2).1,(QZ f l (f k s).2).2)
theorem WG {κ α:Type}(f:κ->RdW->α × RdW)(k:κ):∀(l:List κ) (s:RdW),QZ f (l++[k]) s=((QZ f l s).1++[(f k (QZ f l s).2).1],(f k (QZ f l s).2).2)
 | [],s=>rfl
 | x :: l,s=>by
  rw [dN,QZ,WG f k l (f x s).2];rfl
theorem JV {κ α:Type}(f:κ->RdW->α × RdW):∀(l:List κ) (s:RdW),(QZ f l s).1.length=l.length
 | [],s=>rfl
 | x :: l,s=>by rw [QZ,cO,cO,JV f l]
abbrev AcT:=PK × List AcS × Bool
def acR (k:Int)(s:RdW):AcS × RdW:=
 let n:=nmR 0 120 s
 let m:=nmR (-1099511627776) 1099511627776 n.2
 let b:=nmR (-1000000000) 1000000000 m.2
 ((k,n.1,m.1,b.1),b.2)
def pnR (ks:List Int)(s:RdW):AcT × RdW:=
 let a:=nmR (-1000) 9999 s
 let k:=vlR a.2
 let t:=nmR 0 1 k.2
 let l:=QZ acR ks t.2
 (((a.1,k.1),l.1,decide (t.1=1)),l.2)
def rwR (n:Nat)(s:RdW):Rw × RdW:=
 let g:=nmR 0 1 s
 let a:=nmR (-1000) 9999 g.2
 let k:=vlR a.2
 let l:=QZ (fun _:Unit=>vlR) (List.replicate n ()) k.2
 ((decide (g.1=1),(a.1,k.1),l.1),l.2)
def rfR (s:RdW):(Int × Int) × RdW:=
 let r:=nmR 0 40 s
 let f:=nmR (-1) 9999 r.2
 ((r.1,f.1),f.2)
structure ShX where
 rd:List Nat
 far:List Int
 late:Nat
 pn:List AcT
 rows:List Rw
def hdR (s:RdW):(Int × Int × Int × Int) × RdW:=
 let k:=nmR 1 3 s
 let a:=nmR 0 1099511627776 k.2
 let m:=nmR 0 10000 a.2
 let w:=nmR 0 10000 m.2
 ((k.1,a.1,m.1,w.1),w.2)
def QeZ (ks:List Int)(parts:Nat)(ws:List Wds):Option ShX:=
 let h:=hdR (ws,false)
 if h.1.1≠parts\/h.1.2.2.1+h.1.2.2.2>h.2.1.length then none else
 let f:=QZ (fun _:Unit=>rfR) (List.replicate parts ()) h.2
 let p:=QZ (fun _:Unit=>pnR ks) (List.replicate h.1.2.2.1.toNat ()) f.2
 let r:=QZ (fun _:Unit=>rwR ks.length) (List.replicate h.1.2.2.2.toNat ()) p.2
 if r.2.2=true\/r.2.1≠[] then none else some ⟨f.1.map fun x=>x.1.toNat,f.1.map (·.2),h.1.2.1.toNat,p.1,r.1⟩
theorem QnB {lo hi n:Int}{w:Wds}(h:nmV lo hi w=some n):Lib.atoiAll w=.ok n/\Lib.itoa n=w/\lo<=n/\n<=hi:=by
 unfold nmV at h;split at h
 ·rename_i m hm;split at h
  ·cases h;exact⟨hm,by assumption⟩
  ·cases h
 ·cases h
theorem Ny {lo hi:Int}(h:lo<=hi)(s:RdW):lo<=(nmR lo hi s).1/\(nmR lo hi s).1<=hi:=by
 unfold nmR;split
 ·rename_i n hn;exact(QnB hn).2.2
 ·exact⟨fW _,h⟩
theorem QfX {κ α:Type}{f:κ->RdW->α × RdW}{Q:α->Prop}(h:∀ k s,Q (f k s).1):∀(l:List κ) (s:RdW),∀ x ∈ (QZ f l s).1,Q x
 | [],s,x,hx=>by cases hx
 | k :: l,s,x,hx=>by
  rw [QZ] at hx;rcases bX.1 hx with rfl|hx
  ·exact h k s
  ·exact QfX h l _ x hx
def Gw (b:Bool):Wds:=if b then [49] else [48]
def acW (a:AcS):List Wds:=[Lib.itoa a.2.1,Lib.itoa a.2.2.1,Lib.itoa a.2.2.2]
def pnW (p:AcT):List Wds:=[Lib.itoa p.1.1,Z9 p.1.2,Gw p.2.2]++p.2.1.flatMap acW
def rwW (w:Rw):List Wds:=[Gw w.1,Lib.itoa w.2.1.1,Z9 w.2.1.2]++w.2.2.map Z9
def rfW (x:Nat × Int):List Wds:=[Lib.itoa (x.1:Nat),Lib.itoa x.2]
def hdW (st:En):List Wds:=[Lib.itoa (st.rd.length:Nat),Lib.itoa (st.late:Nat),Lib.itoa (st.pn.length:Nat),Lib.itoa (st.rows.length:Nat)]
def Xt (ks:List Int)(st:En):List Wds:=hdW st++(st.rd.zip st.far).flatMap rfW++(st.pn.map (pnT ks)).flatMap pnW++st.rows.flatMap rwW
def Kh (ks:List Int)(st:En):Wds:=Lib.join (Xt ks st) [32]
theorem Qlt (b:Bool):(32:UInt8) ∉ Gw b:=by cases b<;>decide
theorem QoG (ks:List Int)(st:En):∀ w ∈ Xt ks st,(32:UInt8) ∉ w:=by
 intro w hw;unfold Xt hdW at hw;simp only [cP,fP,bX,dB,fZ] at hw;rcases hw with ((hw|⟨x,_,hx⟩)|⟨x,_,hx⟩)|⟨x,_,hx⟩
 ·rcases hw with rfl|rfl|rfl|rfl<;>exact GU _
 ·unfold rfW at hx;simp only [bX,dB,fZ] at hx;rcases hx with rfl|rfl<;>exact GU _
 ·unfold pnW acW at hx;simp only [cP,fP,bX,dB,fZ] at hx;rcases hx with (rfl|rfl|rfl)|⟨a,_,ha⟩
  ·exact GU _
  ·exact Qeb _
  ·exact Qlt _
  ·rcases ha with rfl|rfl|rfl<;>exact GU _
 ·unfold rwW at hx;simp only [cP,dI,bX,dB,fZ] at hx;rcases hx with (rfl|rfl|rfl)|⟨a,_,rfl⟩
  ·exact Qlt _
  ·exact GU _
  ·exact Qeb _
  ·exact Qeb _
theorem Qis (ks:List Int)(st:En):Yw (Kh ks st)=Xt ks st:=Qf6 (by unfold Xt hdW;simp) (QoG ks st)
theorem Ym {lo hi n:Int}(h1:lo<=n)(h2:n<=hi)(h3:-1099511627776<=lo)(h4:hi<=1099511627776:=by omega)(h5:-1000000000000<=n:=by omega)(h6:n<=1000000000000:=by omega){l:List Wds}{b:Bool}:nmR lo hi (Lib.itoa n :: l,b)=(n,(l,b)):=by
 have e:nmV lo hi (Lib.itoa n)=some n:=by unfold nmV;rw [Qbt h5 h6];simp only;rw [bH ⟨trivial,h1,h2⟩]
 unfold nmR;simp only [wdR,e]
theorem Qc6 {v:Vl}(hv:Qo v){l:List Wds}{b:Bool}:vlR (Z9 v :: l,b)=(v,(l,b)):=by
 unfold vlR;simp only [wdR,Qq1 hv];simp
theorem Qrd {g b:Bool}{l:List Wds}:nmR 0 1 (Gw g :: l,b)=((if g then 1 else 0),(l,b)):=by
 cases g
 ·have e:Lib.itoa 0=Gw false:=Qjk (by decide) (by decide)
  rw [<-e];exact Ym (lo:=0) (hi:=1) (n:=0) (by decide) (by decide) (by decide) (by decide) (by decide) (by decide)
 ·have e:Lib.itoa 1=Gw true:=Qjk (by decide) (by decide)
  rw [<-e];exact Ym (lo:=0) (hi:=1) (n:=1) (by decide) (by decide) (by decide) (by decide) (by decide) (by decide)
theorem WD {κ α β:Type}{f:κ->RdW->α × RdW}{W:β->List Wds}{φ:β->α}{key:β->κ}{Q:β->Prop}(h:∀ x l b,Q x->f (key x) (W x++l,b)=(φ x,(l,b))):∀(xs:List β) {l:List Wds} {b:Bool},(∀ x ∈ xs,Q x)->QZ f (xs.map key) (xs.flatMap W++l,b)=(xs.map φ,(l,b))
 | [],l,b,_=>rfl
 | x :: xs,l,b,hq=>by
  rw [dE,dP,cG,QZ,h x _ b (hq x (bS ..)),WD h xs fun y hy=>hq y (bY _ hy)]
  rfl
def AcO (a:AcS):Prop:=0<=a.2.1/\a.2.1<=120/\-120000000000<=a.2.2.1/\a.2.2.1<=120000000000/\-1000000000<=a.2.2.2/\a.2.2.2<=1000000000
theorem Qn7 (a:AcS)(l:List Wds)(b:Bool)(h:AcO a):acR a.1 (acW a++l,b)=(a,(l,b)):=by
 obtain⟨h1,h2,h3,h4,h5,h6⟩:=h;unfold acR acW;simp only [dN,dC];rw [Ym h1 h2 (by decide) (by decide) (by omega) (by omega)]
 simp only;rw [Ym (by omega) (by omega) (by decide) (by decide) (by omega) (by omega)]
 simp only;rw [Ym h5 h6 (by decide) (by decide) (by omega) (by omega)]
def PnO (ks:List Int)(p:AcT):Prop:=-1000<=p.1.1/\p.1.1<=9999/\Qo p.1.2/\p.2.1.map Prod.fst=ks/\∀ a ∈ p.2.1,AcO a
theorem Qn2 {ks:List Int}(p:AcT)(l:List Wds)(b:Bool)(h:PnO ks p):pnR ks (pnW p++l,b)=(p,(l,b)):=by
 obtain⟨h1,h2,h3,h4,h5⟩:=h;obtain⟨⟨s,k⟩,acs,t⟩:=p;unfold pnR pnW;simp only [dN,dC,cG] at h1 h2 h3 h4 h5 ⊢;have e1:=fun l b=>Ym (l:=l) (b:=b) h1 h2 (by decide) (by decide) (by omega) (by omega)
 have e2:=fun l b=>Qc6 (l:=l) (b:=b) h3
 have e3:=fun l b=>Qrd (g:=t) (l:=l) (b:=b)
 simp only [e1,e2,e3];have:=WD (f:=acR) (W:=acW) (φ:=id) (key:=Prod.fst) (Q:=AcO) Qn7 acs (l:=l) (b:=b) h5;rw [h4] at this;rw [this,mA];cases t<;>rfl
def RwO (n:Nat)(w:Rw):Prop:=-1000<=w.2.1.1/\w.2.1.1<=9999/\Qo w.2.1.2/\w.2.2.length=n/\∀ v ∈ w.2.2,Qo v
theorem Qot (vs:List Vl):vs.flatMap (fun v=>[Z9 v])=vs.map Z9:=by
 induction vs with
 | nil=>rfl
 | cons x l ih=>rw [dP,ih];rfl
theorem Qno {n:Nat}(w:Rw)(l:List Wds)(b:Bool)(h:RwO n w):rwR n (rwW w++l,b)=(w,(l,b)):=by
 obtain⟨h1,h2,h3,h4,h5⟩:=h;obtain⟨g,⟨s,k⟩,vals⟩:=w;unfold rwR rwW;simp only [dN,dC,cG] at h1 h2 h3 h4 h5 ⊢;have e1:=fun l b=>Ym (l:=l) (b:=b) h1 h2 (by decide) (by decide) (by omega) (by omega)
 have e2:=fun l b=>Qc6 (l:=l) (b:=b) h3
 have e3:=fun l b=>Qrd (g:=g) (l:=l) (b:=b)
 simp only [e1,e2,e3];have:=WD (f:=fun _:Unit=>vlR) (W:=fun v=>[Z9 v]) (φ:=id) (key:=fun _=>()) (Q:=Qo) (fun v l b hv=>Qc6 hv) vals (l:=l) (b:=b) h5
 rw [show vals.map (fun _=>())=List.replicate n () by rw [mH,h4],Qot] at this
 rw [this,mA];cases g<;>rfl
theorem Qoh (x:Nat × Int)(l:List Wds)(b:Bool)(h:x.1<=40/\-1<=x.2/\x.2<=9999):rfR (rfW x++l,b)=(((x.1:Int),x.2),(l,b)):=by
 obtain⟨h1,h2,h3⟩:=h;unfold rfR rfW;simp only [dN,dC];rw [Ym (by omega) (by omega) (by decide) (by decide) (by omega) (by omega)]
 simp only;rw [Ym h2 h3 (by decide) (by decide) (by omega) (by omega)]
structure ShO (ks:List Int)(parts:Nat)(st:En):Prop where
 p1:1<=parts
 p3:parts<=3
 rl:st.rd.length=parts
 fl:st.far.length=parts
 rb:∀ x ∈ st.rd,x<=40
 fb:∀ x ∈ st.far,-1<=x/\x<=9999
 la:st.late<=10000
 pl:st.pn.length<=10000
 wl:st.rows.length<=10000
 pn:∀ p ∈ st.pn,PnO ks (pnT ks p)
 rw:∀ w ∈ st.rows,RwO ks.length w
theorem NZ {α:Type}{f:α->List Wds}(h:∀ x,1<=(f x).length):∀ l:List α,l.length<=(l.flatMap f).length
 | []=>cJ _
 | x :: l=>by
  have:=h x;have:=NZ h l;rw [cO,dP,bO];omega
theorem Qms {ks:List Int}{parts:Nat}{st:En}(H:ShO ks parts st):QeZ ks parts (Xt ks st)=some ⟨st.rd,st.far,st.late,st.pn.map (pnT ks),st.rows⟩:=by
 obtain⟨p1,p3,rl,fl,rb,fb,la,pl,wl,pn,rw'⟩:=H;have e0:hdR (Xt ks st,false)=((((parts:Int),(st.late:Int),(st.pn.length:Int),(st.rows.length:Int)):Int × Int × Int × Int),((st.rd.zip st.far).flatMap rfW++((st.pn.map (pnT ks)).flatMap pnW++st.rows.flatMap rwW),false)):=by
  unfold hdR Xt hdW;simp only [dN,dC,cG,rl];rw [Ym (by omega) (by omega) (by decide) (by decide) (by omega) (by omega)]
  simp only;rw [Ym (by omega) (by omega) (by decide) (by decide) (by omega) (by omega)]
  simp only;rw [Ym (by omega) (by omega) (by decide) (by decide) (by omega) (by omega)]
  simp only;rw [Ym (by omega) (by omega) (by decide) (by decide) (by omega) (by omega)]
 have hz:(st.rd.zip st.far).length=parts:=by rw [jY];omega
 have e1:=WD (f:=fun _:Unit=>rfR) (W:=rfW) (φ:=fun x:Nat × Int=>((x.1:Int),x.2)) (key:=fun _=>()) (Q:=fun x:Nat × Int=>x.1<=40/\-1<=x.2/\x.2<=9999) (fun x l b h=>Qoh x l b h) (st.rd.zip st.far)
  (l:=(st.pn.map (pnT ks)).flatMap pnW++st.rows.flatMap rwW) (b:=false) (fun x hx=>⟨rb _ (mI hx).1,fb _ (mI hx).2⟩)
 rw [show (st.rd.zip st.far).map (fun _=>())=List.replicate parts () by rw [mH,hz]] at e1
 have e2:=WD (f:=fun _:Unit=>pnR ks) (W:=pnW) (φ:=id) (key:=fun _=>()) (Q:=PnO ks) (fun x l b h=>Qn2 x l b h) (st.pn.map (pnT ks)) (l:=st.rows.flatMap rwW) (b:=false) (fun x hx=>by
  obtain⟨p,hp,rfl⟩:=dI.1 hx;exact pn p hp)
 rw [show (st.pn.map (pnT ks)).map (fun _=>())=List.replicate st.pn.length () by rw [mH,bU]] at e2
 have e3:=WD (f:=fun _:Unit=>rwR ks.length) (W:=rwW) (φ:=id) (key:=fun _=>()) (Q:=RwO ks.length) (fun x l b h=>Qno x l b h) st.rows (l:=[]) (b:=false) rw'
 rw [show st.rows.map (fun _=>())=List.replicate st.rows.length () by rw [mH],d8] at e3
 have k1:st.pn.length<=((st.pn.map (pnT ks)).flatMap pnW).length:=by
  have:=NZ (f:=pnW) (fun x=>by unfold pnW;simp) (st.pn.map (pnT ks))
  rw [bU] at this;exact this
 have k2:st.rows.length<=(st.rows.flatMap rwW).length:=NZ (f:=rwW) (fun x=>by unfold rwW;simp) st.rows
 unfold QeZ;simp only [e0];rw [bE (by
  rintro(h|h)
  ·exact h rfl
  ·rw [bO,bO] at h;omega)]
 simp only [bG,e1,e2,e3];rw [bE (by simp)]
 congr 1
 rw [mA,mA];have z1:((st.rd.zip st.far).map fun x:Nat × Int=>((x.1:Int),x.2)).map (fun x=>x.1.toNat)=st.rd:=by
  rw [fN];rw [show ((fun x:Int × Int=>x.1.toNat) ∘ fun x:Nat × Int=>((x.1:Int),x.2))=Prod.fst from by funext x;simp]
  exact List.map_fst_zip (by omega)
 have z2:((st.rd.zip st.far).map fun x:Nat × Int=>((x.1:Int),x.2)).map (·.2)=st.far:=by rw [fN];exact List.map_snd_zip (by omega)
 rw [z1,z2]
theorem QbR {s:Int}(hs:1<=s):∀(k:Nat) (lo:Int) (n:Nat) (f:Int),Zq s f=true->lo<f->f<=lo+s->lo+n<f+k*s->(k=0\/f+(k-1)*s<=lo+n) ->
  upto (Zq s) lo n=(List.range k).map fun i:Nat=>f+i*s
 | 0,lo,n,f,hf,h1,h2,h3,h4=>by
  have:=Mm (Zq s) n lo 0 fun x x1 x2=>by
   refine Jy (x:=f-s) hs ?_ (by omega) (by simp at h3;omega)
   rw [YL] at hf ⊢;exact mV hf (kC _)
  simpa [upto] using this
 | k+1,lo,n,f,hf,h1,h2,h3,h4=>by
  have hk:0<=(k:Int)*s:=Int.mul_nonneg (by omega) (by omega)
  have e0:((k+1:Nat):Int)*s=k*s+s:=by rw [pO,Int.add_mul];simp
  have e1:(((k+1:Nat):Int)-1)*s=k*s:=by congr 1;omega
  rw [e0] at h3;rw [e1] at h4;have h5:f+k*s<=lo+n:=by omega
  have a:=Mm (Zq s) (f-1-lo).toNat lo ((lo+n-f).toNat+1) fun x x1 x2=>by
   refine Jy (x:=f-s) hs ?_ (by omega) (by omega)
   rw [YL] at hf ⊢;exact mV hf (kC _)
  have e2:(f-1-lo).toNat+((lo+n-f).toNat+1)=n:=by omega
  have e3:lo+((f-1-lo).toNat:Int)=f-1:=by omega
  have e4:f-1+1=f:=by omega
  rw [e2,e3,Mn,e4,hf,bH rfl] at a;have b:=QbR hs k f (lo+n-f).toNat (f+s) (by rw [YL] at hf ⊢;exact Int.dvd_add hf (kC _)) (by omega) (by omega) (by omega) (by
   rcases Nat.eq_zero_or_pos k with h|h
   ·exact .inl h
   ·refine .inr ?_
    rw [Int.sub_mul];omega)
  rw [a,b,List.range_succ_eq_map,dE,fN];simp only [List.singleton_append];congr 1
  ·simp
  ·refine kG fun i _=>?_
   show f+s+i*s=f+((i+1:Nat):Int)*s;rw [pO,Int.add_mul];simp;omega
theorem Qjr {at_ size slide:Int}(hs:1<=slide)(h1:slide<=size):∃(k:Nat) (f:Int),ZK at_ size slide=((List.range k).map fun i:Nat=>f+i*slide) /\
  ZK (at_+slide) size slide=((List.range k).map fun i:Nat=>f+slide+i*slide)/\1<=k/\Zq slide f=true/\at_-size<f/\f<=at_-size+slide/\at_<f+k*slide/\f+(k-1)*slide<=at_:=by
 have m0:0<=(at_-size).emod slide:=Int.emod_nonneg _ (by omega)
 have m1:(at_-size).emod slide<slide:=Int.emod_lt_of_pos _ (by omega)
 have d1:slide*((at_-size) / slide)+(at_-size).emod slide=at_-size:=Int.mul_ediv_add_emod _ _;let f:=slide*((at_-size) / slide)+slide
 have hf:Zq slide f=true:=YL.2 ⟨(at_-size) / slide+1,by show slide*_+slide=_;rw [Int.mul_add];simp⟩
 have f1:at_-size<f:=by show at_-size<slide*_+slide;omega
 have f2:f<=at_-size+slide:=by show slide*_+slide<=_;omega
 have q0:0<=(at_-f).emod slide:=Int.emod_nonneg _ (by omega)
 have q1:(at_-f).emod slide<slide:=Int.emod_lt_of_pos _ (by omega)
 have q2:slide*((at_-f) / slide)+(at_-f).emod slide=at_-f:=Int.mul_ediv_add_emod _ _;have q3:0<=(at_-f) / slide:=Int.ediv_nonneg (by omega) (by omega)
 have e0:((((at_-f) / slide).toNat+1:Nat):Int)*slide=slide*((at_-f) / slide)+slide:=by rw [pO,Int.add_mul,Int.toNat_of_nonneg q3,Int.mul_comm];simp
 have e1:(((((at_-f) / slide).toNat+1:Nat):Int)-1)*slide=slide*((at_-f) / slide):=by rw [Int.sub_mul,e0];omega
 refine⟨((at_-f) / slide).toNat+1,f,?_,?_,by omega,hf,f1,f2,?_,?_⟩
 ·exact QbR hs _ _ _ f hf f1 f2 (by rw [e0];omega) (.inr (by rw [e1];omega))
 ·exact QbR hs _ _ _ (f+slide) (by rw [YL] at hf ⊢;exact Int.dvd_add hf (kC _)) (by omega) (by omega) (by rw [e0];omega) (.inr (by rw [e1];omega))
 ·rw [e0];omega
 ·rw [e1];omega
theorem Qct {q:Qy}(B:QOk q)(t:Int):(ZK t q.size q.slide).length<=4/\(ZK t q.size q.slide).Nodup:=by
 have hl:=B.l;have hr:=B.r;obtain⟨k,f,e,_,_,_,h1,_,_,h2⟩:=Qjr (at_:=t) hl.1 hr.1;rw [e];refine⟨?_,?_⟩
 ·rw [bU,mU];refine d5 fun hk=>?_
  have h3:4<=(k:Int)-1:=by omega
  have h4:4*q.slide<=((k:Int)-1)*q.slide:=Int.mul_le_mul_of_nonneg_right h3 (by omega)
  omega
 ·unfold List.Nodup;rw [List.pairwise_map];refine List.Pairwise.imp (fun {a b} hab q1=>?_) (List.nodup_range (n:=k))
  have h5:(a:Int)*q.slide=b*q.slide:=by omega
  have h6:=Int.eq_of_mul_eq_mul_right (by omega) h5
  exact hab (by omega)
theorem QmE {q:Qy}(B:QOk q){e:EvL}(E:YM e):Qo (Zr q e):=by
 unfold Zr;split
 ·exact .inl ⟨rfl,rfl⟩
 ·rename_i h;obtain⟨O,_⟩:=Yb (B.b h);exact(Vw O E (by have:=O.pos;omega)).1
theorem Qk8 (n:Int):Qo (Xa n):=by
 unfold Xa;split
 ·exact .inl ⟨rfl,rfl⟩
 ·exact .inr (.inl ⟨rfl,by omega,by omega⟩)
theorem QmD (k:Int)(s:Int × Int × Int):Qo (QdF k s):=by
 unfold QdF;split
 ·exact Qk8 _
 ·split
  ·exact .inl ⟨rfl,rfl⟩
  ·split<;>exact Qk8 _
theorem Qby (ks:List Int)(rs:List (List Vl)):∀ v ∈ Yx ks rs,Qo v:=by
 intro v hv;unfold Yx at hv;obtain⟨a,_,rfl⟩:=dI.1 hv;exact QmD _ _
def AcM (m:Nat)(a:AcS):Prop:=0<=a.2.1/\a.2.1<=m/\-(m*1000000000:Int)<=a.2.2.1/\a.2.2.1<=m*1000000000/\-1000000000<=a.2.2.2/\a.2.2.2<=1000000000
theorem Qmm {m:Nat}{a:AcS}(h:AcM m a){v:Vl}(hv:ZW v):AcM (m+1) (a.1,Q7 a.1 a.2 v):=by
 obtain⟨h1,h2,h3,h4,h5,h6⟩:=h;unfold ZW at hv;unfold AcM Q7;simp only;split
 ·refine⟨h1,by omega,by push_cast;omega,by push_cast;omega,h5,h6⟩
 ·refine⟨by simp only;omega,by simp only;omega,by simp only;push_cast;omega,by simp only;push_cast;omega,?_,?_⟩<;>(simp only;split<;>omega)
theorem QkD {ks:List Int}{rs:List (List Vl)}(hv:∀ r ∈ rs,∀ v ∈ r,ZW v):∀ a ∈ Wf ks rs,AcM rs.length a:=by
 induction rs using Mp with
 | h0=>
  intro a ha;have ha:a ∈ Xr ks:=ha;unfold Xr at ha;obtain⟨k,_,rfl⟩:=dI.1 ha;exact⟨fW _,fW _,fW _,fW _,(by show (-1000000000:Int)<=0;decide),(by show (0:Int)<=1000000000;decide)⟩
 | h1 rs r ih=>
  intro a ha;rw [Vy] at ha;unfold ZT at ha;obtain⟨i,hi,rfl⟩:=jP.1 ha;rw [jB] at hi;rw [jF,bO,fG];exact Qmm (ih (fun x hx=>hv x (fL _ hx)) _ (cM _)) (hv r (by simp) _ (cM _))
structure EnT (q:Qy)(n:Nat)(st:En):Prop where
 a:∀ p ∈ st.pn,p.rs.length<=n/\Qo p.k.2
 w:∀ w ∈ st.rows,-1000<=w.2.1.1/\w.2.1.1<=9999/\Qo w.2.1.2/\∀ v ∈ w.2.2,Qo v
theorem Qmq {ks:List Int}{k:PK}{v:List Vl}{o:Option Pn}(hk:-1000<=k.1/\k.1<=9999/\Qo k.2):∀ w ∈ MN ks k v o,-1000<=w.2.1.1/\w.2.1.1<=9999/\Qo w.2.1.2/\∀ v ∈ w.2.2,Qo v:=by
 intro w hw;unfold MN at hw;split at hw
 ·split at hw
  ·simp only [bX,dB,fZ] at hw;rcases hw with rfl|rfl
   ·exact⟨hk.1,hk.2.1,hk.2.2,Qby _ _⟩
   ·exact⟨hk.1,hk.2.1,hk.2.2,Qby _ _⟩
  ·cases hw
 ·cases hw
theorem Qjg {q:Qy}(B:QOk q){far:Int}{e:EvL}(E:YM e){n:Nat}:∀(ss:List Int) {st:En},ss.Nodup->(∀ s ∈ ss,-1000<=s/\s<=9999)->EnT q (n+1) st->(∀ p ∈ st.pn,p.k.1 ∈ ss->p.rs.length<=n)->EnT q (n+1) (ss.foldl (Xu q far e) st)
 | [],st,_,_,H,_=>H
 | s :: ss,st,hn,hs,H,hm=>by
  obtain⟨hn1,hn2⟩:=jL.1 hn;have hg:=QmE B E;have hs0:=hs s (bS ..);rw [jN];refine Qjg B E ss hn2 (fun x hx=>hs x (bY _ hx)) ?_ ?_
  ·unfold Xu;split
   ·exact⟨H.a,H.w⟩
   ·refine⟨fun p hp=>?_,fun w hw=>?_⟩
    ·rcases Qav hp with h|⟨rfl,_⟩|⟨p0,h,hk,rfl⟩
     ·exact H.a p h
     ·exact⟨by simp,hg⟩
     ·have:=hm p0 h (by rw [hk];exact bS ..)
      exact⟨by simp;omega,hg⟩
    ·rcases cP.1 hw with h|h
     ·exact H.w w h
     ·exact Qmq ⟨hs0.1,hs0.2,hg⟩ w h
  ·intro p hp hin;unfold Xu at hp;split at hp
   ·exact hm p hp (bY _ hin)
   ·rcases Qav hp with h|⟨rfl,_⟩|⟨p0,h,hk,rfl⟩
    ·exact hm p h (bY _ hin)
    ·exact absurd hin hn1
    ·exact absurd hin hn1
theorem EnT.step {q:Qy}(B:QOk q){n parts N:Nat}{st:En}(H:EnT q n st)(HB:EnB q parts N st){p:Nat}{e:EvL}(E:YM e):EnT q (n+1) (Yl q p e st):=by
 have H1:EnT q (n+1) st:=⟨fun p hp=>⟨j5 (H.a p hp).1,(H.a p hp).2⟩,H.w⟩
 have HB2:=QdH B HB E (far:=st.far.getD p 0);have H2:EnT q (n+1) (Yu q (st.far.getD p 0) e st):=by
  unfold Yu;split
  ·exact Qjg B E _ (Qct B e.1).2 (JZ B E) H1 fun p hp _=>(H.a p hp).1
  ·exact H1
 unfold Yl;have HB3:∀ p' ∈ (Xf p e (Yu q (st.far.getD p 0) e st)).pn,-1000<=p'.k.1/\p'.k.1<=9999:=fun p' hp'=>⟨(HB2.pa p' hp').2.1,(HB2.pa p' hp').2.2.1⟩
 have H3:EnT q (n+1) (Xf p e (Yu q (st.far.getD p 0) e st)):=⟨H2.a,H2.w⟩;generalize Xf p e (Yu q (st.far.getD p 0) e st)=s2 at HB3 H3;unfold MG;split
 ·refine⟨fun p' hp'=>?_,fun w hw=>?_⟩
  ·have:=(jX.1 hp').1;unfold YX at this;obtain⟨p0,h0,rfl⟩:=dI.1 this;exact H3.a p0 h0
  ·rcases cP.1 hw with h|h
   ·exact H3.w w h
   ·obtain⟨p0,h0,rfl⟩:=dI.1 h;have hm:=(jX.1 h0).1;exact⟨(HB3 p0 hm).1,(HB3 p0 hm).2,(H3.a p0 hm).2,Qby _ _⟩
 ·exact H3
theorem Qmt {q:Qy}(B:QOk q){parts N:Nat}{st:En}(H:EnB q parts N st){p:Nat}(hp:p<parts){e:EvL}(E:YM e):EnB q parts (N+5) (Yl q p e st):=by
 have H2:EnB q parts (N+4) (Yu q (st.far.getD p 0) e st):=by
  unfold Yu;split
  ·exact(K6 B E _ H (JZ B E)).mono (by have:=(Qct B e.1).1;omega)
  ·exact H.mono (by omega)
 exact QpG (QnT H2 hp E)
structure EnZ (q:Qy)(parts:Nat)(st:En):Prop where
 b:EnB q parts (5*st.rd.sum) st
 t:EnT q st.rd.sum st
theorem Qlr:∀(l:List Nat) (p:Nat),p<l.length->(l.set p (l.getD p 0+1)).sum=l.sum+1
 | [],p,h=>absurd h (pR _)
 | x :: l,0,_=>by simp;omega
 | x :: l,p+1,h=>by
  have:=Qlr l p (by simpa using h)
  simp only [List.getD_cons_succ,dQ,mX,this];omega
theorem Qa5 {q:Qy}{p:Nat}{e:EvL}{st:En}:(Yl q p e st).rd=st.rd.set p (st.rd.getD p 0+1):=by
 have hse:∀ s:En,(MG q s).rd=s.rd:=fun s=>by unfold MG;split<;>rfl
 unfold Yl;rw [hse];unfold Xf;rw [(NK).1]
theorem EnZ.step {q:Qy}(B:QOk q){parts:Nat}{st:En}(Z:EnZ q parts st){p:Nat}(hp:p<parts){e:EvL}(E:YM e):EnZ q parts (Yl q p e st):=by
 have hs:(Yl q p e st).rd.sum=st.rd.sum+1:=by rw [Qa5,Qlr _ _ (by rw [Z.b.rl];exact hp)]
 refine⟨?_,?_⟩
 ·rw [hs];exact Qmt B Z.b hp E
 ·rw [hs];exact Z.t.step B Z.b E
theorem QlC (n:Nat):(List.replicate n (0:Nat)).sum=0:=by
 induction n with
 | zero=>rfl
 | succ n ih=>rw [fY,mX,ih]
theorem EnZ.new (q:Qy)(parts:Nat):EnZ q parts (YZ parts):=by
 have hs:(YZ parts).rd.sum=0:=QlC parts;refine⟨by rw [hs];exact Qpi q parts,by rw [hs];exact⟨fun p hp=>(by cases hp),fun w hw=>(by cases hw)⟩⟩
theorem U0 {M:Nat}:∀ l:List Nat,(∀ x ∈ l,x<=M)->l.sum<=l.length*M
 | [],_=>by simp
 | x :: l,h=>by
  have:=U0 l fun y hy=>h y (bY _ hy)
  have:=h x (bS ..);rw [mX,cO,jV];omega
theorem EnZ.sho {q:Qy}{parts:Nat}{st:En}(Z:EnZ q parts st)(h1:1<=parts)(h3:parts<=3)(hr:∀ x ∈ st.rd,x<=40):ShO (Qd q) parts st:=by
 have hs:st.rd.sum<=120:=by have:=U0 st.rd hr;rw [Z.b.rl] at this;omega
 have hl:=Z.b.ll;have hp:=Z.b.pl;have hw:=Z.b.wl;refine⟨h1,h3,Z.b.rl,Z.b.fl,hr,Z.b.fb,by omega,by omega,by omega,fun p hp'=>?_,fun w hw'=>?_⟩
 ·obtain⟨q1,q2,q3,q4⟩:=Z.b.pa p hp';obtain⟨t1,t2⟩:=Z.t.a p hp';refine⟨q2,q3,t2,UM fun r hr=>by rw [(q4 r hr).l,QA],fun a ha=>?_⟩
  obtain⟨m1,m2,m3,m4,m5,m6⟩:=QkD (ks:=Qd q) (rs:=p.rs) (fun r hr=>(q4 r hr).v) a ha
  exact⟨m1,by omega,by omega,by omega,m5,m6⟩
 ·obtain⟨t1,t2,t3,t4⟩:=Z.t.w w hw';exact⟨t1,t2,t3,by rw [Z.b.wo w hw',QA],t4⟩
end Go.Proofs.YthicpjafcpfjoaaGreatDoor
namespace Go.Proofs.YthicpjafcpfjoaaGreatDoor
open Go Go.Vc
theorem QpJ {q:Qy}(Q:QOk q):Qmy q:=by
 have w:q.wh.length<=40:=by
  by_cases h:q.wh=[]
  ·rw [h];exact cH _
  ·exact(Yb (Q.w h)).2
 have b:q.by_.length<=40:=by
  by_cases h:q.by_=[]
  ·rw [h];exact cH _
  ·exact(Yb (Q.b h)).2
 refine⟨by omega,by omega,fun a ha=>?_,by have:=Q.n2;omega⟩
 by_cases h:a.1=1
 ·rw [(Q.g a ha).2.2.2 h];exact cH _
 ·have:=(Yb ((Q.g a ha).2.2.1 h)).2;omega
theorem Qp0 {q:Qy}(B:QOk q):UD q=0:=by
 have h1:=B.n1;have h2:=B.n2;have hA:Q5 (q.aggs.map Xw)=0:=by
  refine Jo fun x hx=>?_
  obtain⟨a,ha,rfl⟩:=dI.1 hx;obtain⟨g1,g2,g3,g4⟩:=B.g a ha;unfold Xw;rw [bE (by
   rintro(q1|q1|⟨q1,q2⟩)
   ·omega
   ·omega
   ·exact q2 (g4 q1))]
  split
  ·rfl
  ·rename_i h;exact B.ga a ha h
 unfold UD;rw [bE (by omega),bE (by rw [hA];simp)]
 unfold Qf3;refine Jo fun x hx=>?_
 simp only [bX,dB,fZ] at hx;rcases hx with rfl|rfl|rfl
 ·split
  ·rfl
  ·rename_i h;exact B.wa h
 ·split
  ·rfl
  ·rename_i h;exact B.ba h
 ·have h3:=B.s;have h4:=B.l;have h5:=B.d;have h6:=B.t;have h7:=B.r;unfold Ww;rw [bE (by omega),bE (by omega)]
def csE (vA v2 v3:Value)(q:Qy)(vK vR vC:Value):List Value:=[vA,v2,v3,vi q.size,vi q.slide,vi q.delay,vi q.late,vK,vR,vC,vsl none 0 0,vi 0,vsl none 0 0]
theorem Qcr {α β:Type}(R:List (XA α β))(r:XA α β):QO (R++[r])=QO R++[(r.1,r.2.2)]:=by unfold QO;rw [cD];rfl
def Qq8 (a b:Ag):Prop:=b.1=a.1/\(a.1=1->b.2=[])/\(a.1≠1->Rep (fun e=>ZG e a.2) (tAt a.2 (a.2.length-1)) a.2.length b.2)
theorem Qqv:ElT Pg 27 153 2 32:=.of (by kernel_rfl) (by kernel_rfl) (by decide)
abbrev owI (a:OaT)(n c:Nat)(xs:List Value):Ow:=⟨3,1,a,n,c,xs⟩
def QqQ (q:Qy)(h0 h:Hp)(g parts:Nat):Prop:=
 ∃(qf:Qy) (hi:Hp) (a1:OaT) (n1 c1:Nat) (a2:OaT) (n2 c2:Nat) (a3:OaT) (n3 c3:Nat) (ak:OaT) (nk ck:Nat) (ar:OaT) (cr:Nat) (ac:OaT) (cc:Nat),
  h0.le hi/\QC hi h [owI ac parts cc ((List.replicate parts (-1:Int)).map vi),owI ar parts cr ((List.replicate parts (0:Nat)).map fun n:Nat=>vi n),Zz g 132 (Kg a1 n1 c1 a2 n2 c2 a3 n3 c3 qf ak nk ck ar parts cr ac parts cc none 0 0 0 none 0 0)] /\
   Nf q qf/\QAt hi qf a1 n1 a2 n2 a3 n3/\SlI hi ak nk (Qd q)
theorem Wr.of_owns {q qf:Qy}{h0 hi h:Hp}{g:Nat}{st:En}{a1:OaT}{n1 c1:Nat}{a2:OaT}{n2 c2:Nat}{a3:OaT}{n3 c3:Nat}{ak:OaT}{nk ck:Nat}{ar:OaT}{cr:Nat}{ac:OaT}{cc:Nat}{tb:OaT}{tc:Nat}{aw:OaT}{cw:Nat}{R:List PR}{RW:List (XA Vl (Bool × PK))}(l0:h0.le hi)
  (O:QC hi h [owI ac st.far.length cc (st.far.map vi),owI ar st.rd.length cr (st.rd.map fun n:Nat=>vi n),Zz g 132 (Kg a1 n1 c1 a2 n2 c2 a3 n3 c3 qf ak nk ck ar st.rd.length cr ac st.far.length cc tb R.length tc st.late aw RW.length cw),⟨150,5,tb,R.length,tc,R.flatMap Ql⟩,⟨95,5,aw,RW.length,cw,RW.flatMap (Zc QT)⟩])
  (F:Nf q qf) (Q:QAt hi qf a1 n1 a2 n2 a3 n3) (K:SlI hi ak nk (Qd q)) (hR:∀ r ∈ R,Qf hi r.a (r.acs.flatMap YP)) (hW:∀ r ∈ RW,Qf hi r.2.1.1 (r.2.2.flatMap Qq)) (eR:R.map prT=st.pn.map (pnT (Qd q))) (eW:QO RW=st.rows.map ZI):Wr q h0 h g st:=by
 obtain⟨hj,lj,Oj,kj⟩:=O.rebase (L':=[owI ar st.rd.length cr (st.rd.map fun n:Nat=>vi n),Zz g 132 (Kg a1 n1 c1 a2 n2 c2 a3 n3 c3 qf ak nk ck ar st.rd.length cr ac st.far.length cc tb R.length tc st.late aw RW.length cw),⟨95,5,aw,RW.length,cw,RW.flatMap (Zc QT)⟩]) (by
  refine List.Sublist.cons _ (List.Sublist.cons_cons _ (List.Sublist.cons_cons _ (List.Sublist.cons _ ?_)))
  exact gY _)
 have keepR:∀(s:Ow) (k:Nat),(k=0\/k=3)->[owI ac st.far.length cc (st.far.map vi),owI ar st.rd.length cr (st.rd.map fun n:Nat=>vi n),Zz g 132 (Kg a1 n1 c1 a2 n2 c2 a3 n3 c3 qf ak nk ck ar st.rd.length cr ac st.far.length cc tb R.length tc st.late aw RW.length cw),⟨150,5,tb,R.length,tc,R.flatMap Ql⟩,⟨95,5,aw,RW.length,cw,RW.flatMap (Zc QT)⟩][k]?=some s->Qf hj s.a s.xs:=by
  intro s k hk hs;have hrow:=(O.ownV (bZ hs)).row;refine Qf.over hrow fun b o ob hb ho=>kj b ob ho fun t ht q1=>?_
  have hb0:o=0:=(O.own s (bZ hs)).at0 b o hb;subst hb0;simp only [bX,dB,fZ] at ht;rcases ht with rfl|rfl|rfl
  ·exact O.apart hs (j:=1) rfl (by omega) hb q1
  ·exact O.apart hs (j:=2) rfl (by omega) hb q1
  ·exact O.apart hs (j:=4) rfl (by omega) hb q1
 have hcl:SlI hj ac st.far.length st.far:=⟨rfl,keepR _ 0 (.inl rfl) rfl⟩;have hT:SlP Ql hj tb R.length R:=⟨rfl,keepR _ 3 (.inr rfl) rfl⟩;refine⟨qf,hj,a1,n1,c1,a2,n2,c2,a3,n3,c3,ak,nk,ck,ar,cr,ac,st.far.length,cc,tb,tc,aw,cw,R,RW,Hp.le_trans l0 lj,⟨Oj.blk (bY _ (bS ..)),Oj.new _ (bY _ (bS ..)) g rfl,Oj.ownV (s:=owI ar st.rd.length cr (st.rd.map fun n:Nat=>vi n)) (bS ..),Oj.ownV (s:=⟨95,5,aw,RW.length,cw,RW.flatMap (Zc QT)⟩) (by simp),fun q1=>?_,fun q1=>?_,fun b hb q1=>?_⟩,
  ⟨F,Q.le lj,K.le lj,hcl,⟨hT,fun r hr=>(hR r hr).le lj⟩,eR,eW,fun r hr=>(hW r hr).le lj⟩⟩
 ·exact Oj.apart (i:=0) (j:=1) rfl rfl (by decide) (b:=g) q1 rfl
 ·exact Oj.apart (i:=2) (j:=1) rfl rfl (by decide) (b:=g) q1 rfl
 ·exact Oj.apart (i:=0) (j:=2) rfl rfl (by decide) (b:=b) hb q1
set_option maxHeartbeats 1000000 in
theorem VG {q:Qy}{a1:OaT}{n1 c1:Nat}{a2:OaT}{n2 c2:Nat}{a3:OaT}{n3 c3:Nat}{h:Hp}{p:Int}{R':RtT}(Q:QAt h q a1 n1 a2 n2 a3 n3)(B:QOk q)
  (hbad:¬(1<=p/\p<=3)->∀ h',h.le h'->R' (Qe [vp none,ifv (some (119,vi 1))]) h')
  (hK:1<=p->p<=3->∀ g h',h.le h'->QqQ q h h' g p.toNat->R' (Qe [vhp g 0,ifv none]) h'):Qa Pg 59 [qV a1 n1 c1 a2 n2 c2 a3 n3 c3 q,vi p] h R':=by
 refine Qfl ?_
 have hn1:=Q.g.len;have hn4:=B.n2;refine Qe3 Q (QpJ B) fun h2 l2=>⟨_,rfl,?_⟩
 rw [Zj,cC (Qp0 B)];refine⟨fun e=>(by cases e),fun _=>?_⟩
 refine Qh5 (fun hp=>⟨_,_,_,_,rfl,fun _=>hbad hp h2 l2,fun e=>(by cases e)⟩) fun hp1 hp3 a7 n7 c7 h6 O6=>⟨_,_,_,_,rfl,fun e=>(by cases e),fun _=>?_⟩
 have l6:=Hp.le_trans l2 O6.le;obtain⟨parts,rfl⟩:∃ n:Nat,p=(n:Int):=⟨p.toNat,by omega⟩
 rw [bG] at O6 hK;refine Ua KQ (z:=[vi 0]) (by kernel_rfl) (n:=parts) (by omega) (by omega) fun b10 hb10=>⟨_,_,_,rfl,?_⟩
 have erep:(List.replicate parts [vi 0]).flatten=(List.replicate parts (0:Nat)).map fun n:Nat=>vi n:=by
  clear hK hbad O6 hp1 hp3;induction parts with
  | zero=>rfl
  | succ n ih=>rw [fY,kX,ih,fY,dE];rfl
 rw [erep];have hrl:((List.replicate parts (0:Nat)).map fun n:Nat=>vi n).length=parts*1:=by rw [bU,dK,f8]
 have l11:h6.le (h6.set b10 (Qb ((List.replicate parts (0:Nat)).map fun n:Nat=>vi n) 3)):=Hp.le_set (Hp.le_refl _) hb10 _
 have hn7:parts=n7:=by rw [(O6.sli:SlI h6 a7 n7 (List.replicate parts (-1:Int))).1,dK]
 subst hn7;have OC:=(QC.nil (Hp.le_refl h2)).push O6.le (s:=owI a7 parts c7 ((List.replicate parts (-1:Int)).map vi)) O6.own (fun b hb=>O6.new b hb)
 have OR:=OC.push l11 (s:=⟨3,1,some ⟨b10,0,none⟩,parts,parts,(List.replicate parts (0:Nat)).map fun n:Nat=>vi n⟩) (Qw.new h6 b10 3 _ hrl (by simp only [maxLen];omega)) (fun b hb=>by cases hb;exact hb10)
 generalize h6.set b10 (Qb ((List.replicate parts (0:Nat)).map fun n:Nat=>vi n) 3)=h11 at l11 OR
 intro b13 hb13 h14;have l14:h11.le h14:=Hp.le_set (Hp.le_refl _) hb13 _;have OB:=OR.push l14 (s:=Zz b13 132 (csE (vsl a1 n1 c1) (vsl a2 n2 c2) (vsl a3 n3 c3) q (vsl none 0 0) (vsl (some ⟨b10,0,none⟩) parts parts) (vsl a7 parts c7))) (GR (Hp.set_same _ _ _)) (fun b hb=>by cases hb;exact hb13)
 clear_value h14;have OA:=OB.push (Hp.le_refl h14) (s:=⟨153,2,none,0,0,[]⟩) (Qw.nil _ _ _) (fun b hb=>by cases hb)
 have OK:=OA.push (Hp.le_refl h14) (s:=⟨3,1,none,0,0,[]⟩) (Qw.nil _ _ _) (fun b hb=>by cases hb)
 simp only [dC,dN] at OK;refine OK.put (j:=2) rfl (i:=0) (bP rfl) fun h15 O15 _=>?_
 have Q6:=Q.le l2;generalize hcs:owI a7 parts c7 ((List.replicate parts (-1:Int)).map vi)=clS at O15;generalize hrd:(⟨3,1,some ⟨b10,0,none⟩,parts,parts,(List.replicate parts (0:Nat)).map fun n:Nat=>vi n⟩:Ow)=rdS at O15
 refine⟨fun vs hh=>∃(i:Nat) (hi:Hp) (aA:OaT) (cA:Nat) (RA:List (XA Nd Int)) (aK:OaT) (cK:Nat),vs=[vi i]/\i<=q.aggs.length/\h2.le hi/\RA.length=i /\
   QC hi hh [clS,rdS,Zz b13 132 (csE (vsl aA i cA) (vsl a2 n2 c2) (vsl a3 n3 c3) q (vsl aK i cK) (vsl (some ⟨b10,0,none⟩) parts parts) (vsl a7 parts c7)),⟨153,2,aA,i,cA,RA.flatMap (Zc Nc)⟩,⟨3,1,aK,i,cK,((Qd q).take i).map vi⟩] /\
   (∀ r ∈ RA,Qf hi r.2.1.1 (r.2.2.flatMap ZC))/\∀(j:Nat) (a b:Ag),q.aggs[j]?=some a->(QO RA)[j]?=some b->Qq8 a b,
  fun vs hh=>q.aggs.length-(Qm vs 0).toNat,⟨0,h2,none,0,[],none,0,rfl,cH _,Hp.le_refl h2,rfl,O15,fun r hr=>(by cases hr),fun j a b _ hb=>by simp [QO] at hb⟩,?_⟩
 rintro vs hh ⟨i,hi,aA,cA,RA,aK,cK,rfl,hi',lhi,hRl,O,hin,hag⟩;refine⟨i,rfl,fun e1=>?_,fun e1=>?_⟩
 ·have hlt:i<q.aggs.length:=by have:=bC e1;omega
  have hx:q.aggs[i]?=some q.aggs[i]:=bD hlt
  have hg:=B.g _ (cM hlt);have hkt:(Qd q).take (i+1)=(Qd q).take i++[(q.aggs[i]).1]:=by
   rw [bJ (by rw [QA];exact hlt)]
   congr 2
   unfold Qd;rw [jH]
  generalize q.aggs[i]=ag at *
  obtain⟨b,o,a',c',ha,hrow,hS⟩:=((Q6.le lhi).g).row XX (by decide) hx
  refine⟨b,o,⟨ha,by omega,by omega⟩,ag.1,a',ag.2.length,c',by rw [bG];exact Hp.row_le O.le hrow,?_⟩
  intro J33;have hJ:∀(a38:OaT) (n38 c38:Nat) (hk h39:Hp) (z:List Nd),hi.le hk->QC hk h39 [clS,rdS,Zz b13 132 (csE (vsl aA i cA) (vsl a2 n2 c2) (vsl a3 n3 c3) q (vsl aK i cK) (vsl (some ⟨b10,0,none⟩) parts parts) (vsl a7 parts c7)),⟨153,2,aA,i,cA,RA.flatMap (Zc Nc)⟩,⟨3,1,aK,i,cK,((Qd q).take i).map vi⟩]->n38=z.length->Qf hk a38 (z.flatMap ZC)->Qq8 ag (ag.1,z)->J33 a38 n38 c38 h39:=by
   intro a38 n38 c38 hk h39 z lk Ok hn38 hz hA;refine⟨_,_,_,Qc (Ok.blk (bY _ (bY _ (bS ..)))) rfl,?_⟩
   intro b41 hb41 h42;refine Ok.app (j:=3) rfl Qqv (tn:=153) (m:=1) (news:=[vi ag.1,vsl a38 n38 c38]) hb41 rfl (by intro u hu;simp at hu;rcases hu with rfl|rfl<;>rfl) (by simp only;omega) (by simp only;omega) fun aA' cA' h44 O44 _=>⟨_,_,_,rfl,?_⟩
   simp only [dQ,cZ] at O44;refine O44.put (j:=2) rfl (i:=0) (bP rfl) fun h46 O46 _=>?_
   simp only [dQ,cZ,csE] at O46;refine⟨_,_,_,Qc (O46.blk (bY _ (bY _ (bS ..)))) rfl,?_⟩
   intro b48 hb48 h49;refine O46.app (j:=4) rfl KQ (tn:=3) (m:=1) (news:=[vi ag.1]) hb48 rfl (by intro u hu;simp at hu;rcases hu with rfl;rfl) (by simp only;omega) (by simp only;omega) fun aK' cK' h51 O51 _=>⟨_,_,_,rfl,?_⟩
   simp only [dQ,cZ] at O51;refine O51.put (j:=2) rfl (i:=7) (bP rfl) fun h53 O53 _=>?_
   simp only [dQ,cZ] at O53;refine⟨_,iW,⟨i+1,hk,aA',cA',RA++[(ag.1,(a38,c38),z)],aK',cK',by simp,by omega,Hp.le_trans lhi lk,by simp [hRl],?_,?_,?_⟩,by simp [Qm];omega⟩
   ·rw [hkt,cD,cX];have e3:([(ag.1,(a38,c38),z)]:List (XA Nd Int)).flatMap (Zc Nc)=[vi ag.1,vsl a38 n38 c38]:=by rw [hn38];rfl
    rw [e3];exact O53
   ·intro r hr;rcases cP.1 hr with q1|q1
    ·exact(hin r q1).le lk
    ·rw [cB.1 q1];exact hz
   ·intro j a b h1 h2;have hgl:(QO RA).length=i:=by simp [QO,hRl]
    rw [Qcr] at h2;rcases g8 j i with q1|q1
    ·rw [dU (by omega)] at h2
     exact hag j a b h1 h2
    ·rw [dA (by omega)] at h2
     have hj:j=i:=by
      have:=(bI.1 h2).1
      simp at this;omega
     subst hj;rw [hgl,fT] at h2;cases h2;rw [hx] at h1;cases h1;exact hA
  clear_value J33;refine⟨fun e2=>?_,fun e2=>?_⟩
  ·have hne:ag.1≠1:=bC e2;obtain⟨OE,hlen⟩:=Yb (hg.2.2.1 hne);refine O.frame (Us hS OE (by omega) fun az nz cz hk z lk NSz Rp h29 l29 O29=>⟨_,_,_,rfl,?_⟩)
   exact hJ az nz cz hk h29 z lk O29 NSz.s.1 NSz.s.2 ⟨rfl,fun q1=>absurd q1 hne,fun _=>Rp⟩
  ·have he:ag.1=1:=fS.1 (bB e2);have hz:=hg.2.2.2 he;refine hJ a' ag.2.length c' hi hh [] (Hp.le_refl hi) O (by rw [hz]) (.inl rfl) ⟨rfl,fun _=>rfl,fun q1=>absurd he q1⟩
 ·have hge:i=q.aggs.length:=by have:=bB e1;omega
  subst hge;rw [cQ (by rw [QA];exact cJ _)] at O
  obtain⟨hj,lj,Oj,kj⟩:=O.rebase (L':=[clS,rdS,Zz b13 132 (csE (vsl aA q.aggs.length cA) (vsl a2 n2 c2) (vsl a3 n3 c3) q (vsl aK q.aggs.length cK) (vsl (some ⟨b10,0,none⟩) parts parts) (vsl a7 parts c7))]) (by simp)
  have keepR:∀(s:Ow) (k:Nat),(k=3\/k=4)->[clS,rdS,Zz b13 132 (csE (vsl aA q.aggs.length cA) (vsl a2 n2 c2) (vsl a3 n3 c3) q (vsl aK q.aggs.length cK) (vsl (some ⟨b10,0,none⟩) parts parts) (vsl a7 parts c7)),⟨153,2,aA,q.aggs.length,cA,RA.flatMap (Zc Nc)⟩,⟨3,1,aK,q.aggs.length,cK,(Qd q).map vi⟩][k]?=some s->Qf hj s.a s.xs:=by
   intro s k hk hs;have hrow:=(O.ownV (bZ hs)).row;refine Qf.over hrow fun b o ob hb ho=>kj b ob ho fun t ht q1=>?_
   have hb0:o=0:=(O.own s (bZ hs)).at0 b o hb;subst hb0;simp only [bX,dB,fZ] at ht;rcases ht with rfl|rfl|rfl
   ·exact O.apart hs (j:=0) rfl (by omega) hb q1
   ·exact O.apart hs (j:=1) rfl (by omega) hb q1
   ·exact O.apart hs (j:=2) rfl (by omega) hb q1
  have hgA:Ky ZC Nc hj aA q.aggs.length (QO RA):=⟨RA,rfl,by simp [QO,hRl],keepR _ 3 (.inl rfl) rfl,fun r hr=>(hin r hr).le lj⟩
  have hkK:SlI hj aK q.aggs.length (Qd q):=⟨by rw [QA],keepR _ 4 (.inr rfl) rfl⟩
  have Qj:=Q6.le (Hp.le_trans lhi lj);have l0j:h.le hj:=Hp.le_trans l2 (Hp.le_trans lhi lj);have hgl:(QO RA).length=q.aggs.length:=by simp [QO,hRl]
  clear O keepR hin kj; -- all of it is there
  have fin:∀(hk h':Hp) (w2:OaT) (m2 d2:Nat) (w3:OaT) (m3 d3:Nat) (wh by_:List Nd),hj.le hk->QC hk h' [clS,rdS,Zz b13 132 (csE (vsl aA q.aggs.length cA) (vsl w2 m2 d2) (vsl w3 m3 d3) q (vsl aK q.aggs.length cK) (vsl (some ⟨b10,0,none⟩) parts parts) (vsl a7 parts c7))]->SlP ZC hk w2 m2 wh->SlP ZC hk w3 m3 by_->Nf q { q with aggs:=QO RA,wh:=wh,by_:=by_ }->R' (Qe [vhp b13 0,ifv none]) h':=by
   intro hk h' w2 m2 d2 w3 m3 d3 wh by_ lk Ok S2 S3 F;rw [<-hrd,<-hcs] at Ok;exact hK hp1 hp3 b13 h' (Hp.le_trans l0j (Hp.le_trans lk Ok.le)) ⟨{ q with aggs:=QO RA,wh:=wh,by_:=by_ },hk,aA,q.aggs.length,cA,w2,m2,d2,w3,m3,d3,aK,q.aggs.length,cK,some ⟨b10,0,none⟩,parts,a7,c7,Hp.le_trans l0j lk,Ok,F,⟨hgA.le lk,S2,S3⟩,hkK.le lk⟩
  have F0:∀ wh by_,(q.wh=[]->wh=[])->(q.wh≠[]->Rep (fun e=>ZG e q.wh) (tAt q.wh (q.wh.length-1)) q.wh.length wh)->(q.by_=[]->by_=[])->(q.by_≠[]->Rep (fun e=>ZG e q.by_) (tAt q.by_ (q.by_.length-1)) q.by_.length by_)->Nf q { q with aggs:=QO RA,wh:=wh,by_:=by_ }:=
   fun wh by_ f1 f2 f3 f4=>⟨rfl,rfl,rfl,rfl,hgl,hag,f1,f2,f3,f4⟩
  intro J62;have hJ62:∀(hk h':Hp) (w2:OaT) (m2 d2:Nat) (wh:List Nd),hj.le hk->QC hk h' [clS,rdS,Zz b13 132 (csE (vsl aA q.aggs.length cA) (vsl w2 m2 d2) (vsl a3 n3 c3) q (vsl aK q.aggs.length cK) (vsl (some ⟨b10,0,none⟩) parts parts) (vsl a7 parts c7))]->SlP ZC hk w2 m2 wh->(q.wh=[]->wh=[])->(q.wh≠[]->Rep (fun e=>ZG e q.wh) (tAt q.wh (q.wh.length-1)) q.wh.length wh)->J62 h':=by
   intro hk h' w2 m2 d2 wh lk Ok S2 f1 f2;have hJ70:∀(hl h'':Hp) (w3:OaT) (m3 d3:Nat) (by_:List Nd),hk.le hl->QC hl h'' [clS,rdS,Zz b13 132 (csE (vsl aA q.aggs.length cA) (vsl w2 m2 d2) (vsl w3 m3 d3) q (vsl aK q.aggs.length cK) (vsl (some ⟨b10,0,none⟩) parts parts) (vsl a7 parts c7))]->SlP ZC hl w3 m3 by_->(q.by_=[]->by_=[])->(q.by_≠[]->Rep (fun e=>ZG e q.by_) (tAt q.by_ (q.by_.length-1)) q.by_.length by_)->R' (Qe [vhp b13 0,ifv none]) h'':=
    fun hl h'' w3 m3 d3 by_ ll Ol S3 f3 f4=>fin hl h'' w2 m2 d2 w3 m3 d3 wh by_ (Hp.le_trans lk ll) Ol (S2.le ll) S3 (F0 wh by_ f1 f2 f3 f4)
   refine⟨fun e2=>?_,fun e2=>?_⟩
   ·have hne:q.by_≠[]:=by intro q1;have:=bC e2;rw [Q.b.1,q1] at this;simp at this
    obtain⟨OE,hlen⟩:=Yb (B.b hne);refine Ok.frame (Us (Qj.b.le lk) OE (by omega) fun az nz cz hl z ll NSz Rp h65 l65 O65=>⟨_,_,_,rfl,?_⟩)
    refine O65.put (j:=2) rfl (i:=2) (bP rfl) fun h67 O67 _=>?_
    exact hJ70 hl h67 az nz cz z ll O67 NSz.s (fun q1=>absurd q1 hne) (fun _=>Rp)
   ·have he:q.by_=[]:=by have:=bB e2;rw [Q.b.1] at this;exact fX.1 (by omega)
    exact hJ70 hk h' a3 n3 c3 q.by_ (Hp.le_refl hk) Ok (Qj.b.le lk) (fun q1=>q1) (fun q1=>absurd he q1)
  clear_value J62;refine⟨fun e2=>?_,fun e2=>?_⟩
  ·have hne:q.wh≠[]:=by intro q1;have:=bC e2;rw [Q.w.1,q1] at this;simp at this
   obtain⟨OE,hlen⟩:=Yb (B.w hne);refine Oj.frame (Us Qj.w OE (by omega) fun az nz cz hl z ll NSz Rp h57 l57 O57=>⟨_,_,_,rfl,?_⟩)
   refine O57.put (j:=2) rfl (i:=1) (bP rfl) fun h59 O59 _=>?_
   exact hJ62 hl h59 az nz cz z ll O59 NSz.s (fun q1=>absurd q1 hne) (fun _=>Rp)
  ·have he:q.wh=[]:=by have:=bB e2;rw [Q.w.1] at this;exact fX.1 (by omega)
   exact hJ62 hj hh a2 n2 c2 q.wh (Hp.le_refl hj) Oj Qj.w (fun q1=>q1) (fun q1=>absurd he q1)
theorem QqQ.engX {q:Qy}{h0 h:Hp}{g parts:Nat}(X:QqQ q h0 h g parts):Wr q h0 h g (YZ parts):=by
 obtain⟨qf,hi,a1,n1,c1,a2,n2,c2,a3,n3,c3,ak,nk,ck,ar,cr,ac,cc,l0,O,F,Q,K⟩:=X;have O1:=O.push (Hp.le_refl h) (s:=⟨150,5,none,0,0,[]⟩) (Qw.nil _ _ _) (fun b hb=>by cases hb)
 have O2:=O1.push (Hp.le_refl h) (s:=⟨95,5,none,0,0,[]⟩) (Qw.nil _ _ _) (fun b hb=>by cases hb)
 simp only [dN,dC] at O2;refine Wr.of_owns (R:=[]) (RW:=[]) (tc:=0) (cw:=0) (tb:=none) (aw:=none) (c1:=c1) (c2:=c2) (c3:=c3) (ck:=ck) (ar:=ar) (cr:=cr) (ac:=ac) (cc:=cc) l0 ?_ F Q K (fun r hr=>by cases hr) (fun r hr=>by cases hr) rfl rfl
 simp only [YZ,dK];exact O2
theorem Qfo {q:Qy}{a1:OaT}{n1 c1:Nat}{a2:OaT}{n2 c2:Nat}{a3:OaT}{n3 c3:Nat}{h:Hp}{p:Int}{R':RtT}(Q:QAt h q a1 n1 a2 n2 a3 n3)(B:QOk q)
  (hbad:¬(1<=p/\p<=3)->∀ h',h.le h'->R' (Qe [vp none,ifv (some (119,vi 1))]) h')
  (hK:1<=p->p<=3->∀ g h',h.le h'->Wr q h h' g (YZ p.toNat)->R' (Qe [vhp g 0,ifv none]) h'):Qa Pg 59 [qV a1 n1 c1 a2 n2 c2 a3 n3 c3 q,vi p] h R':=
 VG Q B hbad fun h1 h3 g h' l X=>hK h1 h3 g h' l X.engX
open Go.RowKit Go.Txt
def RdO (hi h:Hp)(g:Nat)(L:List Ow)(s:RdW):Prop:=∃(a:OaT) (n c:Nat),QC hi h (Zz g 219 [vsl a n c,vb s.2] :: L)/\SlB hi a n s.1/\n<=c/\∀ w ∈ s.1,w.length<=1000000
theorem RdO.le {hi h:Hp}{g:Nat}{L:List Ow}{s:RdW}(X:RdO hi h g L s):hi.le h:=by
 obtain⟨a,n,c,O,_⟩:=X;exact O.le
section
variable {hi h:Hp}{g:Nat}{L:List Ow}{s:RdW}{R:RtT}
theorem Qdj (X:RdO hi h g L s)(hK:∀ h',RdO hi h' g L (wdR s).2->(wdR s).1.length<=1000000->R (vs (bs (wdR s).1)) h'):Qa Pg 184 [vhp g 0] h R:=by
 refine MQ ?_
 obtain⟨a,n,c,O,S,hc,hw⟩:=X;obtain⟨ws,b⟩:=s;have hb:=O.blk (bS ..);have hn:=S.1;simp only at hn hw S;refine⟨_,_,_,Qc hb rfl,fun e=>?_,fun e=>?_⟩
 ·have h0:n=0:=by have:=bC e;omega
  have hws:ws=[]:=dS (by omega)
  subst hws;refine O.put (j:=0) rfl (i:=1) (bP rfl) fun h' O' _=>?_
  simp only [cZ,dQ] at O';exact hK h' ⟨a,n,c,O',S,hc,hw⟩ (cH _)
 ·have h0:0<n:=by have:=bB e;omega
  match ws,S,hn,hw with
  | [],_,hn,_=>simp at hn;omega
  | w :: ws,S,hn,hw=>
   obtain⟨b5,o6,ea,hcell⟩:=(S.le O.le).get1 (i:=0) (by omega)
   have hT:Pg.underlying 162=some (.slice 9):=by kernel_rfl
   have hI:(Pg.info? 9).isSome=true:=by kernel_rfl
   have hsz:szT Pg 9=1:=by kernel_rfl
   have rdl:=YC (P:=Pg) (h:=h) (t:=162) (e:=9) hT hI (a:=a) (n:=n) (c:=c) (x:=((1:Nat):Int)) (by omega) (by omega)
   simp only [bG,hsz] at rdl;refine⟨_,_,_,Qc hb rfl,b5,o6,⟨ea,by omega,by omega⟩,_,hcell,_,_,_,Qc hb rfl,_,_,_,rdl,?_⟩
   have S2:=S.drop ZM (i:=1) (by omega) hc
   rw [show (w :: ws).drop 1=ws from rfl] at S2
   refine O.put (j:=0) rfl (i:=0) (bP rfl) fun h' O' _=>?_
   simp only [cZ] at O';exact hK h' ⟨_,_,_,O',S2,by omega,fun x hx=>hw x (bY _ hx)⟩ (hw w (bS ..))
theorem Q3 {lo hi':Int}(X:RdO hi h g L s)(T:UV hi)(E:N9 hi)(hK:∀ h',RdO hi h' g L (nmR lo hi' s).2->R (vi (nmR lo hi' s).1) h'):Qa Pg 128 [vhp g 0,vi lo,vi hi'] h R:=by
 refine Vp ?_
 refine Qdj X fun h2 X2 hl=>⟨_,rfl,?_⟩
 have bad:∀ h',RdO hi h' g L (wdR s).2->nmV lo hi' (wdR s).1=none->(Hp.store h' g (0+1) [vb true] fun h15=>R (vi lo) h15):=by
  intro h' X' e;obtain⟨a,n,c,O,S,hc,hw⟩:=X';refine O.put (j:=0) rfl (i:=1) (bP rfl) fun h15 O15 _=>?_
  simp only [cZ,dQ] at O15;have e1:nmR lo hi' s=(lo,((wdR s).2.1,true)):=by unfold nmR;rw [e]
  rw [e1] at hK;exact hK h15 ⟨a,n,c,O15,S,hc,hw⟩
 refine strconv_Atoi_ok hl (E.le X2.le) (fun n hn=>⟨n,none,rfl,?_⟩) fun hno x e=>⟨x,some e,rfl,?_⟩
 ·have hb:=Lib.atoiAll_bounds hn;refine⟨fun v hh=>hh=h2/\v=.t (.one (.v (vs (bs (Lib.itoa n))))),fun _=>XH (by unfold InR;omega) (T.le X2.le) ⟨_,rfl,rfl,rfl⟩,fun e=>absurd rfl e,?_⟩
  rintro h12 s13 ⟨rfl,e13⟩;cases e13;refine⟨_,fun _=>YE (a:=Lib.itoa n) (b:=(wdR s).1),fun e=>bad _ X2 ?_,fun e=>?_⟩
  ·unfold nmV;rw [hn];simp only;rw [bE];rintro⟨k1,k2,k3⟩;rw [cC k1,cE (show ¬ n<lo by omega),cE (show ¬ n>hi' by omega)] at e
   cases e
  ·obtain⟨e,g3⟩:=ZV e;obtain⟨e,g2⟩:=ZV e;obtain⟨_,e⟩:=ZV e;have g3:=bB g3;have g2:=bB g2;have g1:Lib.itoa n=(wdR s).1:=by simpa using e
   have e1:nmR lo hi' s=(n,(wdR s).2):=by unfold nmR nmV;rw [hn];simp only;rw [bH ⟨g1,by omega,by omega⟩]
   rw [e1] at hK;exact hK _ X2
 ·refine⟨fun v hh=>hh=h2/\∃ y,v=.t (.one (.v (vs y))),fun e=>(by cases e),fun _=>⟨rfl,_,rfl⟩,?_⟩
  rintro h12 s13 ⟨rfl,y,e13⟩;refine⟨false,fun e=>(by cases e),fun _=>bad _ X2 ?_,fun e=>(by cases e)⟩
  unfold nmV;split
  ·rename_i n hn;exact absurd hn (hno n)
  ·rfl
theorem Gf (X:RdO hi h g L s)(T:UV hi)(E:N9 hi)(hK:∀ h',RdO hi h' g L (vlR s).2->R (vag (Qq (vlR s).1)) h'):Qa Pg 185 [vhp g 0] h R:=by
 refine GK ?_
 refine Qdj X fun h2 X2 hl=>⟨_,rfl,?_⟩
 refine Qdm hl (T.le X2.le) (E.le X2.le) ⟨_,_,_,rfl,?_⟩
 obtain⟨a,n,c,O,S,hc,hw⟩:=X2;refine⟨_,Qc (O.blk (bS ..)) rfl,?_⟩
 refine O.put (j:=0) rfl (i:=1) (bP rfl) fun h15 O15 _=>?_
 simp only [cZ,dQ] at O15;refine hK h15 ⟨a,n,c,?_,S,hc,hw⟩
 have e:(bif (wdR s).2.2 then true else Option.isSome (QG (Wz (wdR s).1).2))=((wdR s).2.2||decide ((Wz (wdR s).1).2≠0)):=by rw [Zj];cases (wdR s).2.2<;>simp
 rw [e] at O15;exact O15
end
abbrev owA (a:OaT)(n c:Nat)(l:List AcS):Ow:=⟨155,4,a,n,c,l.flatMap YP⟩
abbrev Qq5 (a:OaT)(n c:Nat)(l:List Vl):Ow:=⟨54,2,a,n,c,l.flatMap Qq⟩
theorem RdO.ins {hi h:Hp}{g:Nat}{L:List Ow}{s:RdW}(X:RdO hi h g L s){o:Ow}(O':o.own h)(hn:∀ b,o.at b->h b=none):RdO hi h g (o :: L) s:=by
 obtain⟨a,n,c,O,S,hc,hw⟩:=X;exact⟨a,n,c,O.ins (Hp.le_refl h) O' hn,S,hc,hw⟩
theorem Qmd (x:Vl):∀ u ∈ Qq x,u.oneCell'=true:=by
 intro u hu;simp only [Qq,bX,dB,fZ] at hu;rcases hu with rfl|rfl<;>rfl
section
variable {hi h:Hp}{g:Nat}{L:List Ow}{s:RdW}{R:RtT}{q:Qy}{a1:OaT}{n1 c1:Nat}{a2:OaT}{n2 c2:Nat}{a3:OaT}{n3 c3:Nat}
set_option maxHeartbeats 1000000 in
theorem Qj5 (X:RdO hi h g L s)(Q:QAt hi q a1 n1 a2 n2 a3 n3)(B:QOk q)(T:UV hi)(E:N9 hi)
  (hK:∀ a' c' hj h',hi.le hj->RdO hj h' g L (pnR (Qd q) s).2->Qf hj a' ((pnR (Qd q) s).1.2.1.flatMap YP)->R (vag [vi (pnR (Qd q) s).1.1.1,vi (pnR (Qd q) s).1.1.2.1,vi (pnR (Qd q) s).1.1.2.2,vsl a' (pnR (Qd q) s).1.2.1.length c',vb (pnR (Qd q) s).1.2.2]) h') :
  Qa Pg 129 [vhp g 0,qV a1 n1 c1 a2 n2 c2 a3 n3 c3 q] h R:=by
 refine MO ?_
 have hn1:=Q.g.len;have hn4:=B.n2;refine Q3 X T E fun h2 X2=>⟨_,rfl,?_⟩
 refine Gf X2 T E fun h5 X5=>⟨_,_,rfl,?_⟩
 refine Q3 X5 T E fun h9 X9=>⟨_,rfl,?_⟩
 have e0:pnR (Qd q) s=((((nmR (-1000) 9999 s).1,(vlR (nmR (-1000) 9999 s).2).1),(QZ acR (Qd q) (nmR 0 1 (vlR (nmR (-1000) 9999 s).2).2).2).1,decide ((nmR 0 1 (vlR (nmR (-1000) 9999 s).2).2).1=1)),(QZ acR (Qd q) (nmR 0 1 (vlR (nmR (-1000) 9999 s).2).2).2).2):=rfl;rw [e0] at hK;clear e0 X X2 X5;generalize nmR (-1000) 9999 s=A at *
 generalize vlR A.2=K at *
 generalize nmR 0 1 K.2=U at *
 intro J44;have hJ:∀ a' c' hj h',hi.le hj->RdO hj h' g L (QZ acR (Qd q) U.2).2->Qf hj a' ((QZ acR (Qd q) U.2).1.flatMap YP)->J44 A.1 K.1.1 K.1.2 a' q.aggs.length c' (decide (U.1=1)) h':=by
  intro a' c' hj h' l1 l2 l3;have:=hK a' c' hj h' l1 l2 l3;simp only [JV,QA] at this;exact this
 clear_value J44;clear hK;refine⟨fun vs hh=>∃(i:Nat) (aA:OaT) (cA:Nat),vs=[vi i,vi A.1,vi K.1.1,vi K.1.2,vsl aA i cA,vb (decide (U.1=1))]/\i<=q.aggs.length/\RdO hi hh g (owA aA i cA (QZ acR ((Qd q).take i) U.2).1 :: L) (QZ acR ((Qd q).take i) U.2).2,
  fun vs hh=>q.aggs.length-(Qm vs 0).toNat,⟨0,none,0,rfl,cH _,X9.ins (Qw.nil _ _ _) (fun b hb=>by cases hb)⟩,?_⟩
 rintro vs hh ⟨i,aA,cA,rfl,hi',X⟩;refine⟨_,_,_,_,_,_,_,_,rfl,fun e1=>?_,fun e1=>?_⟩
 ·have hlt:i<q.aggs.length:=by have:=bC e1;omega
  have hx:q.aggs[i]?=some q.aggs[i]:=bD hlt
  have hkt:(Qd q).take (i+1)=(Qd q).take i++[(q.aggs[i]).1]:=by
   rw [bJ (by rw [QA];exact hlt)]
   congr 2
   unfold Qd;rw [jH]
  generalize q.aggs[i]=ag at *
  obtain⟨b,o,a',c',ha,hrow,hS⟩:=((Q.le X.le).g).row XX (by decide) hx
  refine⟨b,o,⟨ha,by omega,by omega⟩,ag.1,a',ag.2.length,c',by rw [bG];exact hrow,?_⟩
  have eS:=WG acR ag.1 ((Qd q).take i) U.2;rw [<-hkt] at eS;generalize QZ acR ((Qd q).take i) U.2=F at *
  have eA:acR ag.1 F.2=((ag.1,(nmR 0 120 F.2).1,(nmR (-1099511627776) 1099511627776 (nmR 0 120 F.2).2).1,(nmR (-1000000000) 1000000000 (nmR (-1099511627776) 1099511627776 (nmR 0 120 F.2).2).2).1),(nmR (-1000000000) 1000000000 (nmR (-1099511627776) 1099511627776 (nmR 0 120 F.2).2).2).2):=rfl;rw [eA] at eS;refine Q3 X T E fun h29 Y1=>⟨_,rfl,?_⟩
  refine Q3 Y1 T E fun h32 Y2=>⟨_,rfl,?_⟩
  refine Q3 Y2 T E fun h35 Y3=>⟨_,rfl,?_⟩
  clear eA X Y1 Y2;generalize nmR 0 120 F.2=x1 at *
  generalize nmR (-1099511627776) 1099511627776 x1.2=x2 at *
  generalize nmR (-1000000000) 1000000000 x2.2=x3 at *
  intro b37 hb37 h38;obtain⟨a,n,c,O,S,hc,hw⟩:=Y3;refine O.app (j:=1) rfl QnZ (m:=1) (tn:=155) (news:=YP (ag.1,x1.1,x2.1,x3.1)) hb37 rfl (Qkp _) (by simp only;omega) (by simp only;omega) fun aA' cA' h40 O40 _=>⟨_,_,_,rfl,?_⟩
  simp only [dQ,cZ] at O40;refine⟨_,iW,⟨i+1,aA',cA',rfl,by omega,?_⟩,by simp [Qm];omega⟩
  rw [eS];refine⟨a,n,c,?_,S,hc,hw⟩
  unfold owA;rw [cX,dW];exact O40
 ·have hge:i=q.aggs.length:=by have:=bB e1;omega
  subst hge;rw [cQ (by rw [QA];exact cJ _)] at X
  obtain⟨a,n,c,O,S,hc,hw⟩:=X;obtain⟨hj,lj,Oj,Hj⟩:=O.shut1;exact hJ aA cA hj hh lj ⟨a,n,c,Oj,S.le lj,hc,hw⟩ Hj
set_option maxHeartbeats 1000000 in
theorem Qm3 (X:RdO hi h g L s)(Q:QAt hi q a1 n1 a2 n2 a3 n3)(B:QOk q)(T:UV hi)(E:N9 hi)
  (hK:∀ a' c' hj h',hi.le hj->RdO hj h' g L (rwR q.aggs.length s).2->Qf hj a' ((rwR q.aggs.length s).1.2.2.flatMap Qq)->R (vag [vb (rwR q.aggs.length s).1.1,vi (rwR q.aggs.length s).1.2.1.1,vi (rwR q.aggs.length s).1.2.1.2.1,vi (rwR q.aggs.length s).1.2.1.2.2,vsl a' (rwR q.aggs.length s).1.2.2.length c']) h') :
  Qa Pg 130 [vhp g 0,qV a1 n1 c1 a2 n2 c2 a3 n3 c3 q] h R:=by
 refine NF ?_
 have hn1:=Q.g.len;have hn4:=B.n2;refine Q3 X T E fun h2 X2=>⟨_,rfl,?_⟩
 refine Q3 X2 T E fun h5 X5=>⟨_,rfl,?_⟩
 refine Gf X5 T E fun h9 X9=>⟨_,_,rfl,?_⟩
 have e0:rwR q.aggs.length s=((decide ((nmR 0 1 s).1=1),((nmR (-1000) 9999 (nmR 0 1 s).2).1,(vlR (nmR (-1000) 9999 (nmR 0 1 s).2).2).1),(QZ (fun _:Unit=>vlR) (List.replicate q.aggs.length ()) (vlR (nmR (-1000) 9999 (nmR 0 1 s).2).2).2).1),(QZ (fun _:Unit=>vlR) (List.replicate q.aggs.length ()) (vlR (nmR (-1000) 9999 (nmR 0 1 s).2).2).2).2):=rfl
 rw [e0] at hK;clear e0 X X2 X5;generalize nmR 0 1 s=U at *
 generalize nmR (-1000) 9999 U.2=A at *
 generalize vlR A.2=K at *
 intro J44;have hJ:∀ a' c' hj h',hi.le hj->RdO hj h' g L (QZ (fun _:Unit=>vlR) (List.replicate q.aggs.length ()) K.2).2->Qf hj a' ((QZ (fun _:Unit=>vlR) (List.replicate q.aggs.length ()) K.2).1.flatMap Qq)->J44 (decide (U.1=1)) A.1 K.1.1 K.1.2 a' q.aggs.length c' h':=by
  intro a' c' hj h' l1 l2 l3;have:=hK a' c' hj h' l1 l2 l3;simp only [JV,dK] at this;exact this
 clear_value J44;clear hK;refine⟨fun vs hh=>∃(i:Nat) (aA:OaT) (cA:Nat),vs=[vi i,vb (decide (U.1=1)),vi A.1,vi K.1.1,vi K.1.2,vsl aA i cA]/\i<=q.aggs.length/\RdO hi hh g (Qq5 aA i cA (QZ (fun _:Unit=>vlR) (List.replicate i ()) K.2).1 :: L) (QZ (fun _:Unit=>vlR) (List.replicate i ()) K.2).2,
  fun vs hh=>q.aggs.length-(Qm vs 0).toNat,⟨0,none,0,rfl,cH _,X9.ins (Qw.nil _ _ _) (fun b hb=>by cases hb)⟩,?_⟩
 rintro vs hh ⟨i,aA,cA,rfl,hi',X⟩;refine⟨_,_,_,_,_,_,_,_,rfl,fun e1=>?_,fun e1=>?_⟩
 ·have hlt:i<q.aggs.length:=by have:=bC e1;omega
  have eS:=WG (fun _:Unit=>vlR) () (List.replicate i ()) K.2
  rw [<-gV] at eS;generalize QZ (fun _:Unit=>vlR) (List.replicate i ()) K.2=F at *
  refine Gf X T E fun h25 Y3=>⟨_,_,rfl,?_⟩
  intro b37 hb37 h38;obtain⟨a,n,c,O,S,hc,hw⟩:=Y3;refine O.app (j:=1) rfl ND (m:=1) (tn:=54) (news:=Qq (vlR F.2).1) hb37 rfl (Qmd _) (by simp only;omega) (by simp only;omega) fun aA' cA' h40 O40 _=>⟨_,_,_,rfl,?_⟩
  simp only [dQ,cZ] at O40;refine⟨_,iW,⟨i+1,aA',cA',rfl,by omega,?_⟩,by simp [Qm];omega⟩
  rw [eS];refine⟨a,n,c,?_,S,hc,hw⟩
  unfold Qq5;rw [cX,dW];exact O40
 ·have hge:i=q.aggs.length:=by have:=bB e1;omega
  subst hge;obtain⟨a,n,c,O,S,hc,hw⟩:=X;obtain⟨hj,lj,Oj,Hj⟩:=O.shut1;exact hJ aA cA hj hh lj ⟨a,n,c,Oj,S.le lj,hc,hw⟩ Hj
end
def Qd4 (h:Hp):Prop:=∃ m,h.cell 4 0=some (vk .i64 m)
theorem Qd4.le {h h':Hp}(T:Qd4 h)(l:h.le h'):Qd4 h':=by
 obtain⟨m,hm⟩:=T;exact⟨m,Hp.cell_le l hm⟩
theorem QiC:∀ l:List ByteArray,(l.map fun x=>x.data.toList).flatMap YF=l.map Value.string
 | []=>rfl
 | x :: l=>by
  rw [dE,dP,QiC l,dE];show [Value.string (bs x.data.toList)]++_=_;have:bs x.data.toList=x:=by unfold bs;simp
  rw [this];rfl
theorem Qa9 {s:Wds}(hs:s.length<=1000000000){h:Hp}(T:Qd4 h){R:RtT}(hK:∀ a h',Qg h h' 9 1 a (Yw s).length (Yw s).length ((Yw s).flatMap YF)->R (vsl a (Yw s).length (Yw s).length) h'):Qa Pg 127 [vs (bs s),vs (bs [32])] h R:=by
 obtain⟨m,hm⟩:=T;intro w hw;have hsz:(bs s).size=s.length:=Zp s;have hd:(bs s).data.toList=s:=by simp [bs]
 have hd2:(bs [32]).data.toList=[32]:=by simp [bs]
 refine(Tryz.strings_Split (bs s) (bs [32]) m w (by omega) (Zt hm hw) (by decide)).mono ?_
 rintro e w' ⟨he,hw'⟩;subst hw';have hl:=Lib.splitB_all (bs [32]) (by decide) 0 _ (bs s) rfl
 have e1:=Lib.splitB_data (bs [32]) 0 (Lib.countB (bs s) (bs [32])) (bs s);have e2:Lib.countB (bs s) (bs [32])=Lib.count s [32]:=by show Lib.count _ _=_;rw [hd,hd2]
 rw [hd,hd2,e2] at e1;have e3:(Lib.splitB (bs [32]) 0 (Lib.countB (bs s) (bs [32])) (bs s)).map (fun x=>x.data.toList)=Yw s:=by rw [e2];exact e1
 have e4:(Yw s).length=Lib.countB (bs s) (bs [32])+1:=by rw [<-e3,bU,hl]
 have hln:=(Qjc s).2.1;have e5:=QiC (Lib.splitB (bs [32]) 0 (Lib.countB (bs s) (bs [32])) (bs s));rw [e3] at e5;rw [<-e4] at he;refine⟨_,h.set w.heap.size (Qb ((Yw s).flatMap YF) 9),he,?_,?_,hK _ _ (Qg.mk_new (Hp.le_refl h) (hw.none) _ _ ?_ ?_)⟩
 ·rw [e5];exact Sub.pushSet hw _
 ·rw [e5];exact Fr.pushSet h w _
 ·rw [Qi ZM]
 ·unfold maxLen;omega
theorem QpX {a:OaT}{n c:Nat}{l:List Wds}{sep:Wds}{h:Hp}{R:RtT}(S:SlB h a n l)(hn:0<n)(hc:n<=c)(hn2:n<=100000000)(hlen:(Lib.join l sep).length<=10000000000)(hK:R (vs (bs (Lib.join l sep))) h):Qa Pg 121 [vsl a n c,vs (bs sep)] h R:=by
 obtain rfl:=S.1;obtain⟨b,o,ha,hcell⟩:=SlP.get1 S hn;subst ha;have hmap:((l.map bs).map fun x=>x.data.toList)=l:=by
  rw [fN];have:((fun x:ByteArray=>x.data.toList) ∘ bs)=id:=by funext x;simp [bs]
  rw [this,mA]
 have hs:(bs sep).data.toList=sep:=by simp [bs]
 have hl:(l.map bs).length=l.length:=by simp
 refine UT fun w hw=>?_
 have hcs:∀(j:Nat) x,(l.map bs)[j]?=some x->w.cell? ⟨b,o+j,none⟩=some (.string x):=by
  intro j x hx;rw [cU,dD] at hx
  obtain⟨y,hy,rfl⟩:=hx;have hj:=(bI.1 hy).1
  obtain⟨b',o',e,hc'⟩:=SlP.get1 S hj;cases e;rw [bK,hy,f8] at hc'
  exact Zt hc' hw
 have hbk:b<w.heap.size:=by
  have h1:=Zt hcell hw;unfold World.cell? at h1;cases hb:w.heap[b]? with
  | none=>rw [hb] at h1;cases h1
  | some ob=>exact(cT.1 hb).1
 have:=Tryz.strings_Join b o c (l.map bs) (bs sep) w hcs hbk (by rw [hl];omega) (by rw [hl];exact hc) (by rw [hmap,hs];omega)
 rw [hl,hmap,hs] at this;refine this.mono fun e w' ⟨he,hB⟩=>⟨_,he,hB,hK⟩
theorem Wq {n:Int}(hn:InR n){h:Hp}(T:UV h){K:RtT}(hK:K (vs (bs (Lib.itoa n))) h):Xl Pg (.func (.func 119) #[] #[]) [vi n] h K:=
 ⟨_,_,_,rfl,⟨_,Tryz.func119,by kernel_rfl,by kernel_rfl⟩,XH hn T hK⟩
end Go.Proofs.YthicpjafcpfjoaaGreatDoor
