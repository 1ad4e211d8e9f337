/-
  Laws and contracts on which the statement's proof stands, part 3. Conditions: those stated at each.
-/
import Derived.Lib.Join
import Derived.Sort.Grow
import Derived.Lib.Overlaps
import Derived.Lib.AppendZerosOnto
import Derived.Test.YtiflgceoamkmnaaGreatDoorEn2
set_option linter.unusedVariables false
set_option maxRecDepth 100000
namespace Go.Proofs.YtiflgceoamkmnaaGreatDoor
open Go Go.Vc
def VC_expr_Arity (u0:Int)(h:Hp)(R:Value→Hp→Prop):Prop:=
 (((bif (decide (u0=1)) then true else(decide (u0=2)))=true→R (vi 0) h)∧((bif (decide (u0=1)) then true else(decide (u0=2)))=false→(((bif (bif (decide (u0=3)) then true else(decide (u0=4))) then true else(decide (u0=5)))=true→R (vi 1) h)∧((bif (bif (decide (u0=3)) then true else(decide (u0=4))) then true else(decide (u0=5)))=false→(((bif (decide (u0≥6)) then(decide (u0≤12)) else false)=true→R (vi 2) h)∧((bif (decide (u0≥6)) then(decide (u0≤12)) else false)=false→R (vi (-1)) h))))))
theorem ok_expr_Arity {u0 h R}(H:VC_expr_Arity u0 h R):CallOK Tryz.prog 64 [vi u0] h R:=
 call_of (cfg:=⟨[],[],[]⟩) noNG mixed Tryz.func64 [.one (.v (vi u0))] (by kernel_rfl) rfl (by kernel_rfl) H
def VC_expr_field (u0:Int)(u1:Int)(u2:Int)(u3:Int)(u4:Int)(u5:Int)(u6:Int)(u7:Int)(h:Hp)(R:Value→Hp→Prop):Prop:=
 (CallOK Tryz.prog 142 [vi u0] h fun v1 h2=>∃ x3 x4,v1=(vag [vi x3,vi x4])∧(∃ x5 x6,(Rd Tryz.prog (Instr.index 205 (vag [vi x3,vi x4,vi u1,vi u2,vi u3,vi u4,vi u5,vi u6]) (vi u7)) h2 (vag [vi x5,vi x6]))∧R (vag [vi x5,vi x6]) h2))
theorem ok_expr_field {u0 u1 u2 u3 u4 u5 u6 u7 h R}(H:VC_expr_field u0 u1 u2 u3 u4 u5 u6 u7 h R):CallOK Tryz.prog 94 [vag [vi u0,vi u1,vi u2,vi u3,vi u4,vi u5,vi u6],vi u7] h R:=
 call_of (cfg:=⟨[],[],[(1,[0,1,3,4,5,6,7,8,10,2,9,11,12])]⟩) noNG mixed Tryz.func94 [.ag [.v (vi u0),.v (vi u1),.v (vi u2),.v (vi u3),.v (vi u4),.v (vi u5),.v (vi u6)],.one (.v (vi u7))] (by kernel_rfl) rfl (by kernel_rfl) H
def VC_expr_Eval (u0:Option Addr)(u1 u2:Nat)(u3:Int)(u4:Int)(u5:Int)(u6:Int)(u7:Int)(u8:Int)(u9:Int)(h:Hp)(R:Value→Hp→Prop):Prop:=
 (SemOK Tryz.prog (Instr.makeSlice 70 (vi (u1:Int)) (vi (u1:Int))) h fun v1 h2=>∃ a3 n3 c3,v1=(vsl a3 n3 c3)∧(∃(I5:List Value→Hp→Prop) (m6:List Value→Hp→Nat),I5 [vi 0] h2∧∀ vs7 h8,I5 vs7 h8→∃ x9,vs7=[vi x9]∧(((decide (x9 < (u1:Int)))=true→(let J83:Hp→Prop:=fun h84=>(∃ x85,(IsW x85 (x9+1))∧(I5 [vi x85] h84∧m6 [vi x85] h84 < m6 vs7 h8));(∃ b12 o13,(u0=some ⟨b12,o13,none⟩∧(0:Int)≤x9∧x9 < (u1:Int))∧(∃ x14 x15 x16 x17 x18 x19,(Hp.row h8 b12 (o13+x9.toNat*6) 6=some [vi x14,vi x15,vi x16,vi x17,vi x18,vi x19])∧(((decide (x14=1))=true→(∃ b20 o21,(a3=some ⟨b20,o21,none⟩∧(0:Int)≤x9∧x9 < (n3:Int))∧(Hp.store h8 b20 (o21+x9.toNat*2) [vi x18,vi x19] fun h22=>(J83 h22))))∧((decide (x14=1))=false→(((decide (x14=2))=true→(CallOK Tryz.prog 94 [vag [vi u3,vi u4,vi u5,vi u6,vi u7,vi u8,vi u9],vi x17] h8 fun v24 h25=>∃ x26 x27,v24=(vag [vi x26,vi x27])∧(∃ b28 o29,(a3=some ⟨b28,o29,none⟩∧(0:Int)≤x9∧x9 < (n3:Int))∧(Hp.store h25 b28 (o29+x9.toNat*2) [vi x26,vi x27] fun h30=>(J83 h30)))))∧((decide (x14=2))=false→(((decide (x14=3))=true→(∃ b32 o33,(a3=some ⟨b32,o33,none⟩∧(0:Int)≤x15∧x15 < (n3:Int))∧(∃ x34 x35,(Hp.row h8 b32 (o33+x15.toNat*2) 2=some [vi x34,vi x35])∧(CallOK Tryz.prog 95 [vag [vi x34,vi x35]] h8 fun v36 h37=>∃ x38 x39,v36=(vag [vi x38,vi x39])∧(∃ b40 o41,(a3=some ⟨b40,o41,none⟩∧(0:Int)≤x9∧x9 < (n3:Int))∧(Hp.store h37 b40 (o41+x9.toNat*2) [vi x38,vi x39] fun h42=>(J83 h42)))))))∧((decide (x14=3))=false→(((decide (x14=4))=true→(∃ b44 o45,(a3=some ⟨b44,o45,none⟩∧(0:Int)≤x15∧x15 < (n3:Int))∧(∃ x46 x47,(Hp.row h8 b44 (o45+x15.toNat*2) 2=some [vi x46,vi x47])∧(CallOK Tryz.prog 96 [vag [vi x46,vi x47]] h8 fun v48 h49=>∃ x50 x51,v48=(vag [vi x50,vi x51])∧(∃ b52 o53,(a3=some ⟨b52,o53,none⟩∧(0:Int)≤x9∧x9 < (n3:Int))∧(Hp.store h49 b52 (o53+x9.toNat*2) [vi x50,vi x51] fun h54=>(J83 h54)))))))∧((decide (x14=4))=false→(((decide (x14=5))=true→(∃ b56 o57,(a3=some ⟨b56,o57,none⟩∧(0:Int)≤x15∧x15 < (n3:Int))∧(∃ x58,(Hp.cell h8 b56 (o57+x15.toNat*2)=some (vi x58))∧(CallOK Tryz.prog 32 [(vb (decide (x58=0)))] h8 fun v59 h60=>∃ x61 x62,v59=(vag [vi x61,vi x62])∧(∃ b63 o64,(a3=some ⟨b63,o64,none⟩∧(0:Int)≤x9∧x9 < (n3:Int))∧(Hp.store h60 b63 (o64+x9.toNat*2) [vi x61,vi x62] fun h65=>(J83 h65)))))))∧((decide (x14=5))=false→(∃ b67 o68,(a3=some ⟨b67,o68,none⟩∧(0:Int)≤x15∧x15 < (n3:Int))∧(∃ x69 x70,(Hp.row h8 b67 (o68+x15.toNat*2) 2=some [vi x69,vi x70])∧(∃ b71 o72,(a3=some ⟨b71,o72,none⟩∧(0:Int)≤x16∧x16 < (n3:Int))∧(∃ x73 x74,(Hp.row h8 b71 (o72+x16.toNat*2) 2=some [vi x73,vi x74])∧(CallOK Tryz.prog 97 [vi x14,vag [vi x69,vi x70],vag [vi x73,vi x74]] h8 fun v75 h76=>∃ x77 x78,v75=(vag [vi x77,vi x78])∧(∃ b79 o80,(a3=some ⟨b79,o80,none⟩∧(0:Int)≤x9∧x9 < (n3:Int))∧(Hp.store h76 b79 (o80+x9.toNat*2) [vi x77,vi x78] fun h81=>(J83 h81))))))))))))))))))))))∧((decide (x9 < (u1:Int)))=false→(∃ x86,(IsW x86 ((n3:Int) - 1))∧(∃ b87 o88,(a3=some ⟨b87,o88,none⟩∧(0:Int)≤x86∧x86 < (n3:Int))∧(∃ x89 x90,(Hp.row h8 b87 (o88+x86.toNat*2) 2=some [vi x89,vi x90])∧R (vag [vi x89,vi x90]) h8)))))))
theorem ok_expr_Eval {u0 u1 u2 u3 u4 u5 u6 u7 u8 u9 h R}(H:VC_expr_Eval u0 u1 u2 u3 u4 u5 u6 u7 u8 u9 h R):CallOK Tryz.prog 45 [vsl u0 u1 u2,vag [vi u3,vi u4,vi u5,vi u6,vi u7,vi u8,vi u9]] h R:=
 call_of (cfg:=⟨[],[(3,([13],[.one (.int .i64)],[]))],[(6,[0,1,2,3,4,5,6,7,8,9,10,11,12,13,14,15,16])]⟩) noNG mixed Tryz.func45 [.one (.v (vsl u0 u1 u2)),.ag [.v (vi u3),.v (vi u4),.v (vi u5),.v (vi u6),.v (vi u7),.v (vi u8),.v (vi u9)]] (by kernel_rfl) rfl (by kernel_rfl) H
def VC_expr_join (u0:Int)(u1:Int)(h:Hp)(R:Value→Hp→Prop):Prop:=
 (((decide (u0=0))=true→R (vtup [vi u1,vb true]) h)∧((decide (u0=0))=false→(let J3:Bool→Prop:=fun p4=>((p4=true→R (vtup [vi u0,vb true]) h)∧(p4=false→R (vtup [vi 0,vb false]) h));(((decide (u1=0))=true→(J3 (decide (u1=0))))∧((decide (u1=0))=false→(J3 (decide (u0=u1))))))))
theorem ok_expr_join {u0 u1 h R}(H:VC_expr_join u0 u1 h R):CallOK Tryz.prog 152 [vi u0,vi u1] h R:=
 call_of (cfg:=⟨[],[],[]⟩) noNG mixed Tryz.func152 [.one (.v (vi u0)),.one (.v (vi u1))] (by kernel_rfl) rfl (by kernel_rfl) H
def VC_expr_Type (u0:Option Addr)(u1 u2:Nat)(h:Hp)(R:Value→Hp→Prop):Prop:=
 (SemOK Tryz.prog (Instr.makeSlice 50 (vi (u1:Int)) (vi (u1:Int))) h fun v1 h2=>∃ a3 n3 c3,v1=(vsl a3 n3 c3)∧(∃(I5:List Value→Hp→Prop) (m6:List Value→Hp→Nat),I5 [vi 0] h2∧∀ vs7 h8,I5 vs7 h8→∃ x9,vs7=[vi x9]∧(((decide (x9 < (u1:Int)))=true→(let J95:Hp→Prop:=fun h96=>(∃ x97,(IsW x97 (x9+1))∧(I5 [vi x97] h96∧m6 [vi x97] h96 < m6 vs7 h8));(∃ b12 o13,(u0=some ⟨b12,o13,none⟩∧(0:Int)≤x9∧x9 < (u1:Int))∧(∃ x14 x15 x16 x17 x18 x19,(Hp.row h8 b12 (o13+x9.toNat*6) 6=some [vi x14,vi x15,vi x16,vi x17,vi x18,vi x19])∧(let J39:Int→Prop:=fun x60=>(CallOK Tryz.prog 64 [vi x14] h8 fun v61 h62=>∃ x63,v61=(vi x63)∧(∀ b64,h62 b64=none→let h65:= Hp.set h62 b64 (cellsO [vi x15,vi x16] 3);(∃ a66 n66 c66,(Rd Tryz.prog (Instr.sliceAt 50 (vsl (some (⟨b64,0,none⟩:Addr)) 2 2) none (some (vi x63)) none) h65 (vsl a66 n66 c66))∧(∃(I68:List Value→Hp→Prop) (m69:List Value→Hp→Nat),I68 [vi 0] h65∧∀ vs70 h71,I68 vs70 h71→∃ x72,vs70=[vi x72]∧(((decide (x72 < (n66:Int)))=true→(∃ b75 o76,(a66=some ⟨b75,o76,none⟩∧(0:Int)≤x72∧x72 < (n66:Int))∧(∃ x77,(Hp.cell h71 b75 (o76+x72.toNat*1)=some (vi x77))∧(∃ b78 o79,(a3=some ⟨b78,o79,none⟩∧(0:Int)≤x77∧x77 < (n3:Int))∧(∃ x80,(Hp.cell h71 b78 (o79+x77.toNat*1)=some (vi x80))∧(CallOK Tryz.prog 152 [vi x60,vi x80] h71 fun v81 h82=>∃ x83 p84,v81=(vtup [vi x83,vb p84])∧(((!p84)=true→R (vtup [vi 0,(ifv (some (99,(vi 3))))]) h82)∧((!p84)=false→(∃ x86,(IsW x86 (x72+1))∧(I68 [vi x86] h82∧m69 [vi x86] h82 < m69 vs70 h71))))))))))∧((decide (x72 < (n66:Int)))=false→(∃ b87 o88,(a3=some ⟨b87,o88,none⟩∧(0:Int)≤x9∧x9 < (n3:Int))∧(Hp.store h71 b87 (o88+x9.toNat*1) [vi x60] fun h89=>(((bif (decide (x14=11)) then true else(decide (x14=12)))=true→(∃ b90 o91,(a3=some ⟨b90,o91,none⟩∧(0:Int)≤x9∧x9 < (n3:Int))∧(Hp.store h89 b90 (o91+x9.toNat*1) [vi 2] fun h92=>(J95 h92))))∧((bif (decide (x14=11)) then true else(decide (x14=12)))=false→(J95 h89)))))))))));(((decide (x14=1))=true→(∃ b20 o21,(a3=some ⟨b20,o21,none⟩∧(0:Int)≤x9∧x9 < (n3:Int))∧(Hp.store h8 b20 (o21+x9.toNat*1) [vi x18] fun h22=>(J95 h22))))∧((decide (x14=1))=false→(((decide (x14=2))=true→(∃ b24 o25,(a3=some ⟨b24,o25,none⟩∧(0:Int)≤x9∧x9 < (n3:Int))∧(Hp.store h8 b24 (o25+x9.toNat*1) [vi 1] fun h26=>(J95 h26))))∧((decide (x14=2))=false→(((decide (x14=5))=true→(∃ b28 o29,(a3=some ⟨b28,o29,none⟩∧(0:Int)≤x9∧x9 < (n3:Int))∧(Hp.store h8 b28 (o29+x9.toNat*1) [vi 2] fun h30=>(J95 h30))))∧((decide (x14=5))=false→(let J35:Bool→Prop:=fun p36=>((p36=true→(J39 2))∧(p36=false→(J39 1)));(((decide (x14=4))=true→(J35 (decide (x14=4))))∧((decide (x14=4))=false→(((decide (x14=9))=true→(J35 (decide (x14=9))))∧((decide (x14=9))=false→(J35 (decide (x14=10)))))))))))))))))))∧((decide (x9 < (u1:Int)))=false→(∃ x98,(IsW x98 ((n3:Int) - 1))∧(∃ b99 o100,(a3=some ⟨b99,o100,none⟩∧(0:Int)≤x98∧x98 < (n3:Int))∧(∃ x101,(Hp.cell h8 b99 (o100+x98.toNat*1)=some (vi x101))∧R (vtup [vi x101,ifv none]) h8)))))))
theorem ok_expr_Type {u0 u1 u2 h R}(H:VC_expr_Type u0 u1 u2 h R):CallOK Tryz.prog 119 [vsl u0 u1 u2] h R:=
 call_of (cfg:=⟨[],[(18,([56],[.one (.int .i64)],[])),(3,([17],[.one (.int .i64)],[]))],[(17,[0,1,2,3,5,6,10,7,4,8,9])]⟩) noNG mixed Tryz.func119 [.one (.v (vsl u0 u1 u2))] (by kernel_rfl) rfl (by kernel_rfl) H
def VC_expr_Cut (u0:Option Addr)(u1 u2:Nat)(u3:Int)(h:Hp)(R:Value→Hp→Prop):Prop:=
 (∃ b1 o2,(u0=some ⟨b1,o2,none⟩∧(0:Int)≤u3∧u3 < (u1:Int))∧(∃ x3,(Hp.cell h b1 (o2+u3.toNat*6)=some (vi x3))∧(CallOK Tryz.prog 64 [vi x3] h fun v4 h5=>∃ x6,v4=(vi x6)∧(∃(I8:List Value→Hp→Prop) (m9:List Value→Hp→Nat),I8 [vi u3,vi x6] h5∧∀ vs10 h11,I8 vs10 h11→∃ x12 x13,vs10=[vi x12,vi x13]∧(((decide (x13 > 0))=true→(∃ x16,(IsW x16 (x12 - 1))∧(∃ b17 o18,(u0=some ⟨b17,o18,none⟩∧(0:Int)≤x16∧x16 < (u1:Int))∧(∃ x19,(Hp.cell h11 b17 (o18+x16.toNat*6)=some (vi x19))∧(CallOK Tryz.prog 64 [vi x19] h11 fun v20 h21=>∃ x22,v20=(vi x22)∧(∃ x23,(IsW x23 (x22 - 1))∧(∃ x24,(IsW x24 (x13+x23))∧(I8 [vi x16,vi x24] h21∧m9 [vi x16,vi x24] h21 < m9 vs10 h11))))))))∧((decide (x13 > 0))=false→(∃ x25,(IsW x25 (u3+1))∧(∃ a26 n26 c26,(Rd Tryz.prog (Instr.sliceAt 26 (vsl u0 u1 u2) (some (vi x12)) (some (vi x25)) none) h11 (vsl a26 n26 c26))∧(CallOK Tryz.prog 150 [vsl a26 n26 c26] h11 fun v27 h28=>∃ a29 n29 c29,v27=(vsl a29 n29 c29)∧(∃(I31:List Value→Hp→Prop) (m32:List Value→Hp→Nat),I31 [vi 0] h28∧∀ vs33 h34,I31 vs33 h34→∃ x35,vs33=[vi x35]∧(((decide (x35 < (n29:Int)))=true→(let J70:Hp→Prop:=fun h71=>(∃ x72,(IsW x72 (x35+1))∧(I31 [vi x72] h71∧m32 [vi x72] h71 < m32 vs33 h34));(∃ b38 o39,(a29=some ⟨b38,o39,none⟩∧(0:Int)≤x35∧x35 < (n29:Int))∧(∃ x40,(Hp.cell h34 b38 (o39+x35.toNat*6)=some (vi x40))∧(CallOK Tryz.prog 64 [vi x40] h34 fun v41 h42=>∃ x43,v41=(vi x43)∧(let J53:Hp→Prop:=fun h54=>(∃ b55 o56,(a29=some ⟨b55,o56,none⟩∧(0:Int)≤x35∧x35 < (n29:Int))∧(∃ x57,(Hp.cell h54 b55 (o56+x35.toNat*6)=some (vi x57))∧(CallOK Tryz.prog 64 [vi x57] h54 fun v58 h59=>∃ x60,v58=(vi x60)∧(((decide (x60 > 1))=true→(∃ b61 o62,(a29=some ⟨b61,o62,none⟩∧(0:Int)≤x35∧x35 < (n29:Int))∧(∃ x63,(Hp.cell h59 b61 ((o62+x35.toNat*6)+2)=some (vi x63))∧(∃ x64,(IsW x64 (x63 - x12))∧(∃ b65 o66,(a29=some ⟨b65,o66,none⟩∧(0:Int)≤x35∧x35 < (n29:Int))∧(Hp.store h59 b65 ((o66+x35.toNat*6)+2) [vi x64] fun h67=>(J70 h67)))))))∧((decide (x60 > 1))=false→(J70 h59))))));(((decide (x43 > 0))=true→(∃ b44 o45,(a29=some ⟨b44,o45,none⟩∧(0:Int)≤x35∧x35 < (n29:Int))∧(∃ x46,(Hp.cell h42 b44 ((o45+x35.toNat*6)+1)=some (vi x46))∧(∃ x47,(IsW x47 (x46 - x12))∧(∃ b48 o49,(a29=some ⟨b48,o49,none⟩∧(0:Int)≤x35∧x35 < (n29:Int))∧(Hp.store h42 b48 ((o49+x35.toNat*6)+1) [vi x47] fun h50=>(J53 h50)))))))∧((decide (x43 > 0))=false→(J53 h42)))))))))∧((decide (x35 < (n29:Int)))=false→R (vsl a29 n29 c29) h34))))))))))))
theorem ok_expr_Cut {u0 u1 u2 u3 h R}(H:VC_expr_Cut u0 u1 u2 u3 h R):CallOK Tryz.prog 114 [vsl u0 u1 u2,vi u3] h R:=
 call_of (cfg:=⟨[],[(2,([5,6],[.one (.int .i64),.one (.int .i64)],[])),(7,([37],[.one (.int .i64)],[]))],[]⟩) noNG mixed Tryz.func114 [.one (.v (vsl u0 u1 u2)),.one (.v (vi u3))] (by kernel_rfl) rfl (by kernel_rfl) H
def VC_expr_Join (u0:Int)(u1:Option Addr)(u2 u3:Nat)(u4:Option Addr)(u5 u6:Nat)(h:Hp)(R:Value→Hp→Prop):Prop:=
 (CallOK Tryz.prog 150 [vsl u1 u2 u3] h fun v1 h2=>∃ a3 n3 c3,v1=(vsl a3 n3 c3)∧(∃ x4,(IsW x4 ((u2:Int) - 1))∧(∃(I6:List Value→Hp→Prop) (m7:List Value→Hp→Nat),I6 [vsl a3 n3 c3,vi 0] h2∧∀ vs8 h9,I6 vs8 h9→∃ a10 n10 c10 x11,vs8=[vsl a10 n10 c10,vi x11]∧(((decide (x11 < (u5:Int)))=true→(∃ b14 o15,(u4=some ⟨b14,o15,none⟩∧(0:Int)≤x11∧x11 < (u5:Int))∧(∃ x16 x17 x18 x19 x20 x21,(Hp.row h9 b14 (o15+x11.toNat*6) 6=some [vi x16,vi x17,vi x18,vi x19,vi x20,vi x21])∧(CallOK Tryz.prog 64 [vi x16] h9 fun v22 h23=>∃ x24,v22=(vi x24)∧(let J28:Int→Prop:=fun x38=>(CallOK Tryz.prog 64 [vi x16] h23 fun v39 h40=>∃ x41,v39=(vi x41)∧(let J45:Int→Prop:=fun x48=>(∀ b49,h40 b49=none→let h50:= Hp.set h40 b49 (cellsO [vi x16,vi x38,vi x48,vi x19,vi x20,vi x21] 83);(SemOK Tryz.prog (Builtin.append_ #[26,26] 26 #[vsl a10 n10 c10,(vsl (some (⟨b49,0,none⟩:Addr)) 1 1)]) h50 fun v51 h52=>∃ a53 n53 c53,v51=(vsl a53 n53 c53)∧(∃ x55,(IsW x55 (x11+1))∧(I6 [vsl a53 n53 c53,vi x55] h52∧m7 [vsl a53 n53 c53,vi x55] h52 < m7 vs8 h9))));(((decide (x41 > 1))=true→(∃ x42,(IsW x42 (x18+(u2:Int)))∧(J45 x42)))∧((decide (x41 > 1))=false→(J45 x18)))));(((decide (x24 > 0))=true→(∃ x25,(IsW x25 (x17+(u2:Int)))∧(J28 x25)))∧((decide (x24 > 0))=false→(J28 x17))))))))∧((decide (x11 < (u5:Int)))=false→(CallOK Tryz.prog 64 [vi u0] h9 fun v56 h57=>∃ x58,v56=(vi x58)∧(let J62:Int→Prop:=fun x65=>(∀ b66,h57 b66=none→let h67:= Hp.set h57 b66 (cellsO [vi u0,vi x4,vi x65,vi 0,vi 0,vi 0] 83);(SemOK Tryz.prog (Builtin.append_ #[26,26] 26 #[vsl a10 n10 c10,(vsl (some (⟨b66,0,none⟩:Addr)) 1 1)]) h67 fun v68 h69=>∃ a70 n70 c70,v68=(vsl a70 n70 c70)∧R (vsl a70 n70 c70) h69));(((decide (x58 > 1))=true→(∃ x59,(IsW x59 ((n10:Int) - 1))∧(J62 x59)))∧((decide (x58 > 1))=false→(J62 0))))))))))
theorem ok_expr_Join {u0 u1 u2 u3 u4 u5 u6 h R}(H:VC_expr_Join u0 u1 u2 u3 u4 u5 u6 h R):CallOK Tryz.prog 112 [vi u0,vsl u1 u2 u3,vsl u4 u5 u6] h R:=
 call_of (cfg:=⟨[],[(4,([7,20],[.one (.slice),.one (.int .i64)],[]))],[]⟩) noNG mixed Tryz.func112 [.one (.v (vi u0)),.one (.v (vsl u1 u2 u3)),.one (.v (vsl u4 u5 u6))] (by kernel_rfl) rfl (by kernel_rfl) H
def VC_slices_Clone_api_Node_api_Node (u0:Option Addr)(u1 u2:Nat)(h:Hp)(R:Value→Hp→Prop):Prop:=
 (∃ p1,(Rd Tryz.prog ((eqGuard .eql 26 (.tmp 3) (.const (vsl none 0 0)) (vsl u0 u1 u2) (vsl none 0 0) >>= fun _=>binOp .eql 26 (vsl u0 u1 u2) (vsl none 0 0))) h (vb p1))∧((p1=true→R (vsl none 0 0) h)∧(p1=false→(∀ b3,h b3=none→let h4:= Hp.set h b3 (cellsO [] 83);(SemOK Tryz.prog (Builtin.append_ #[26,26] 26 #[(vsl (some (⟨b3,0,none⟩:Addr)) 0 0),vsl u0 u1 u2]) h4 fun v5 h6=>∃ a7 n7 c7,v5=(vsl a7 n7 c7)∧R (vsl a7 n7 c7) h6)))))
theorem ok_slices_Clone_api_Node_api_Node {u0 u1 u2 h R}(H:VC_slices_Clone_api_Node_api_Node u0 u1 u2 h R):CallOK Tryz.prog 150 [vsl u0 u1 u2] h R:=
 call_of (cfg:=⟨[],[],[]⟩) noNG mixed Tryz.func150 [.one (.v (vsl u0 u1 u2))] (by kernel_rfl) rfl (by kernel_rfl) H
def VC_R_Arity (u0:Int)(h:Hp)(R:Value→Hp→Prop):Prop:=
 (((bif (decide (u0=1)) then true else(decide (u0=2)))=true→R (vi 0) h)∧((bif (decide (u0=1)) then true else(decide (u0=2)))=false→(((bif (decide (u0≥3)) then(decide (u0≤5)) else false)=true→R (vi 1) h)∧((bif (decide (u0≥3)) then(decide (u0≤5)) else false)=false→(((bif (decide (u0≥6)) then(decide (u0≤12)) else false)=true→R (vi 2) h)∧((bif (decide (u0≥6)) then(decide (u0≤12)) else false)=false→R (vi (-1)) h))))))
theorem ok_R_Arity {u0 h R}(H:VC_R_Arity u0 h R):CallOK Tryz.prog 169 [vi u0] h R:=
 call_of (cfg:=⟨[],[],[]⟩) noNG mixed Tryz.func169 [.one (.v (vi u0))] (by kernel_rfl) rfl (by kernel_rfl) H
def VC_R_ExprFault (u0:Option Addr)(u1 u2:Nat)(h:Hp)(R:Value→Hp→Prop):Prop:=
 (((decide ((u1:Int) > 40))=true→R (vi 2) h)∧((decide ((u1:Int) > 40))=false→(∃(I3:List Value→Hp→Prop) (m4:List Value→Hp→Nat),I3 [vsl none 0 0,vi 0] h∧∀ vs5 h6,I3 vs5 h6→∃ a7 n7 c7 x8,vs5=[vsl a7 n7 c7,vi x8]∧(((decide (x8 < (u1:Int)))=true→(∃ b11 o12,(u0=some ⟨b11,o12,none⟩∧(0:Int)≤x8∧x8 < (u1:Int))∧(∃ x13 x14 x15 x16 x17 x18,(Hp.row h6 b11 (o12+x8.toNat*6) 6=some [vi x13,vi x14,vi x15,vi x16,vi x17,vi x18])∧(CallOK Tryz.prog 169 [vi x13] h6 fun v19 h20=>∃ x21,v19=(vi x21)∧(((decide (x21 < 0))=true→R (vi 3) h20)∧((decide (x21 < 0))=false→(((bif (bif (bif (bif (decide (x13≠1)) then(bif (decide (x17≠0)) then true else(decide (x18≠0))) else false) then true else(bif (decide (x13≠2)) then(decide (x16≠0)) else false)) then true else(bif (decide (x21 < 2)) then(decide (x15≠0)) else false)) then true else(bif (decide (x21 < 1)) then(decide (x14≠0)) else false))=true→R (vi 3) h20)∧((bif (bif (bif (bif (decide (x13≠1)) then(bif (decide (x17≠0)) then true else(decide (x18≠0))) else false) then true else(bif (decide (x13≠2)) then(decide (x16≠0)) else false)) then true else(bif (decide (x21 < 2)) then(decide (x15≠0)) else false)) then true else(bif (decide (x21 < 1)) then(decide (x14≠0)) else false))=false→(((bif (decide (x16 < 0)) then true else(decide (x16 > 3)))=true→R (vi 1) h20)∧((bif (decide (x16 < 0)) then true else(decide (x16 > 3)))=false→(CallOK Tryz.prog 43 [vag [vi x17,vi x18]] h20 fun v25 h26=>∃ x27,v25=(vi x27)∧(((decide (x27 > 0))=true→R (vi 3) h26)∧((decide (x27 > 0))=false→(∃ x29,(IsW x29 ((n7:Int) - x21))∧(∃ b30 o31,(((decide (x29 < 0))=false∧(decide (x21 > 0))=true)→(a7=some ⟨b30,o31,none⟩∧(0:Int)≤x29∧x29 < (n7:Int)))∧(∃ x32,(((decide (x29 < 0))=false∧(decide (x21 > 0))=true)→Hp.cell h26 b30 (o31+x29.toNat*1)=some (vi x32))∧(∃ x33,(((bif (decide (x29 < 0)) then true else(bif (decide (x21 > 0)) then(decide (x32≠x14)) else false))=false∧(decide (x21 > 1))=true)→IsW x33 (x29+1))∧(∃ b34 o35,(((bif (decide (x29 < 0)) then true else(bif (decide (x21 > 0)) then(decide (x32≠x14)) else false))=false∧(decide (x21 > 1))=true)→(a7=some ⟨b34,o35,none⟩∧(0:Int)≤x33∧x33 < (n7:Int)))∧(∃ x36,(((bif (decide (x29 < 0)) then true else(bif (decide (x21 > 0)) then(decide (x32≠x14)) else false))=false∧(decide (x21 > 1))=true)→Hp.cell h26 b34 (o35+x33.toNat*1)=some (vi x36))∧(((bif (bif (decide (x29 < 0)) then true else(bif (decide (x21 > 0)) then(decide (x32≠x14)) else false)) then true else(bif (decide (x21 > 1)) then(decide (x36≠x15)) else false))=true→R (vi 3) h26)∧((bif (bif (decide (x29 < 0)) then true else(bif (decide (x21 > 0)) then(decide (x32≠x14)) else false)) then true else(bif (decide (x21 > 1)) then(decide (x36≠x15)) else false))=false→(∃ a38 n38 c38,(Rd Tryz.prog (Instr.sliceAt 50 (vsl a7 n7 c7) none (some (vi x29)) none) h26 (vsl a38 n38 c38))∧(SemOK Tryz.prog (Builtin.append_ #[50,50] 50 #[vsl none 0 0,vsl a38 n38 c38]) h26 fun v39 h40=>∃ a41 n41 c41,v39=(vsl a41 n41 c41)∧(∀ b42,h40 b42=none→let h43:= Hp.set h40 b42 (cellsO [vi x8] 3);(SemOK Tryz.prog (Builtin.append_ #[50,50] 50 #[vsl a41 n41 c41,(vsl (some (⟨b42,0,none⟩:Addr)) 1 1)]) h43 fun v44 h45=>∃ a46 n46 c46,v44=(vsl a46 n46 c46)∧(∃ x48,(IsW x48 (x8+1))∧(I3 [vsl a46 n46 c46,vi x48] h45∧m4 [vsl a46 n46 c46,vi x48] h45 < m4 vs5 h6)))))))))))))))))))))))))))∧((decide (x8 < (u1:Int)))=false→(((decide ((n7:Int)≠1))=true→R (vi 3) h6)∧((decide ((n7:Int)≠1))=false→R (vi 0) h6)))))))
theorem ok_R_ExprFault {u0 u1 u2 h R}(H:VC_R_ExprFault u0 u1 u2 h R):CallOK Tryz.prog 171 [vsl u0 u1 u2] h R:=
 call_of (cfg:=⟨[],[(5,([3,4],[.one (.slice),.one (.int .i64)],[]))],[(18,[0,1,2,3,4,5,6,7,8,9,10,11,12,13,14,15,16,17,18,19,20,21,22,23,24,25,26,27,28])]⟩) noNG mixed Tryz.func171 [.one (.v (vsl u0 u1 u2))] (by kernel_rfl) rfl (by kernel_rfl) H
def VC_R_typeAt (u0:Option Addr)(u1 u2:Nat)(u3:Int)(h:Hp)(R:Value→Hp→Prop):Prop:=
 (∃ b1 o2,(u0=some ⟨b1,o2,none⟩∧(0:Int)≤u3∧u3 < (u1:Int))∧(∃ x3 x4 x5 x6 x7 x8,(Hp.row h b1 (o2+u3.toNat*6) 6=some [vi x3,vi x4,vi x5,vi x6,vi x7,vi x8])∧(((decide (x3=1))=true→R (vtup [vi x7,vb true]) h)∧((decide (x3=1))=false→(((decide (x3=2))=true→R (vtup [vi 1,vb true]) h)∧((decide (x3=2))=false→(CallOK Tryz.prog 193 [vsl u0 u1 u2,vi x4] h fun v11 h12=>∃ x13 p14,v11=(vtup [vi x13,vb p14])∧(CallOK Tryz.prog 169 [vi x3] h12 fun v15 h16=>∃ x17,v15=(vi x17)∧(let J24:Int→Bool→Hp→Prop:=fun x34 p35 h36=>(((bif (!p14) then true else(!p35))=true→R (vtup [vi 0,vb false]) h36)∧((bif (!p14) then true else(!p35))=false→(((decide (x3=5))=true→R (vtup [vi 2,vb true]) h36)∧((decide (x3=5))=false→(let J41:Int→Prop:=fun x42=>(((bif (bif (decide (x13≠0)) then(decide (x13≠x42)) else false) then true else(bif (decide (x34≠0)) then(decide (x34≠x42)) else false))=true→R (vtup [vi 0,vb false]) h36)∧((bif (bif (decide (x13≠0)) then(decide (x13≠x42)) else false) then true else(bif (decide (x34≠0)) then(decide (x34≠x42)) else false))=false→(let J46:Int→Prop:=fun x47=>R (vtup [vi x47,vb true]) h36;(((bif (decide (x3=11)) then true else(decide (x3=12)))=true→(J46 2))∧((bif (decide (x3=11)) then true else(decide (x3=12)))=false→(J46 x42))))));(((bif (bif (decide (x3=4)) then true else(decide (x3=9))) then true else(decide (x3=10)))=true→(J41 2))∧((bif (bif (decide (x3=4)) then true else(decide (x3=9))) then true else(decide (x3=10)))=false→(J41 1))))))));(((decide (x17=2))=true→(CallOK Tryz.prog 193 [vsl u0 u1 u2,vi x5] h16 fun v18 h19=>∃ x20 p21,v18=(vtup [vi x20,vb p21])∧(J24 x20 p21 h19)))∧((decide (x17=2))=false→(J24 x13 p14 h16))))))))))))
theorem ok_R_typeAt {u0 u1 u2 u3 h R}(H:VC_R_typeAt u0 u1 u2 u3 h R):CallOK Tryz.prog 193 [vsl u0 u1 u2,vi u3] h R:=
 call_of (cfg:=⟨[],[],[]⟩) noNG mixed Tryz.func193 [.one (.v (vsl u0 u1 u2)),.one (.v (vi u3))] (by kernel_rfl) rfl (by kernel_rfl) H
def VC_R_Type (u0:Option Addr)(u1 u2:Nat)(h:Hp)(R:Value→Hp→Prop):Prop:=
 (∃ x1,(IsW x1 ((u1:Int) - 1))∧(CallOK Tryz.prog 193 [vsl u0 u1 u2,vi x1] h fun v2 h3=>∃ x4 p5,v2=(vtup [vi x4,vb p5])∧(((!p5)=true→R (vtup [vi 0,vi 3]) h3)∧((!p5)=false→R (vtup [vi x4,vi 0]) h3))))
theorem ok_R_Type {u0 u1 u2 h R}(H:VC_R_Type u0 u1 u2 h R):CallOK Tryz.prog 172 [vsl u0 u1 u2] h R:=
 call_of (cfg:=⟨[],[],[]⟩) noNG mixed Tryz.func172 [.one (.v (vsl u0 u1 u2))] (by kernel_rfl) rfl (by kernel_rfl) H
def encN (n:Nd):List Value:=[vi n.op,vi n.x,vi n.y,vi n.n,vi n.v.1,vi n.v.2]
theorem encN_len (n:Nd):(encN n).length=6:=rfl
theorem one_encN (n:Nd):∀ u ∈ encN n,u.oneCell'=true:=by
 intro u hu
 simp [encN] at hu
 rcases hu with rfl|rfl|rfl|rfl|rfl|rfl<;>rfl
theorem one_nds (l:List Nd):∀ u ∈ l.flatMap encN,u.oneCell'=true:=by
 intro u hu
 obtain⟨v,_,hv⟩:=List.mem_flatMap.1 hu
 exact one_encN v u hv
theorem elNd:ElT Tryz.prog 26 83 6 48:=.of (by kernel_rfl) (by kernel_rfl) (by decide)
theorem R_Arity_ok {op:Int}{h:Hp}{R:Value→Hp→Prop}(hK:R (vi (arI op)) h):CallOK Tryz.prog 169 [vi op] h R:=by
 refine ok_R_Arity ?_
 unfold VC_R_Arity
 unfold arI at hK
 refine⟨fun e=>?_,fun e=>⟨fun e2=>?_,fun e2=>⟨fun e3=>?_,fun e3=>?_⟩⟩⟩
 ·rw [if_pos (by simp [Bool.cond_eq_ite] at e;omega)] at hK;exact hK
 ·rw [if_neg (by simp [Bool.cond_eq_ite] at e;omega),if_pos (by simp [Bool.cond_eq_ite] at e2;omega)] at hK;exact hK
 ·rw [if_neg (by simp [Bool.cond_eq_ite] at e;omega),if_neg (by simp [Bool.cond_eq_ite] at e2;omega),if_pos (by simp [Bool.cond_eq_ite] at e3;omega)] at hK;exact hK
 ·rw [if_neg (by simp [Bool.cond_eq_ite] at e;omega),if_neg (by simp [Bool.cond_eq_ite] at e2;omega),if_neg (by simp [Bool.cond_eq_ite] at e3;omega)] at hK;exact hK
theorem ne_pair (v:Int × Int):(v≠(0,0))=(v.1≠0∨v.2≠0):=by
 refine propext ⟨fun h=>?_,fun h e=>?_⟩
 ·by_cases h1:v.1=0
  ·by_cases h2:v.2=0
   ·exact absurd (Prod.ext h1 h2) h
   ·exact .inr h2
  ·exact .inl h1
 ·rw [e] at h;simp at h
theorem popN_some {n:Nd}{st s:List Int}(ha:0≤arI n.op)(h:popN n st=some s):(s.length:Int)=st.length - arI n.op∧st.reverse.take s.length=s.reverse:=by
 unfold popN at h
 rcases arI_range ha with h1|h1|h1
 ·rw [if_pos h1] at h
  cases h
  refine⟨by omega,?_⟩
  rw [List.take_of_length_le (by simp)]
 ·rw [if_neg (by omega),if_pos h1] at h
  match st,h with
  | a :: t,h=>
   simp only at h
   split at h
   ·cases h
    refine⟨by simp;omega,?_⟩
    rw [List.reverse_cons,List.take_left' (by simp)]
   ·cases h
 ·rw [if_neg (by omega),if_neg (by omega)] at h
  match st,h with
  | b :: a :: t,h=>
   simp only at h
   split at h
   ·cases h
    refine⟨by simp;omega,?_⟩
    rw [List.reverse_cons,List.reverse_cons,List.append_assoc,List.take_left' (by simp)]
   ·cases h
theorem chk_none {n:Nd}{l:List Nd}{st:List Int}{i:Nat}(h0:nodeF n=0)(h:popN n st=none):chkGo st i (n :: l)=3:=by
 rw [chkGo,if_neg (fun q=>q h0),h]
theorem chk_some {n:Nd}{l:List Nd}{st s:List Int}{i:Nat}(h0:nodeF n=0)(h:popN n st=some s):chkGo st i (n :: l)=chkGo (i :: s) (i+1) l:=by
 rw [chkGo,if_neg (fun q=>q h0),h]
theorem chk_fault {n:Nd}{l:List Nd}{st:List Int}{i:Nat}{f:Int}(h0:nodeF n=f)(hf:f≠0):chkGo st i (n :: l)=f:=by
 rw [chkGo,if_pos (by rw [h0];exact hf),h0]
theorem R_ExprFault_ok {a:Option Addr}{k c:Nat}{l:List Nd}{h:Hp}{R:Value→Hp→Prop}(S:SlP encN h a k l)(hK:∀ h',h.le h'→R (vi (exprF l)) h'):CallOK Tryz.prog 171 [vsl a k c] h R:=by
 refine ok_R_ExprFault ?_
 unfold VC_R_ExprFault
 have hk:=S.1
 subst hk
 refine⟨fun e=>?_,fun e=>?_⟩
 ·have:exprF l=2:=by unfold exprF;rw [if_pos (by have:=of_decide_eq_true e;omega)]
  rw [this] at hK;exact hK h (Hp.le_refl h)
 have h40:l.length≤40:=by have:=of_decide_eq_false e;omega
 have e1:exprF l=chkGo [] 0 l:=by unfold exprF;rw [if_neg (by omega)]
 rw [e1] at hK
 refine⟨fun vs hh=>∃(i:Nat) (a:Option Addr) (c:Nat) (st:List Int),vs=[vsl a st.length c,vi i]∧i≤l.length∧st.length≤i∧chkGo [] 0 l=chkGo st i (l.drop i)∧OwnV h hh 3 1 a st.length c (st.reverse.map vi),fun vs hh=>l.length - (vint vs 1).toNat,
  ⟨0,none,0,[],rfl,Nat.zero_le _,Nat.le_refl _,rfl,OwnV.nil (Hp.le_refl h) _ _⟩,?_⟩
 rintro vs hh ⟨i,a1,c1,st,rfl,hi,hst,hc,O⟩
 refine⟨_,_,_,_,rfl,fun q=>?_,fun q=>?_⟩
 ·have hlt:i < l.length:=by have:=of_decide_eq_true q;omega
  have hx:l[i]?=some l[i]:=List.getElem?_eq_getElem hlt
  rw [drop_get hlt] at hc
  obtain⟨b,o,ha,hr⟩:=(S.le O.le).get encN_len (by decide) hx
  generalize l[i]=n at *
  refine⟨b,o,⟨ha,by omega,by omega⟩,_,_,_,_,_,_,hr,R_Arity_ok ⟨_,rfl,fun q2=>?_,fun q2=>⟨fun q3=>?_,fun q3=>⟨fun q4=>?_,fun q4=>R_ValueFault_ok (v:=n.v) ⟨_,rfl,fun q5=>?_,fun q5=>?_⟩⟩⟩⟩⟩
  ·have hf:nodeF n=3:=by unfold nodeF;rw [if_pos (of_decide_eq_true q2)]
   rw [chk_fault hf (by decide)] at hc
   rw [hc] at hK;exact hK hh O.le
  ·have c2:¬ arI n.op < 0:=of_decide_eq_false q2
   simp only [cand,cor] at q3
   have c3:=of_decide_eq_true q3
   have hf:nodeF n=3:=by unfold nodeF;rw [if_neg c2,if_pos (by rw [ne_pair];omega)]
   rw [chk_fault hf (by decide)] at hc
   rw [hc] at hK;exact hK hh O.le
  ·have c2:¬ arI n.op < 0:=of_decide_eq_false q2
   simp only [cand,cor] at q3 q4
   have c3:=of_decide_eq_false q3
   have c4:=of_decide_eq_true q4
   have hf:nodeF n=1:=by unfold nodeF;rw [if_neg c2,if_neg (by rw [ne_pair];omega),if_pos (by omega)]
   rw [chk_fault hf (by decide)] at hc
   rw [hc] at hK;exact hK hh O.le
  ·have c2:¬ arI n.op < 0:=of_decide_eq_false q2
   simp only [cand,cor] at q3 q4
   have c3:=of_decide_eq_false q3
   have c4:=of_decide_eq_false q4
   have hf:nodeF n=3:=by
    unfold nodeF;rw [if_neg c2,if_neg (by rw [ne_pair];omega),if_neg (by omega),if_pos]
    intro hg
    rw [if_pos hg] at q5
    cases q5
   rw [chk_fault hf (by decide)] at hc
   rw [hc] at hK;exact hK hh O.le
  have c2:¬ arI n.op < 0:=of_decide_eq_false q2
  simp only [cand,cor] at q3 q4
  have c3:=of_decide_eq_false q3
  have c4:=of_decide_eq_false q4
  have hf:nodeF n=0:=by
   unfold nodeF;rw [if_neg c2,if_neg (by rw [ne_pair];omega),if_neg (by omega),if_neg]
   intro hg
   rw [if_neg hg] at q5
   cases q5
  have har:0≤arI n.op:=by omega
  have SI:SlI hh a1 st.length st.reverse:=by have:=O.sli;exact this
  refine⟨_,isW (by unfold InR;rcases arI_range har with h|h|h<;>omega),?_⟩
  have hbad:popN n st=none→R (vi 3) hh:=fun hp=>by
   rw [chk_none hf hp] at hc
   rw [hc] at hK;exact hK hh O.le
  have hgood:∀ s,popN n st=some s→∀ x:Int,x=(st.length:Nat) - arI n.op→∀ K:Value→Hp→Prop,(∀(a46:Option Addr) (n46 c46:Nat) (h45:Hp),OwnV h h45 3 1 a46 n46 c46 ((((i:Int) :: s).reverse).map vi)→n46=s.length+1→K (vsl a46 n46 c46) h45) →
    ∃(a38:Option Addr) (n38 c38:Nat),(Rd Tryz.prog (Instr.sliceAt 50 (vsl a1 st.length c1) none (some (vi x)) none) hh (vsl a38 n38 c38))∧(SemOK Tryz.prog (Builtin.append_ #[50,50] 50 #[(vsl none 0 0),(vsl a38 n38 c38)]) hh fun v39 h40=>∃(a41:Option Addr) (n41 c41:Nat),v39=(vsl a41 n41 c41)∧(∀(b42:Nat),h40 b42=none→SemOK Tryz.prog (Builtin.append_ #[50,50] 50 #[(vsl a41 n41 c41),(vsl (some (⟨b42,0,none⟩:Addr)) 1 1)]) (Hp.set h40 b42 (cellsO [(vi i)] 3)) K)):=by
   intro s hs x hx K hK
   rw [hx]
   obtain⟨p1,p2⟩:=popN_some har hs
   have hcap:=O.own.cap
   rw [←p1]
   refine⟨_,_,_,rd_slice_h (e:=3) (by kernel_rfl) (by kernel_rfl) (by omega) (by omega),?_⟩
   rw [Int.toNat_natCast]
   have ST:SlI hh a1 s.length s.reverse:=by
    have:=SI.take (i:=s.length) (by omega)
    rw [p2] at this
    exact this
   refine OwnV.append elInt (OwnV.nil O.le _ _) ST.2 (m:=s.length) (by simp) (one_ints _) (by omega) (by omega) fun a' c' h' O' _ _=>⟨_,_,_,rfl,fun b42 hb42=>?_⟩
   rw [Nat.zero_add,List.nil_append] at *
   refine OwnV.append elInt (OwnV.set hb42 _ O') (HasRow.new _ _ [vi i] _) (m:=1) rfl (by simp [Value.oneCell']) (by omega) (by omega) fun a2 c2 h2 O2 _ _=>hK _ _ _ _ ?_ rfl
   rw [List.reverse_cons,List.map_append]
   exact O2
  have hnext:∀ s,popN n st=some s→∀(a46:Option Addr) (n46 c46:Nat) (h45:Hp),OwnV h h45 3 1 a46 n46 c46 ((((i:Int) :: s).reverse).map vi)→n46=s.length+1→∃(x48:Int),IsW x48 ((i:Int)+1)∧(∃(i':Nat) (a:Option Addr) (c:Nat) (st:List Int),[vsl a46 n46 c46,vi x48]=[vsl a st.length c,vi i']∧i'≤l.length∧st.length≤i'∧chkGo [] 0 l=chkGo st i' (l.drop i')∧OwnV h h45 3 1 a st.length c (st.reverse.map vi))∧l.length - (vint [vsl a46 n46 c46,vi x48] 1).toNat < l.length - (vint [vsl a1 st.length c1,vi i] 1).toNat:=by
   intro s hs a46 n46 c46 h45 O45 hn
   subst hn
   obtain⟨p1,p2⟩:=popN_some har hs
   refine⟨_,isW (by unfold InR;omega),⟨i+1,a46,c46,(i:Int) :: s,rfl,by omega,by simp;omega,?_,O45⟩,by simp [vint];omega⟩
   rw [hc,chk_some hf hs]
  rcases arI_range har with h0|h0|h0
  ·have hs:popN n st=some st:=by unfold popN;rw [if_pos h0]
   rw [h0]
   refine⟨0,0,fun g=>(by cases g.2),0,fun g=>(by cases g.2),0,fun g=>(by cases g.2),0,0,fun g=>(by cases g.2),0,fun g=>(by cases g.2),fun g=>?_,fun _=>hgood st hs _ (by rw [h0]) _ fun a46 n46 c46 h45 O e=>⟨_,_,_,rfl,hnext st hs a46 n46 c46 h45 O e⟩⟩
   exfalso
   simp only [cand,cor] at g
   have:=of_decide_eq_true g
   omega
  ·match st with
   | []=>
    have hs:popN n []=none:=by unfold popN;rw [if_neg (by omega),if_pos h0]
    have:=hbad hs
    rw [h0]
    exact⟨0,0,fun g=>(by cases g.1),0,fun g=>(by cases g.1),0,fun g=>(by cases g.1),0,0,fun g=>(by cases g.1),0,fun g=>(by cases g.1),fun _=>this,fun g=>(by cases g)⟩
   | z :: s=>
    obtain⟨q,p,hq,hcell⟩:=SI.get (i:=s.length) (by simp)
    have ez:((z :: s).reverse).getD s.length 0=z:=by
     rw [List.getD_eq_getElem?_getD,List.reverse_cons,List.getElem?_append_right (by simp)]
     simp
    rw [ez] at hcell
    have hx29:(((z :: s).length:Nat):Int) - arI n.op=(s.length:Nat):=by rw [h0];simp
    by_cases hz:z=n.x
    ·have hs:popN n (z :: s)=some s:=by unfold popN;rw [if_neg (by omega),if_pos h0];simp [hz]
     have hx30:=hx29
     rw [hx29,h0]
     refine⟨q,p,fun g=>⟨hq,by omega,by simp;omega⟩,z,fun g=>hcell,0,fun g=>(by cases g.2),0,0,fun g=>(by cases g.2),0,fun g=>(by cases g.2),fun g=>?_,fun _=>hgood s hs _ hx30.symm _ fun a46 n46 c46 h45 O e=>⟨_,_,_,rfl,hnext s hs a46 n46 c46 h45 O e⟩⟩
     exfalso
     simp only [cand,cor] at g
     have:=of_decide_eq_true g
     omega
    ·have hs:popN n (z :: s)=none:=by unfold popN;rw [if_neg (by omega),if_pos h0];simp [hz]
     have:=hbad hs
     rw [hx29,h0]
     refine⟨q,p,fun g=>⟨hq,by omega,by simp;omega⟩,z,fun g=>hcell,0,fun g=>(by cases g.2),0,0,fun g=>(by cases g.2),0,fun g=>(by cases g.2),fun _=>this,fun g=>?_⟩
     exfalso
     simp only [cand,cor] at g
     have:=of_decide_eq_false g
     omega
  ·match st with
   | []=>
    have hs:popN n []=none:=by unfold popN;rw [if_neg (by omega),if_neg (by omega)]
    have:=hbad hs
    rw [h0]
    exact⟨0,0,fun g=>(by cases g.1),0,fun g=>(by cases g.1),0,fun g=>(by cases g.1),0,0,fun g=>(by cases g.1),0,fun g=>(by cases g.1),fun _=>this,fun g=>(by cases g)⟩
   | [z]=>
    have hs:popN n [z]=none:=by unfold popN;rw [if_neg (by omega),if_neg (by omega)]
    have:=hbad hs
    rw [h0]
    exact⟨0,0,fun g=>(by cases g.1),0,fun g=>(by cases g.1),0,fun g=>(by cases g.1),0,0,fun g=>(by cases g.1),0,fun g=>(by cases g.1),fun _=>this,fun g=>(by cases g)⟩
   | z :: y :: s=>
    obtain⟨q,p,hq,hcell⟩:=SI.get (i:=s.length) (by simp;omega)
    obtain⟨q',p',hq',hcell'⟩:=SI.get (i:=s.length+1) (by simp)
    have ey:((z :: y :: s).reverse).getD s.length 0=y:=by
     rw [List.getD_eq_getElem?_getD,List.reverse_cons,List.reverse_cons,List.append_assoc,List.getElem?_append_right (by simp)]
     simp
    have ez:((z :: y :: s).reverse).getD (s.length+1) 0=z:=by
     rw [List.getD_eq_getElem?_getD,List.reverse_cons,List.reverse_cons,List.append_assoc,List.getElem?_append_right (by simp)]
     simp
    rw [ey] at hcell
    rw [ez] at hcell'
    have hx29:(((z :: y :: s).length:Nat):Int) - arI n.op=(s.length:Nat):=by rw [h0];simp;omega
    have hw:IsW (((s.length+1:Nat):Int)) ((s.length:Nat)+1):=isW (by have hst2:(z :: y :: s).length≤i:=hst;simp at hst2;unfold InR;omega)
    by_cases hz:y=n.x∧z=n.y
    ·have hs:popN n (z :: y :: s)=some s:=by unfold popN;rw [if_neg (by omega),if_neg (by omega)];simp [hz.1,hz.2]
     have hx30:=hx29
     rw [hx29,h0]
     refine⟨q,p,fun g=>⟨hq,by omega,by simp;omega⟩,y,fun g=>hcell,((s.length+1:Nat):Int),fun g=>hw,q',p',fun g=>⟨hq',by omega,by simp;omega⟩,z,fun g=>hcell',fun g=>?_,fun _=>hgood s hs _ hx30.symm _ fun a46 n46 c46 h45 O e=>⟨_,_,_,rfl,hnext s hs a46 n46 c46 h45 O e⟩⟩
     exfalso
     simp only [cand,cor] at g
     have:=of_decide_eq_true g
     omega
    ·have hs:popN n (z :: y :: s)=none:=by unfold popN;rw [if_neg (by omega),if_neg (by omega)];simp;intro h1 h2;exact hz ⟨h1,h2⟩
     have:=hbad hs
     rw [hx29,h0]
     refine⟨q,p,fun g=>⟨hq,by omega,by simp;omega⟩,y,fun g=>hcell,((s.length+1:Nat):Int),fun g=>hw,q',p',fun g=>⟨hq',by omega,by simp;omega⟩,z,fun g=>hcell',fun _=>this,fun g=>?_⟩
     exfalso
     simp only [cand,cor] at g
     have:=of_decide_eq_false g
     omega
 ·have hge:i=l.length:=by have:=of_decide_eq_false q;omega
  subst hge
  rw [List.drop_eq_nil_of_le (Nat.le_refl _),chkGo] at hc
  refine⟨fun q2=>?_,fun q2=>?_⟩
  ·rw [if_neg (by have:=of_decide_eq_true q2;omega)] at hc
   rw [hc] at hK;exact hK hh O.le
  ·rw [if_pos (by have:=of_decide_eq_false q2;omega)] at hc
   rw [hc] at hK;exact hK hh O.le
theorem expr_Arity_ok {op:Int}{h:Hp}{R:Value→Hp→Prop}(hK:R (vi (arI op)) h):CallOK Tryz.prog 64 [vi op] h R:=by
 refine ok_expr_Arity ?_
 unfold VC_expr_Arity
 unfold arI at hK
 refine⟨fun e=>?_,fun e=>⟨fun e2=>?_,fun e2=>⟨fun e3=>?_,fun e3=>?_⟩⟩⟩
 all_goals simp only [cand,cor] at *
 ·rw [if_pos (of_decide_eq_true e)] at hK;exact hK
 ·rw [if_neg (of_decide_eq_false e),if_pos (by have:=of_decide_eq_true e2;omega)] at hK;exact hK
 ·rw [if_neg (of_decide_eq_false e),if_neg (by have:=of_decide_eq_false e2;omega),if_pos (by have:=of_decide_eq_true e3;omega)] at hK;exact hK
 ·rw [if_neg (of_decide_eq_false e),if_neg (by have:=of_decide_eq_false e2;omega),if_neg (by have:=of_decide_eq_false e3;omega)] at hK;exact hK
def VC_R_valueAt (u0:Option Addr)(u1 u2:Nat)(u3:Int)(u4:Int)(u5:Int)(u6:Int)(u7:Int)(u8:Int)(u9:Int)(u10:Int)(h:Hp)(R:Value→Hp→Prop):Prop:=
 (∃ b1 o2,(u0=some ⟨b1,o2,none⟩∧(0:Int)≤u3∧u3 < (u1:Int))∧(∃ x3 x4 x5 x6 x7 x8,(Hp.row h b1 (o2+u3.toNat*6) 6=some [vi x3,vi x4,vi x5,vi x6,vi x7,vi x8])∧(((decide (x3=1))=true→R (vag [vi x7,vi x8]) h)∧((decide (x3=1))=false→(((decide (x3=2))=true→(((decide (x6=0))=true→(CallOK Tryz.prog 149 [vi u4] h fun v9 h10=>∃ x11 x12,v9=(vag [vi x11,vi x12])∧R (vag [vi x11,vi x12]) h10))∧((decide (x6=0))=false→(((decide (x6=1))=true→R (vag [vi u5,vi u6]) h)∧((decide (x6=1))=false→(((decide (x6=2))=true→R (vag [vi u7,vi u8]) h)∧((decide (x6=2))=false→R (vag [vi u9,vi u10]) h)))))))∧((decide (x3=2))=false→(((decide (x3=3))=true→(CallOK Tryz.prog 148 [vsl u0 u1 u2,vi x4,vag [vi u4,vi u5,vi u6,vi u7,vi u8,vi u9,vi u10]] h fun v16 h17=>∃ x18 x19,v16=(vag [vi x18,vi x19])∧(((decide (x18=1))=true→(∃ x20,(IsW x20 (-x19))∧(CallOK Tryz.prog 149 [vi x20] h17 fun v21 h22=>∃ x23 x24,v21=(vag [vi x23,vi x24])∧R (vag [vi x23,vi x24]) h22)))∧((decide (x18=1))=false→R (vag [vi 0,vi 0]) h17))))∧((decide (x3=3))=false→(((decide (x3=4))=true→(CallOK Tryz.prog 148 [vsl u0 u1 u2,vi x4,vag [vi u4,vi u5,vi u6,vi u7,vi u8,vi u9,vi u10]] h fun v26 h27=>∃ x28 x29,v26=(vag [vi x28,vi x29])∧(((decide (x28=2))=true→(CallOK Tryz.prog 177 [(vb (decide (x29=0)))] h27 fun v30 h31=>∃ x32 x33,v30=(vag [vi x32,vi x33])∧R (vag [vi x32,vi x33]) h31))∧((decide (x28=2))=false→R (vag [vi 0,vi 0]) h27))))∧((decide (x3=4))=false→(((decide (x3=5))=true→(CallOK Tryz.prog 148 [vsl u0 u1 u2,vi x4,vag [vi u4,vi u5,vi u6,vi u7,vi u8,vi u9,vi u10]] h fun v35 h36=>∃ x37 x38,v35=(vag [vi x37,vi x38])∧(CallOK Tryz.prog 177 [(vb (decide (x37=0)))] h36 fun v39 h40=>∃ x41 x42,v39=(vag [vi x41,vi x42])∧R (vag [vi x41,vi x42]) h40)))∧((decide (x3=5))=false→(CallOK Tryz.prog 148 [vsl u0 u1 u2,vi x4,vag [vi u4,vi u5,vi u6,vi u7,vi u8,vi u9,vi u10]] h fun v44 h45=>∃ x46 x47,v44=(vag [vi x46,vi x47])∧(CallOK Tryz.prog 148 [vsl u0 u1 u2,vi x5,vag [vi u4,vi u5,vi u6,vi u7,vi u8,vi u9,vi u10]] h45 fun v48 h49=>∃ x50 x51,v48=(vag [vi x50,vi x51])∧(CallOK Tryz.prog 178 [vi x3,vag [vi x46,vi x47],vag [vi x50,vi x51]] h49 fun v52 h53=>∃ x54 x55,v52=(vag [vi x54,vi x55])∧R (vag [vi x54,vi x55]) h53)))))))))))))))
theorem ok_R_valueAt {u0 u1 u2 u3 u4 u5 u6 u7 u8 u9 u10 h R}(H:VC_R_valueAt u0 u1 u2 u3 u4 u5 u6 u7 u8 u9 u10 h R):CallOK Tryz.prog 148 [vsl u0 u1 u2,vi u3,vag [vi u4,vi u5,vi u6,vi u7,vi u8,vi u9,vi u10]] h R:=
 call_of (cfg:=⟨[],[],[(26,[0,1,2,3,4,5,7,8,9,10,6,11,12,13])]⟩) noNG mixed Tryz.func148 [.one (.v (vsl u0 u1 u2)),.one (.v (vi u3)),.ag [.v (vi u4),.v (vi u5),.v (vi u6),.v (vi u7),.v (vi u8),.v (vi u9),.v (vi u10)]] (by kernel_rfl) rfl (by kernel_rfl) H
def VC_R_Eval (u0:Option Addr)(u1 u2:Nat)(u3:Int)(u4:Int)(u5:Int)(u6:Int)(u7:Int)(u8:Int)(u9:Int)(h:Hp)(R:Value→Hp→Prop):Prop:=
 (∃ x1,(IsW x1 ((u1:Int) - 1))∧(CallOK Tryz.prog 148 [vsl u0 u1 u2,vi x1,vag [vi u3,vi u4,vi u5,vi u6,vi u7,vi u8,vi u9]] h fun v2 h3=>∃ x4 x5,v2=(vag [vi x4,vi x5])∧R (vag [vi x4,vi x5]) h3))
theorem ok_R_Eval {u0 u1 u2 u3 u4 u5 u6 u7 u8 u9 h R}(H:VC_R_Eval u0 u1 u2 u3 u4 u5 u6 u7 u8 u9 h R):CallOK Tryz.prog 107 [vsl u0 u1 u2,vag [vi u3,vi u4,vi u5,vi u6,vi u7,vi u8,vi u9]] h R:=
 call_of (cfg:=⟨[],[],[]⟩) noNG mixed Tryz.func107 [.one (.v (vsl u0 u1 u2)),.ag [.v (vi u3),.v (vi u4),.v (vi u5),.v (vi u6),.v (vi u7),.v (vi u8),.v (vi u9)]] (by kernel_rfl) rfl (by kernel_rfl) H
section
variable {a:Option Addr}{m c:Nat}{l:List Nd}{h:Hp}
theorem R_valueAt_ok (S:SlP encN h a m l)(W:WfL l){e:EvL}:∀(k:Nat) (i:Int),i.toNat=k→0≤i→i < l.length→∀(R:Value→Hp→Prop),R (vag (encV (vAt e l i.toNat))) h→CallOK Tryz.prog 148 [vsl a m c,vi i,vag (encE e)] h R:=by
 intro k
 induction k using Nat.strongRecOn with
 | _ k ih=>
  intro i hik h0 h1 R hK
  refine ok_R_valueAt ?_
  unfold VC_R_valueAt
  have hm:=S.1
  have hx:l[i.toNat]?=some (l[i.toNat]'(by omega)):=List.getElem?_eq_getElem (by omega)
  have Wn:=W _ _ hx
  have hv:vAt e l i.toNat=_:=fAt_wf (own_stepF e) hx Wn
  rw [hv] at hK
  clear hv
  obtain⟨b,o,ha,hr⟩:=S.get encN_len (by decide) hx
  generalize l[i.toNat]'(by omega)=n at *
  have hX:1≤arI n.op→∀(R:Value→Hp→Prop),R (vag (encV (vAt e l n.x.toNat))) h→CallOK Tryz.prog 148 [vsl a m c,vi n.x,vag (encE e)] h R:=fun h2 R hR=>by
   have:=Wn.x h2
   exact ih n.x.toNat (by omega) n.x rfl (by omega) (by omega) R hR
  have hY:2≤arI n.op→∀(R:Value→Hp→Prop),R (vag (encV (vAt e l n.y.toNat))) h→CallOK Tryz.prog 148 [vsl a m c,vi n.y,vag (encE e)] h R:=fun h2 R hR=>by
   have:=Wn.y h2
   exact ih n.y.toNat (by omega) n.y rfl (by omega) (by omega) R hR
  have ar:=ar0 Wn.a
  have hfold:vAt e l=fAt (0,0) (stepF e) l:=rfl
  rw [←hfold] at hK
  generalize vAt e l n.x.toNat=vx at *
  generalize vAt e l n.y.toNat=vy at *
  unfold stepF at hK
  refine⟨b,o,⟨ha,h0,by omega⟩,_,_,_,_,_,_,hr,fun q=>?_,fun q1=>⟨fun q=>?_,fun q2=>⟨fun q=>?_,fun q3=>⟨fun q=>?_,fun q4=>⟨fun q=>?_,fun q5=>?_⟩⟩⟩⟩⟩
  ·rw [if_pos (of_decide_eq_true q)] at hK;exact hK
  ·rw [if_neg (of_decide_eq_false q1),if_pos (of_decide_eq_true q)] at hK
   unfold fieldV at hK
   refine⟨fun p=>?_,fun p=>⟨fun p2=>?_,fun p2=>⟨fun p3=>?_,fun p3=>?_⟩⟩⟩
   ·rw [if_pos (of_decide_eq_true p)] at hK;exact R_Num_ok ⟨_,_,rfl,hK⟩
   ·rw [if_neg (of_decide_eq_false p),if_pos (of_decide_eq_true p2)] at hK;exact hK
   ·rw [if_neg (of_decide_eq_false p),if_neg (of_decide_eq_false p2),if_pos (of_decide_eq_true p3)] at hK;exact hK
   ·rw [if_neg (of_decide_eq_false p),if_neg (of_decide_eq_false p2),if_neg (of_decide_eq_false p3)] at hK;exact hK
  ·rw [if_neg (of_decide_eq_false q1),if_neg (of_decide_eq_false q2),if_pos (of_decide_eq_true q)] at hK
   have:=of_decide_eq_true q
   refine hX (by omega) _ ⟨_,_,rfl,fun p=>?_,fun p=>?_⟩
   ·unfold negV at hK
    rw [if_pos (of_decide_eq_true p)] at hK
    exact⟨_,w64_isW _,R_Num_ok ⟨_,_,rfl,hK⟩⟩
   ·unfold negV at hK
    rw [if_neg (of_decide_eq_false p)] at hK
    exact hK
  ·rw [if_neg (of_decide_eq_false q1),if_neg (of_decide_eq_false q2),if_neg (of_decide_eq_false q3),if_pos (of_decide_eq_true q)] at hK
   have:=of_decide_eq_true q
   refine hX (by omega) _ ⟨_,_,rfl,fun p=>?_,fun p=>?_⟩
   ·unfold notV at hK
    rw [if_pos (of_decide_eq_true p)] at hK
    exact R_Truth_ok ⟨_,_,rfl,hK⟩
   ·unfold notV at hK
    rw [if_neg (of_decide_eq_false p)] at hK
    exact hK
  ·rw [if_neg (of_decide_eq_false q1),if_neg (of_decide_eq_false q2),if_neg (of_decide_eq_false q3),if_neg (of_decide_eq_false q4),if_pos (of_decide_eq_true q)] at hK
   have:=of_decide_eq_true q
   exact hX (by omega) _ ⟨_,_,rfl,R_Truth_ok ⟨_,_,rfl,hK⟩⟩
  ·have p1:=of_decide_eq_false q1
   have p2:=of_decide_eq_false q2
   have p3:=of_decide_eq_false q3
   have p4:=of_decide_eq_false q4
   have p5:=of_decide_eq_false q5
   rw [if_neg p1,if_neg p2,if_neg p3,if_neg p4,if_neg p5] at hK
   have h2:arI n.op=2:=by rcases arI_range Wn.a with h|h|h<;>omega
   exact hX (by omega) _ ⟨_,_,rfl,hY (by omega) _ ⟨_,_,rfl,R_Do_ok ⟨_,_,rfl,hK⟩⟩⟩
theorem R_Eval_ok (S:SlP encN h a m l)(W:WfL l)(hl:0 < l.length)(hm:l.length≤1000000){e:EvL}{R:Value→Hp→Prop}(hK:R (vag (encV (valE e l))) h):CallOK Tryz.prog 107 [vsl a m c,vag (encE e)] h R:=by
 refine ok_R_Eval ?_
 unfold VC_R_Eval
 have hm:=S.1
 refine⟨_,isW (by unfold InR;omega),R_valueAt_ok S W _ ((m:Int) - 1) rfl (by omega) (by omega) _ ⟨_,_,rfl,?_⟩⟩
 have e1:((m:Int) - 1).toNat=l.length - 1:=by omega
 rw [e1]
 exact hK
end
section
variable {a:Option Addr}{m c:Nat}{l:List Nd}{h:Hp}
theorem tyG_some (op a b:Int):tyG op (some a) (some b)=if op=5 then some 2 else if (a≠0∧a≠wantT op)∨(b≠0∧b≠wantT op) then none else if op=11∨op=12 then some 2 else some (wantT op):=rfl
def tyOut:Option Int→Value
 | some t=>vtup [vi t,vb true]
 | none=>vtup [vi 0,vb false]
theorem R_typeAt_ok (S:SlP encN h a m l)(W:WfL l):∀(k:Nat) (i:Int),i.toNat=k→0≤i→i < l.length→∀(R:Value→Hp→Prop),R (tyOut (tAt l i.toNat)) h→CallOK Tryz.prog 193 [vsl a m c,vi i] h R:=by
 intro k
 induction k using Nat.strongRecOn with
 | _ k ih=>
  intro i hik h0 h1 R hK
  refine ok_R_typeAt ?_
  unfold VC_R_typeAt
  have hm:=S.1
  have hx:l[i.toNat]?=some (l[i.toNat]'(by omega)):=List.getElem?_eq_getElem (by omega)
  have Wn:=W _ _ hx
  have hv:tAt l i.toNat=_:=fAt_wf own_tyF hx Wn
  rw [hv] at hK
  clear hv
  obtain⟨b,o,ha,hr⟩:=S.get encN_len (by decide) hx
  generalize l[i.toNat]'(by omega)=n at *
  have hX:1≤arI n.op→∀(R:Value→Hp→Prop),R (tyOut (tAt l n.x.toNat)) h→CallOK Tryz.prog 193 [vsl a m c,vi n.x] h R:=fun h2 R hR=>by
   have:=Wn.x h2
   exact ih n.x.toNat (by omega) n.x rfl (by omega) (by omega) R hR
  have hY:2≤arI n.op→∀(R:Value→Hp→Prop),R (tyOut (tAt l n.y.toNat)) h→CallOK Tryz.prog 193 [vsl a m c,vi n.y] h R:=fun h2 R hR=>by
   have:=Wn.y h2
   exact ih n.y.toNat (by omega) n.y rfl (by omega) (by omega) R hR
  have ar:=ar0 Wn.a
  have hfold:tAt l=fAt none tyF l:=rfl
  rw [←hfold] at hK
  generalize tAt l n.x.toNat=vx at *
  generalize tAt l n.y.toNat=vy at *
  refine⟨b,o,⟨ha,h0,by omega⟩,_,_,_,_,_,_,hr,fun q=>?_,fun q1=>⟨fun q=>?_,fun q2=>?_⟩⟩
  ·unfold tyF at hK
   rw [if_pos (of_decide_eq_true q)] at hK;exact hK
  ·unfold tyF at hK
   rw [if_neg (of_decide_eq_false q1),if_pos (of_decide_eq_true q)] at hK;exact hK
  have p1:=of_decide_eq_false q1
  have p2:=of_decide_eq_false q2
  rw [tyF_op p1 p2] at hK
  have h1:1≤arI n.op:=by rcases arI_range Wn.a with h|h|h<;>omega
  -- what is done once both kinds are there
  have hJ:∀(x:Option Int) (p14 p35:Bool) (x13 x34:Int),tyOut vx=vtup [vi x13,vb p14]→tyOut x=vtup [vi x34,vb p35]→R (tyOut (tyG n.op vx x)) h →
    (((bif (!p14) then true else(!p35))=true→R (vtup [(vi 0),(vb false)]) h)∧((bif (!p14) then true else(!p35))=false→(((decide ((n.op:Int)=5))=true→R (vtup [(vi 2),(vb true)]) h)∧((decide ((n.op:Int)=5))=false→(let J41:Int→Prop:=fun(x42:Int)=>(((bif (bif (decide ((x13:Int)≠0)) then(decide ((x13:Int)≠x42)) else false) then true else(bif (decide ((x34:Int)≠0)) then(decide ((x34:Int)≠x42)) else false))=true→R (vtup [(vi 0),(vb false)]) h)∧((bif (bif (decide ((x13:Int)≠0)) then(decide ((x13:Int)≠x42)) else false) then true else(bif (decide ((x34:Int)≠0)) then(decide ((x34:Int)≠x42)) else false))=false→(let J46:Int→Prop:=fun(x47:Int)=>R (vtup [(vi x47),(vb true)]) h;(((bif (decide ((n.op:Int)=11)) then true else(decide ((n.op:Int)=12)))=true→(J46 2))∧((bif (decide ((n.op:Int)=11)) then true else(decide ((n.op:Int)=12)))=false→(J46 x42))))));(((bif (bif (decide ((n.op:Int)=4)) then true else(decide ((n.op:Int)=9))) then true else(decide ((n.op:Int)=10)))=true→(J41 2))∧((bif (bif (decide ((n.op:Int)=4)) then true else(decide ((n.op:Int)=9))) then true else(decide ((n.op:Int)=10)))=false→(J41 1)))))))):=by
   intro x p14 p35 x13 x34 e1 e2 hR
   match vx,x,e1,e2,hR with
   | none,x,e1,e2,hR=>
    cases e1
    rw [(tyG_none n.op x).1] at hR
    exact⟨fun _=>hR,fun g=>(by cases g)⟩
   | some t,none,e1,e2,hR=>
    cases e1
    cases e2
    rw [(tyG_none n.op _).2] at hR
    exact⟨fun _=>hR,fun g=>(by cases g)⟩
   | some t,some u,e1,e2,hR=>
    cases e1
    cases e2
    rw [tyG_some] at hR
    refine⟨fun g=>(by cases g),fun _=>⟨fun g=>?_,fun g=>?_⟩⟩
    ·rw [if_pos (of_decide_eq_true g)] at hR;exact hR
    rw [if_neg (of_decide_eq_false g)] at hR
    intro J41
    have hw:J41 (wantT n.op):=by
     refine⟨fun g=>?_,fun g=>?_⟩
     ·simp only [cand,cor] at g
      rw [if_pos (of_decide_eq_true g)] at hR;exact hR
     ·simp only [cand,cor] at g
      rw [if_neg (of_decide_eq_false g)] at hR
      intro J46
      refine⟨fun g=>?_,fun g=>?_⟩
      ·simp only [cand,cor] at g
       rw [if_pos (of_decide_eq_true g)] at hR;exact hR
      ·simp only [cand,cor] at g
       rw [if_neg (of_decide_eq_false g)] at hR;exact hR
    clear_value J41
    unfold wantT at hw
    refine⟨fun g=>?_,fun g=>?_⟩
    ·simp only [cand,cor] at g
     have:=of_decide_eq_true g
     rw [if_pos (by omega)] at hw;exact hw
    ·simp only [cand,cor] at g
     have:=of_decide_eq_false g
     rw [if_neg (by omega)] at hw;exact hw
  have out:∀ x:Option Int,∃(t:Int) (p:Bool),tyOut x=vtup [vi t,vb p]:=by
   intro x
   cases x with
   | none=>exact⟨_,_,rfl⟩
   | some t=>exact⟨_,_,rfl⟩
  obtain⟨t1,p1',o1⟩:=out vx
  refine hX h1 _ ⟨t1,p1',o1,R_Arity_ok ⟨_,rfl,?_⟩⟩
  intro J24
  refine⟨fun g=>?_,fun g=>?_⟩
  ·have h2:=of_decide_eq_true g
   obtain⟨t2,p2',o2⟩:=out vy
   rw [if_pos h2] at hK
   exact hY (by omega) _ ⟨t2,p2',o2,hJ _ _ _ _ _ o1 o2 hK⟩
  ·rw [if_neg (of_decide_eq_false g)] at hK
   exact hJ _ _ _ _ _ o1 o1 hK
theorem R_Type_ok (S:SlP encN h a m l)(W:WfL l)(hl:0 < l.length)(hm:l.length≤1000000){R:Value→Hp→Prop}(hK:R (vtup [vi (typE l).1,vi (typE l).2]) h):CallOK Tryz.prog 172 [vsl a m c] h R:=by
 refine ok_R_Type ?_
 unfold VC_R_Type
 have hm:=S.1
 refine⟨_,isW (by unfold InR;omega),R_typeAt_ok S W _ ((m:Int) - 1) rfl (by omega) (by omega) _ ?_⟩
 have e1:((m:Int) - 1).toNat=l.length - 1:=by omega
 rw [e1]
 unfold typE at hK
 cases ht:tAt l (l.length - 1) with
 | none=>
  rw [ht] at hK
  exact⟨_,_,rfl,fun _=>hK,fun g=>(by cases g)⟩
 | some t=>
  rw [ht] at hK
  exact⟨_,_,rfl,fun g=>(by cases g),fun _=>hK⟩
end
theorem expr_field_ok {e:EvL}{n:Int}(hn:0≤n∧n≤3){h:Hp}{R:Value→Hp→Prop}(hK:R (vag (encV (fieldV e n))) h):CallOK Tryz.prog 94 [vag (encE e),vi n] h R:=by
 refine ok_expr_field ?_
 unfold VC_expr_field
 refine value_Number_ok ⟨_,_,rfl,?_⟩
 have r:n=0∨n=1∨n=2∨n=3:=by omega
 rcases r with rfl|rfl|rfl|rfl
 ·exact⟨_,_,fun w _=>by kernel_rfl,hK⟩
 ·exact⟨_,_,fun w _=>by kernel_rfl,hK⟩
 ·exact⟨_,_,fun w _=>by kernel_rfl,hK⟩
 ·exact⟨_,_,fun w _=>by kernel_rfl,hK⟩
theorem elVal:ElT Tryz.prog 70 41 2 16:=.of (by kernel_rfl) (by kernel_rfl) (by decide)
theorem outs_get {β:Type}{d:β}{F:Nd→β→β→β}{l:List Nd}{outs:List β}{i k:Nat}(ho:outs.take i=fwd d F (l.take i))(hi:i≤l.length)(hk:k < i):outs[k]?=some (fAt d F l k):=by
 have h1:outs[k]?=(outs.take i)[k]?:=by rw [List.getElem?_take,if_pos hk]
 rw [h1,ho]
 have hlen:(fwd d F (l.take i)).length=i:=by rw [fwd_length,List.length_take];omega
 rw [←fAt_take l hk hi,List.getD_eq_getElem?_getD,List.getElem?_eq_getElem (by omega)]
 rfl
theorem outs_set {β:Type}{d:β}{F:Nd→β→β→β}{l:List Nd}{outs:List β}{i:Nat}{n:Nd}(ho:outs.take i=fwd d F (l.take i))(hn:l[i]?=some n)(hl:outs.length=l.length):(outs.set i (fAt d F l i)).take (i+1)=fwd d F (l.take (i+1)):=by
 have hlt:=(List.getElem?_eq_some_iff.1 hn).1
 rw [fwd_take l hn,←ho,List.take_succ_eq_append_getElem (by rw [List.length_set];omega),List.take_set_of_le (Nat.le_refl _),List.getElem_set_self]
section
variable {a:Option Addr}{m c:Nat}{l:List Nd}{h:Hp}
theorem expr_Eval_ok (S:SlP encN h a m l)(W:WfL l)(hl:0 < l.length)(hm:l.length≤1000000){e:EvL}{R:Value→Hp→Prop}(hK:∀ h',h.le h'→R (vag (encV (valE e l))) h'):CallOK Tryz.prog 45 [vsl a m c,vag (encE e)] h R:=by
 refine ok_expr_Eval ?_
 unfold VC_expr_Eval
 obtain rfl:=S.1
 refine Vec.make (enc:=encV) (x:=(0,0)) elVal (z:=[vi 0,vi 0]) (by kernel_rfl) rfl rfl hm (by omega) fun a3 h2 V2=>⟨_,_,_,rfl,?_⟩
 refine⟨fun vs hh=>∃(i:Nat) (outs:List (Int × Int)),vs=[vi i]∧i≤l.length∧outs.length=l.length∧outs.take i=fwd (0,0) (stepF e) (l.take i)∧Vec encV 2 41 h hh a3 l.length outs,fun vs hh=>l.length - (vint vs 0).toNat,
  ⟨0,_,rfl,Nat.zero_le _,by simp,rfl,V2⟩,?_⟩
 rintro vs hh ⟨i,outs,rfl,hi,hlo,ho,V⟩
 refine⟨i,rfl,fun q=>?_,fun q=>?_⟩
 ·have hlt:i < l.length:=by have:=of_decide_eq_true q;omega
  have hx:l[i]?=some l[i]:=List.getElem?_eq_getElem hlt
  have Wn:=W _ _ hx
  have hv:vAt e l i=_:=fAt_wf (own_stepF e) hx Wn
  have hset:=outs_set ho hx hlo
  obtain⟨b,o,ha,hr⟩:=(S.le V.le0).get encN_len (by decide) hx
  generalize l[i]=n at *
  have hout:outs[i]?=some (outs[i]'(by omega)):=List.getElem?_eq_getElem (by omega)
  obtain⟨b3,o3,ha3,hput⟩:=V.put encV_len (x':=vAt e l i) (k:=0) (vs:=encV (vAt e l i)) hout (by rw [encV_len];decide) (by rw [encV_len];decide) rfl
  have A3:∀{x:Int},0≤x→x < l.length→a3=some ⟨b3,o3,none⟩∧(0:Int)≤x∧x < (l.length:Nat):=fun h0 h1=>⟨ha3,h0,h1⟩
  have rdo:∀{x:Int},0≤x→x < i→hh.row b3 (o3+x.toNat*2) 2=some (encV (vAt e l x.toNat)):=by
   intro x h0 h1
   obtain⟨b',o',ha',hr'⟩:=(V.slp encV_len (by decide)).get encV_len (by decide) (outs_get ho hi (k:=x.toNat) (by omega))
   rw [ha3] at ha'
   cases ha'
   exact hr'
  intro J83
  have hJ:∀ h',Vec encV 2 41 h h' a3 l.length (outs.set i (vAt e l i))→J83 h':=by
   intro h' V'
   exact⟨_,isW (by unfold InR;omega),⟨i+1,_,rfl,by omega,by rw [List.length_set];exact hlo,hset,V'⟩,by simp [vint];omega⟩
  clear_value J83
  have fin:∀{v:Int × Int},v=vAt e l i→hh.store b3 (o3+i*2) (encV v) J83:=by
   rintro v rfl
   exact hput _ hJ
  have ar:=ar0 Wn.a
  have hfold:vAt e l=fAt (0,0) (stepF e) l:=rfl
  rw [←hfold] at hv
  unfold stepF at hv
  have Ai:a3=some ⟨b3,o3,none⟩∧(0:Int)≤i∧(i:Int) < (l.length:Nat):=A3 (by omega) (by omega)
  refine⟨b,o,⟨ha,by omega,by omega⟩,_,_,_,_,_,_,hr,fun q=>?_,fun q1=>⟨fun q=>?_,fun q2=>⟨fun q=>?_,fun q3=>⟨fun q=>?_,fun q4=>⟨fun q=>?_,fun q5=>?_⟩⟩⟩⟩⟩
  ·rw [if_pos (of_decide_eq_true q)] at hv
   exact⟨b3,o3,Ai,fin hv.symm⟩
  ·rw [if_neg (of_decide_eq_false q1),if_pos (of_decide_eq_true q)] at hv
   exact expr_field_ok (Wn.f (of_decide_eq_true q)) ⟨_,_,rfl,b3,o3,Ai,fin hv.symm⟩
  ·rw [if_neg (of_decide_eq_false q1),if_neg (of_decide_eq_false q2),if_pos (of_decide_eq_true q)] at hv
   have:=of_decide_eq_true q
   have hX:=Wn.x (by omega)
   exact⟨b3,o3,A3 (by omega) (by omega),_,_,rdo hX.1 hX.2,value_Neg_ok ⟨_,_,rfl,b3,o3,Ai,fin hv.symm⟩⟩
  ·rw [if_neg (of_decide_eq_false q1),if_neg (of_decide_eq_false q2),if_neg (of_decide_eq_false q3),if_pos (of_decide_eq_true q)] at hv
   have:=of_decide_eq_true q
   have hX:=Wn.x (by omega)
   exact⟨b3,o3,A3 (by omega) (by omega),_,_,rdo hX.1 hX.2,value_Not_ok ⟨_,_,rfl,b3,o3,Ai,fin hv.symm⟩⟩
  ·rw [if_neg (of_decide_eq_false q1),if_neg (of_decide_eq_false q2),if_neg (of_decide_eq_false q3),if_neg (of_decide_eq_false q4),if_pos (of_decide_eq_true q)] at hv
   have:=of_decide_eq_true q
   have hX:=Wn.x (by omega)
   exact⟨b3,o3,A3 (by omega) (by omega),_,Hp.row_cell (rdo hX.1 hX.2) (i:=0) rfl,value_Truth_ok ⟨_,_,rfl,b3,o3,Ai,fin hv.symm⟩⟩
  ·have p1:=of_decide_eq_false q1
   have p2:=of_decide_eq_false q2
   have p3:=of_decide_eq_false q3
   have p4:=of_decide_eq_false q4
   have p5:=of_decide_eq_false q5
   rw [if_neg p1,if_neg p2,if_neg p3,if_neg p4,if_neg p5] at hv
   have h2:arI n.op=2:=by rcases arI_range Wn.a with h|h|h<;>omega
   have hX:=Wn.x (by omega)
   have hY:=Wn.y (by omega)
   exact⟨b3,o3,A3 (by omega) (by omega),_,_,rdo hX.1 hX.2,b3,o3,A3 (by omega) (by omega),_,_,rdo hY.1 hY.2,value_Do_ok ⟨_,_,rfl,b3,o3,Ai,fin hv.symm⟩⟩
 ·have hge:i=l.length:=by have:=of_decide_eq_false q;omega
  subst hge
  obtain⟨b',o',ha',hr'⟩:=(V.slp encV_len (by decide)).get encV_len (by decide) (outs_get ho (Nat.le_refl _) (k:=l.length - 1) (by omega))
  refine⟨_,isW (by unfold InR;omega),b',o',⟨ha',by omega,by omega⟩,_,_,?_,hK hh V.le0⟩
  have e1:(((l.length:Nat):Int) - 1).toNat=l.length - 1:=by omega
  rw [e1]
  exact hr'
theorem expr_join_ok {x y:Int}{R:Value→Hp→Prop}(hK:R (vtup [vi (if x=0 then y else if y=0∨x=y then x else 0),vb (decide (x=0∨y=0∨x=y))]) h):CallOK Tryz.prog 152 [vi x,vi y] h R:=by
 refine ok_expr_join ?_
 unfold VC_expr_join
 refine⟨fun q=>?_,fun q=>?_⟩
 ·have q:=of_decide_eq_true q
  rw [if_pos q,decide_eq_true (.inl q)] at hK;exact hK
 have q:=of_decide_eq_false q
 rw [if_neg q] at hK
 intro J3
 refine⟨fun q2=>⟨fun _=>?_,fun q3=>?_⟩,fun q2=>⟨fun q3=>?_,fun q3=>?_⟩⟩
 ·have q2:=of_decide_eq_true q2
  rw [if_pos (.inl q2),decide_eq_true (.inr (.inl q2))] at hK;exact hK
 ·rw [q2] at q3;cases q3
 ·have q3:=of_decide_eq_true q3
  rw [if_pos (.inr q3),decide_eq_true (.inr (.inr q3))] at hK;exact hK
 ·have q2:=of_decide_eq_false q2
  have q3:=of_decide_eq_false q3
  rw [if_neg (by omega),decide_eq_false (by omega)] at hK;exact hK
def encI (x:Int):List Value:=[vi x]
theorem encI_len (x:Int):(encI x).length=1:=rfl
theorem expr_Type_ok (S:SlP encN h a m l)(O:OkE l)(hm:l.length≤1000000){R:Value→Hp→Prop}(hK:∀ h',h.le h'→R (vtup [vi (typE l).1,ifv (errV (typE l).2)]) h'):CallOK Tryz.prog 119 [vsl a m c] h R:=by
 have W:=O.wf
 have hl:=O.pos
 refine ok_expr_Type ?_
 unfold VC_expr_Type
 obtain rfl:=S.1
 refine Vec.make (enc:=encI) (x:=0) elInt (z:=[vi 0]) (by kernel_rfl) rfl rfl hm (by omega) fun a3 h2 V2=>⟨_,_,_,rfl,?_⟩
 refine⟨fun vs hh=>∃(i:Nat) (outs:List Int),vs=[vi i]∧i≤l.length∧outs.length=l.length∧(outs.map some).take i=fwd none tyF (l.take i)∧Vec encI 1 3 h hh a3 l.length outs,fun vs hh=>l.length - (vint vs 0).toNat,
  ⟨0,_,rfl,Nat.zero_le _,by simp,rfl,V2⟩,?_⟩
 rintro vs hh ⟨i,outs,rfl,hi,hlo,ho,V⟩
 have get:∀{k:Nat},k < i→∃ t,outs[k]?=some t∧tAt l k=some t:=by
  intro k hk
  have:=outs_get ho hi hk
  rw [List.getElem?_map,Option.map_eq_some_iff] at this
  obtain⟨t,h1,h2⟩:=this
  exact⟨t,h1,h2.symm⟩
 refine⟨i,rfl,fun q=>?_,fun q=>?_⟩
 ·have hlt:i < l.length:=by have:=of_decide_eq_true q;omega
  have hx:l[i]?=some l[i]:=List.getElem?_eq_getElem hlt
  have Wn:=W _ _ hx
  have hv:tAt l i=_:=fAt_wf own_tyF hx Wn
  have hset:=fun t (e:tAt l i=some t)=>(by
   have:=outs_set (outs:=outs.map some) ho hx (by simpa using hlo)
   rw [show fAt none tyF l i=some t from e,←List.map_set] at this
   exact this:((outs.set i t).map some).take (i+1)=fwd none tyF (l.take (i+1)))
  obtain⟨b,o,ha,hr⟩:=(S.le V.le0).get encN_len (by decide) hx
  generalize l[i]=n at *
  have hout:outs[i]?=some (outs[i]'(by omega)):=List.getElem?_eq_getElem (by omega)
  obtain⟨b3,o3,ha3,_⟩:=V.put encI_len (x':=0) (k:=0) (vs:=[vi 0]) hout (by decide) (by decide) rfl
  have A3:∀{x:Int},0≤x→x < l.length→a3=some ⟨b3,o3,none⟩∧(0:Int)≤x∧x < (l.length:Nat):=fun h0 h1=>⟨ha3,h0,h1⟩
  have put:∀(outs':List Int) (hh':Hp),outs'.length=l.length→Vec encI 1 3 h hh' a3 l.length outs'→∀(t:Int) (K:Hp→Prop),(∀ h',Vec encI 1 3 h h' a3 l.length (outs'.set i t)→K h')→hh'.store b3 (o3+i*1) [vi t] K:=by
   intro outs' hh' h1 V' t K hK
   obtain⟨b',o',ha',hp⟩:=V'.put encI_len (i:=i) (x:=outs'[i]'(by omega)) (x':=t) (k:=0) (vs:=[vi t]) (List.getElem?_eq_getElem (by omega)) (Nat.succ_pos 0) (Nat.le_refl 1) rfl
   rw [ha3] at ha'
   cases ha'
   exact hp K hK
  intro J95
  have hJ:∀ t,tAt l i=some t→∀ h',Vec encI 1 3 h h' a3 l.length (outs.set i t)→J95 h':=by
   intro t e h' V'
   exact⟨_,isW (by unfold InR;omega),⟨i+1,_,rfl,by omega,by rw [List.length_set];exact hlo,hset t e,V'⟩,by simp [vint];omega⟩
  clear_value J95
  have ar:=ar0 Wn.a
  have hfold:tAt l=fAt none tyF l:=rfl
  rw [←hfold] at hv
  have Ai:a3=some ⟨b3,o3,none⟩∧(0:Int)≤i∧(i:Int) < (l.length:Nat):=A3 (by omega) (by omega)
  refine⟨b,o,⟨ha,by omega,by omega⟩,_,_,_,_,_,_,hr,?_⟩
  intro J39
  have bad:tAt l i=none→∀ h',h.le h'→R (vtup [vi 0,ifv (errV 3)]) h':=by
   intro e h' l'
   have:typE l=(0,3):=by
    unfold typE
    cases ht:tAt l (l.length - 1) with
    | none=>rfl
    | some t=>exact absurd e (O.b.ty W (by rw [ht];simp) i (Nat.zero_le _) hlt)
   rw [this] at hK
   exact hK h' l'
  have hJ39:¬ n.op=1→¬ n.op=2→¬ n.op=5→J39 (wantT n.op):=by
   intro p1 p2 p5
   have har:1≤arI n.op:=by rcases arI_range Wn.a with h|h|h<;>omega
   rw [tyF_op p1 p2] at hv
   have hX:=Wn.x har
   obtain⟨tx,ox,ex⟩:=get (k:=n.x.toNat) (by omega)
   have hy:∃ ty,2≤arI n.op→outs[n.y.toNat]?=some ty∧tAt l n.y.toNat=some ty:=by
    by_cases h2:2≤arI n.op
    ·have hY:=Wn.y h2
     obtain⟨ty,q⟩:=get (k:=n.y.toNat) (by omega)
     exact⟨ty,fun _=>q⟩
    ·exact⟨0,fun h=>absurd h h2⟩
   obtain⟨ty,hy⟩:=hy
   have hv2:tAt l i=tyG n.op (some tx) (some (if arI n.op=2 then ty else tx)):=by
    rw [hv,ex]
    by_cases h2:arI n.op=2
    ·rw [if_pos h2,if_pos h2,(hy (by omega)).2]
    ·rw [if_neg h2,if_neg h2]
   rw [tyG_some,if_neg p5] at hv2
   have hw0:wantT n.op≠0:=by unfold wantT;split<;>decide
   generalize hwd:wantT n.op=want at *
   refine expr_Arity_ok ⟨_,rfl,fun b64 hb64=>?_⟩
   intro h65
   have S65:SlI h65 (some ⟨b64,0,none⟩) 2 [n.x,n.y]:=⟨rfl,HasRow.new _ _ [vi n.x,vi n.y] _⟩
   have V65:Vec encI 1 3 h h65 a3 l.length outs:=V.keep0 (Hp.le_set (Hp.le_refl hh) hb64 _)
   clear_value h65
   refine⟨_,_,_,rd_slice_h (e:=3) (by kernel_rfl) (by kernel_rfl) (by omega) (by rcases arI_range Wn.a with h|h|h<;>omega),?_⟩
   have rdo:∀{x t:Int},0≤x→outs[x.toNat]?=some t→h65.cell b3 (o3+x.toNat*1)=some (vi t):=by
    intro x t h0 h1
    obtain⟨b',o',ha',hr'⟩:=(V65.slp encI_len (by decide)).cell (j:=0) encI_len (by decide) h1 rfl
    rw [ha3] at ha'
    cases ha'
    exact hr'
   refine⟨fun vs h'=>h'=h65∧∃ j:Nat,vs=[vi j]∧(j:Int)≤arI n.op∧(1≤j→tx=0∨tx=want)∧(2≤j→ty=0∨ty=want),fun vs hh=>(arI n.op).toNat - (vint vs 0).toNat,⟨rfl,0,rfl,by omega,by omega,by omega⟩,?_⟩
   rintro vs h71 ⟨rfl,j,rfl,hj,f1,f2⟩
   refine⟨j,rfl,fun g=>?_,fun g=>?_⟩
   ·have hj2:(j:Int) < arI n.op:=by have:=of_decide_eq_true g;omega
    have fact:∃ x t:Int,[n.x,n.y].getD j 0=x∧0≤x∧x < l.length∧outs[x.toNat]?=some t∧(¬(t=0∨t=want)→tAt l i=none)∧(j=0→t=tx)∧(j=1→t=ty):=by
     by_cases hj0:j=0
     ·subst hj0
      refine⟨n.x,tx,rfl,hX.1,by omega,ox,fun hb=>?_,fun _=>rfl,fun h=>by omega⟩
      rw [hv2,if_pos (by omega)]
     ·have hj1:j=1:=by rcases arI_range Wn.a with h|h|h<;>omega
      subst hj1
      have hY:=Wn.y (by omega)
      refine⟨n.y,ty,rfl,hY.1,by omega,(hy (by omega)).1,fun hb=>?_,fun h=>by omega,fun _=>rfl⟩
      rw [hv2,if_pos]
      rw [if_pos (by rcases arI_range Wn.a with h|h|h<;>omega)]
      omega
    obtain⟨x,t,e0,h0,h1,e1,hb,u1,u2⟩:=fact
    obtain⟨q,p,hq,hcell⟩:=S65.get (i:=j) (by rcases arI_range Wn.a with h|h|h<;>omega)
    rw [e0] at hcell
    refine⟨q,p,⟨hq,by omega,by omega⟩,_,hcell,b3,o3,A3 h0 h1,_,rdo h0 e1,expr_join_ok ⟨_,_,rfl,fun g=>?_,fun g=>?_⟩⟩
    ·rw [cnot] at g
     have g:=of_decide_eq_true g
     exact bad (hb (by omega)) h71 V65.le0
    ·rw [cnot] at g
     have g:=of_decide_eq_false g
     refine⟨_,isW (by unfold InR;rcases arI_range Wn.a with h|h|h<;>omega),⟨rfl,j+1,rfl,by omega,fun _=>?_,fun h=>?_⟩,by simp [vint];omega⟩
     ·by_cases hj0:j=0
      ·have:=u1 hj0;omega
      ·exact f1 (by omega)
     ·have:=u2 (by rcases arI_range Wn.a with h|h|h<;>omega);omega
   ·have hje:(j:Int)=arI n.op:=by have:=of_decide_eq_false g;omega
    have hfine:tAt l i=some (if n.op=11∨n.op=12 then 2 else want):=by
     rw [hv2,if_neg]
     ·split<;>rfl
     ·have:=f1 (by omega)
      by_cases h2:arI n.op=2
      ·rw [if_pos h2]
       have:=f2 (by omega)
       omega
      ·rw [if_neg h2]
       omega
    refine⟨b3,o3,Ai,put outs _ hlo V65 want _ fun h89 V89=>⟨fun g=>?_,fun g=>?_⟩⟩
    ·rw [cor] at g
     have g:=of_decide_eq_true g
     rw [if_pos g] at hfine
     refine⟨b3,o3,Ai,put _ h89 (by rw [List.length_set];exact hlo) V89 2 _ fun h92 V92=>hJ 2 hfine h92 ?_⟩
     rw [List.set_set] at V92
     exact V92
    ·rw [cor] at g
     have g:=of_decide_eq_false g
     rw [if_neg g] at hfine
     exact hJ want hfine h89 V89
  clear_value J39
  refine⟨fun q=>?_,fun q1=>⟨fun q=>?_,fun q2=>⟨fun q=>?_,fun q5=>?_⟩⟩⟩
  ·have e:tAt l i=some n.v.1:=by rw [hv];unfold tyF;exact if_pos (of_decide_eq_true q)
   exact⟨b3,o3,Ai,put outs hh hlo V _ _ (hJ _ e)⟩
  ·have e:tAt l i=some 1:=by rw [hv];unfold tyF;rw [if_neg (of_decide_eq_false q1)];exact if_pos (of_decide_eq_true q)
   exact⟨b3,o3,Ai,put outs hh hlo V _ _ (hJ _ e)⟩
  ·have h5:=of_decide_eq_true q
   have hX:=Wn.x (by omega)
   obtain⟨tx,ox,ex⟩:=get (k:=n.x.toNat) (by omega)
   have e:tAt l i=some 2:=by
    rw [hv,tyF_op (by omega) (by omega),if_neg (by omega),ex,tyG_some,if_pos h5]
   exact⟨b3,o3,Ai,put outs hh hlo V _ _ (hJ _ e)⟩
  ·have p1:=of_decide_eq_false q1
   have p2:=of_decide_eq_false q2
   have p5:=of_decide_eq_false q5
   have hw:=hJ39 p1 p2 p5
   unfold wantT at hw
   intro J35
   refine⟨fun g=>⟨fun _=>?_,fun g2=>?_⟩,fun g1=>⟨fun g=>⟨fun _=>?_,fun g2=>?_⟩,fun g2=>⟨fun g=>?_,fun g=>?_⟩⟩⟩
   ·rw [if_pos (.inl (of_decide_eq_true g))] at hw;exact hw
   ·rw [g] at g2;cases g2
   ·rw [if_pos (.inr (.inl (of_decide_eq_true g)))] at hw;exact hw
   ·rw [g] at g2;cases g2
   ·rw [if_pos (.inr (.inr (of_decide_eq_true g)))] at hw;exact hw
   ·have a1:=of_decide_eq_false g1
    have a2:=of_decide_eq_false g2
    have a3:=of_decide_eq_false g
    rw [if_neg (by omega)] at hw;exact hw
 ·have hge:i=l.length:=by have:=of_decide_eq_false q;omega
  subst hge
  obtain⟨t,ot,et⟩:=get (k:=l.length - 1) (by omega)
  obtain⟨b',o',ha',hr'⟩:=(V.slp encI_len (by decide)).cell (j:=0) encI_len (by decide) ot rfl
  refine⟨_,isW (by unfold InR;omega),b',o',⟨ha',by omega,by omega⟩,t,?_,?_⟩
  ·have e1:(((l.length:Nat):Int) - 1).toNat=l.length - 1:=by omega
   rw [e1]
   exact hr'
  ·have:typE l=(t,0):=by unfold typE;rw [et]
   rw [this] at hK
   exact hK hh V.le0
end
abbrev NdVec:=Vec encN 6 83
theorem cloneN_ok {a:Option Addr}{n c:Nat}{l:List Nd}{h:Hp}{R:Value→Hp→Prop}(S:SlP encN h a n l)(hn:n≤1000000)(hK:∀ a' c' h',NdVec h h' a' c' l→R (vsl a' l.length c') h') :
  CallOK Tryz.prog 150 [vsl a n c] h R:=by
 refine ok_slices_Clone_api_Node_api_Node ?_
 unfold VC_slices_Clone_api_Node_api_Node
 have hl:=S.1
 subst hl
 have hfl:(l.flatMap encN).length=l.length*6:=by rw [flatMap_length encN_len]
 refine⟨_,rd_eqNilS (e:=83) (by kernel_rfl),fun e=>?_,fun e=>?_⟩
 ·have h0:l.flatMap encN=[]:=by
   rcases S.2 with h1|⟨b,o,ha,_⟩
   ·exact h1
   ·rw [ha] at e;cases e
  rw [h0] at hfl
  have hn0:l=[]:=List.eq_nil_of_length_eq_zero (by simp at hfl;omega)
  subst hn0
  exact hK none 0 h (OwnV.nil (Hp.le_refl h) _ _)
 ·intro b3 hb3 h4
  have O0:OwnV h h4 83 6 (some ⟨b3,0,none⟩) 0 0 []:=OwnV.mk_new (Hp.le_refl h) hb3 _ [] rfl (by simp [maxLen])
  refine OwnV.append elNd O0 (S.le (Hp.le_set (Hp.le_refl h) hb3 _)).2 hfl (one_nds l) (by omega) (by omega) fun a' c' h' O' _ _=>⟨_,_,_,rfl,?_⟩
  rw [Nat.zero_add,List.nil_append] at *
  exact hK a' c' h' O'
inductive Pend (l:List Nd)(f:Nat):Nat→Nat→Prop where
 | nil:Pend l f f 0
 | cons {g e k:Nat}:Blk l g e→Pend l f g k→Pend l f e (k+1)
theorem Pend.open {l:List Nd}{f g i k:Nat}{n:Nd}(B:Blk l g (i+1))(Q:Pend l f g k)(hn:l[i]?=some n):Pend l f i (k+(arI n.op).toNat):=by
 cases B with
 | leaf h ha=>
  rw [hn] at h
  cases h
  rw [ha]
  exact Q
 | one B h ha _=>
  rw [hn] at h
  cases h
  rw [ha]
  exact .cons B Q
 | two B B' h ha _ _=>
  rw [hn] at h
  cases h
  rw [ha]
  exact .cons B' (.cons B Q)
section
variable {a:Option Addr}{m c:Nat}{l:List Nd}{h:Hp}
theorem expr_Cut_ok (S:SlP encN h a m l)(hcap:m≤c)(W:WfL l)(hm:l.length≤1000000){f:Nat}{e:Nat}(B:Blk l f (e+1)){i0:Int}(hi0:i0=e){R:Value→Hp→Prop}(hK:∀ a' c' h',NdVec h h' a' c' (cutL l f (e+1))→R (vsl a' (cutL l f (e+1)).length c') h') :
  CallOK Tryz.prog 114 [vsl a m c,vi i0] h R:=by
 subst hi0
 refine ok_expr_Cut ?_
 unfold VC_expr_Cut
 have hlt:=B.lt
 obtain rfl:=S.1
 have opAt:∀{i:Nat},i < l.length→∀{hh:Hp},h.le hh→∃ n b o,l[i]?=some n∧a=some ⟨b,o,none⟩∧hh.cell b (o+i*6)=some (vi n.op):=by
  intro i hi hh hl
  have hx:l[i]?=some l[i]:=List.getElem?_eq_getElem hi
  obtain⟨b,o,ha,hr⟩:=(S.le hl).get encN_len (by decide) hx
  exact⟨_,b,o,hx,ha,Hp.row_cell hr (i:=0) rfl⟩
 obtain⟨n,b,o,hn,ha,hc⟩:=opAt (i:=e) (by omega) (Hp.le_refl h)
 have wn:=W _ _ hn
 refine⟨b,o,⟨ha,by omega,by omega⟩,_,hc,expr_Arity_ok ⟨_,rfl,?_⟩⟩
 have Q0:=Pend.open B .nil hn
 rw [Nat.zero_add] at Q0
 refine⟨fun vs hh=>hh=h∧∃ from' need:Nat,vs=[vi from',vi need]∧from'≤e∧need≤2*(e+1 - from')∧Pend l f from' need,fun vs hh=>(vint vs 0).toNat,⟨rfl,e,(arI n.op).toNat,by rw [show (((arI n.op).toNat:Nat):Int)=arI n.op by have:=wn.a;omega],Nat.le_refl _,by rcases arI_range wn.a with h|h|h<;>omega,Q0⟩,?_⟩
 rintro vs hh ⟨rfl,from',need,rfl,hfe,hnd,Q⟩
 refine⟨from',need,rfl,fun g=>?_,fun g=>?_⟩
 ·have g:=of_decide_eq_true g
  cases Q with
  | nil=>exact absurd g (by decide)
  | @cons g' _ k B' Q'=>
   have hlt':=B'.lt
   obtain⟨i,rfl⟩:∃ i,from'=i+1:=⟨from' - 1,by omega⟩
   obtain⟨n',b',o',hn',ha',hc'⟩:=opAt (i:=i) (by omega) (Hp.le_refl hh)
   have wn':=W _ _ hn'
   have Q2:=Pend.open B' Q' hn'
   have hI:IsW ((i:Nat):Int) (((i+1:Nat):Int) - 1):=by
    have:=isW (e:=(((i+1:Nat):Int) - 1)) (by unfold InR;omega)
    rw [show (((i+1:Nat):Int) - 1)=(i:Int) by omega] at this ⊢
    exact this
   have r2:=arI_range wn'.a
   refine⟨i,hI,b',o',⟨ha',by omega,by omega⟩,_,hc',expr_Arity_ok ⟨_,rfl,_,isW (by unfold InR;omega),_,isW (by unfold InR;omega),⟨rfl,i,k+(arI n'.op).toNat,?_,by omega,by omega,Q2⟩,by simp [vint]⟩⟩
   rw [show ((k+(arI n'.op).toNat:Nat):Int)=((k+1:Nat):Int)+(arI n'.op - 1) by have:=wn'.a;omega]
 have g:=of_decide_eq_false g
 have h0:need=0:=by omega
 subst h0
 cases Q
 refine⟨_,isW (by unfold InR;omega),_,_,_,rd_slice_lh (e:=83) (by kernel_rfl) (by kernel_rfl) (by omega) (by omega) (by omega),?_⟩
 have hsz:szT Tryz.prog 83=6:=by kernel_rfl
 rw [hsz,show ((e:Int)+1).toNat=e+1 by omega,Int.toNat_natCast]
 have Sseg:SlP encN hh (cutA a f c 6) (e+1 - f) (seg l f (e+1)):=(S.drop encN_len (i:=f) (c:=c) (by omega) hcap).take encN_len (by omega)
 have hsl:(seg l f (e+1)).length=e+1 - f:=Sseg.1.symm
 have sget:∀{i:Nat} {n:Nd},(seg l f (e+1))[i]?=some n→l[f+i]?=some n:=by
  intro i n hi
  unfold seg at hi
  rw [List.getElem?_take] at hi
  split at hi
  ·rw [List.getElem?_drop] at hi;exact hi
  ·cases hi
 have ecut:cutL l f (e+1)=(seg l f (e+1)).map (shN (-(f:Int))):=rfl
 rw [ecut] at hK
 generalize seg l f (e+1)=s at *
 refine cloneN_ok Sseg (by omega) fun a29 c29 h28 V28=>⟨_,_,_,rfl,?_⟩
 refine⟨fun vs h'=>∃(i:Nat) (outs:List Nd),vs=[vi i]∧i≤s.length∧outs.length=s.length∧outs.take i=(s.take i).map (shN (-(f:Int)))∧outs.drop i=s.drop i∧NdVec hh h' a29 c29 outs,fun vs hh=>s.length - (vint vs 0).toNat,⟨0,s,rfl,Nat.zero_le _,rfl,rfl,rfl,V28⟩,?_⟩
 rintro vs h34 ⟨i,outs,rfl,hi,hlo,ht,hd,V⟩
 refine⟨i,rfl,fun g=>?_,fun g=>?_⟩
 ·have hlt2:i < s.length:=by have:=of_decide_eq_true g;omega
  have hx:s[i]?=some s[i]:=List.getElem?_eq_getElem hlt2
  have hox:outs[i]?=some s[i]:=by
   have:=congrArg List.head? hd
   rw [List.head?_drop,List.head?_drop,hx] at this
   exact this
  have wn2:=W _ _ (sget hx)
  have hset:(outs.set i (shN (-(f:Int)) s[i])).take (i+1)=(s.take (i+1)).map (shN (-(f:Int))):=by
   rw [List.take_succ_eq_append_getElem (by rw [List.length_set];omega),List.take_set_of_le (Nat.le_refl _),List.getElem_set_self,ht,List.take_succ_eq_append_getElem hlt2,List.map_append]
   rfl
  have hset2:∀ n',(outs.set i n').drop (i+1)=s.drop (i+1):=by
   intro n'
   have:(outs.drop i).drop 1=(s.drop i).drop 1:=by rw [hd]
   rw [List.drop_drop,List.drop_drop] at this
   rw [List.drop_set_of_lt (Nat.lt_succ_self i)]
   exact this
  generalize s[i]=y at *
  intro J70
  have hJ:∀ h',NdVec hh h' a29 c29 (outs.set i (shN (-(f:Int)) y))→J70 h':=by
   intro h' V'
   exact⟨_,isW (by unfold InR;omega),⟨i+1,_,rfl,by omega,by rw [List.length_set];exact hlo,hset,hset2 _,V'⟩,by simp [vint];omega⟩
  clear_value J70
  have acc:∀{h':Hp} {outs':List Nd} {z:Nd},NdVec hh h' a29 c29 outs'→outs'[i]?=some z→outs'.length=s.length→∃ b o,(a29=some ⟨b,o,none⟩∧(0:Int)≤i∧(i:Int) < (s.length:Nat))∧h'.row b (o+(i:Int).toNat*6) 6=some (encN z):=by
   intro h' outs' z V' hz hl'
   obtain⟨b,o,ha,hr⟩:=(V'.slp encN_len (by decide)).get encN_len (by decide) hz
   exact⟨b,o,⟨ha,by omega,by omega⟩,hr⟩
  obtain⟨b1,o1,A1,r1⟩:=acc V hox hlo
  refine⟨b1,o1,A1,_,Hp.row_cell r1 (i:=0) rfl,expr_Arity_ok ⟨_,rfl,?_⟩⟩
  intro J53
  have hJ53:∀ h' (z:Nd),z={ y with x:=(shN (-(f:Int)) y).x }→NdVec hh h' a29 c29 (outs.set i z)→J53 h':=by
   rintro h' z hz V'
   have hz1:(outs.set i z)[i]?=some z:=List.getElem?_set_self (by omega)
   obtain⟨b2,o2,A2,r2⟩:=acc V' hz1 (by rw [List.length_set];exact hlo)
   have eop:z.op=y.op:=by rw [hz]
   have ey:z.y=y.y:=by rw [hz]
   refine⟨b2,o2,A2,_,Hp.row_cell r2 (i:=0) rfl,expr_Arity_ok ⟨_,rfl,fun g=>?_,fun g=>?_⟩⟩
   ·have g:=of_decide_eq_true g
    rw [eop] at g
    have hy:=wn2.y (by omega)
    have hfin:({ z with y:=y.y - f }:Nd)=shN (-(f:Int)) y:=by
     rw [hz]
     unfold shN
     simp only
     rw [if_pos (show 1 < arI y.op by omega)]
     rfl
    obtain⟨b3,o3,ha3,hp⟩:=V'.put encN_len (x':={ z with y:=y.y - f }) (k:=2) (vs:=[vi (y.y - f)]) hz1 (Nat.succ_pos 0) (show 2+1≤6 by decide) rfl
    refine⟨b2,o2,A2,_,Hp.row_cell r2 (i:=2) rfl,_,isW (by rw [ey];unfold InR;omega),b3,o3,⟨ha3,A2.2⟩,?_⟩
    rw [ey]
    refine hp _ fun h67 V67=>hJ h67 ?_
    rw [List.set_set,hfin] at V67
    exact V67
   ·have g:=of_decide_eq_false g
    rw [eop] at g
    have hfin:z=shN (-(f:Int)) y:=by
     rw [hz]
     unfold shN
     simp only
     rw [if_neg (show ¬ 1 < arI y.op by omega)]
    rw [hfin] at V'
    exact hJ h' V'
  clear_value J53
  refine⟨fun g=>?_,fun g=>?_⟩
  ·have g:=of_decide_eq_true g
   have hX:=wn2.x (by omega)
   obtain⟨b3,o3,ha3,hp⟩:=V.put encN_len (x':={ y with x:=y.x - f }) (k:=1) (vs:=[vi (y.x - f)]) hox (Nat.succ_pos 0) (show 1+1≤6 by decide) rfl
   refine⟨b1,o1,A1,_,Hp.row_cell r1 (i:=1) rfl,_,isW (by unfold InR;omega),b3,o3,⟨ha3,A1.2⟩,?_⟩
   refine hp _ fun h50 V50=>hJ53 h50 _ ?_ V50
   unfold shN
   simp only
   rw [if_pos (show 0 < arI y.op by omega)]
   rfl
  ·have g:=of_decide_eq_false g
   refine hJ53 h34 y ?_ ?_
   ·unfold shN
    simp only
    rw [if_neg (show ¬ 0 < arI y.op by omega)]
   ·have:outs.set i y=outs:=by
     refine List.ext_getElem? fun k=>?_
     rw [List.getElem?_set]
     split
     ·rename_i h1;subst h1;rw [if_pos (by omega),hox]
     ·rfl
    rw [this]
    exact V
 ·have hge:i=s.length:=by have:=of_decide_eq_false g;omega
  subst hge
  rw [List.take_of_length_le (by omega),List.take_of_length_le (Nat.le_refl _)] at ht
  rw [ht] at V
  have:=hK a29 c29 h34 V
  rw [List.length_map] at this
  exact this
theorem expr_Join_ok {op:Int}{a2:Option Addr}{m2 c2:Nat}{l2:List Nd}(S:SlP encN h a m l)(S2:SlP encN h a2 m2 l2)(W2:WfL l2)(hm:l.length≤1000000)(hm2:l2.length≤1000000){R:Value→Hp→Prop}
  (hK:∀ a' c' h',NdVec h h' a' c' (joinL op l l2)→R (vsl a' (joinL op l l2).length c') h'):CallOK Tryz.prog 112 [vi op,vsl a m c,vsl a2 m2 c2] h R:=by
 refine ok_expr_Join ?_
 unfold VC_expr_Join
 obtain rfl:=S.1
 obtain rfl:=S2.1
 refine cloneN_ok S hm fun a3 c3 h2 V2=>⟨_,_,_,rfl,_,isW (by unfold InR;omega),?_⟩
 refine⟨fun vs hh=>∃(i:Nat) (a:Option Addr) (c:Nat),vs=[vsl a (l++(l2.take i).map (shN l.length)).length c,vi i]∧i≤l2.length∧NdVec h hh a c (l++(l2.take i).map (shN l.length)),fun vs hh=>l2.length - (vint vs 1).toNat,
  ⟨0,a3,c3,by simp,Nat.zero_le _,by simpa using V2⟩,?_⟩
 rintro vs hh ⟨i,a4,c4,rfl,hi,V⟩
 have hlen:(l++(l2.take i).map (shN l.length)).length=l.length+i:=by simp;omega
 refine⟨_,_,_,_,rfl,fun g=>?_,fun g=>?_⟩
 ·have hlt:i < l2.length:=by have:=of_decide_eq_true g;omega
  have hx:l2[i]?=some l2[i]:=List.getElem?_eq_getElem hlt
  have wn:=W2 _ _ hx
  obtain⟨b,o,ha,hr⟩:=(S2.le V.le0).get encN_len (by decide) hx
  have tk:(l2.take (i+1)).map (shN l.length)=(l2.take i).map (shN l.length)++[shN l.length l2[i]]:=by
   rw [List.take_succ_eq_append_getElem hlt,List.map_append];rfl
  generalize l2[i]=y at *
  refine⟨b,o,⟨ha,by omega,by omega⟩,_,_,_,_,_,_,hr,expr_Arity_ok ⟨_,rfl,?_⟩⟩
  intro J28
  have fin:∀(x' y':Int),x'=(shN (l.length:Int) y).x→y'=(shN (l.length:Int) y).y→∀(b49:Nat),hh b49=none→SemOK Tryz.prog (Builtin.append_ #[26,26] 26 #[(vsl a4 (l++(l2.take i).map (shN l.length)).length c4),(vsl (some (⟨b49,0,none⟩:Addr)) 1 1)]) (Hp.set hh b49 (cellsO [(vi y.op),(vi x'),(vi y'),(vi y.n),(vi y.v.1),(vi y.v.2)] 83)) fun v51 h52=>∃(a53:Option Addr) (n53 c53:Nat),v51=(vsl a53 n53 c53)∧(∃(x55:Int),(IsW x55 ((i:Int)+1))∧((∃(i':Nat) (a:Option Addr) (c:Nat),[vsl a53 n53 c53,vi x55]=[vsl a (l++(l2.take i').map (shN l.length)).length c,vi i']∧i'≤l2.length∧NdVec h h52 a c (l++(l2.take i').map (shN l.length)))∧l2.length - (vint [vsl a53 n53 c53,vi x55] 1).toNat < l2.length - (vint [vsl a4 (l++(l2.take i).map (shN l.length)).length c4,vi i] 1).toNat)):=by
   rintro x' y' rfl rfl b49 hb49
   refine V.app (x:=shN (l.length:Int) y) elNd encN_len one_encN (by omega) (by omega) hb49 fun a' c' h' V'=>⟨_,_,_,rfl,_,isW (by unfold InR;omega),⟨i+1,a',c',?_,by omega,?_⟩,by simp [vint];omega⟩
   ·rw [tk,←List.append_assoc];rfl
   ·rw [tk,←List.append_assoc];exact V'
  have hJ:∀ x',x'=(shN (l.length:Int) y).x→J28 x':=by
   intro x' hx'
   refine expr_Arity_ok ⟨_,rfl,?_⟩
   intro J45
   refine⟨fun g=>?_,fun g=>?_⟩
   ·have g:=of_decide_eq_true g
    have hy:=wn.y (by omega)
    refine⟨_,isW (by unfold InR;omega),fin _ _ hx' ?_⟩
    unfold shN
    simp only
    rw [if_pos (show 1 < arI y.op by omega)]
   ·have g:=of_decide_eq_false g
    refine fin _ _ hx' ?_
    unfold shN
    simp only
    rw [if_neg (show ¬ 1 < arI y.op by omega)]
  clear_value J28
  refine⟨fun g=>?_,fun g=>?_⟩
  ·have g:=of_decide_eq_true g
   have hX:=wn.x (by omega)
   refine⟨_,isW (by unfold InR;omega),hJ _ ?_⟩
   unfold shN
   simp only
   rw [if_pos (show 0 < arI y.op by omega)]
  ·have g:=of_decide_eq_false g
   refine hJ _ ?_
   unfold shN
   simp only
   rw [if_neg (show ¬ 0 < arI y.op by omega)]
 ·have hge:i=l2.length:=by have:=of_decide_eq_false g;omega
  subst hge
  rw [List.take_of_length_le (Nat.le_refl _)] at V hlen ⊢
  refine expr_Arity_ok ⟨_,rfl,?_⟩
  intro J62
  have hJ:∀ y',y'=(if 1 < arI op then((l.length+l2.length:Nat):Int) - 1 else 0)→J62 y':=by
   rintro y' rfl b66 hb66
   intro h67
   exact V.app (x:=⟨op,(l.length:Int) - 1,if 1 < arI op then((l.length+l2.length:Nat):Int) - 1 else 0,0,(0,0)⟩) elNd encN_len one_encN (by omega) (by omega) hb66 fun a' c' h' V'=>⟨_,_,_,rfl,hK a' c' h' V'⟩
  clear_value J62
  refine⟨fun g=>?_,fun g=>?_⟩
  ·have g:=of_decide_eq_true g
   refine⟨_,isW (by unfold InR;omega),hJ _ ?_⟩
   rw [if_pos (show 1 < arI op by omega),hlen]
  ·have g:=of_decide_eq_false g
   refine hJ _ ?_
   rw [if_neg (show ¬ 1 < arI op by omega)]
end
open Go.Txt
structure RdAt (h0 h:Hp)(g:Nat)(s:RS):Prop where
 b:∃ a c,h g=some (cellsO [vsl a s.ws.length c,vi s.deep,ifv (errV s.f)] 150)∧SlB h0 a s.ws.length s.ws∧s.ws.length≤c
 l:h0.le h
 n:h0 g=none
 w:∀ x ∈ s.ws,x.length≤1000000
theorem le_put {h0 h:Hp}{g:Nat}(l:h0.le h)(hg:h0 g=none)(o:Obj):h0.le (h.set g o):=fun b p hb=>by
 rw [Hp.set_other _ _ (fun e=>by rw [e,hg] at hb;cases hb)]
 exact l b p hb
theorem slices_Index_ok {a:Option Addr}{n c:Nat}{l:List Wd}{w:Wd}{h:Hp}(S:SlB h a n l)(hn:n≤1000000){R:Value→Hp→Prop}(hK:R (vi (if w ∈ l then(l.idxOf w:Int) else -1)) h):CallOK Tryz.prog 129 [vsl a n c,vs (bs w)] h R:=by
 refine ok_slices_Index_string_string ?_
 unfold VC_slices_Index_string_string
 have hl:=S.1
 refine⟨fun v hh=>hh=h∧∃ i:Nat,v=[vi i]∧i≤n∧w ∉ l.take i,fun v _=>n - (vint v 0).toNat,⟨rfl,0,rfl,Nat.zero_le _,by simp⟩,?_⟩
 rintro v hh ⟨rfl,i,rfl,hi,hno⟩
 refine⟨i,rfl,fun e=>?_,fun e=>?_⟩
 ·have hlt:i < n:=by have:=of_decide_eq_true e;omega
  obtain⟨b,o,ha,hc⟩:=SlP.get1 S hlt
  refine⟨b,o,⟨ha,by omega,by omega⟩,_,hc,_,rd_eqBs,fun e2=>?_,fun e2=>?_⟩
  ·have e3:=of_decide_eq_true e2
   have hx:l.getD i []=l[i]'(by omega):=by rw [List.getD_eq_getElem?_getD,List.getElem?_eq_getElem (by omega)];rfl
   rw [hx] at e3
   have hm:w ∈ l:=by rw [e3];exact List.getElem_mem _
   have hidx:l.idxOf w=i:=by
    have hsp:l=l.take i++l[i]'(by omega) :: l.drop (i+1):=by rw [←List.drop_eq_getElem_cons,List.take_append_drop]
    rw [hsp,List.idxOf_append,if_neg hno,←e3,List.idxOf_cons_self,List.length_take]
    omega
   rw [if_pos hm,hidx] at hK
   exact hK
  ·have e3:=of_decide_eq_false e2
   have hx:l.getD i []=l[i]'(by omega):=by rw [List.getD_eq_getElem?_getD,List.getElem?_eq_getElem (by omega)];rfl
   rw [hx] at e3
   refine⟨_,isW (by unfold InR;omega),⟨rfl,i+1,rfl,by omega,?_⟩,?_⟩
   ·rw [List.take_succ_eq_append_getElem (by omega)]
    intro hm
    rcases List.mem_append.1 hm with h1|h1
    ·exact hno h1
    ·exact e3 (by simpa using h1)
   ·show n - ((i:Int)+1).toNat < n - (i:Int).toNat
    omega
 ·have hge:i=n:=by have:=of_decide_eq_false e;omega
  rw [hge,List.take_of_length_le (by omega)] at hno
  rw [if_neg hno] at hK
  exact hK
theorem slices_Contains_ok {a:Option Addr}{n c:Nat}{l:List Wd}{w:Wd}{h:Hp}(S:SlB h a n l)(hn:n≤1000000){R:Value→Hp→Prop}(hK:R (vb (decide (w ∈ l))) h):CallOK Tryz.prog 130 [vsl a n c,vs (bs w)] h R:=by
 refine ok_slices_Contains_string_string ?_
 unfold VC_slices_Contains_string_string
 refine slices_Index_ok S hn ⟨_,rfl,?_⟩
 have:decide ((if w ∈ l then(l.idxOf w:Int) else -1)≥0)=decide (w ∈ l):=by
  by_cases hm:w ∈ l
  ·simp [hm]
  ·simp [hm]
 rw [this]
 exact hK
def At (g:Nat):Nat→Prop:=fun b=>b=g
theorem mut_set (h:Hp)(g:Nat)(o:Obj):Mut (At g) h (At g) (h.set g o):=⟨fun b o2 hb ho=>by rw [Hp.set_other _ _ (fun e=>hb e)];exact ho,fun b hb=>.inl hb⟩
theorem rd_block {h:Hp}{g:Nat}{x y z:Value}{T:TypeId}(hb:h g=some (cellsO [x,y,z] T)):h.cell g 0=some x∧h.cell g (0+1)=some y∧h.cell g (0+2)=some z:=⟨cell_cells hb rfl,cell_cells hb rfl,cell_cells hb rfl⟩
theorem rd_put0 {h:Hp}{g:Nat}{x y z x':Value}{T:TypeId}(hb:h g=some (cellsO [x,y,z] T)){K:Hp→Prop}(hK:K (h.set g (cellsO [x',y,z] T))):h.store g 0 [x'] K:=store_cells hb (by simp) hK
theorem rd_put1 {h:Hp}{g:Nat}{x y z y':Value}{T:TypeId}(hb:h g=some (cellsO [x,y,z] T)){K:Hp→Prop}(hK:K (h.set g (cellsO [x,y',z] T))):h.store g (0+1) [y'] K:=store_cells hb (by simp) hK
theorem rd_put2 {h:Hp}{g:Nat}{x y z z':Value}{T:TypeId}(hb:h g=some (cellsO [x,y,z] T)){K:Hp→Prop}(hK:K (h.set g (cellsO [x,y,z'] T))):h.store g (0+2) [z'] K:=store_cells hb (by simp) hK
theorem slb_nil (h:Hp):SlB h none 0 []:=⟨rfl,(OwnS.nil h 9 1).row⟩
theorem reader_fail_ok {h0 h:Hp}{g:Nat}{s:RS}(D:RdAt h0 h g s){f:Int}(hf:f≠0){R:Value→Hp→Prop}(hK:∀ h',RdAt h0 h' g (s.fail f)→Mut (At g) h (At g) h'→R (vtup []) h'):CallOK Tryz.prog 128 [vhp g 0,ifv (some (99,vi f))] h R:=by
 obtain⟨a,c,hb,hS,hc⟩:=D.b
 refine ok_query_reader_fail ?_
 unfold VC_query_reader_fail
 refine⟨_,(rd_block hb).2.2,?_⟩
 intro J5
 refine⟨fun e=>?_,fun e=>?_⟩
 ·have e0:s.f=0:=by unfold errV at e;split at e<;>simp_all
  refine rd_put2 hb (rd_put0 (Hp.set_same _ _ _) ?_)
  refine hK _ ⟨⟨none,0,?_,slb_nil _,Nat.le_refl _⟩,le_put (le_put D.l D.n _) D.n _,D.n,fun x hx=>by cases hx⟩ ((mut_set _ _ _).trans (mut_set _ _ _))
  rw [Hp.set_same]
  show _=some (cellsO [vsl none 0 0,vi s.deep,ifv (errV (if s.f=0 then f else s.f))] 150)
  rw [if_pos e0]
  unfold errV
  rw [if_neg hf]
 ·have e0:s.f≠0:=by intro e1;rw [e1] at e;cases e
  refine rd_put0 hb ?_
  refine hK _ ⟨⟨none,0,?_,slb_nil _,Nat.le_refl _⟩,le_put D.l D.n _,D.n,fun x hx=>by cases hx⟩ (mut_set _ _ _)
  rw [Hp.set_same]
  show _=some (cellsO [vsl none 0 0,vi s.deep,ifv (errV (if s.f=0 then f else s.f))] 150)
  rw [if_neg e0]
theorem reader_is_ok {h0 h:Hp}{g:Nat}{s:RS}(D:RdAt h0 h g s){wa:Option Addr}{wn wc:Nat}{l:List Wd}(S:SlB h wa wn l)(hwn:wn≤1000)(hwl:s.ws.length≤1000000){R:Value→Hp→Prop}(hK:∀ h',RdAt h0 h' g (s.is l).2→Mut (At g) h (At g) h'→R (vs (bs (s.is l).1)) h'):CallOK Tryz.prog 83 [vhp g 0,vsl wa wn wc] h R:=by
 obtain⟨a,c,hb,hS,hc⟩:=D.b
 refine ok_query_reader_is ?_
 unfold VC_query_reader_is
 obtain⟨ws,dp,f⟩:=s
 simp only at hb hS hc hwl
 have hcell:=(rd_block hb).1
 cases ws with
 | nil=>
  refine⟨_,_,_,hcell,none,0,0,fun e=>by simp at e,0,0,fun e=>by simp at e,⟨#[]⟩,fun e=>by simp at e,fun v hh=>hh=h∧v=.t (.one (.v (vb false))),fun e=>by simp at e,fun _=>⟨rfl,rfl⟩,?_⟩
  rintro h10 p11 ⟨rfl,e⟩
  cases e
  refine⟨fun _=>hK _ D (Mut.of_le (Hp.le_refl _)),fun e=>by simp at e⟩
 | cons w r=>
  obtain⟨b,o,ha,hc0⟩:=SlP.get1 (SlP.le D.l hS) (i:=0) (by simp)
  have hc1:h.cell b (o+(0:Int).toNat*1)=some (vs (bs w)):=hc0
  refine⟨_,_,_,hcell,_,_,_,fun _=>hcell,b,o,fun _=>⟨ha,by decide,by simp⟩,_,fun _=>hc1,fun v hh=>hh=h∧v=.t (.one (.v (vb (decide (w ∈ l))))),fun _=>slices_Contains_ok S (by omega) ⟨_,rfl,rfl,rfl⟩,fun e=>absurd (by simp;omega) e,?_⟩
  rintro h10 p11 ⟨rfl,e⟩
  cases e
  refine⟨fun e=>?_,fun e=>?_⟩
  ·have hno:w ∉ l:=by
    intro hm
    simp [hm] at e
    omega
   have h1:(⟨w :: r,dp,f⟩:RS).is l=([],⟨w :: r,dp,f⟩):=by unfold RS.is;simp only;rw [if_neg hno]
   rw [h1] at hK
   exact hK _ D (Mut.of_le (Hp.le_refl _))
  ·have hm:w ∈ l:=by
    rcases Decidable.em (w ∈ l) with hm|hm
    ·exact hm
    ·simp [hm] at e
   have h1:(⟨w :: r,dp,f⟩:RS).is l=(w,⟨r,dp,f⟩):=by unfold RS.is;simp only;rw [if_pos hm]
   rw [h1] at hK
   have hsz:szT Tryz.prog 9=1:=by kernel_rfl
   have hr:=rd_slice_l (P:=Tryz.prog) (h:=h10) (t:=145) (e:=9) (by kernel_rfl) (by kernel_rfl) (a:=a) (n:=(w :: r).length) (c:=c) (x:=1) (by decide) (by simp;omega)
   rw [hsz] at hr
   refine⟨_,_,_,hcell,b,o,⟨ha,by decide,by simp⟩,_,hc1,_,_,_,hcell,_,_,_,hr,rd_put0 hb ?_⟩
   have hS2:=SlP.drop encB_len hS (i:=1) (by simp) hc
   exact hK _ ⟨⟨_,_,Hp.set_same _ _ _,⟨rfl,hS2.2⟩,by simp at hc ⊢;omega⟩,le_put D.l D.n _,D.n,fun x hx=>D.w x (List.mem_cons_of_mem _ hx)⟩ (mut_set _ _ _)
theorem RdAt.le {h0 h h':Hp}{g:Nat}{s:RS}(D:RdAt h0 h g s)(l:h.le h'):RdAt h0 h' g s:=by
 obtain⟨a,c,hb,hS,hc⟩:=D.b
 exact⟨⟨a,c,l g _ hb,hS,hc⟩,Hp.le_trans D.l l,D.n,D.w⟩
theorem slb_one (h:Hp)(b:Nat)(w:Wd):SlB (h.set b (cellsO [vs (bs w)] 9)) (some ⟨b,0,none⟩) 1 [w]:=⟨rfl,(OwnS.new h b 9 (sz:=1) (n:=1) [vs (bs w)] rfl (by decide)).row⟩
theorem reader_must_ok {h0 h:Hp}{g:Nat}{s:RS}(D:RdAt h0 h g s)(hwl:s.ws.length≤1000000){w:Wd}{R:Value→Hp→Prop}(hK:∀ h',RdAt h0 h' g (s.must w)→Mut (At g) h (At g) h'→R (vtup []) h'):CallOK Tryz.prog 81 [vhp g 0,vs (bs w)] h R:=by
 refine ok_query_reader_must ?_
 unfold VC_query_reader_must
 intro b1 hb1 h2
 have hl:h.le h2:=Hp.le_set (Hp.le_refl h) hb1 _
 unfold RS.must at hK
 refine reader_is_ok (D.le hl) (slb_one h b1 w) (by decide) hwl fun h4 D4 M4=>⟨_,rfl,_,rd_eqBs (b:=[]),fun e=>?_,fun e=>?_⟩
 ·rw [if_pos (of_decide_eq_true e)] at hK
  exact reader_fail_ok D4 (by decide) fun h5 D5 M5=>⟨rfl,hK h5 D5 (((Mut.of_le hl).trans M4).trans M5)⟩
 ·rw [if_neg (of_decide_eq_false e)] at hK
  exact hK h4 D4 ((Mut.of_le hl).trans M4)
structure NdAt (hB h:Hp)(a:Option Addr)(n:Nat)(l:List Nd):Prop where
 s:SlP encN h a n l
 nw:∀ b o,a=some ⟨b,o,none⟩→hB b=none
theorem NdAt.base {hB hC h:Hp}{a:Option Addr}{n:Nat}{l:List Nd}(N:NdAt hC h a n l)(hh:∀ b,hC b=none→hB b=none):NdAt hB h a n l:=⟨N.s,fun b o e=>hh b (N.nw b o e)⟩
theorem NdAt.mut {hB h h':Hp}{g:Nat}{a:Option Addr}{n:Nat}{l:List Nd}(N:NdAt hB h a n l)(hg:hB g≠none)(M:Mut (At g) h (At g) h'):NdAt hB h' a n l:=by
 have ne:∀ b o,a=some ⟨b,o,none⟩→b≠g:=fun b o e q=>hg (by rw [←q];exact N.nw b o e)
 refine⟨⟨N.s.1,(HasRow.del N.s.2 ne).le fun b o hb=>?_⟩,N.nw⟩
 by_cases e:b=g
 ·subst e;simp [Hp.del] at hb
 ·refine M.keep b o (fun h=>e h) ?_
  simpa [Hp.del,e] using hb
theorem nd_nil (hB h:Hp):NdAt hB h none 0 []:=⟨⟨rfl,(OwnS.nil h 83 6).row⟩,fun b o e=>by cases e⟩
theorem _root_.Go.Vc.Mut.up {h h':Hp}{g:Nat}(M:Mut (At g) h (At g) h')(hg:h' g≠none):∀ b,h' b=none→h b=none:=by
 intro b hb
 cases e:h b with
 | none=>rfl
 | some o=>
  by_cases q:b=g
  ·subst q;exact absurd hb hg
  ·rw [M.keep b o (fun h=>q h) e] at hb;cases hb
theorem le_up {h h':Hp}(l:h.le h'):∀ b,h' b=none→h b=none:=fun b hb=>Hp.none_of_le l hb
theorem query_leaf_ok {h:Hp}(n:Nd){R:Value→Hp→Prop}(hK:∀ a c h',NdAt h h' a 1 [n]→1≤c→h.le h'→R (vsl a 1 c) h'):CallOK Tryz.prog 185 [vag (encN n)] h R:=by
 refine ok_query_leaf ?_
 unfold VC_query_leaf
 intro b1 hb1 h2
 refine hK _ _ _ ⟨⟨rfl,(OwnS.new h b1 83 (sz:=6) (n:=1) (encN n) rfl (by decide)).row⟩,fun b o e=>?_⟩ (by decide) (Hp.le_set (Hp.le_refl h) hb1 _)
 cases e
 exact hb1
theorem RdAt.al {h0 h:Hp}{g:Nat}{s:RS}(D:RdAt h0 h g s):h g≠none:=by
 obtain⟨a,c,hb,_⟩:=D.b
 rw [hb];simp
theorem reader_join_ok {h0 h:Hp}{g:Nat}{s:RS}(D:RdAt h0 h g s){op:Int}{ax ay:Option Addr}{nx ny cx cy:Nat}{x y:List Nd}(X:SlP encN h ax nx x)(Y:SlP encN h ay ny y)(Wy:WfL y)(hx:x.length≤1000)(hy:y.length≤1000){R:Value→Hp→Prop}
  (hK:∀ a c h',RdAt h0 h' g (joinP op x y s).2→NdAt h h' a (joinP op x y s).1.length (joinP op x y s).1→Mut (At g) h (At g) h'→R (vsl a (joinP op x y s).1.length c) h'):CallOK Tryz.prog 165 [vhp g 0,vi op,vsl ax nx cx,vsl ay ny cy] h R:=by
 refine ok_query_reader_join ?_
 unfold VC_query_reader_join
 have hnx:=X.1
 have hny:=Y.1
 unfold joinP at hK
 refine⟨_,isW (by unfold InR;omega),fun e=>?_,fun e=>?_⟩
 ·have e2:=of_decide_eq_true e
  rw [if_pos (by omega)] at hK
  refine reader_fail_ok D (by decide) fun h3 D3 M3=>⟨rfl,query_leaf_ok leafN fun a c h5 N5 _ l5=>⟨_,_,_,rfl,?_⟩⟩
  exact hK a c h5 (D3.le l5) (N5.base (M3.up D3.al)) (M3.trans (Mut.of_le l5))
 ·have e2:=of_decide_eq_false e
  rw [if_neg (by omega)] at hK
  refine expr_Join_ok X Y Wy (by omega) (by omega) fun a' c' h' V=>⟨_,_,_,rfl,?_⟩
  refine hK a' c' h' (D.le V.le0) ⟨V.slp encN_len (by decide),fun b o e=>?_⟩ (Mut.of_le V.le0)
  obtain rfl:=(OwnV.own V).at0 b o e
  exact OwnV.new V b e
end Go.Proofs.YtiflgceoamkmnaaGreatDoor
namespace Go.Txt
open Go.Lib
theorem parse_inv:∀(l:List UInt8) (a u:Nat),parseUint10 a l=.ok u→(∀ c ∈ l,isD c)∧u=valF a l
 | [],a,u,h=>by
  rw [parseUint10] at h
  injection h with h
  exact⟨by simp,h.symm⟩
 | c :: l,a,u,h=>by
  rw [parseUint10] at h
  split at h
  ·rename_i hc
   split at h
   ·cases h
   ·split at h
    ·cases h
    ·obtain⟨h1,h2⟩:=parse_inv l _ u h
     refine⟨fun x hx=>?_,?_⟩
     ·rcases List.mem_cons.1 hx with rfl|hx
      ·exact hc
      ·exact h1 x hx
     ·rw [h2,Nat.mul_comm];rfl
  ·cases h
theorem natF_go {l:List UInt8}(hl:l≠[])(most:Int):natF l most false=natGo most 0 l:=by
 unfold natF
 rw [if_neg]
 rintro(h|⟨h,_⟩)
 ·exact hl h
 ·cases h
theorem natF_eq {l:List UInt8}(hl:l≠[]){most:Int}(hm:0≤most):natF l most false=if (∀ c ∈ l,isD c)∧(valF 0 l:Int)≤most then(valF 0 l:Int) else -1:=by
 rw [natF_go hl]
 exact natGo_spec most l 0 hm
theorem natF_low {l:List UInt8}{most:Int}(hm:0≤most):-1≤natF l most false∧natF l most false≤most:=by
 by_cases hl:l=[]
 ·subst hl;unfold natF;simp;omega
 ·rw [natF_eq hl hm]
  split<;>omega
theorem atoi_digits {c:UInt8}{r:List UInt8}(hc:isD c){v:Int}(h:atoiAll (c :: r)=.ok v):(∀ x ∈ c :: r,isD x)∧v=valF 0 (c :: r):=by
 have hc':=hc
 unfold isD at hc'
 unfold atoiAll at h
 simp only at h
 rw [if_neg (by omega)] at h
 unfold parseMag at h
 rw [if_neg (by simp)] at h
 cases hp:parseUint10 0 (c :: r) with
 | ok u=>
  rw [hp] at h
  simp only at h
  rw [if_neg (show ¬(c.toNat=45∧9223372036854775808 < u) by omega),if_neg (show ¬ c.toNat=45 by omega)] at h
  split at h
  ·cases h
  ·injection h with h
   obtain⟨h1,h2⟩:=parse_inv _ _ _ hp
   exact⟨h1,by rw [←h,h2]⟩
 | range=>rw [hp] at h;cases h
 | _=>rw [hp] at h;cases h
theorem atoi_of_digits {l:List UInt8}(hl:l≠[])(hd:∀ x ∈ l,isD x)(hv:valF 0 l≤1000000000000):atoiAll l=.ok (valF 0 l):=by
 match l,hl with
 | c :: r,hl=>
  have hc:=hd c (List.mem_cons_self ..)
  unfold isD at hc
  have hp:=parse_spec (c :: r) 0 hd (by omega)
  unfold atoiAll
  simp only
  rw [if_neg (by omega)]
  unfold parseMag
  rw [if_neg (by simp),hp]
  simp only
  rw [if_neg (by omega),if_neg (by omega),if_neg (by omega)]
theorem atoi_nat {c:UInt8}{r:List UInt8}{v:Int}(h:atoiAll (c :: r)=.ok v){most:Int}(hm:0≤most):natF (c :: r) most false=if isD c∧v≤most then v else -1:=by
 by_cases hc:isD c
 ·obtain⟨h1,h2⟩:=atoi_digits hc h
  rw [natF_eq (by simp) hm,h2]
  by_cases h3:(valF 0 (c :: r):Int)≤most
  ·rw [if_pos ⟨h1,h3⟩,if_pos ⟨hc,h3⟩]
  ·rw [if_neg (fun e=>h3 e.2),if_neg (fun e=>h3 e.2)]
 ·rw [natF_eq (by simp) hm,if_neg (fun e=>hc (e.1 c (List.mem_cons_self ..))),if_neg (fun e=>hc e.1)]
theorem atoi_none {l:List UInt8}(h:∀ v,atoiAll l≠.ok v){most:Int}(hm:0≤most)(hm2:most≤1000000000000):natF l most false=-1:=by
 by_cases hl:l=[]
 ·subst hl;unfold natF;simp
 ·rw [natF_eq hl hm]
  by_cases h3:(∀ c ∈ l,isD c)∧(valF 0 l:Int)≤most
  ·exact absurd (atoi_of_digits hl h3.1 (by omega)) (h _)
  ·rw [if_neg h3]
end Go.Txt
namespace Go.Proofs.YtiflgceoamkmnaaGreatDoor
open Go Go.Vc Go.Txt
def aggsW:List Wd:=[[],wCount,wCount,wSum,wMin,wMax]
structure TabQ (h:Hp):Prop where
 p:TabP h
 e:TabE h
 f:∃ a c,Hp.cell h 4 0=some (vsl a 4 c)∧SlB h a 4 fieldW
 a:∃ a c,Hp.cell h 0 0=some (vsl a 6 c)∧SlB h a 6 aggsW
theorem TabQ.le {h h':Hp}(T:TabQ h)(l:h.le h'):TabQ h':=by
 obtain⟨p,e,⟨a,c,h1,h2⟩,b,d,h3,h4⟩:=T
 exact⟨p.le l,e.le l,⟨a,c,Hp.cell_le l h1,SlP.le l h2⟩,b,d,Hp.cell_le l h3,SlP.le l h4⟩
structure EnvQ (h0 h:Hp)(g:Nat):Prop where
 t:TabQ h0
 l:h0.le h
 n:h0 g=none
theorem EnvQ.mut {h0 h h':Hp}{g:Nat}(E:EnvQ h0 h g)(M:Mut (At g) h (At g) h'):EnvQ h0 h' g:=
 ⟨E.t,fun b o hb=>M.keep b o (fun e=>by rw [show b=g from e,E.n] at hb;cases hb) (E.l b o hb),E.n⟩
theorem EnvQ.now {h0 h:Hp}{g:Nat}(E:EnvQ h0 h g):TabQ h:=E.t.le E.l
structure ElAt {α:Type}(enc:α→List Value)(h:Hp)(g:Nat)(a:Option Addr)(n:Nat)(l:List α):Prop where
 s:SlP enc h a n l
 ne:∀ b o,a=some ⟨b,o,none⟩→b≠g
theorem ElAt.mut {α:Type}{enc:α→List Value}{h h':Hp}{g:Nat}{a:Option Addr}{n:Nat}{l:List α}(N:ElAt enc h g a n l)(M:Mut (At g) h (At g) h'):ElAt enc h' g a n l:=by
 refine⟨⟨N.s.1,(HasRow.del N.s.2 N.ne).le fun b o hb=>?_⟩,N.ne⟩
 by_cases e:b=g
 ·subst e;simp [Hp.del] at hb
 ·refine M.keep b o (fun h=>e h) ?_
  simpa [Hp.del,e] using hb
theorem RdAt.c0 {h0 h:Hp}{g:Nat}{s:RS}(D:RdAt h0 h g s):∃ a c,h.cell g 0=some (vsl a s.ws.length c):=by
 obtain⟨a,c,hb,_⟩:=D.b
 exact⟨a,c,(rd_block hb).1⟩
theorem RdAt.c1 {h0 h:Hp}{g:Nat}{s:RS}(D:RdAt h0 h g s):h.cell g (0+1)=some (vi s.deep):=by
 obtain⟨a,c,hb,_⟩:=D.b
 exact(rd_block hb).2.1
theorem RdAt.c2 {h0 h:Hp}{g:Nat}{s:RS}(D:RdAt h0 h g s):h.cell g (0+2)=some (ifv (errV s.f)):=by
 obtain⟨a,c,hb,_⟩:=D.b
 exact(rd_block hb).2.2
theorem RdAt.put1 {h0 h:Hp}{g:Nat}{s:RS}(D:RdAt h0 h g s){d:Int}{K:Hp→Prop}(hK:∀ h',RdAt h0 h' g ⟨s.ws,d,s.f⟩→Mut (At g) h (At g) h'→K h'):h.store g (0+1) [vi d] K:=by
 obtain⟨a,c,hb,hS,hc⟩:=D.b
 exact rd_put1 hb (hK _ ⟨⟨a,c,Hp.set_same _ _ _,hS,hc⟩,le_put D.l D.n _,D.n,D.w⟩ (mut_set _ _ _))
theorem RdAt.put2 {h0 h:Hp}{g:Nat}{s:RS}(D:RdAt h0 h g s){f:Int}{K:Hp→Prop}(hK:∀ h',RdAt h0 h' g ⟨s.ws,s.deep,f⟩→Mut (At g) h (At g) h'→K h'):h.store g (0+2) [ifv (errV f)] K:=by
 obtain⟨a,c,hb,hS,hc⟩:=D.b
 exact rd_put2 hb (hK _ ⟨⟨a,c,Hp.set_same _ _ _,hS,hc⟩,le_put D.l D.n _,D.n,D.w⟩ (mut_set _ _ _))
theorem isD_le {c:UInt8}:(decide (((c.toNat:Nat):Int) < 48)=false∧decide (((c.toNat:Nat):Int) > 57)=false)↔isD c:=by
 unfold isD
 constructor
 ·rintro⟨h1,h2⟩
  have h1:=of_decide_eq_false h1
  have h2:=of_decide_eq_false h2
  omega
 ·intro h
  exact⟨decide_eq_false (by omega),decide_eq_false (by omega)⟩
theorem reader_number_ok {h0 h:Hp}{g:Nat}{s:RS}(D:RdAt h0 h g s)(E:EnvQ h0 h g)(hl:s.ws.length≤1000000){most:Int}(hm:0≤most)(hm2:most≤1000000000000){R:Value→Hp→Prop}(hK:∀ h',RdAt h0 h' g (s.number most).2→Mut (At g) h (At g) h'→R (vi (s.number most).1) h'):CallOK Tryz.prog 85 [vhp g 0,vi most] h R:=by
 have hfail:(s.number most)=(0,s.fail 4)→CallOK Tryz.prog 128 [vhp g 0,ifv (some (99,vi 4))] h fun v2 h3=>v2=vtup []∧R (vi 0) h3:=by
  intro e
  rw [e] at hK
  exact reader_fail_ok D (by decide) fun h' D' M=>⟨rfl,hK h' D' M⟩
 obtain⟨a,c,hb,hS,hc⟩:=D.b
 refine ok_query_reader_number ?_
 unfold VC_query_reader_number
 have hcell:=(rd_block hb).1
 have hw:=D.w
 obtain⟨ws,dp,f⟩:=s
 simp only at hb hS hc hcell hw hl
 refine⟨_,_,_,hcell,fun e=>?_,fun e=>?_⟩
 ·have:ws=[]:=by
   have:=of_decide_eq_true e
   exact List.length_eq_zero_iff.1 (by omega)
  subst this
  exact hfail rfl
 cases ws with
 | nil=>simp at e
 | cons w r=>
  obtain⟨b,o,ha,hc0⟩:=SlP.get1 (SlP.le D.l hS) (i:=0) (by simp)
  have hc1:h.cell b (o+(0:Int).toNat*1)=some (vs (bs w)):=hc0
  have hlen:(0:Int) < (((w :: r).length:Nat):Int):=by simp
  have hwl:=hw w (List.mem_cons_self ..)
  refine⟨_,_,_,hcell,b,o,⟨ha,by decide,hlen⟩,_,hc1,?_⟩
  refine strconv_Atoi_ok hwl E.now.e (fun v hv=>?_) fun hn x e=>?_
  ·match w,hv with
   | [],hv=>exact absurd hv (by simp [Lib.atoiAll])
   | c0 :: cs,hv=>
   have hx:Rd Tryz.prog (Instr.index 9 (vs (bs (c0 :: cs))) (vi 0)) h (vk .u8 (c0.toNat:Nat)):=rd_idx (by kernel_rfl) (l:=c0 :: cs) (i:=0) (by decide) (by simp)
   refine⟨_,_,rfl,_,_,_,fun _=>hcell,b,o,fun _=>⟨ha,by decide,hlen⟩,_,fun _=>hc1,_,fun _=>hx,_,_,_,fun _=>hcell,b,o,fun _=>⟨ha,by decide,hlen⟩,_,fun _=>hc1,_,fun _=>hx,?_⟩
   have hnat:=atoi_nat hv hm
   have hnum:(⟨(c0 :: cs) :: r,dp,f⟩:RS).number most=if natF (c0 :: cs) most false < 0 then(0,(⟨(c0 :: cs) :: r,dp,f⟩:RS).fail 4) else(natF (c0 :: cs) most false,⟨r,dp,f⟩):=rfl
   have hcond:(bif (bif (bif (Option.isSome (none:Option (TypeId × Value))) then true else(decide (((c0.toNat:Nat):Int) < 48))) then true else(decide (((c0.toNat:Nat):Int) > 57))) then true else(decide ((v:Int) > most)))=!decide (isD c0∧v≤most):=by
    have hi:=@isD_le c0
    rw [show (decide (v > most))=!decide (v≤most) by rw [cnot];exact decide_eq_decide.2 (by omega)]
    cases h1:decide (((c0.toNat:Nat):Int) < 48)<;>cases h2:decide (((c0.toNat:Nat):Int) > 57)<;>simp only [h1,h2] at hi<;>simp at hi<;>simp [hi]
   rw [hcond]
   refine⟨fun e=>?_,fun e=>?_⟩
   ·have e2:¬(isD c0∧v≤most):=by rw [cnot] at e;exact of_decide_eq_true e
    rw [if_neg e2] at hnat
    rw [hnat,if_pos (by decide)] at hnum
    exact hfail hnum
   ·have e2:isD c0∧v≤most:=by rw [cnot] at e;exact Decidable.not_not.1 (of_decide_eq_false e)
    rw [if_pos e2] at hnat
    obtain⟨_,hv2⟩:=atoi_digits e2.1 hv
    rw [hnat,if_neg (by omega)] at hnum
    rw [hnum] at hK
    have hsz:szT Tryz.prog 9=1:=by kernel_rfl
    have hr:=rd_slice_l (P:=Tryz.prog) (h:=h) (t:=145) (e:=9) (by kernel_rfl) (by kernel_rfl) (a:=a) (n:=((c0 :: cs) :: r).length) (c:=c) (x:=1) (by decide) (by simp;omega)
    rw [hsz] at hr
    refine⟨_,_,_,hcell,_,_,_,hr,rd_put0 hb ?_⟩
    have hS2:=SlP.drop encB_len hS (i:=1) (by simp) hc
    exact hK _ ⟨⟨_,_,Hp.set_same _ _ _,⟨rfl,hS2.2⟩,by simp at hc ⊢;omega⟩,le_put D.l D.n _,D.n,fun x hx=>hw x (List.mem_cons_of_mem _ hx)⟩ (mut_set _ _ _)
  ·have no:∀{p:Prop},Option.isSome (some e)=false→p:=fun q=>by cases q
   refine⟨x,some e,rfl,none,0,0,no,0,0,no,⟨#[]⟩,no,0,no,none,0,0,(fun q=>by cases q),0,0,(fun q=>by cases q),⟨#[]⟩,(fun q=>by cases q),0,(fun q=>by cases q),(fun _=>?_),(fun q=>by cases q)⟩
   have hnat:=atoi_none hn hm hm2
   refine hfail ?_
   show (if natF w most false < 0 then(0,(⟨w :: r,dp,f⟩:RS).fail 4) else(natF w most false,⟨r,dp,f⟩))=_
   rw [hnat,if_pos (by decide)]
structure SOk (n:Nat)(s:RS):Prop where
 good:s.good
 len:s.ws.length < n
 big:s.ws.length≤1000
 d0:0≤s.deep
 d1:s.deep+s.ws.length≤1000000
theorem SOk.goes {n:Nat}{s t:RS}(S:SOk n s)(G:Goes t s):SOk n t:=by
 have h1:=G.len
 have h2:=G.deep
 have:=S.len
 have:=S.big
 have:=S.d0
 have:=S.d1
 exact⟨G.ok,by omega,by omega,by omega,by omega⟩
def Reads (f:FuncId)(P:Ps)(n:Nat):Prop:=∀{h0 h:Hp} {g:Nat} {s:RS},RdAt h0 h g s→EnvQ h0 h g→SOk n s→∀{R:Value→Hp→Prop},(∀ a c h',RdAt h0 h' g (P s).2→NdAt h h' a (P s).1.length (P s).1→Mut (At g) h (At g) h'→R (vsl a (P s).1.length c) h')→CallOK Tryz.prog f [vhp g 0] h R
def Bodied (f:FuncId):Prop:=∃ fn,Tryz.prog.funcs[f]?=some fn∧(fn.name == "runtime.NumGoroutine")=false∧fn.body.isNone=false
theorem inv_of {f:FuncId}(B:Bodied f){g:Nat}{h:Hp}{K:Value→Hp→Prop}(H:CallOK Tryz.prog f [vhp g 0] h K):InvOK Tryz.prog (.func (.func f) #[vhp g 0] #[]) [] h K:=⟨f,_,_,rfl,B,H⟩
theorem reader_down_ok {f:FuncId}{P:Ps}{n:Nat}(B:Bodied f)(F:Reads f P n)(kp:KP P n){h0 h:Hp}{g:Nat}{s:RS}(D:RdAt h0 h g s)(E:EnvQ h0 h g)(S:SOk n s)(hd:s.deep+s.ws.length < 1000000){R:Value→Hp→Prop}(hK:∀ a c h',RdAt h0 h' g (downP P s).2→NdAt h h' a (downP P s).1.length (downP P s).1→Mut (At g) h (At g) h'→R (vsl a (downP P s).1.length c) h'):CallOK Tryz.prog 187 [vhp g 0,.func (.func f) #[vhp g 0] #[]] h R:=by
 refine ok_query_reader_down ?_
 unfold VC_query_reader_down
 have d0:=S.d0
 refine⟨_,D.c1,_,isW (by unfold InR;omega),D.put1 fun h3 D3 M3=>⟨_,D3.c1,?_⟩⟩
 intro J9
 have key:∀(h10:Hp) (u:RS),RdAt h0 h10 g u→Mut (At g) h (At g) h10→SOk n u→downP P s=((P u).1,⟨(P u).2.ws,(P u).2.deep - 1,(P u).2.f⟩)→J9 h10:=by
  intro h10 u D10 M10 Su hP
  rw [hP] at hK
  have k:=kp u Su.good (Nat.le_of_lt Su.len)
  have hdp:=k.deep
  have du:=Su.d0
  have du1:=Su.d1
  have hg:=D.al
  refine inv_of B (F D10 (E.mut M10) Su fun a c h' D' N' M'=>⟨_,_,_,rfl,_,D'.c1,_,isW (by unfold InR;omega),D'.put1 fun h4 D4 M4=>?_⟩)
  exact hK a c h4 D4 ((N'.base (M10.up D10.al)).mut hg M4) ((M10.trans M').trans M4)
 clear_value J9
 refine⟨fun e=>?_,fun e=>?_⟩
 ·have e2:s.deep+1 > 12:=of_decide_eq_true e
  refine reader_fail_ok D3 (by decide) fun h4 D4 M4=>⟨rfl,key h4 _ D4 (M3.trans M4) ⟨RS.fail_good _ _,by have:=S.len;exact Nat.lt_of_le_of_lt (Nat.zero_le _) this,Nat.zero_le _,by show 0≤s.deep+1;omega,by show s.deep+1+((0:Nat):Int)≤1000000;omega⟩ ?_⟩
  unfold downP
  simp only [if_pos e2]
 ·have e2:¬ s.deep+1 > 12:=of_decide_eq_false e
  refine key h3 _ D3 M3 ⟨S.good,S.len,S.big,by show 0≤s.deep+1;omega,by show s.deep+1+(s.ws.length:Int)≤1000000;omega⟩ ?_
  unfold downP
  simp only [if_neg e2]
structure QOk (q:Qy):Prop where
 n1:1≤q.aggs.length
 n2:q.aggs.length≤4
 g:∀ a ∈ q.aggs,1≤a.1∧a.1≤5∧(a.1≠1→exprF a.2=0)∧(a.1=1→a.2=[])
 w:q.wh≠[]→exprF q.wh=0
 b:q.by_≠[]→exprF q.by_=0
 s:1≤q.size∧q.size≤1000
 l:1≤q.slide∧q.slide≤1000
 d:0≤q.delay∧q.delay≤1000
 t:0≤q.late∧q.late≤1000
 r:q.slide≤q.size∧q.size≤4*q.slide
 ga:∀ a ∈ q.aggs,a.1≠1→typedF a.2 (if a.1=2 then 0 else 1)=0
 wa:q.wh≠[]→typedF q.wh 2=0
 ba:q.by_≠[]→typedF q.by_ 0=0
theorem typedF_expr {l:List Nd}{k:Int}(h:typedF l k=0):exprF l=0:=by
 unfold typedF at h
 split at h
 ·rename_i q;exact absurd h q
 ·rename_i q;exact Decidable.not_not.1 q
theorem qok_of {q:Qy}(h:qryF q=0):QOk q:=by
 unfold qryF at h
 split at h
 ·cases h
 rename_i h1
 split at h
 ·rename_i h2;exact absurd h h2
 rename_i h2
 have h2:=firstF_all (Decidable.not_not.1 h2)
 have h3:=firstF_all h
 have ha:∀ a ∈ q.aggs,aggF a=0:=fun a ha=>h2 _ (List.mem_map.2 ⟨a,ha,rfl⟩)
 have hw:=h3 (if q.wh=[] then 0 else typedF q.wh 2) (by simp)
 have hb:=h3 (if q.by_=[] then 0 else typedF q.by_ 0) (by simp)
 have hn:=h3 (numsF q) (by simp)
 have hga:∀ a ∈ q.aggs,1≤a.1∧a.1≤5∧(a.1≠1→typedF a.2 (if a.1=2 then 0 else 1)=0)∧(a.1=1→a.2=[]):=by
  intro a h4
  have h5:=ha a h4
  unfold aggF at h5
  split at h5
  ·cases h5
  ·rename_i h6
   refine⟨by omega,by omega,fun h7=>?_,fun h7=>?_⟩
   ·rw [if_neg h7] at h5;exact h5
   ·exact Decidable.byContradiction fun h8=>h6 (.inr (.inr ⟨h7,h8⟩))
 have hwa:q.wh≠[]→typedF q.wh 2=0:=fun h4=>by rw [if_neg h4] at hw;exact hw
 have hba:q.by_≠[]→typedF q.by_ 0=0:=fun h4=>by rw [if_neg h4] at hb;exact hb
 have hnn:¬(q.size < 1∨q.size > 1000∨q.slide < 1∨q.slide > 1000∨q.delay < 0∨q.delay > 1000∨q.late < 0∨q.late > 1000)∧¬(q.slide > q.size∨q.size > 4*q.slide):=by
  unfold numsF at hn
  split at hn
  ·cases hn
  ·rename_i h4
   split at hn
   ·cases hn
   ·rename_i h5;exact⟨h4,h5⟩
 exact⟨by omega,by omega,fun a h4=>⟨(hga a h4).1,(hga a h4).2.1,fun h5=>typedF_expr ((hga a h4).2.2.1 h5),(hga a h4).2.2.2⟩,fun h4=>typedF_expr (hwa h4),fun h4=>typedF_expr (hba h4),by omega,by omega,by omega,by omega,by omega,fun a h4 h5=>(hga a h4).2.2.1 h5,hwa,hba⟩
end Go.Proofs.YtiflgceoamkmnaaGreatDoor
namespace Go.Proofs.YtiflgceoamkmnaaGreatDoor
open Go Go.Vc
def VC_query_typed (u0:Option Addr)(u1 u2:Nat)(u3:Int)(h:Hp)(R:Value→Hp→Prop):Prop:=
 (CallOK Tryz.prog 118 [vsl u0 u1 u2] h fun v1 h2=>∃ e3,v1=(ifv e3)∧(((Option.isSome e3)=true→R (ifv e3) h2)∧((Option.isSome e3)=false→(CallOK Tryz.prog 119 [vsl u0 u1 u2] h2 fun v5 h6=>∃ x7 e8,v5=(vtup [vi x7,ifv e8])∧(let J11:Option (TypeId × Value)→Prop:=fun e12=>R (ifv e12) h6;(((bif (bif (bif (Option.isNone e8) then(decide (u3≠0)) else false) then(decide (x7≠u3)) else false) then(decide (x7≠0)) else false)=true→(J11 (some (99,(vi 3)))))∧((bif (bif (bif (Option.isNone e8) then(decide (u3≠0)) else false) then(decide (x7≠u3)) else false) then(decide (x7≠0)) else false)=false→(J11 e8))))))))
theorem ok_query_typed {u0 u1 u2 u3 h R}(H:VC_query_typed u0 u1 u2 u3 h R):CallOK Tryz.prog 68 [vsl u0 u1 u2,vi u3] h R:=
 call_of (cfg:=⟨[],[],[]⟩) noNG mixed Tryz.func68 [.one (.v (vsl u0 u1 u2)),.one (.v (vi u3))] (by kernel_rfl) rfl (by kernel_rfl) H
def VC_query_numbers (u0:Option Addr)(u1 u2:Nat)(u3:Option Addr)(u4 u5:Nat)(u6:Option Addr)(u7 u8:Nat)(u9:Int)(u10:Int)(u11:Int)(u12:Int)(h:Hp)(R:Value→Hp→Prop):Prop:=
 (∀ b1,h b1=none→let h2:= Hp.set h b1 (cellsO [vi u9,vi u10] 3);(∃(I4:List Value→Hp→Prop) (m5:List Value→Hp→Nat),I4 [vi 0] h2∧∀ vs6 h7,I4 vs6 h7→∃ x8,vs6=[vi x8]∧(((decide (x8 < ((2:Nat):Int)))=true→(∃ b11 o12,((some (⟨b1,0,none⟩:Addr))=some ⟨b11,o12,none⟩∧(0:Int)≤x8∧x8 < ((2:Nat):Int))∧(∃ x13,(Hp.cell h7 b11 (o12+x8.toNat*1)=some (vi x13))∧(((bif (decide (x13 < 1)) then true else(decide (x13 > 1000)))=true→R (ifv (some (99,(vi 1)))) h7)∧((bif (decide (x13 < 1)) then true else(decide (x13 > 1000)))=false→(∃ x15,(IsW x15 (x8+1))∧(I4 [vi x15] h7∧m5 [vi x15] h7 < m5 vs6 h7)))))))∧((decide (x8 < ((2:Nat):Int)))=false→(∀ b16,h7 b16=none→let h17:= Hp.set h7 b16 (cellsO [vi u11,vi u12] 3);(∃(I19:List Value→Hp→Prop) (m20:List Value→Hp→Nat),I19 [vi 0] h17∧∀ vs21 h22,I19 vs21 h22→∃ x23,vs21=[vi x23]∧(((decide (x23 < ((2:Nat):Int)))=true→(∃ b26 o27,((some (⟨b16,0,none⟩:Addr))=some ⟨b26,o27,none⟩∧(0:Int)≤x23∧x23 < ((2:Nat):Int))∧(∃ x28,(Hp.cell h22 b26 (o27+x23.toNat*1)=some (vi x28))∧(((bif (decide (x28 < 0)) then true else(decide (x28 > 1000)))=true→R (ifv (some (99,(vi 1)))) h22)∧((bif (decide (x28 < 0)) then true else(decide (x28 > 1000)))=false→(∃ x30,(IsW x30 (x23+1))∧(I19 [vi x30] h22∧m20 [vi x30] h22 < m20 vs21 h22)))))))∧((decide (x23 < ((2:Nat):Int)))=false→(∃ x31,((decide (u10 > u9))=false→IsW x31 (4*u10))∧(((bif (decide (u10 > u9)) then true else(decide (u9 > x31)))=true→R (ifv (some (99,(vi 3)))) h22)∧((bif (decide (u10 > u9)) then true else(decide (u9 > x31)))=false→R (ifv none) h22)))))))))))
theorem ok_query_numbers {u0 u1 u2 u3 u4 u5 u6 u7 u8 u9 u10 u11 u12 h R}(H:VC_query_numbers u0 u1 u2 u3 u4 u5 u6 u7 u8 u9 u10 u11 u12 h R):CallOK Tryz.prog 69 [vag [vsl u0 u1 u2,vsl u3 u4 u5,vsl u6 u7 u8,vi u9,vi u10,vi u11,vi u12]] h R:=
 call_of (cfg:=⟨[],[(2,([13],[.one (.int .i64)],[])),(8,([31],[.one (.int .i64)],[]))],[]⟩) noNG mixed Tryz.func69 [.ag [.v (vsl u0 u1 u2),.v (vsl u3 u4 u5),.v (vsl u6 u7 u8),.v (vi u9),.v (vi u10),.v (vi u11),.v (vi u12)]] (by kernel_rfl) rfl (by kernel_rfl) H
def VC_query_Check (u0:Option Addr)(u1 u2:Nat)(u3:Option Addr)(u4 u5:Nat)(u6:Option Addr)(u7 u8:Nat)(u9:Int)(u10:Int)(u11:Int)(u12:Int)(h:Hp)(R:Value→Hp→Prop):Prop:=
 (((bif (decide ((u1:Int) < 1)) then true else(decide ((u1:Int) > 4)))=true→R (ifv (some (99,(vi 2)))) h)∧((bif (decide ((u1:Int) < 1)) then true else(decide ((u1:Int) > 4)))=false→(∃(I3:List Value→Hp→Prop) (m4:List Value→Hp→Nat),I3 [vi 0] h∧∀ vs5 h6,I3 vs5 h6→∃ x7,vs5=[vi x7]∧(((decide (x7 < (u1:Int)))=true→(let J25:Hp→Prop:=fun h26=>(∃ x27,(IsW x27 (x7+1))∧(I3 [vi x27] h26∧m4 [vi x27] h26 < m4 vs5 h6));(∃ b10 o11,(u0=some ⟨b10,o11,none⟩∧(0:Int)≤x7∧x7 < (u1:Int))∧(∃ x12 a13 n13 c13,(Hp.row h6 b10 (o11+x7.toNat*2) 2=some [vi x12,vsl a13 n13 c13])∧(((bif (bif (decide (x12 < 1)) then true else(decide (x12 > 5))) then true else(bif (decide (x12=1)) then(decide ((n13:Int) > 0)) else false))=true→R (ifv (some (99,(vi 3)))) h6)∧((bif (bif (decide (x12 < 1)) then true else(decide (x12 > 5))) then true else(bif (decide (x12=1)) then(decide ((n13:Int) > 0)) else false))=false→(((decide (x12=1))=true→(J25 h6))∧((decide (x12=1))=false→(let J19:Int→Prop:=fun x20=>(CallOK Tryz.prog 68 [vsl a13 n13 c13,vi x20] h6 fun v21 h22=>∃ e23,v21=(ifv e23)∧(((Option.isSome e23)=true→R (ifv e23) h22)∧((Option.isSome e23)=false→(J25 h22))));(((decide (x12=2))=true→(J19 0))∧((decide (x12=2))=false→(J19 1))))))))))))∧((decide (x7 < (u1:Int)))=false→(let J33:Hp→Prop:=fun h34=>(let J40:Hp→Prop:=fun h41=>(CallOK Tryz.prog 69 [vag [vsl u0 u1 u2,vsl u3 u4 u5,vsl u6 u7 u8,vi u9,vi u10,vi u11,vi u12]] h41 fun v42 h43=>∃ e44,v42=(ifv e44)∧R (ifv e44) h43);(((decide ((u7:Int) > 0))=true→(CallOK Tryz.prog 68 [vsl u6 u7 u8,vi 0] h34 fun v35 h36=>∃ e37,v35=(ifv e37)∧(((Option.isSome e37)=true→R (ifv e37) h36)∧((Option.isSome e37)=false→(J40 h36)))))∧((decide ((u7:Int) > 0))=false→(J40 h34))));(((decide ((u4:Int) > 0))=true→(CallOK Tryz.prog 68 [vsl u3 u4 u5,vi 2] h6 fun v28 h29=>∃ e30,v28=(ifv e30)∧(((Option.isSome e30)=true→R (ifv e30) h29)∧((Option.isSome e30)=false→(J33 h29)))))∧((decide ((u4:Int) > 0))=false→(J33 h6)))))))))
theorem ok_query_Check {u0 u1 u2 u3 u4 u5 u6 u7 u8 u9 u10 u11 u12 h R}(H:VC_query_Check u0 u1 u2 u3 u4 u5 u6 u7 u8 u9 u10 u11 u12 h R):CallOK Tryz.prog 34 [vag [vsl u0 u1 u2,vsl u3 u4 u5,vsl u6 u7 u8,vi u9,vi u10,vi u11,vi u12]] h R:=
 call_of (cfg:=⟨[],[(4,([23],[.one (.int .i64)],[]))],[]⟩) noNG mixed Tryz.func34 [.ag [.v (vsl u0 u1 u2),.v (vsl u3 u4 u5),.v (vsl u6 u7 u8),.v (vi u9),.v (vi u10),.v (vi u11),.v (vi u12)]] (by kernel_rfl) rfl (by kernel_rfl) H
def VC_expr_one (u0:Int)(u1:Int)(u2:Int)(u3:Int)(u4:Int)(u5:Int)(h:Hp)(R:Value→Hp→Prop):Prop:=
 (CallOK Tryz.prog 64 [vi u0] h fun v1 h2=>∃ x3,v1=(vi x3)∧(((decide (x3 < 0))=true→R (ifv (some (99,(vi 3)))) h2)∧((decide (x3 < 0))=false→(∃ p5,((decide (u0≠1))=true→Rd Tryz.prog ((eqGuard .neq 41 (.tmp 15) (.tmp 16) (vag [vi u4,vi u5]) (vag [vi 0,vi 0]) >>= fun _=>binOp .neq 41 (vag [vi u4,vi u5]) (vag [vi 0,vi 0]))) h2 (vb p5))∧(((bif (bif (bif (bif (decide (u0≠1)) then p5 else false) then true else(bif (decide (u0≠2)) then(decide (u3≠0)) else false)) then true else(bif (decide (x3 < 2)) then(decide (u2≠0)) else false)) then true else(bif (decide (x3 < 1)) then(decide (u1≠0)) else false))=true→R (ifv (some (99,(vi 3)))) h2)∧((bif (bif (bif (bif (decide (u0≠1)) then p5 else false) then true else(bif (decide (u0≠2)) then(decide (u3≠0)) else false)) then true else(bif (decide (x3 < 2)) then(decide (u2≠0)) else false)) then true else(bif (decide (x3 < 1)) then(decide (u1≠0)) else false))=false→(((bif (decide (u0=2)) then(bif (decide (u3 < 0)) then true else(decide (u3 > 3))) else false)=true→R (ifv (some (99,(vi 1)))) h2)∧((bif (decide (u0=2)) then(bif (decide (u3 < 0)) then true else(decide (u3 > 3))) else false)=false→(CallOK Tryz.prog 117 [vag [vi u4,vi u5]] h2 fun v8 h9=>∃ e10,v8=(ifv e10)∧R (ifv e10) h9)))))))))
theorem ok_expr_one {u0 u1 u2 u3 u4 u5 h R}(H:VC_expr_one u0 u1 u2 u3 u4 u5 h R):CallOK Tryz.prog 151 [vag [vi u0,vi u1,vi u2,vi u3,vi u4,vi u5]] h R:=
 call_of (cfg:=⟨[],[],[]⟩) noNG mixed Tryz.func151 [.ag [.v (vi u0),.v (vi u1),.v (vi u2),.v (vi u3),.v (vi u4),.v (vi u5)]] (by kernel_rfl) rfl (by kernel_rfl) H
def VC_expr_Check (u0:Option Addr)(u1 u2:Nat)(h:Hp)(R:Value→Hp→Prop):Prop:=
 (((decide ((u1:Int) > 40))=true→R (ifv (some (99,(vi 2)))) h)∧((decide ((u1:Int) > 40))=false→(∃(I3:List Value→Hp→Prop) (m4:List Value→Hp→Nat),I3 [vsl none 0 0,vi 0] h∧∀ vs5 h6,I3 vs5 h6→∃ a7 n7 c7 x8,vs5=[vsl a7 n7 c7,vi x8]∧(((decide (x8 < (u1:Int)))=true→(∃ b11 o12,(u0=some ⟨b11,o12,none⟩∧(0:Int)≤x8∧x8 < (u1:Int))∧(∃ x13 x14 x15 x16 x17 x18,(Hp.row h6 b11 (o12+x8.toNat*6) 6=some [vi x13,vi x14,vi x15,vi x16,vi x17,vi x18])∧(CallOK Tryz.prog 151 [vag [vi x13,vi x14,vi x15,vi x16,vi x17,vi x18]] h6 fun v19 h20=>∃ e21,v19=(ifv e21)∧(((Option.isSome e21)=true→R (ifv e21) h20)∧((Option.isSome e21)=false→(CallOK Tryz.prog 64 [vi x13] h20 fun v23 h24=>∃ x25,v23=(vi x25)∧(((decide (x25 > (n7:Int)))=true→R (ifv (some (99,(vi 3)))) h24)∧((decide (x25 > (n7:Int)))=false→(∃ x27,(IsW x27 ((n7:Int) - x25))∧(∃ a28 n28 c28,(Rd Tryz.prog (Instr.sliceAt 50 (vsl a7 n7 c7) (some (vi x27)) none none) h24 (vsl a28 n28 c28))∧(∃ b29 o30,((decide (x25 > 0))=true→(a28=some ⟨b29,o30,none⟩∧(0:Int)≤0∧0 < (n28:Int)))∧(∃ x31,((decide (x25 > 0))=true→Hp.cell h24 b29 (o30+(0:Int).toNat*1)=some (vi x31))∧(∃ b32 o33,(((bif (decide (x25 > 0)) then(decide (x31≠x14)) else false)=false∧(decide (x25 > 1))=true)→(a28=some ⟨b32,o33,none⟩∧(0:Int)≤1∧1 < (n28:Int)))∧(∃ x34,(((bif (decide (x25 > 0)) then(decide (x31≠x14)) else false)=false∧(decide (x25 > 1))=true)→Hp.cell h24 b32 (o33+(1:Int).toNat*1)=some (vi x34))∧(((bif (bif (decide (x25 > 0)) then(decide (x31≠x14)) else false) then true else(bif (decide (x25 > 1)) then(decide (x34≠x15)) else false))=true→R (ifv (some (99,(vi 3)))) h24)∧((bif (bif (decide (x25 > 0)) then(decide (x31≠x14)) else false) then true else(bif (decide (x25 > 1)) then(decide (x34≠x15)) else false))=false→(∃ x36,(IsW x36 ((n7:Int) - x25))∧(∃ a37 n37 c37,(Rd Tryz.prog (Instr.sliceAt 50 (vsl a7 n7 c7) none (some (vi x36)) none) h24 (vsl a37 n37 c37))∧(∀ b38,h24 b38=none→let h39:= Hp.set h24 b38 (cellsO [vi x8] 3);(SemOK Tryz.prog (Builtin.append_ #[50,50] 50 #[vsl a37 n37 c37,(vsl (some (⟨b38,0,none⟩:Addr)) 1 1)]) h39 fun v40 h41=>∃ a42 n42 c42,v40=(vsl a42 n42 c42)∧(∃ x44,(IsW x44 (x8+1))∧(I3 [vsl a42 n42 c42,vi x44] h41∧m4 [vsl a42 n42 c42,vi x44] h41 < m4 vs5 h6)))))))))))))))))))))))∧((decide (x8 < (u1:Int)))=false→(((decide ((n7:Int)≠1))=true→R (ifv (some (99,(vi 3)))) h6)∧((decide ((n7:Int)≠1))=false→R (ifv none) h6)))))))
theorem ok_expr_Check {u0 u1 u2 h R}(H:VC_expr_Check u0 u1 u2 h R):CallOK Tryz.prog 118 [vsl u0 u1 u2] h R:=
 call_of (cfg:=⟨[],[(5,([3,15],[.one (.slice),.one (.int .i64)],[]))],[(14,[0,1,2,3,4,5,6,7,8,9,10,11,12,13,14,15,16,17,18,19,20,21])]⟩) noNG mixed Tryz.func118 [.one (.v (vsl u0 u1 u2))] (by kernel_rfl) rfl (by kernel_rfl) H
def VC_value_Check (u0:Int)(u1:Int)(h:Hp)(R:Value→Hp→Prop):Prop:=
 (let J4:Bool→Prop:=fun p5=>((p5=true→R (ifv none) h)∧(p5=false→R (ifv (some (99,(vi 3)))) h));(((bif (decide (u0=0)) then(decide (u1=0)) else false)=true→(J4 (bif (decide (u0=0)) then(decide (u1=0)) else false)))∧((bif (decide (u0=0)) then(decide (u1=0)) else false)=false→(((bif (bif (decide (u0=1)) then(decide (u1≥(-1000000000))) else false) then(decide (u1≤1000000000)) else false)=true→(J4 (bif (bif (decide (u0=1)) then(decide (u1≥(-1000000000))) else false) then(decide (u1≤1000000000)) else false)))∧((bif (bif (decide (u0=1)) then(decide (u1≥(-1000000000))) else false) then(decide (u1≤1000000000)) else false)=false→(J4 (bif (decide (u0=2)) then(bif (decide (u1=0)) then true else(decide (u1=1))) else false)))))))
theorem ok_value_Check {u0 u1 h R}(H:VC_value_Check u0 u1 h R):CallOK Tryz.prog 117 [vag [vi u0,vi u1]] h R:=
 call_of (cfg:=⟨[],[],[]⟩) noNG mixed Tryz.func117 [.ag [.v (vi u0),.v (vi u1)]] (by kernel_rfl) rfl (by kernel_rfl) H
theorem value_Check_ok {v:Int × Int}{h:Hp}{R:Value→Hp→Prop}(hK:R (ifv (errV (if goodV v then 0 else 3))) h):CallOK Tryz.prog 117 [vag (encV v)] h R:=by
 refine ok_value_Check ?_
 unfold VC_value_Check
 intro J4
 have yes:goodV v→J4 true:=fun hg=>⟨fun _=>by rw [if_pos hg] at hK;exact hK,fun e=>by cases e⟩
 have no:¬ goodV v→J4 false:=fun hg=>⟨fun e=>(by cases e),fun _=>by rw [if_neg hg] at hK;exact hK⟩
 refine⟨fun e=>?_,fun e=>⟨fun e2=>?_,fun e2=>?_⟩⟩
 ·rw [e];exact yes (by unfold goodV;simp [Bool.cond_eq_ite] at e;omega)
 ·rw [e2];exact yes (by unfold goodV;simp [Bool.cond_eq_ite] at e2;omega)
 ·by_cases hg:goodV v
  ·have:(bif (decide (v.1=2)) then(bif (decide (v.2=0)) then true else(decide (v.2=1))) else false)=true:=by
    unfold goodV at hg
    simp [Bool.cond_eq_ite] at e e2 ⊢
    omega
   rw [this];exact yes hg
  ·have:(bif (decide (v.1=2)) then(bif (decide (v.2=0)) then true else(decide (v.2=1))) else false)=false:=by
    unfold goodV at hg
    simp [Bool.cond_eq_ite]
    omega
   rw [this];exact no hg
theorem eq_pair (v:Int × Int):(v=(0,0))=(v.1=0∧v.2=0):=propext ⟨fun h=>by rw [h];exact⟨rfl,rfl⟩,fun h=>Prod.ext h.1 h.2⟩
theorem expr_one_ok {n:Nd}{h:Hp}{R:Value→Hp→Prop}(hK:R (ifv (errV (nodeF n))) h):CallOK Tryz.prog 151 [vag (encN n)] h R:=by
 refine ok_expr_one ?_
 unfold VC_expr_one
 unfold nodeF at hK
 refine expr_Arity_ok ⟨_,rfl,fun q=>?_,fun q=>⟨_,fun _=>rd_neqV (a:=n.v) (b:=(0,0)),fun q2=>?_,fun q2=>⟨fun q3=>?_,fun q3=>value_Check_ok (v:=n.v) ⟨_,rfl,?_⟩⟩⟩⟩
 ·rw [if_pos (of_decide_eq_true q)] at hK;exact hK
 all_goals
  have c1:=of_decide_eq_false q
  simp only [cand,cor,cnot] at *
 ·have c2:=of_decide_eq_true q2
  rw [if_neg c1,if_pos (by simp only [ne_eq,eq_pair] at c2 ⊢;omega)] at hK
  exact hK
 ·have c2:=of_decide_eq_false q2
  have c3:=of_decide_eq_true q3
  rw [if_neg c1,if_neg (by simp only [ne_eq,eq_pair] at c2 ⊢;omega),if_pos c3] at hK
  exact hK
 ·have c2:=of_decide_eq_false q2
  have c3:=of_decide_eq_false q3
  rw [if_neg c1,if_neg (by simp only [ne_eq,eq_pair] at c2 ⊢;omega),if_neg c3] at hK
  by_cases hg:goodV n.v
  ·rw [if_neg (by simp [hg])] at hK
   rw [if_pos hg];exact hK
  ·rw [if_pos hg] at hK
   rw [if_neg hg];exact hK
theorem expr_Check_ok {a:Option Addr}{k c:Nat}{l:List Nd}{h:Hp}{R:Value→Hp→Prop}(S:SlP encN h a k l)(hK:∀ h',h.le h'→R (ifv (errV (exprF l))) h'):CallOK Tryz.prog 118 [vsl a k c] h R:=by
 refine ok_expr_Check ?_
 unfold VC_expr_Check
 have hk:=S.1
 subst hk
 refine⟨fun e=>?_,fun e=>?_⟩
 ·have:exprF l=2:=by unfold exprF;rw [if_pos (by have:=of_decide_eq_true e;omega)]
  rw [this] at hK;exact hK h (Hp.le_refl h)
 have h40:l.length≤40:=by have:=of_decide_eq_false e;omega
 have e1:exprF l=chkGo [] 0 l:=by unfold exprF;rw [if_neg (by omega)]
 rw [e1] at hK
 refine⟨fun vs hh=>∃(i:Nat) (a:Option Addr) (c:Nat) (st:List Int),vs=[vsl a st.length c,vi i]∧i≤l.length∧st.length≤i∧chkGo [] 0 l=chkGo st i (l.drop i)∧OwnV h hh 3 1 a st.length c (st.reverse.map vi),fun vs hh=>l.length - (vint vs 1).toNat,
  ⟨0,none,0,[],rfl,Nat.zero_le _,Nat.le_refl _,rfl,OwnV.nil (Hp.le_refl h) _ _⟩,?_⟩
 rintro vs hh ⟨i,a1,c1,st,rfl,hi,hst,hc,O⟩
 refine⟨_,_,_,_,rfl,fun q=>?_,fun q=>?_⟩
 ·have hlt:i < l.length:=by have:=of_decide_eq_true q;omega
  have hx:l[i]?=some l[i]:=List.getElem?_eq_getElem hlt
  rw [drop_get hlt] at hc
  obtain⟨b,o,ha,hr⟩:=(S.le O.le).get encN_len (by decide) hx
  generalize l[i]=n at *
  refine⟨b,o,⟨ha,by omega,by omega⟩,_,_,_,_,_,_,hr,expr_one_ok (n:=n) ⟨_,rfl,fun q2=>?_,fun q2=>expr_Arity_ok ⟨_,rfl,?_⟩⟩⟩
  ·rw [errV_some] at q2
   have hf:nodeF n≠0:=by simpa using q2
   rw [chk_fault rfl hf] at hc
   rw [hc] at hK;exact hK hh O.le
  rw [errV_some] at q2
  have hf:nodeF n=0:=by simpa using q2
  have har:0≤arI n.op:=nodeF_ar hf
  have SI:SlI hh a1 st.length st.reverse:=by have:=O.sli;exact this
  have hbad:popN n st=none→R (ifv (errV 3)) hh:=fun hp=>by
   rw [chk_none hf hp] at hc
   rw [hc] at hK;exact hK hh O.le
  have hcap:=O.own.cap
  have hgood:∀ s,popN n st=some s→∀ x:Int,x=(st.length:Nat) - arI n.op→∀ K:Value→Hp→Prop,(∀(a46:Option Addr) (n46 c46:Nat) (h45:Hp),OwnV h h45 3 1 a46 n46 c46 ((((i:Int) :: s).reverse).map vi)→n46=s.length+1→K (vsl a46 n46 c46) h45) →
    ∃(a38:Option Addr) (n38 c38:Nat),(Rd Tryz.prog (Instr.sliceAt 50 (vsl a1 st.length c1) none (some (vi x)) none) hh (vsl a38 n38 c38))∧(∀(b42:Nat),hh b42=none→SemOK Tryz.prog (Builtin.append_ #[50,50] 50 #[(vsl a38 n38 c38),(vsl (some (⟨b42,0,none⟩:Addr)) 1 1)]) (Hp.set hh b42 (cellsO [(vi i)] 3)) K):=by
   intro s hs x hx K hK
   rw [hx]
   obtain⟨p1,p2⟩:=popN_some har hs
   rw [←p1]
   refine⟨_,_,_,rd_slice_h (e:=3) (by kernel_rfl) (by kernel_rfl) (by omega) (by omega),fun b42 hb42=>?_⟩
   rw [Int.toNat_natCast]
   have OC:OwnV h hh 3 1 a1 s.length c1 (s.reverse.map vi):=by
    have:=O.cut (m:=s.length) (by omega)
    rw [Nat.mul_one,←List.map_take,p2] at this
    exact this
   refine OwnV.append elInt (OwnV.set hb42 _ OC) (HasRow.new _ _ [vi i] _) (m:=1) rfl (by simp [Value.oneCell']) (by omega) (by omega) fun a2 c2 h2 O2 _ _=>hK _ _ _ _ ?_ rfl
   rw [List.reverse_cons,List.map_append]
   exact O2
  have hnext:∀ s,popN n st=some s→∀(a46:Option Addr) (n46 c46:Nat) (h45:Hp),OwnV h h45 3 1 a46 n46 c46 ((((i:Int) :: s).reverse).map vi)→n46=s.length+1→∃(x48:Int),IsW x48 ((i:Int)+1)∧(∃(i':Nat) (a:Option Addr) (c:Nat) (st:List Int),[vsl a46 n46 c46,vi x48]=[vsl a st.length c,vi i']∧i'≤l.length∧st.length≤i'∧chkGo [] 0 l=chkGo st i' (l.drop i')∧OwnV h h45 3 1 a st.length c (st.reverse.map vi))∧l.length - (vint [vsl a46 n46 c46,vi x48] 1).toNat < l.length - (vint [vsl a1 st.length c1,vi i] 1).toNat:=by
   intro s hs a46 n46 c46 h45 O45 hn
   subst hn
   obtain⟨p1,p2⟩:=popN_some har hs
   refine⟨_,isW (by unfold InR;omega),⟨i+1,a46,c46,(i:Int) :: s,rfl,by omega,by simp;omega,?_,O45⟩,by simp [vint];omega⟩
   rw [hc,chk_some hf hs]
  refine⟨fun q3=>?_,fun q3=>?_⟩
  ·have hlt2:=of_decide_eq_true q3
   have:popN n st=none:=by
    cases hp:popN n st with
    | none=>rfl
    | some s=>have:=(popN_some har hp).1;omega
   exact hbad this
  have hge:=of_decide_eq_false q3
  have hw:∀{K:Int→Prop},K ((st.length:Nat) - arI n.op)→∃ x,IsW x (((st.length:Nat):Int) - arI n.op)∧K x:=fun hk=>⟨_,isW (by unfold InR;omega),hk⟩
  refine hw ?_
  have hsz:szT Tryz.prog 3=1:=by kernel_rfl
  have rdl:=fun(x:Int) (h0:0≤x) (h1:x≤st.length)=>rd_slice_l (P:=Tryz.prog) (h:=hh) (t:=50) (e:=3) (by kernel_rfl) (by kernel_rfl) (a:=a1) (n:=st.length) (c:=c1) h0 h1
  rw [hsz] at rdl
  refine⟨_,_,_,rdl _ (by omega) (by omega),?_⟩
  have SD:=SI.drop (i:=((st.length:Nat) - arI n.op).toNat) (c:=c1) (by omega) hcap
  rcases arI_range har with h0|h0|h0
  ·have hs:popN n st=some st:=by unfold popN;rw [if_pos h0]
   rw [h0]
   refine⟨0,0,fun g=>(by cases g),0,fun g=>(by cases g),0,0,fun g=>(by cases g.2),0,fun g=>(by cases g.2),fun g=>?_,fun _=>⟨_,isW (by unfold InR;omega),hgood st hs _ (by rw [h0]) _ fun a46 n46 c46 h45 O e=>⟨_,_,_,rfl,hnext st hs a46 n46 c46 h45 O e⟩⟩⟩
   exfalso
   simp only [cand,cor] at g
   have:=of_decide_eq_true g
   omega
  ·match st with
   | []=>exfalso;simp at hge;omega
   | z :: s=>
    have hx29:(((z :: s).length:Nat):Int) - arI n.op=(s.length:Nat):=by rw [h0];simp
    rw [hx29] at SD ⊢
    rw [Int.toNat_natCast] at SD ⊢
    have ed:((z :: s).reverse).drop s.length=[z]:=by rw [List.reverse_cons,List.drop_left' (by simp)]
    rw [ed] at SD
    obtain⟨q,p,hq,hcell⟩:=SD.get (i:=0) (by simp)
    rw [h0]
    by_cases hz:z=n.x
    ·have hs:popN n (z :: s)=some s:=by unfold popN;rw [if_neg (by omega),if_pos h0];simp [hz]
     refine⟨q,p,fun g=>⟨hq,by omega,by simp⟩,z,fun g=>hcell,0,0,fun g=>(by cases g.2),0,fun g=>(by cases g.2),fun g=>?_,fun _=>?_⟩
     ·exfalso
      simp only [cand,cor] at g
      have:=of_decide_eq_true g
      omega
     ·exact⟨_,isW (by have:(z :: s).length≤i:=hst;unfold InR;omega),hgood s hs _ hx29.symm _ fun a46 n46 c46 h45 O e=>⟨_,_,_,rfl,hnext s hs a46 n46 c46 h45 O e⟩⟩
    ·have hs:popN n (z :: s)=none:=by unfold popN;rw [if_neg (by omega),if_pos h0];simp [hz]
     have:=hbad hs
     refine⟨q,p,fun g=>⟨hq,by omega,by simp⟩,z,fun g=>hcell,0,0,fun g=>(by cases g.2),0,fun g=>(by cases g.2),fun _=>this,fun g=>?_⟩
     exfalso
     simp only [cand,cor] at g
     have:=of_decide_eq_false g
     omega
  ·match st with
   | []=>exfalso;simp at hge;omega
   | [z]=>exfalso;simp at hge;omega
   | z :: y :: s=>
    have hx29:(((z :: y :: s).length:Nat):Int) - arI n.op=(s.length:Nat):=by rw [h0];simp;omega
    rw [hx29] at SD ⊢
    rw [Int.toNat_natCast] at SD ⊢
    have ed:((z :: y :: s).reverse).drop s.length=[y,z]:=by rw [List.reverse_cons,List.reverse_cons,List.append_assoc,List.drop_left' (by simp)];rfl
    rw [ed] at SD
    have en:(z :: y :: s).length - s.length=2:=by simp;omega
    rw [en] at SD ⊢
    obtain⟨q,p,hq,hcell⟩:=SD.get (i:=0) (by simp)
    obtain⟨q',p',hq',hcell'⟩:=SD.get (i:=1) (by simp)
    rw [h0]
    by_cases hz:y=n.x∧z=n.y
    ·have hs:popN n (z :: y :: s)=some s:=by unfold popN;rw [if_neg (by omega),if_neg (by omega)];simp [hz.1,hz.2]
     refine⟨q,p,fun g=>⟨hq,by omega,by decide⟩,y,fun g=>hcell,q',p',fun g=>⟨hq',by omega,by decide⟩,z,fun g=>hcell',fun g=>?_,fun _=>?_⟩
     ·exfalso
      simp only [cand,cor] at g
      have:=of_decide_eq_true g
      omega
     ·exact⟨_,isW (by have:(z :: y :: s).length≤i:=hst;unfold InR;omega),hgood s hs _ hx29.symm _ fun a46 n46 c46 h45 O e=>⟨_,_,_,rfl,hnext s hs a46 n46 c46 h45 O e⟩⟩
    ·have hs:popN n (z :: y :: s)=none:=by unfold popN;rw [if_neg (by omega),if_neg (by omega)];simp;intro h1 h2;exact hz ⟨h1,h2⟩
     have:=hbad hs
     refine⟨q,p,fun g=>⟨hq,by omega,by decide⟩,y,fun g=>hcell,q',p',fun g=>⟨hq',by omega,by decide⟩,z,fun g=>hcell',fun _=>this,fun g=>?_⟩
     exfalso
     simp only [cand,cor] at g
     have:=of_decide_eq_false g
     omega
 ·have hge:i=l.length:=by have:=of_decide_eq_false q;omega
  subst hge
  rw [List.drop_eq_nil_of_le (Nat.le_refl _),chkGo] at hc
  refine⟨fun q2=>?_,fun q2=>?_⟩
  ·rw [if_neg (by have:=of_decide_eq_true q2;omega)] at hc
   rw [hc] at hK;exact hK hh O.le
  ·rw [if_pos (by have:=of_decide_eq_false q2;omega)] at hc
   rw [hc] at hK;exact hK hh O.le
open Go.Txt
def aggRw:Int→Value→List Value:=fun k v=>[vi k,v]
theorem aggRw_len (k:Int)(v:Value):(aggRw k v).length=2:=rfl
structure QAt (h:Hp)(q:Qy)(a1:Option Addr)(n1:Nat)(a2:Option Addr)(n2:Nat)(a3:Option Addr)(n3:Nat):Prop where
 g:GTab encN aggRw h a1 n1 q.aggs
 w:SlP encN h a2 n2 q.wh
 b:SlP encN h a3 n3 q.by_
theorem QAt.le {h h':Hp}{q:Qy}{a1 a2 a3:Option Addr}{n1 n2 n3:Nat}(Q:QAt h q a1 n1 a2 n2 a3 n3)(l:h.le h'):QAt h' q a1 n1 a2 n2 a3 n3:=⟨Q.g.le l,Q.w.le l,Q.b.le l⟩
abbrev qV (a1:Option Addr)(n1 c1:Nat)(a2:Option Addr)(n2 c2:Nat)(a3:Option Addr)(n3 c3:Nat)(q:Qy):Value:=vag [vsl a1 n1 c1,vsl a2 n2 c2,vsl a3 n3 c3,vi q.size,vi q.slide,vi q.delay,vi q.late]
structure QBig (q:Qy):Prop where
 w:q.wh.length≤1000000
 b:q.by_.length≤1000000
 g:∀ a ∈ q.aggs,a.2.length≤1000000
 n:q.aggs.length≤1000000
theorem query_typed_ok {a:Option Addr}{k c:Nat}{l:List Nd}{kind:Int}{h:Hp}{R:Value→Hp→Prop}(S:SlP encN h a k l)(hl:l.length≤1000000)(hK:∀ h',h.le h'→R (ifv (errV (typedF l kind))) h'):CallOK Tryz.prog 68 [vsl a k c,vi kind] h R:=by
 refine ok_query_typed ?_
 unfold VC_query_typed
 unfold typedF at hK
 refine expr_Check_ok S fun h2 l2=>⟨_,rfl,fun e=>?_,fun e=>?_⟩
 ·rw [errV_some] at e
  have e2:exprF l≠0:=by simpa using e
  rw [if_pos e2] at hK
  exact hK h2 l2
 ·rw [errV_some] at e
  have e2:exprF l=0:=by simpa using e
  rw [if_neg (fun h=>h e2)] at hK
  refine expr_Type_ok (S.le l2) (exprF_ok e2).1 hl fun h6 l6=>⟨_,_,rfl,?_⟩
  have hc:(bif (bif (bif (Option.isNone (errV (typE l).2)) then(decide ((kind:Int)≠0)) else false) then(decide (((typE l).1:Int)≠kind)) else false) then(decide (((typE l).1:Int)≠0)) else false)=decide ((((typE l).2=0∧kind≠0)∧(typE l).1≠kind)∧(typE l).1≠0):=by
   rw [errV_none,cand,cand,cand]
  rw [hc]
  intro J11
  refine⟨fun q=>?_,fun q=>?_⟩
  ·have q:=of_decide_eq_true q
   rw [if_neg (fun h=>h q.1.1.1),if_pos ⟨q.1.1.2,q.1.2,q.2⟩] at hK
   exact hK h6 (Hp.le_trans l2 l6)
  ·have q:=of_decide_eq_false q
   have:=hK h6 (Hp.le_trans l2 l6)
   by_cases h5:(typE l).2≠0
   ·rw [if_pos h5] at this;exact this
   ·have h5:(typE l).2=0:=Decidable.not_not.1 h5
    rw [if_neg (fun h=>h h5),if_neg (fun h=>q ⟨⟨⟨h5,h.1⟩,h.2.1⟩,h.2.2⟩)] at this
    show R (ifv (errV (typE l).2)) h6
    rw [h5];exact this
theorem cell_lit2 (h:Hp)(b:Nat)(x y:Int)(T:TypeId){i:Nat}(hi:i < 2):(h.set b (cellsO [vi x,vi y] T)).cell b (0+(i:Int).toNat*1)=some (vi (if i=0 then x else y)):=by
 match i,hi with
 | 0,_=>exact cell_cells (Hp.set_same _ _ _) rfl
 | 1,_=>exact cell_cells (Hp.set_same _ _ _) rfl
theorem query_numbers_ok {q:Qy}{a1:Option Addr}{n1 c1:Nat}{a2:Option Addr}{n2 c2:Nat}{a3:Option Addr}{n3 c3:Nat}{h:Hp}{R:Value→Hp→Prop}(hK:∀ h',h.le h'→R (ifv (errV (numsF q))) h'):CallOK Tryz.prog 69 [qV a1 n1 c1 a2 n2 c2 a3 n3 c3 q] h R:=by
 refine ok_query_numbers ?_
 unfold VC_query_numbers
 intro b1 hb1 h2
 have l2:h.le h2:=Hp.le_set (Hp.le_refl h) hb1 _
 refine⟨fun vs' hh=>hh=h2∧∃ i:Nat,vs'=[vi i]∧i≤2∧(1≤i→1≤q.size∧q.size≤1000)∧(2≤i→1≤q.slide∧q.slide≤1000),fun vs' hh=>2 - (vint vs' 0).toNat,⟨rfl,0,rfl,by omega,by omega,by omega⟩,?_⟩
 rintro vs' hh ⟨rfl,i,rfl,hi,i1,i2⟩
 refine⟨i,rfl,fun e=>?_,fun e=>?_⟩
 ·have hlt:i < 2:=by have:=of_decide_eq_true e;omega
  refine⟨b1,0,⟨rfl,by omega,by omega⟩,_,cell_lit2 h b1 q.size q.slide 3 hlt,?_⟩
  rw [cor]
  refine⟨fun g=>?_,fun g=>?_⟩
  ·have g:=of_decide_eq_true g
   have e1:numsF q=1:=by
    unfold numsF
    rw [if_pos]
    split at g<;>omega
   rw [e1] at hK
   exact hK _ l2
  ·have g:=of_decide_eq_false g
   refine⟨_,isW (by unfold InR;omega),⟨rfl,i+1,rfl,by omega,fun h=>?_,fun h=>?_⟩,by simp [vint];omega⟩
   ·by_cases h0:i=0
    ·rw [if_pos h0] at g;omega
    ·exact i1 (by omega)
   ·have h0:¬ i=0:=by omega
    rw [if_neg h0] at g;omega
 ·have hge:i=2:=by have:=of_decide_eq_false e;omega
  subst hge
  have j1:=i1 (by omega)
  have j2:=i2 (by omega)
  intro b16 hb16 h17
  have l17:h.le h17:=Hp.le_set l2 hb16 _
  refine⟨fun vs' hh=>hh=h17∧∃ i:Nat,vs'=[vi i]∧i≤2∧(1≤i→0≤q.delay∧q.delay≤1000)∧(2≤i→0≤q.late∧q.late≤1000),fun vs' hh=>2 - (vint vs' 0).toNat,⟨rfl,0,rfl,by omega,by omega,by omega⟩,?_⟩
  rintro vs' hh ⟨rfl,i,rfl,hi,i1,i2⟩
  refine⟨i,rfl,fun e=>?_,fun e=>?_⟩
  ·have hlt:i < 2:=by have:=of_decide_eq_true e;omega
   refine⟨b16,0,⟨rfl,by omega,by omega⟩,_,cell_lit2 h2 b16 q.delay q.late 3 hlt,?_⟩
   rw [cor]
   refine⟨fun g=>?_,fun g=>?_⟩
   ·have g:=of_decide_eq_true g
    have e1:numsF q=1:=by
     unfold numsF
     rw [if_pos]
     split at g<;>omega
    rw [e1] at hK
    exact hK _ l17
   ·have g:=of_decide_eq_false g
    refine⟨_,isW (by unfold InR;omega),⟨rfl,i+1,rfl,by omega,fun h=>?_,fun h=>?_⟩,by simp [vint];omega⟩
    ·by_cases h0:i=0
     ·rw [if_pos h0] at g;omega
     ·exact i1 (by omega)
    ·have h0:¬ i=0:=by omega
     rw [if_neg h0] at g;omega
  ·have hge:i=2:=by have:=of_decide_eq_false e;omega
   subst hge
   have j3:=i1 (by omega)
   have j4:=i2 (by omega)
   refine⟨4*q.slide,fun _=>isW (by unfold InR;omega),?_⟩
   rw [cor]
   have hn:numsF q=if q.slide > q.size∨q.size > 4*q.slide then 3 else 0:=by
    unfold numsF
    rw [if_neg (by omega)]
   rw [hn] at hK
   refine⟨fun g=>?_,fun g=>?_⟩
   ·rw [if_pos (of_decide_eq_true g)] at hK
    exact hK _ l17
   ·rw [if_neg (of_decide_eq_false g)] at hK
    exact hK _ l17
theorem take_all {α:Type}{l:List α}{g:α→Int}{i:Nat}(hi:i < l.length)(h:∀ y ∈ l.take i,g y=0)(h2:g l[i]=0):∀ y ∈ l.take (i+1),g y=0:=by
 intro y hy
 rw [List.take_succ_eq_append_getElem hi] at hy
 rcases List.mem_append.1 hy with h3|h3
 ·exact h y h3
 ·rw [List.mem_singleton.1 h3];exact h2
theorem nil_len {α:Type}{l:List α}:l=[]↔l.length=0:=List.length_eq_zero_iff.symm
theorem query_Check_ok {q:Qy}{a1:Option Addr}{n1 c1:Nat}{a2:Option Addr}{n2 c2:Nat}{a3:Option Addr}{n3 c3:Nat}{h:Hp}{R:Value→Hp→Prop}(Q:QAt h q a1 n1 a2 n2 a3 n3)(B:QBig q)(hK:∀ h',h.le h'→R (ifv (errV (qryF q))) h'):CallOK Tryz.prog 34 [qV a1 n1 c1 a2 n2 c2 a3 n3 c3 q] h R:=by
 refine ok_query_Check ?_
 unfold VC_query_Check
 have hn1:=Q.g.len
 have hn2:=Q.w.1
 have hn3:=Q.b.1
 have hB:=B.n
 rw [cor]
 refine⟨fun e=>?_,fun e=>?_⟩
 ·have e:=of_decide_eq_true e
  have:qryF q=2:=by unfold qryF;rw [if_pos (by omega)]
  rw [this] at hK
  exact hK h (Hp.le_refl h)
 have e:=of_decide_eq_false e
 have hq:qryF q=if firstF (q.aggs.map aggF)≠0 then firstF (q.aggs.map aggF) else tailF q:=by unfold qryF;rw [if_neg (by omega)]
 rw [hq] at hK
 clear hq
 refine⟨fun vs' hh=>h.le hh∧∃ i:Nat,vs'=[vi i]∧i≤n1∧∀ y ∈ q.aggs.take i,aggF y=0,fun vs' hh=>n1 - (vint vs' 0).toNat,⟨Hp.le_refl h,0,rfl,Nat.zero_le _,by simp⟩,?_⟩
 rintro vs' hh ⟨lh,i,rfl,hi,hz⟩
 refine⟨i,rfl,fun g=>?_,fun g=>?_⟩
 ·have hlt:i < n1:=by have:=of_decide_eq_true g;omega
  have hlt2:i < q.aggs.length:=by omega
  have hx:q.aggs[i]?=some q.aggs[i]:=List.getElem?_eq_getElem hlt2
  have hbig:=B.g _ (List.mem_of_getElem? hx)
  have hall:=@take_all _ q.aggs aggF i hlt2 hz
  generalize q.aggs[i]=y at hx hbig hall
  obtain⟨k,l⟩:=y
  obtain⟨b,o,a',c',ha,hrow,hS⟩:=(Q.g.le lh).row aggRw_len (by decide) hx
  have bad:∀ f,f≠0→aggF (k,l)=f→∀ h',h.le h'→R (ifv (errV f)) h':=by
   intro f hf hk h' l'
   have h1:=firstF_at (g:=aggF) hz hx (by rw [hk];exact hf)
   rw [h1,hk,if_pos hf] at hK
   exact hK h' l'
  intro J25
  refine⟨b,o,⟨ha,by omega,by omega⟩,k,a',l.length,c',by rw [Int.toNat_natCast];exact hrow,?_⟩
  have good:aggF (k,l)=0→∀ h',h.le h'→J25 h':=fun hk h' l'=>⟨_,isW (by unfold InR;omega),⟨l',i+1,rfl,by omega,hall hk⟩,by simp [vint];omega⟩
  clear_value J25
  rw [cor,cand,cor]
  have hnil:l≠[]↔(l.length:Int) > 0:=by rw [ne_eq,nil_len];omega
  refine⟨fun g2=>?_,fun g2=>⟨fun g3=>?_,fun g3=>?_⟩⟩
  ·have g2:=of_decide_eq_true g2
   refine bad 3 (by decide) ?_ hh lh
   unfold aggF
   rw [if_pos (by simp only [hnil];omega)]
  ·have g2:=of_decide_eq_false g2
   have g3:=of_decide_eq_true g3
   refine good ?_ hh lh
   unfold aggF
   rw [if_neg (by simp only [hnil];omega),if_pos g3]
  ·have g2:=of_decide_eq_false g2
   have g3:=of_decide_eq_false g3
   have hf:aggF (k,l)=typedF l (if k=2 then 0 else 1):=by
    unfold aggF
    rw [if_neg (by simp only [hnil];omega),if_neg g3]
   intro J19
   have hJ:J19 (if k=2 then 0 else 1):=by
    refine query_typed_ok hS hbig fun h' l'=>⟨_,rfl,fun g4=>?_,fun g4=>?_⟩
    ·rw [errV_some] at g4
     exact bad _ (by simpa using g4) hf h' (Hp.le_trans lh l')
    ·rw [errV_some] at g4
     exact good (by rw [hf];simpa using g4) h' (Hp.le_trans lh l')
   clear_value J19
   refine⟨fun g4=>?_,fun g4=>?_⟩
   ·rw [if_pos (of_decide_eq_true g4)] at hJ;exact hJ
   ·rw [if_neg (of_decide_eq_false g4)] at hJ;exact hJ
 ·have hge:i=n1:=by have:=of_decide_eq_false g;omega
  have hz0:firstF (q.aggs.map aggF)=0:=firstF_zero (by
   intro x hx
   obtain⟨y,hy,rfl⟩:=List.mem_map.1 hx
   exact hz y (by rw [List.take_of_length_le (by omega)];exact hy))
  rw [hz0,if_neg (fun h=>h rfl)] at hK
  unfold tailF at hK
  have Q:=Q.le lh
  intro J33
  have hJ33:∀ h',hh.le h'→(if q.wh=[] then 0 else typedF q.wh 2)=0→J33 h':=by
   intro h' l' hw
   rw [hw,firstF,if_neg (fun h=>h rfl)] at hK
   unfold J33
   intro J40
   have hJ40:∀ h2,h'.le h2→(if q.by_=[] then 0 else typedF q.by_ 0)=0→J40 h2:=by
    intro h2 l2 hb
    rw [hb,firstF,if_neg (fun h=>h rfl)] at hK
    refine query_numbers_ok (q:=q) fun h3 l3=>⟨_,rfl,?_⟩
    have:=hK h3 (Hp.le_trans lh (Hp.le_trans l' (Hp.le_trans l2 l3)))
    rw [firstF,firstF] at this
    by_cases hn:numsF q≠0
    ·rw [if_pos hn] at this;exact this
    ·rw [if_neg hn] at this
     rw [Decidable.not_not.1 hn];exact this
   clear_value J40
   refine⟨fun g2=>?_,fun g2=>?_⟩
   ·have hne:¬ q.by_=[]:=by have:=of_decide_eq_true g2;rw [nil_len];omega
    rw [if_neg hne] at hJ40 hK
    refine query_typed_ok (Q.le l').b B.b fun h2 l2=>⟨_,rfl,fun g4=>?_,fun g4=>?_⟩
    ·rw [errV_some] at g4
     rw [firstF,if_pos (by simpa using g4)] at hK
     exact hK h2 (Hp.le_trans lh (Hp.le_trans l' l2))
    ·rw [errV_some] at g4
     exact hJ40 h2 l2 (by simpa using g4)
   ·have hnil:q.by_=[]:=by have:=of_decide_eq_false g2;rw [nil_len];omega
    exact hJ40 h' (Hp.le_refl h') (if_pos hnil)
  clear_value J33
  refine⟨fun g2=>?_,fun g2=>?_⟩
  ·have hne:¬ q.wh=[]:=by have:=of_decide_eq_true g2;rw [nil_len];omega
   rw [if_neg hne] at hJ33 hK
   refine query_typed_ok Q.w B.w fun h2 l2=>⟨_,rfl,fun g4=>?_,fun g4=>?_⟩
   ·rw [errV_some] at g4
    rw [firstF,if_pos (by simpa using g4)] at hK
    exact hK h2 (Hp.le_trans lh l2)
   ·rw [errV_some] at g4
    exact hJ33 h2 l2 (by simpa using g4)
  ·have hnil:q.wh=[]:=by have:=of_decide_eq_false g2;rw [nil_len];omega
   exact hJ33 hh (Hp.le_refl hh) (if_pos hnil)
end Go.Proofs.YtiflgceoamkmnaaGreatDoor
namespace Go.Vc
open Go
section
variable {α:Type}
def ftE (fs:List (α × (Nat→Prop))):Nat→Prop:=fun b=>∃ x ∈ fs,x.2 b
def ApartL (fs:List (α × (Nat→Prop))):Prop:=fs.Pairwise fun x y=>∀ b,x.2 b→¬ y.2 b
def EachP (P:α→Hp→(Nat→Prop)→Prop)(l:List α)(h:Hp)(F:Nat→Prop):Prop:=
 ∃ fs:List (α × (Nat→Prop)),fs.map Prod.fst=l∧F=ftE fs∧ApartL fs∧∀ x ∈ fs,P x.1 h x.2
variable {P:α→Hp→(Nat→Prop)→Prop}
theorem EachP.fp (fp:∀ x,Fp (P x))(l:List α):Fp (EachP P l) where
 al:=by
  rintro h F ⟨fs,_,rfl,_,H⟩ b ⟨x,hx,hb⟩
  exact(fp x.1).al (H x hx) b hb
 keep:=by
  rintro h h' F ⟨fs,e,rfl,A,H⟩ hk
  exact⟨fs,e,rfl,A,fun x hx=>(fp x.1).keep (H x hx) fun b hb=>hk b ⟨x,hx,hb⟩⟩
theorem EachP.nil (h:Hp):EachP P [] h (fun _=>False):=⟨[],rfl,by funext b;simp [ftE],List.Pairwise.nil,fun x hx=>by cases hx⟩
theorem EachP.perm {l l':List α}{h:Hp}{F:Nat→Prop}(E:EachP P l h F)(p:l'.Perm l):EachP P l' h F:=by
 obtain⟨fs,rfl,rfl,A,H⟩:=E
 have key:∀{m m':List α},m.Perm m'→∀ gs:List (α × (Nat→Prop)),gs.map Prod.fst=m'→∃ gs':List (α × (Nat→Prop)),gs'.map Prod.fst=m∧gs'.Perm gs:=by
  intro m m' q
  induction q with
  | nil=>intro gs e;exact⟨gs,e,List.Perm.refl _⟩
  | cons x q ih=>
   intro gs e
   match gs,e with
   | g :: gs,e=>
    simp only [List.map_cons,List.cons.injEq] at e
    obtain⟨gs',e2,p2⟩:=ih gs e.2
    exact⟨g :: gs',by rw [List.map_cons,e2,e.1],p2.cons g⟩
  | swap x y q=>
   intro gs e
   match gs,e with
   | g1 :: g2 :: gs,e=>
    simp only [List.map_cons,List.cons.injEq] at e
    exact⟨g2 :: g1 :: gs,by simp [e],List.Perm.swap _ _ _⟩
  | trans q1 q2 ih1 ih2=>
   intro gs e
   obtain⟨g1,e1,p1⟩:=ih2 gs e
   obtain⟨g2,e2,p2⟩:=ih1 g1 e1
   exact⟨g2,e2,p2.trans p1⟩
 obtain⟨gs,e,q⟩:=key p fs rfl
 refine⟨gs,e,?_,?_,fun x hx=>H x (q.mem_iff.1 hx)⟩
 ·funext b
  apply propext
  constructor
  ·rintro⟨x,hx,hb⟩;exact⟨x,q.mem_iff.2 hx,hb⟩
  ·rintro⟨x,hx,hb⟩;exact⟨x,q.mem_iff.1 hx,hb⟩
 ·exact(q.pairwise_iff (fun {x y} hxy b hb hb2=>hxy b hb2 hb)).2 A
theorem EachP.cons {l:List α}{x:α}{h:Hp}{F G:Nat→Prop}(E:EachP P l h F)(X:P x h G)(d:∀ b,G b→¬ F b):EachP P (x :: l) h (fun b=>G b∨F b):=by
 obtain⟨fs,rfl,rfl,A,H⟩:=E
 refine⟨(x,G) :: fs,rfl,?_,List.pairwise_cons.2 ⟨fun y hy b hb hb2=>d b hb ⟨y,hy,hb2⟩,A⟩,?_⟩
 ·funext b
  apply propext
  constructor
  ·rintro(hb|⟨y,hy,hb⟩)
   ·exact⟨_,List.mem_cons_self ..,hb⟩
   ·exact⟨y,List.mem_cons_of_mem _ hy,hb⟩
  ·rintro⟨y,hy,hb⟩
   rcases List.mem_cons.1 hy with rfl|hy
   ·exact .inl hb
   ·exact .inr ⟨y,hy,hb⟩
 ·intro y hy
  rcases List.mem_cons.1 hy with rfl|hy
  ·exact X
  ·exact H y hy
theorem EachP.uncons {l:List α}{x:α}{h:Hp}{F:Nat→Prop}(E:EachP P (x :: l) h F):∃ G F',P x h G∧EachP P l h F'∧(∀ b,G b→¬ F' b)∧∀ b,F b↔(G b∨F' b):=by
 obtain⟨fs,e,rfl,A,H⟩:=E
 match fs,e with
 | (y,G) :: fs,e=>
  simp only [List.map_cons,List.cons.injEq] at e
  obtain⟨rfl,rfl⟩:=e
  obtain⟨A1,A2⟩:=List.pairwise_cons.1 A
  refine⟨G,ftE fs,H _ (List.mem_cons_self ..),⟨fs,rfl,rfl,A2,fun z hz=>H z (List.mem_cons_of_mem _ hz)⟩,?_,?_⟩
  ·rintro b hb ⟨z,hz,hb2⟩;exact A1 z hz b hb hb2
  ·intro b
   constructor
   ·rintro⟨z,hz,hb⟩
    rcases List.mem_cons.1 hz with rfl|hz
    ·exact .inl hb
    ·exact .inr ⟨z,hz,hb⟩
   ·rintro(hb|⟨z,hz,hb⟩)
    ·exact⟨_,List.mem_cons_self ..,hb⟩
    ·exact⟨z,List.mem_cons_of_mem _ hz,hb⟩
theorem erase_perm {l:List α}{i:Nat}(hi:i < l.length):(l[i] :: l.eraseIdx i).Perm l:=by
 rw [List.eraseIdx_eq_take_drop_succ]
 have e:l=l.take i++l[i] :: l.drop (i+1):=by rw [←List.drop_eq_getElem_cons,List.take_append_drop]
 have p:=(List.perm_middle (a:=l[i]) (l₁:=l.take i) (l₂:=l.drop (i+1)))
 rw [←e] at p
 exact p.symm
theorem EachP.at (fp:∀ x,Fp (P x)){l:List α}{h:Hp}{F:Nat→Prop}(E:EachP P l h F){i:Nat}{x:α}(hx:l[i]?=some x):∃ G,P x h G∧(∀ b,G b→F b) ∧
  ∀(h':Hp) (G':Nat→Prop) (x':α),Mut G h G' h'→P x' h' G'→∃ F',EachP P (l.set i x') h' F'∧Mut F h F' h':=by
 obtain⟨hi,rfl⟩:=List.getElem?_eq_some_iff.1 hx
 have p:(l[i] :: l.eraseIdx i).Perm l:=erase_perm hi
 obtain⟨G,F1,X,E1,d,hF⟩:=(E.perm p).uncons
 refine⟨G,X,fun b hb=>(hF b).2 (.inl hb),fun h' G' x' M X'=>?_⟩
 obtain⟨k,d'⟩:=M.apart ((EachP.fp fp _).al E1) d
 have E2:=((EachP.fp fp _).keep E1 k).cons X' d'
 have p2:(l.set i x').Perm (x' :: l.eraseIdx i):=by
  have hi2:i < (l.set i x').length:=by rw [List.length_set];exact hi
  have:=erase_perm hi2
  rw [List.getElem_set_self,List.eraseIdx_set_eq] at this
  exact this.symm
 refine⟨_,E2.perm p2,⟨fun b o hb ho=>M.keep b o (fun q=>hb ((hF b).2 (.inl q))) ho,fun b hb=>?_⟩⟩
 rcases hb with hb|hb
 ·rcases M.new b hb with q|q
  ·exact .inl ((hF b).2 (.inl q))
  ·exact .inr q
 ·exact .inl ((hF b).2 (.inr hb))
end
def OwnF (e:TypeId)(sz:Nat)(a:Option Addr)(n c:Nat)(xs:List Value)(h:Hp)(F:Nat→Prop):Prop:=OwnS h e sz a n c xs∧F=fun b=>a=some ⟨b,0,none⟩
theorem OwnF.fp (e:TypeId)(sz:Nat)(a:Option Addr)(n c:Nat)(xs:List Value):Fp (OwnF e sz a n c xs) where
 al:=by
  rintro h F ⟨⟨_,O⟩,rfl⟩ b hb
  rcases O with ⟨ha,_⟩|⟨g,cur,ha,hg,_⟩
  ·rw [ha] at hb;cases hb
  ·rw [ha] at hb;cases hb;rw [hg];simp
 keep:=by
  rintro h h' F ⟨⟨h1,O⟩,rfl⟩ hk
  refine⟨⟨h1,?_⟩,rfl⟩
  rcases O with O|⟨g,cur,ha,hg,O⟩
  ·exact .inl O
  ·exact .inr ⟨g,cur,ha,hk g ha _ hg,O⟩
structure Beside (a:Option Addr)(h h':Hp):Prop where
 keep:∀ b o,h b=some o→a≠some ⟨b,0,none⟩→h' b=some o
section
variable {α:Type}{enc:α→List Value}{sz:Nat}{T:TypeId}{h0 h:Hp}{a:Option Addr}{c:Nat}{l:List α}
theorem Vec.putF (he:∀ x,(enc x).length=sz)(V:Vec enc sz T h0 h a c l){i:Nat}{x x':α}(hx:l[i]?=some x){k:Nat}{vs:List Value}(hv:0 < vs.length)(hk:k+vs.length≤sz)(hx':enc x'=setL (enc x) k vs) :
  ∃ b o,a=some ⟨b,o,none⟩∧∀ K:Hp→Prop,(∀ h',Vec enc sz T h0 h' a c (l.set i x')→Beside a h h'→K h')→h.store b (o+i*sz+k) vs K:=by
 have hi:i < l.length:=(List.getElem?_eq_some_iff.1 hx).1
 have hb:(i+1)*sz≤l.length*sz:=Nat.mul_le_mul_right _ hi
 rw [Nat.succ_mul] at hb
 rcases V.own.2 with ⟨ha,hn,_⟩|⟨g,cur,ha,_⟩
 ·omega
 ·refine⟨g,0,ha,fun K hK=>?_⟩
  rw [Nat.add_assoc]
  refine OwnV.store V (j:=i*sz+k) hv (by omega) ha fun ob V'=>hK _ ?_ ⟨fun b o ho hn=>?_⟩
  ·unfold Vec
   rw [←setL_flat he hk l i x x' hx hx',List.length_set]
   exact V'
  ·have e:b≠g:=fun q=>hn (by rw [ha,q])
   rw [Hp.set_other _ _ e];exact ho
variable {P:Program}
theorem Vec.ownF (V:Vec enc sz T h0 h a c l):OwnF T sz a l.length c (l.flatMap enc) h (fun b=>a=some ⟨b,0,none⟩):=⟨V.own,rfl⟩
end
end Go.Vc
namespace Go.Proofs.YtiflgceoamkmnaaGreatDoor
open Go Go.Vc
def VC_slices_IndexFunc_panes_Pane_panes_Pane (u0:Option Addr)(u1 u2:Nat)(u3:Value)(h:Hp)(R:Value→Hp→Prop):Prop:=
 (∃(I2:List Value→Hp→Prop) (m3:List Value→Hp→Nat),I2 [vi 0] h∧∀ vs4 h5,I2 vs4 h5→∃ x6,vs4=[vi x6]∧(((decide (x6 < (u1:Int)))=true→(∃ b9 o10,(u0=some ⟨b9,o10,none⟩∧(0:Int)≤x6∧x6 < (u1:Int))∧(∃ x11 x12 x13 a14 n14 c14 p15,(Hp.row h5 b9 (o10+x6.toNat*5) 5=some [vi x11,vi x12,vi x13,vsl a14 n14 c14,vb p15])∧(InvOK Tryz.prog u3 [vag [vi x11,vi x12,vi x13,vsl a14 n14 c14,vb p15]] h5 fun v16 h17=>∃ p18,v16=(vb p18)∧((p18=true→R (vi x6) h17)∧(p18=false→(∃ x20,(IsW x20 (x6+1))∧(I2 [vi x20] h17∧m3 [vi x20] h17 < m3 vs4 h5))))))))∧((decide (x6 < (u1:Int)))=false→R (vi (-1)) h5)))
theorem ok_slices_IndexFunc_panes_Pane_panes_Pane {u0 u1 u2 u3 h R}(H:VC_slices_IndexFunc_panes_Pane_panes_Pane u0 u1 u2 u3 h R):CallOK Tryz.prog 73 [vsl u0 u1 u2,u3] h R:=
 call_of (cfg:=⟨[],[(2,([8],[.one (.int .i64)],[]))],[]⟩) noNG mixed Tryz.func73 [.one (.v (vsl u0 u1 u2)),.one (.v u3)] (by kernel_rfl) rfl (by kernel_rfl) H
def VC_panes_Pane_Out (u0:Int)(u1:Int)(u2:Int)(u3:Option Addr)(u4 u5:Nat)(u6:Bool)(h:Hp)(R:Value→Hp→Prop):Prop:=
 (let J30:Int→Int→Int→Option Addr→Nat→Nat→Hp→Prop:=fun x41 x42 x43 a44 n44 c44 h45=>R (vag [vi x41,vi x42,vi x43,vsl a44 n44 c44]) h45;(∃(I2:List Value→Hp→Prop) (m3:List Value→Hp→Nat),I2 [vi 0,vi u0,vi u1,vi u2,vsl none 0 0] h∧∀ vs4 h5,I2 vs4 h5→∃ x6 x7 x8 x9 a10 n10 c10,vs4=[vi x6,vi x7,vi x8,vi x9,vsl a10 n10 c10]∧(((decide (x6 < (u4:Int)))=true→(∃ b13 o14,(u3=some ⟨b13,o14,none⟩∧(0:Int)≤x6∧x6 < (u4:Int))∧(∃ x15 x16 x17 x18,(Hp.row h5 b13 (o14+x6.toNat*4) 4=some [vi x15,vi x16,vi x17,vi x18])∧(CallOK Tryz.prog 104 [vag [vi x15,vi x16,vi x17,vi x18]] h5 fun v19 h20=>∃ x21 x22,v19=(vag [vi x21,vi x22])∧(∀ b23,h20 b23=none→let h24:= Hp.set h20 b23 (cellsO [vi x21,vi x22] 41);(SemOK Tryz.prog (Builtin.append_ #[70,70] 70 #[vsl a10 n10 c10,(vsl (some (⟨b23,0,none⟩:Addr)) 1 1)]) h24 fun v25 h26=>∃ a27 n27 c27,v25=(vsl a27 n27 c27)∧(∃ x29,(IsW x29 (x6+1))∧(I2 [vi x29,vi x7,vi x8,vi x9,vsl a27 n27 c27] h26∧m3 [vi x29,vi x7,vi x8,vi x9,vsl a27 n27 c27] h26 < m3 vs4 h5))))))))∧((decide (x6 < (u4:Int)))=false→(J30 x7 x8 x9 a10 n10 c10 h5)))))
theorem ok_panes_Pane_Out {u0 u1 u2 u3 u4 u5 u6 h R}(H:VC_panes_Pane_Out u0 u1 u2 u3 u4 u5 u6 h R):CallOK Tryz.prog 50 [vag [vi u0,vi u1,vi u2,vsl u3 u4 u5,vb u6]] h R:=
 call_of (cfg:=⟨[],[(3,([14],[.one (.int .i64)],[(2,[.int .i64,.int .i64,.int .i64,.slice])]))],[(5,[0,1,2,3,4,5,6,7])]⟩) noNG mixed Tryz.func50 [.ag [.v (vi u0),.v (vi u1),.v (vi u2),.v (vsl u3 u4 u5),.v (vb u6)]] (by kernel_rfl) rfl (by kernel_rfl) H
structure EvOK (e:EvL):Prop where
 t:0≤e.1∧e.1≤9999
 k:goodV e.2.1∧e.2.1.1≠2
 a:goodV e.2.2.1∧e.2.2.1.1≠2
 b:goodV e.2.2.2∧e.2.2.2.1≠2
theorem chkV_ok {v:Int × Int}(h:chkV v=0):goodV v∧v.1≠2:=by
 unfold chkV at h
 split at h
 ·cases h
 ·rename_i h1
  constructor
  ·exact Classical.byContradiction fun q=>h1 (.inl q)
  ·exact fun q=>h1 (.inr q)
theorem chkE_ok {e:EvL}(h:chkE e=0):EvOK e:=by
 unfold chkE at h
 split at h
 ·cases h
 ·rename_i h0
  simp only [chkL] at h
  split at h
  ·rename_i h1
   split at h
   ·rename_i h2
    split at h
    ·rename_i h3
     exact⟨by omega,chkV_ok h1,chkV_ok h2,chkV_ok h3⟩
    ·rename_i h3;exact absurd h h3
   ·rename_i h2;exact absurd h h2
  ·rename_i h1;exact absurd h h1
abbrev ev0:EvL:=(0,(0,0),(0,0),(0,0))
theorem ev0_ok:EvOK ev0:=chkE_ok (by decide +kernel)
theorem good_num (n:Int):goodV (numV n)∧(numV n).1≠2:=by
 unfold numV goodV
 split
 ·simp
 ·simp;omega
theorem good_truth (b:Bool):goodV (truthV b):=by
 unfold truthV goodV
 cases b<;>simp
theorem good_null:goodV (0,0):=by unfold goodV;simp
theorem good_and (a b:Int × Int):goodV (andV a b)∧(andV a b).1≠1:=by
 unfold andV goodV
 split
 ·simp
 ·split<;>simp
theorem good_not (a:Int × Int):goodV (notV a)∧(notV a).1≠1:=by
 unfold notV
 split
 ·exact⟨good_truth _,by unfold truthV;simp⟩
 ·exact⟨good_null,by simp⟩
theorem good_neg (a:Int × Int):goodV (negV a)∧(negV a).1≠2:=by
 unfold negV
 split
 ·exact good_num _
 ·exact⟨good_null,by simp⟩
def opV (op:Int)(a b:Int × Int):Int × Int:=if op=3 then negV a else if op=4 then notV a else if op=5 then truthV (decide (a.1=0)) else doV op a b
def outT (op:Int):Int:=if op=5∨op=11∨op=12 then 2 else wantT op
theorem tyG_out {op:Int}{a b:Option Int}{t:Int}(h:tyG op a b=some t):t=outT op:=by
 unfold outT
 cases a with
 | none=>cases b<;>cases h
 | some a=>
  cases b with
  | none=>cases h
  | some b=>
   unfold tyG at h
   simp only at h
   split at h
   ·rename_i h1;rw [if_pos (.inl h1)];simpa using h.symm
   ·split at h
    ·cases h
    ·split at h
     ·rename_i h1 _ h2;rw [if_pos (.inr h2)];simpa using h.symm
     ·rename_i h1 _ h2;rw [if_neg (by omega)];simpa using h.symm
theorem opV_good {op:Int}(ho:3≤op∧op≤12)(a b:Int × Int):goodV (opV op a b)∧((opV op a b).1=0∨(opV op a b).1=outT op):=by
 have key:∀ v:Int × Int,goodV v→v.1=0∨v.1=1∨v.1=2:=by
  intro v h
  unfold goodV at h
  omega
 unfold opV outT wantT
 split
 ·rename_i h;have:=good_neg a;have:=key _ this.1;exact⟨(good_neg a).1,by subst h;simp;omega⟩
 ·split
  ·rename_i _ h;have:=good_not a;have:=key _ this.1;exact⟨(good_not a).1,by subst h;simp;omega⟩
  ·split
   ·rename_i _ _ h;exact⟨good_truth _,by subst h;simp [truthV]⟩
   ·unfold doV
    split
    ·rename_i h;have:=good_and a b;have:=key _ this.1;exact⟨(good_and a b).1,by subst h;simp;omega⟩
    ·split
     ·rename_i h;have:=good_not (andV (notV a) (notV b));have:=key _ this.1;exact⟨(good_not _).1,by subst h;simp;omega⟩
     ·split
      ·split
       ·rename_i h;have:=good_num (w64 (a.2+b.2));have:=key _ this.1;exact⟨(good_num _).1,by subst h;simp;omega⟩
       ·split
        ·rename_i h;have:=good_num (w64 (a.2 - b.2));have:=key _ this.1;exact⟨(good_num _).1,by subst h;simp;omega⟩
        ·split
         ·rename_i h;have:=good_num (w64 (a.2*b.2));have:=key _ this.1;exact⟨(good_num _).1,by subst h;simp;omega⟩
         ·split
          ·rename_i h;exact⟨good_truth _,by subst h;simp [truthV]⟩
          ·split
           ·rename_i h;exact⟨good_truth _,by subst h;simp [truthV]⟩
           ·exact⟨good_null,.inl rfl⟩
      ·exact⟨good_null,.inl rfl⟩
theorem stepF_op (e:EvL){n:Nd}(h1:¬ n.op=1)(h2:¬ n.op=2)(a b:Int × Int):stepF e n a b=opV n.op a b:=by
 unfold stepF opV
 rw [if_neg h1,if_neg h2]
theorem field_good {e:EvL}(E:EvOK e)(n:Int):goodV (fieldV e n)∧(fieldV e n).1≠2:=by
 unfold fieldV
 split
 ·exact good_num _
 ·split
  ·exact E.k
  ·split
   ·exact E.a
   ·exact E.b
theorem nodeF_vF {n:Nd}(h:nodeF n=0):goodV n.v:=by
 unfold nodeF at h
 split at h
 ·cases h
 ·split at h
  ·cases h
  ·split at h
   ·cases h
   ·split at h
    ·cases h
    ·rename_i hg;exact Classical.byContradiction fun q=>hg q
theorem val_good {l:List Nd}(O:OkE l){e:EvL}(E:EvOK e){i:Nat}(hi:i < l.length):goodV (vAt e l i)∧∀ t,tAt l i=some t→(vAt e l i).1=0∨(vAt e l i).1=t:=by
 have hx:l[i]?=some l[i]:=List.getElem?_eq_getElem hi
 have W:=O.wf i _ hx
 have h0:=O.n _ (List.getElem_mem hi)
 have hv:vAt e l i=_:=fAt_wf (own_stepF e) hx W
 have ht:tAt l i=_:=fAt_wf own_tyF hx W
 rw [hv,ht]
 generalize l[i]=n at *
 have ar:=ar0 W.a
 by_cases h1:n.op=1
 ·have e1:∀ a b,stepF e n a b=n.v:=fun a b=>if_pos h1
  have e2:∀ a b,tyF n a b=some n.v.1:=fun a b=>if_pos h1
  rw [e1,e2]
  exact⟨nodeF_vF h0,fun t ht=>by cases ht;exact .inr rfl⟩
 ·by_cases h2:n.op=2
  ·have e1:∀ a b,stepF e n a b=fieldV e n.n:=fun a b=>by unfold stepF;rw [if_neg h1,if_pos h2]
   have e2:∀ a b,tyF n a b=some 1:=fun a b=>by unfold tyF;rw [if_neg h1,if_pos h2]
   rw [e1,e2]
   have:=field_good E n.n
   refine⟨this.1,fun t ht=>?_⟩
   cases ht
   have h:=this.1
   unfold goodV at h
   omega
  ·rw [stepF_op e h1 h2,tyF_op h1 h2]
   have ho:3≤n.op∧n.op≤12:=by rcases arI_range W.a with q|q|q<;>omega
   have:=opV_good ho
   exact⟨(this _ _).1,fun t ht=>by rw [tyG_out ht];exact(this _ _).2⟩
theorem ty_range {l:List Nd}(O:OkE l){i:Nat}(hi:i < l.length){t:Int}(h:tAt l i=some t):t=0∨t=1∨t=2:=by
 have hx:l[i]?=some l[i]:=List.getElem?_eq_getElem hi
 have W:=O.wf i _ hx
 have h0:=O.n _ (List.getElem_mem hi)
 have ht:tAt l i=_:=fAt_wf own_tyF hx W
 rw [ht] at h
 generalize l[i]=n at *
 by_cases h1:n.op=1
 ·have e2:∀ a b,tyF n a b=some n.v.1:=fun a b=>if_pos h1
  rw [e2] at h
  cases h
  have:=nodeF_vF h0
  unfold goodV at this
  omega
 ·by_cases h2:n.op=2
  ·have e2:∀ a b,tyF n a b=some 1:=fun a b=>by unfold tyF;rw [if_neg h1,if_pos h2]
   rw [e2] at h
   cases h
   omega
  ·rw [tyF_op h1 h2] at h
   rw [tyG_out h]
   unfold outT wantT
   split
   ·omega
   ·split<;>omega
structure Rep (P:EvL→Int × Int)(T:Option Int)(k:Nat)(z:List Nd):Prop where
 ok:OkE z
 len:z.length≤k
 val:∀ e,EvOK e→valE e z=P e
 ty:∀ t,T=some t→∃ t',tAt z (z.length - 1)=some t'∧(t'=0∨t'=t)
abbrev cst (v:Int × Int):List Nd:=[⟨1,0,0,0,v⟩]
theorem cst_ok {v:Int × Int}(h:goodV v):OkE (cst v):=by
 refine chkGo_okE ?_
 have hF:nodeF ⟨1,0,0,0,v⟩=0:=by
  unfold nodeF
  rw [if_neg (show ¬ arI 1 < 0 by decide),if_neg (by simp),if_neg (by simp),if_neg (by simp [h])]
 rw [chkGo,if_neg (fun q=>q hF)]
 rfl
theorem Rep.cst {P:EvL→Int × Int}{T:Option Int}{k:Nat}{v:Int × Int}(h:goodV v)(hk:1≤k)(hP:∀ e,EvOK e→v=P e)(hT:∀ t,T=some t→v.1=0∨v.1=t):Rep P T k (cst v):=
 ⟨cst_ok h,hk,fun e E=>hP e E,fun t ht=>⟨v.1,rfl,hT t ht⟩⟩
theorem Rep.leaf {n:Nd}(h:nodeF n=0)(ha:arI n.op=0):OkE [n]:=by
 refine chkGo_okE ?_
 rw [chkGo,if_neg (fun q=>q h)]
 unfold popN
 rw [if_pos ha]
 rfl
open Go.Txt
def encAc (a:AcS):List Value:=encA a.1 a.2
theorem encAc_len (a:AcS):(encAc a).length=4:=rfl
theorem one_ac (a:AcS):∀ u ∈ encAc a,u.oneCell'=true:=by
 intro u hu
 simp only [encAc,encA,List.mem_cons,List.not_mem_nil,or_false] at hu
 rcases hu with rfl|rfl|rfl|rfl<;>rfl
def AcB (a:AcS):Prop:=0≤a.2.1∧a.2.1≤1000000000∧-1000000000000000000≤a.2.2.1∧a.2.2.1≤1000000000000000000
theorem valsQ_small {q:Qy}(B:QOk q){e:EvL}(E:EvOK e):∀ v ∈ valsQ q e,smallV v:=by
 intro v hv
 unfold valsQ at hv
 obtain⟨a,ha,rfl⟩:=List.mem_map.1 hv
 split
 ·unfold smallV;decide
 ·rename_i h1
  obtain⟨O,_⟩:=exprF_ok ((B.g a ha).2.2.1 h1)
  exact(val_good O E (by have:=O.pos;omega)).1.small
theorem accsOf_small {ks:List Int}{rs:List (List Vl)}(hl:∀ r ∈ rs,r.length=ks.length)(hv:∀ r ∈ rs,∀ v ∈ r,smallV v)(hn:rs.length≤1000000000):∀ a ∈ accsOf ks rs,AcB a:=by
 have hcol:∀(rs:List (List Vl)),(∀ r ∈ rs,∀ v ∈ r,smallV v)→∀ c ∈ colsOf ks.length rs,c.length≤rs.length∧∀ v ∈ c,smallV v:=by
  intro rs
  induction rs using snocInd with
  | h0=>
   intro _ c hc
   rw [List.eq_of_mem_replicate hc]
   exact⟨Nat.le_refl _,fun v hv=>by cases hv⟩
  | h1 rs r ih=>
   intro hv c hc
   have ih:=ih fun x hx=>hv x (List.mem_append_left _ hx)
   rw [colsOf_snoc] at hc
   unfold colP at hc
   obtain⟨i,hi,rfl⟩:=List.mem_iff_getElem.1 hc
   rw [List.length_zipWith] at hi
   rw [List.getElem_zipWith]
   obtain⟨h1,h2⟩:=ih _ (List.getElem_mem (by omega:i < (colsOf ks.length rs).length))
   refine⟨by simp;omega,fun v hv2=>?_⟩
   rcases List.mem_append.1 hv2 with h3|h3
   ·exact h2 v h3
   ·rw [List.mem_singleton.1 h3]
    exact hv r (by simp) _ (List.getElem_mem _)
 intro a ha
 rw [acc_cols ks hl] at ha
 obtain⟨i,hi,rfl⟩:=List.mem_iff_getElem.1 ha
 rw [List.length_zipWith] at hi
 rw [List.getElem_zipWith]
 obtain⟨h1,h2⟩:=hcol rs hv _ (List.getElem_mem (by omega:i < (colsOf ks.length rs).length))
 generalize (colsOf ks.length rs)[i]=c at h1 h2
 have:=gfold_bound (k:=ks[i]) c (0,0,0) h2 (Int.le_refl _)
 unfold AcB accF
 simp only at this ⊢
 omega
theorem elAcc:ElT Tryz.prog 77 139 4 32:=.of (by kernel_rfl) (by kernel_rfl) (by decide)
theorem accP_len {acs:List AcS}{r:List Vl}(h:r.length=acs.length):(accP acs r).length=acs.length:=by unfold accP;rw [List.length_zipWith];omega
abbrev VecA:=Vec encAc 4 139
end Go.Proofs.YtiflgceoamkmnaaGreatDoor
namespace Go.Proofs.YtiflgceoamkmnaaGreatDoor.D
open Go Go.Vd
open Go.Vc (Hp IsW NoNG cellsO vag vb vi vs vsl)
def cI (x y:Int):Int:=if x < y then -1 else if x > y then 1 else 0
def cV (a b:Int × Int):Int:=if cI a.1 b.1≠0 then cI a.1 b.1 else cI a.2 b.2
structure PRow where
 s:Int
 k:Int × Int
 a:Option Addr
 n:Nat
 c:Nat
 t:Bool
 deriving Inhabited
def PRow.enc (r:PRow):List Value:=[vi r.s,vi r.k.1,vi r.k.2,vsl r.a r.n r.c,vb r.t]
def PRow.cf (x y:PRow):Int:=if x.s≠y.s then x.s - y.s else cV x.k y.k
end Go.Proofs.YtiflgceoamkmnaaGreatDoor.D
namespace Go.Proofs.YtiflgceoamkmnaaGreatDoor
open Go Go.Vc Go.Txt
structure PR where
 k:PK
 a:Option Addr
 c:Nat
 acs:List AcS
 t:Bool
def prRow (r:PR):D.PRow:=⟨r.k.1,r.k.2,r.a,r.acs.length,r.c,r.t⟩
theorem one_prow (r:D.PRow):∀ u ∈ r.enc,u.oneCell'=true:=by
 intro u hu
 simp only [D.PRow.enc,List.mem_cons,List.not_mem_nil,or_false] at hu
 rcases hu with rfl|rfl|rfl|rfl|rfl<;>rfl
section
variable {h0 h:Hp}{a:Option Addr}{c:Nat}{R:List PR}
theorem elPane:ElT Tryz.prog 59 79 5 56:=.of (by kernel_rfl) (by kernel_rfl) (by decide)
end
theorem elValP:ElT Tryz.prog 70 41 2 16:=.of (by kernel_rfl) (by kernel_rfl) (by decide)
theorem one_v (v:Vl):∀ u ∈ encV v,u.oneCell'=true:=by
 intro u hu
 simp only [encV,List.mem_cons,List.not_mem_nil,or_false] at hu
 rcases hu with rfl|rfl<;>rfl
abbrev VecV:=Vec encV 2 41
def gOut (a:AcS):Vl:=gVal a.1 a.2
theorem pane_Out_ok {r:PR}{h:Hp}{R':Value→Hp→Prop}(S:SlP encAc h r.a r.acs.length r.acs)(hn:r.acs.length≤1000)
  (hK:∀ a c h',VecV h h' a c (r.acs.map gOut)→R' (vag [vi r.k.1,vi r.k.2.1,vi r.k.2.2,vsl a (r.acs.map gOut).length c]) h'):CallOK Tryz.prog 50 [vag (prRow r).enc] h R':=by
 refine ok_panes_Pane_Out ?_
 unfold VC_panes_Pane_Out
 intro J30
 have hJ:∀ a c h',VecV h h' a c (r.acs.map gOut)→J30 r.k.1 r.k.2.1 r.k.2.2 a (r.acs.map gOut).length c h':=hK
 clear_value J30
 refine⟨fun vs hh=>∃(i:Nat) (a:Option Addr) (c:Nat),vs=[vi i,vi r.k.1,vi r.k.2.1,vi r.k.2.2,vsl a ((r.acs.take i).map gOut).length c]∧i≤r.acs.length∧VecV h hh a c ((r.acs.take i).map gOut),fun vs hh=>r.acs.length - (vint vs 0).toNat,⟨0,none,0,rfl,Nat.zero_le _,OwnV.nil (Hp.le_refl h) _ _⟩,?_⟩
 rintro vs hh ⟨i,a,c,rfl,hi,V⟩
 refine⟨_,_,_,_,_,_,_,rfl,fun e=>?_,fun e=>?_⟩
 ·have hlt:i < r.acs.length:=by
   have:=of_decide_eq_true e
   have h2:(prRow r).n=r.acs.length:=rfl
   omega
  have hx:r.acs[i]?=some r.acs[i]:=List.getElem?_eq_getElem hlt
  have tk:r.acs.take (i+1)=r.acs.take i++[r.acs[i]]:=List.take_succ_eq_append_getElem hlt
  obtain⟨b,o,ea,hr⟩:=(S.le V.le0).get encAc_len (by decide) hx
  have h2:(prRow r).n=r.acs.length:=rfl
  refine⟨b,o,⟨ea,by omega,by omega⟩,_,_,_,_,by rw [Int.toNat_natCast];exact hr,gather_Value_ok (k:=(r.acs[i]).1) (s:=(r.acs[i]).2) ⟨_,_,rfl,?_⟩⟩
  intro b23 hb23 h24
  have hl:((r.acs.take i).map gOut).length=i:=by rw [List.length_map,List.length_take];omega
  refine Vec.app elValP (fun v=>rfl) one_v V (by rw [hl];omega) (by rw [hl];omega) (x:=gOut r.acs[i]) hb23 fun a' c' h' V'=>⟨_,_,_,rfl,_,isW (by unfold InR;omega),⟨i+1,a',c',?_,by omega,?_⟩,by simp [vint];omega⟩
  ·rw [tk,List.map_append];rfl
  ·rw [tk,List.map_append];exact V'
 ·have hge:i=r.acs.length:=by
   have:=of_decide_eq_false e
   have h2:(prRow r).n=r.acs.length:=rfl
   omega
  rw [hge,List.take_length] at V ⊢
  exact hJ a c hh V
end Go.Proofs.YtiflgceoamkmnaaGreatDoor
namespace Go.Proofs.YtiflgceoamkmnaaGreatDoor
open Go Go.Vc
theorem R_StartsN_ok {at_ size slide:Int}{h:Hp}{R:Value→Hp→Prop}(hs:1≤slide)(hz:0≤size)(hz2:size≤1048576)(ha:-1048576≤at_)(ha2:at_≤1048576)
  (hK:∀ a n c h',h.le h'→SlI h' a n (startsOf at_ size slide)→(∀ g o,a=some ⟨g,o,none⟩→h g=none)→R (vsl a n c) h'):CallOK Tryz.prog 53 [vi at_,vi size,vi slide] h R:=by
 refine ok_R_Starts ?_
 unfold VC_R_Starts
 refine⟨_,isW (by unfold InR;omega),_,isW (by unfold InR;omega),
  fun vs hh=>∃(a:Option Addr) (n c:Nat) (k:Nat),vs=[vsl a n c,vi (at_ - size+1+k)]∧k≤size.toNat∧OwnV h hh 3 1 a n c ((upto (mulOf slide) (at_ - size) k).map vi),
  fun vs hh=>(at_+1 - vint vs 1).toNat,⟨none,0,0,0,by simp,Nat.zero_le _,OwnV.nil (Hp.le_refl h) _ _⟩,?_⟩
 rintro vs hh ⟨a,n,c,k,rfl,hk,O⟩
 have hn:n=(upto (mulOf slide) (at_ - size) k).length:=O.sli.1
 have hn2:=upto_length (mulOf slide) (at_ - size) k
 refine⟨a,n,c,_,rfl,fun e=>?_,fun e=>?_⟩
 ·have hlt:at_ - size+1+k≤at_:=by simpa using e
  have stp:∀ a' c' h',OwnV h h' 3 1 a' (upto (mulOf slide) (at_ - size) (k+1)).length c' ((upto (mulOf slide) (at_ - size) (k+1)).map vi) →
    (∃ y:Int,IsW y (at_ - size+1+k+1)∧(∃(a:Option Addr) (n c:Nat) (k':Nat),[vsl a' (upto (mulOf slide) (at_ - size) (k+1)).length c',vi y]=[vsl a n c,vi (at_ - size+1+k')]∧k'≤size.toNat∧OwnV h h' 3 1 a n c ((upto (mulOf slide) (at_ - size) k').map vi)) ∧
     (at_+1 - vint [vsl a' (upto (mulOf slide) (at_ - size) (k+1)).length c',vi y] 1).toNat < (at_+1 - vint [vsl a n c,vi (at_ - size+1+k)] 1).toNat):=by
   intro a' c' h' O'
   refine⟨_,isW (by unfold InR;omega),⟨a',_,c',k+1,by simp;omega,by omega,O'⟩,by simp [vint];omega⟩
  refine⟨by omega,fun e=>?_,fun e=>?_⟩
  ·intro b hb h11
   refine OwnV.append (m:=1) elInt (O.set hb _) (HasRow.new hh b [vi (at_ - size+1+k)] _) rfl (one_ints [_]) (by omega) (by omega) fun a' c' h' O' _ _=>⟨_,_,_,rfl,?_⟩
   have hu:upto (mulOf slide) (at_ - size) (k+1)=upto (mulOf slide) (at_ - size) k++[at_ - size+1+k]:=by
    have e2:(at_ - size+((k+1:Nat):Int))=at_ - size+1+k:=by omega
    have hm:mulOf slide (at_ - size+1+k)=true:=by simpa [mulOf] using e
    rw [upto,e2,hm];rfl
   have:=stp a' c' h'
   rw [hu,List.map_append,List.length_append,←hn] at this
   exact this O'
  ·have hu:upto (mulOf slide) (at_ - size) (k+1)=upto (mulOf slide) (at_ - size) k:=by
    have e2:(at_ - size+((k+1:Nat):Int))=at_ - size+1+k:=by omega
    have hm:mulOf slide (at_ - size+1+k)=false:=by simpa [mulOf] using e
    rw [upto,e2,hm];simp
   have:=stp a c hh
   rw [hu,←hn] at this
   exact this O
 ·have hge:k=size.toNat:=by simp at e;omega
  subst hge
  exact hK a n c hh O.le O.sli fun g o e=>O.new g (by rw [e,OwnS.at0 O.own g o e])
theorem window_StartsN_ok {at_ size slide:Int}{h:Hp}{R:Value→Hp→Prop}(hs:1≤slide)(hsl2:slide≤1048576)(hz:0≤size)(hz2:size≤1048576)(ha:-1048576≤at_)(ha2:at_≤1048576)
  (hK:∀ a n c h',h.le h'→SlI h' a n (startsOf at_ size slide)→(∀ g o,a=some ⟨g,o,none⟩→h g=none)→R (vsl a n c) h'):CallOK Tryz.prog 46 [vi at_,vi size,vi slide] h R:=by
 refine ok_window_Starts ?_
 unfold VC_window_Starts
 have h1:at_.tdiv slide*slide+at_.tmod slide=at_:=Int.tdiv_mul_add_tmod at_ slide
 have h2:at_.tmod slide < slide:=Int.tmod_lt_of_pos at_ (by omega)
 have h3:-slide < at_.tmod slide:=Int.lt_tmod_of_pos at_ (by omega)
 have h4:mulOf slide (at_.tdiv slide*slide)=true:=mulOf_dvd.2 ⟨at_.tdiv slide,Int.mul_comm _ _⟩
 have h5:-1048576≤at_.tdiv slide∧at_.tdiv slide≤1048576:=by
  have:=Int.natAbs_tdiv_le_natAbs at_ slide
  omega
 refine⟨⟨by omega,by unfold InR;omega⟩,_,isW (by unfold InR;omega),?_⟩
 intro J5
 have fin:∀ x:Int,mulOf slide x=true→x≤at_→at_ < x+slide→J5 x:=by
  intro x hx1 hx2 hx3
  have up:∀(y:Int) (k:Nat),mulOf slide y=true→y+k < y+slide→∀ n,upto (mulOf slide) y (k+n)=upto (mulOf slide) (y+k) n:=by
   intro y k hy hk n
   exact upto_skip _ k y n fun z z1 z2=>mulOf_between hs hy z1 (by omega)
  refine⟨fun vs hh=>∃(a:Option Addr) (n c:Nat) (x:Int),vs=[vsl a n c,vi x]∧mulOf slide x=true∧x≤at_∧at_ - size < x+slide∧(SlI hh a n (upto (mulOf slide) x (at_ - x).toNat)∧∀ g o,a=some ⟨g,o,none⟩→h g=none)∧h.le hh∧-4194304≤x,
   fun vs hh=>(vint vs 1 - (at_ - size)).toNat,⟨none,0,0,x,rfl,hx1,hx2,by omega,?_,Hp.le_refl h,by omega⟩,?_⟩
  ·have:=up x (at_ - x).toNat hx1 (by omega) 0
   rw [Nat.add_zero] at this
   rw [this]
   exact⟨⟨rfl,.inl rfl⟩,fun g o e=>by cases e⟩
  rintro vs hh ⟨a,n,c,y,rfl,hy1,hy2,hy3,⟨S,hnew⟩,hle,hy4⟩
  refine⟨a,n,c,y,rfl,_,isW (by unfold InR;omega),fun e=>?_,fun e=>?_⟩
  ·have hlt:at_ - size < y:=by simpa using e
   intro b hb h16
   have hn:=S.1
   have hn2:=upto_length (mulOf slide) y (at_ - y).toNat
   refine OwnV.append (n:=1) (m:=n) (c2:=c) elInt (OwnV.mk_new hle hb _ (n:=1) [vi y] rfl (by decide)) (S.2.le (Hp.le_set (Hp.le_refl hh) hb _)) (by rw [hn,List.length_map,Nat.mul_one]) (one_ints _) (by omega) (by omega) fun a' c' h' O' _ _=>⟨_,_,_,rfl,_,isW (by unfold InR;omega),⟨a',_,c',_,rfl,?_,by omega,by omega,?_,O'.le,by omega⟩,by simp [vint];omega⟩
   ·rw [mulOf_dvd] at hy1 ⊢
    exact Int.dvd_sub hy1 (Int.dvd_refl _)
   ·have hm:mulOf slide (y - slide)=true:=by
     rw [mulOf_dvd] at hy1 ⊢
     exact Int.dvd_sub hy1 (Int.dvd_refl _)
    have e1:=up (y - slide) (slide - 1).toNat hm (by omega) ((at_ - y).toNat+1)
    have e2:(slide - 1).toNat+((at_ - y).toNat+1)=(at_ - (y - slide)).toNat:=by omega
    have e3:y - slide+((slide - 1).toNat:Int)=y - 1:=by omega
    have e4:y - 1+1=y:=by omega
    rw [e2,e3,upto_cons,e4,hy1,if_pos rfl] at e1
    rw [e1]
    exact⟨O'.sli (l:=y :: upto (mulOf slide) y (at_ - y).toNat),fun g o e=>O'.new g (by rw [e,OwnS.at0 O'.own g o e])⟩
  ·have hge:y≤at_ - size:=by simpa using e
   refine hK a n c hh hle ?_ hnew
   have e1:=up y (at_ - size - y).toNat hy1 (by omega) size.toNat
   have e2:(at_ - size - y).toNat+size.toNat=(at_ - y).toNat:=by omega
   have e3:y+((at_ - size - y).toNat:Int)=at_ - size:=by omega
   rw [e2,e3] at e1
   rw [e1] at S
   exact S
 refine⟨fun e=>?_,fun e=>?_⟩
 ·have hlt:at_ < at_.tdiv slide*slide:=by simpa using e
  refine⟨_,isW (by unfold InR;omega),fin _ ?_ (by omega) (by omega)⟩
  rw [mulOf_dvd] at h4 ⊢
  exact Int.dvd_sub h4 (Int.dvd_refl _)
 ·have hge:at_.tdiv slide*slide≤at_:=by simpa using e
  exact fin _ h4 hge (by omega)
theorem upto_mem {p:Int→Bool}{lo:Int}:∀{n:Nat} {x:Int},x ∈ upto p lo n→lo < x∧x≤lo+n
 | 0,x,h=>by cases h
 | n+1,x,h=>by
  rw [upto] at h
  rcases List.mem_append.1 h with h1|h1
  ·have:=upto_mem h1;omega
  ·split at h1
   ·rw [List.mem_singleton.1 h1];omega
   ·cases h1
theorem starts_mem {t size slide x:Int}(hz:0≤size)(h:x ∈ startsOf t size slide):t - size < x∧x≤t:=by
 have:=upto_mem h
 omega
theorem starts_len {t size slide:Int}:(startsOf t size slide).length≤size.toNat:=upto_length _ _ _
open Go.Txt
def prT (r:PR):PK × List AcS × Bool:=(r.k,r.acs,r.t)
section
variable {ks:List Int}{A:List Ad}{R:List PR}
end
section
variable {h0 h:Hp}{a:Option Addr}{c:Nat}{R:List PR}
end
def TabC {α:Type}(enc:α→List Value)(h:Hp)(a:Option Addr)(n:Nat)(L:List (List α)):Prop:=∃ R:List (TRow α),R.map Prod.snd=L∧n=L.length∧HasRow h a (R.map rowV)∧∀(j:Nat) (r:TRow α),R[j]?=some r→HasRow h r.1.1 (r.2.flatMap enc)∧r.2.length≤r.1.2
theorem TabC.cell {α:Type}{enc:α→List Value}{h:Hp}{a:Option Addr}{n:Nat}{L:List (List α)}(D:TabC enc h a n L){j:Nat}{l:List α}(hl:L[j]?=some l):∃ b o a' c',a=some ⟨b,o,none⟩∧h.cell b (o+j*1)=some (vsl a' l.length c')∧SlP enc h a' l.length l∧l.length≤c':=by
 obtain⟨R,rfl,hn,H,H2⟩:=D
 rw [List.getElem?_map,Option.map_eq_some_iff] at hl
 obtain⟨r,hr,rfl⟩:=hl
 obtain⟨b,o,ea,hc⟩:=H.get1 (j:=j) (v:=rowV r) (by rw [List.getElem?_map,hr];rfl)
 exact⟨b,o,r.1.1,r.1.2,ea,hc,⟨rfl,(H2 j r hr).1⟩,(H2 j r hr).2⟩
structure AdOK (q:Qy)(x:Ad):Prop where
 l:x.2.length=q.aggs.length
 v:∀ v ∈ x.2,smallV v
 s:-1000≤x.1.1∧x.1.1≤9999
theorem starts_ok {q:Qy}(B:QOk q){e:EvL}(E:EvOK e):∀ s ∈ startsOf e.1 q.size q.slide,-1000≤s∧s≤9999:=by
 intro s hs
 have h1:=B.s
 have h2:=E.t
 have:=starts_mem (by omega) hs
 omega
theorem starts_many {q:Qy}(B:QOk q){e:EvL}:(startsOf e.1 q.size q.slide).length≤1000:=by
 have h1:=B.s
 have:=starts_len (t:=e.1) (size:=q.size) (slide:=q.slide)
 omega
theorem kindsQ_len (q:Qy):(kindsQ q).length=q.aggs.length:=by unfold kindsQ;rw [List.length_map]
theorem accsOf_kinds {ks:List Int}{rs:List (List Vl)}(hl:∀ r ∈ rs,r.length=ks.length):(accsOf ks rs).map (·.1)=ks:=by
 rw [acc_cols ks hl,List.map_zipWith]
 have hc:=colsOf_len (n:=ks.length) hl
 generalize colsOf ks.length rs=cs at hc
 clear hl
 induction ks generalizing cs with
 | nil=>rfl
 | cons k ks ih=>
  match cs,hc with
  | c :: cs,hc=>
   rw [List.zipWith_cons_cons,ih cs (by simpa using hc)]
   rfl
end Go.Proofs.YtiflgceoamkmnaaGreatDoor
namespace Go.Proofs.YtiflgceoamkmnaaGreatDoor
open Go Go.Vc
def VC_R_asks (u0:Option Addr)(u1 u2:Nat)(u3:Option Addr)(u4 u5:Nat)(u6:Option Addr)(u7 u8:Nat)(u9:Int)(u10:Int)(u11:Int)(u12:Int)(u13:Int)(u14:Int)(u15:Int)(u16:Int)(u17:Int)(u18:Int)(u19:Int)(h:Hp)(R:Value→Hp→Prop):Prop:=
 (((decide ((u4:Int)=0))=true→R (vb true) h)∧((decide ((u4:Int)=0))=false→(CallOK Tryz.prog 107 [vsl u3 u4 u5,vag [vi u13,vi u14,vi u15,vi u16,vi u17,vi u18,vi u19]] h fun v2 h3=>∃ x4 x5,v2=(vag [vi x4,vi x5])∧R (vb (bif (decide (x4=2)) then(decide (x5=1)) else false)) h3)))
theorem ok_R_asks {u0 u1 u2 u3 u4 u5 u6 u7 u8 u9 u10 u11 u12 u13 u14 u15 u16 u17 u18 u19 h R}(H:VC_R_asks u0 u1 u2 u3 u4 u5 u6 u7 u8 u9 u10 u11 u12 u13 u14 u15 u16 u17 u18 u19 h R):CallOK Tryz.prog 52 [vag [vsl u0 u1 u2,vsl u3 u4 u5,vsl u6 u7 u8,vi u9,vi u10,vi u11,vi u12],vag [vi u13,vi u14,vi u15,vi u16,vi u17,vi u18,vi u19]] h R:=
 call_of (cfg:=⟨[],[],[]⟩) noNG mixed Tryz.func52 [.ag [.v (vsl u0 u1 u2),.v (vsl u3 u4 u5),.v (vsl u6 u7 u8),.v (vi u9),.v (vi u10),.v (vi u11),.v (vi u12)],.ag [.v (vi u13),.v (vi u14),.v (vi u15),.v (vi u16),.v (vi u17),.v (vi u18),.v (vi u19)]] (by kernel_rfl) rfl (by kernel_rfl) H
def VC_R_keyOf (u0:Option Addr)(u1 u2:Nat)(u3:Option Addr)(u4 u5:Nat)(u6:Option Addr)(u7 u8:Nat)(u9:Int)(u10:Int)(u11:Int)(u12:Int)(u13:Int)(u14:Int)(u15:Int)(u16:Int)(u17:Int)(u18:Int)(u19:Int)(h:Hp)(R:Value→Hp→Prop):Prop:=
 (((decide ((u7:Int)=0))=true→R (vag [vi 0,vi 0]) h)∧((decide ((u7:Int)=0))=false→(CallOK Tryz.prog 107 [vsl u6 u7 u8,vag [vi u13,vi u14,vi u15,vi u16,vi u17,vi u18,vi u19]] h fun v2 h3=>∃ x4 x5,v2=(vag [vi x4,vi x5])∧R (vag [vi x4,vi x5]) h3)))
theorem ok_R_keyOf {u0 u1 u2 u3 u4 u5 u6 u7 u8 u9 u10 u11 u12 u13 u14 u15 u16 u17 u18 u19 h R}(H:VC_R_keyOf u0 u1 u2 u3 u4 u5 u6 u7 u8 u9 u10 u11 u12 u13 u14 u15 u16 u17 u18 u19 h R):CallOK Tryz.prog 55 [vag [vsl u0 u1 u2,vsl u3 u4 u5,vsl u6 u7 u8,vi u9,vi u10,vi u11,vi u12],vag [vi u13,vi u14,vi u15,vi u16,vi u17,vi u18,vi u19]] h R:=
 call_of (cfg:=⟨[],[],[]⟩) noNG mixed Tryz.func55 [.ag [.v (vsl u0 u1 u2),.v (vsl u3 u4 u5),.v (vsl u6 u7 u8),.v (vi u9),.v (vi u10),.v (vi u11),.v (vi u12)],.ag [.v (vi u13),.v (vi u14),.v (vi u15),.v (vi u16),.v (vi u17),.v (vi u18),.v (vi u19)]] (by kernel_rfl) rfl (by kernel_rfl) H
def VC_R_pane_add (u0 u1:Nat)(u2:Option Addr)(u3 u4:Nat)(u5:Option Addr)(u6 u7:Nat)(u8:Option Addr)(u9 u10:Nat)(u11:Int)(u12:Int)(u13:Int)(u14:Int)(u15:Int)(u16:Int)(u17:Int)(u18:Int)(u19:Int)(u20:Int)(u21:Int)(h:Hp)(R:Value→Hp→Prop):Prop:=
 (∃(I2:List Value→Hp→Prop) (m3:List Value→Hp→Nat),I2 [vi 0] h∧∀ vs4 h5,I2 vs4 h5→∃ x6,vs4=[vi x6]∧(((decide (x6 < (u3:Int)))=true→(∃ b8 o9,(u2=some ⟨b8,o9,none⟩∧(0:Int)≤x6∧x6 < (u3:Int))∧(∃ x10,(Hp.cell h5 b8 (o9+x6.toNat*2)=some (vi x10))∧(let J20:Int→Int→Hp→Prop:=fun x38 x39 h40=>(∃ a41 n41 c41,(Hp.cell h40 u0 (u1+3)=some (vsl a41 n41 c41))∧(∃ a42 n42 c42,(Hp.cell h40 u0 (u1+3)=some (vsl a42 n42 c42))∧(∃ b43 o44,(a42=some ⟨b43,o44,none⟩∧(0:Int)≤x6∧x6 < (n42:Int))∧(∃ a45 n45 c45,(Hp.cell h40 b43 (o44+x6.toNat*1)=some (vsl a45 n45 c45))∧(∀ b46,h40 b46=none→let h47:= Hp.set h40 b46 (cellsO [vi x38,vi x39] 41);(SemOK Tryz.prog (Builtin.append_ #[70,70] 70 #[vsl a45 n45 c45,(vsl (some (⟨b46,0,none⟩:Addr)) 1 1)]) h47 fun v48 h49=>∃ a50 n50 c50,v48=(vsl a50 n50 c50)∧((Hp.cell h49 u0 (u1+3)=some (vsl a41 n41 c41))∧(∃ b51 o52,(a41=some ⟨b51,o52,none⟩∧(0:Int)≤x6∧x6 < (n41:Int))∧(Hp.store h49 b51 (o52+x6.toNat*1) [vsl a50 n50 c50] fun h53=>(∃ x55,(IsW x55 (x6+1))∧(I2 [vi x55] h53∧m3 [vi x55] h53 < m3 vs4 h5)))))))))));(((decide (x10 > 1))=true→(∃ b11 o12,(u2=some ⟨b11,o12,none⟩∧(0:Int)≤x6∧x6 < (u3:Int))∧(∃ a13 n13 c13,(Hp.cell h5 b11 ((o12+x6.toNat*2)+1)=some (vsl a13 n13 c13))∧(CallOK Tryz.prog 107 [vsl a13 n13 c13,vag [vi u15,vi u16,vi u17,vi u18,vi u19,vi u20,vi u21]] h5 fun v14 h15=>∃ x16 x17,v14=(vag [vi x16,vi x17])∧(J20 x16 x17 h15)))))∧((decide (x10 > 1))=false→(J20 0 0 h5)))))))∧((decide (x6 < (u3:Int)))=false→R (vtup []) h5)))
theorem ok_R_pane_add {u0 u1 u2 u3 u4 u5 u6 u7 u8 u9 u10 u11 u12 u13 u14 u15 u16 u17 u18 u19 u20 u21 h R}(H:VC_R_pane_add u0 u1 u2 u3 u4 u5 u6 u7 u8 u9 u10 u11 u12 u13 u14 u15 u16 u17 u18 u19 u20 u21 h R):CallOK Tryz.prog 57 [vhp u0 u1,vag [vsl u2 u3 u4,vsl u5 u6 u7,vsl u8 u9 u10,vi u11,vi u12,vi u13,vi u14],vag [vi u15,vi u16,vi u17,vi u18,vi u19,vi u20,vi u21]] h R:=
 call_of (cfg:=⟨[],[(2,([6],[.one (.int .i64)],[]))],[(6,[0,1,2,3,4,5,6,7,8]),(7,[0,1,2,3,4,5,6,7,8,9,10,11,12,13,14,15,16])]⟩) noNG mixed Tryz.func57 [.one (.hp u0 u1),.ag [.v (vsl u2 u3 u4),.v (vsl u5 u6 u7),.v (vsl u8 u9 u10),.v (vi u11),.v (vi u12),.v (vi u13),.v (vi u14)],.ag [.v (vi u15),.v (vi u16),.v (vi u17),.v (vi u18),.v (vi u19),.v (vi u20),.v (vi u21)]] (by kernel_rfl) rfl (by kernel_rfl) H
def VC_R_pane_out (u0 u1:Nat)(u2:Option Addr)(u3 u4:Nat)(u5:Option Addr)(u6 u7:Nat)(u8:Option Addr)(u9 u10:Nat)(u11:Int)(u12:Int)(u13:Int)(u14:Int)(h:Hp)(R:Value→Hp→Prop):Prop:=
 (∃ x1,(Hp.cell h u0 u1=some (vi x1))∧(∃ x2 x3,(Hp.row h u0 (u1+1) 2=some [vi x2,vi x3])∧(let J34:Int→Int→Int→Option Addr→Nat→Nat→Hp→Prop:=fun x45 x46 x47 a48 n48 c48 h49=>R (vag [vi x45,vi x46,vi x47,vsl a48 n48 c48]) h49;(∃(I5:List Value→Hp→Prop) (m6:List Value→Hp→Nat),I5 [vi 0,vi x1,vi x2,vi x3,vsl none 0 0] h∧∀ vs7 h8,I5 vs7 h8→∃ x9 x10 x11 x12 a13 n13 c13,vs7=[vi x9,vi x10,vi x11,vi x12,vsl a13 n13 c13]∧(((decide (x9 < (u3:Int)))=true→(∃ b16 o17,(u2=some ⟨b16,o17,none⟩∧(0:Int)≤x9∧x9 < (u3:Int))∧(∃ x18,(Hp.cell h8 b16 (o17+x9.toNat*2)=some (vi x18))∧(∃ a19 n19 c19,(Hp.cell h8 u0 (u1+3)=some (vsl a19 n19 c19))∧(∃ b20 o21,(a19=some ⟨b20,o21,none⟩∧(0:Int)≤x9∧x9 < (n19:Int))∧(∃ a22 n22 c22,(Hp.cell h8 b20 (o21+x9.toNat*1)=some (vsl a22 n22 c22))∧(CallOK Tryz.prog 109 [vi x18,vsl a22 n22 c22] h8 fun v23 h24=>∃ x25 x26,v23=(vag [vi x25,vi x26])∧(∀ b27,h24 b27=none→let h28:= Hp.set h24 b27 (cellsO [vi x25,vi x26] 41);(SemOK Tryz.prog (Builtin.append_ #[70,70] 70 #[vsl a13 n13 c13,(vsl (some (⟨b27,0,none⟩:Addr)) 1 1)]) h28 fun v29 h30=>∃ a31 n31 c31,v29=(vsl a31 n31 c31)∧(∃ x33,(IsW x33 (x9+1))∧(I5 [vi x33,vi x10,vi x11,vi x12,vsl a31 n31 c31] h30∧m6 [vi x33,vi x10,vi x11,vi x12,vsl a31 n31 c31] h30 < m6 vs7 h8)))))))))))∧((decide (x9 < (u3:Int)))=false→(J34 x10 x11 x12 a13 n13 c13 h8)))))))
theorem ok_R_pane_out {u0 u1 u2 u3 u4 u5 u6 u7 u8 u9 u10 u11 u12 u13 u14 h R}(H:VC_R_pane_out u0 u1 u2 u3 u4 u5 u6 u7 u8 u9 u10 u11 u12 u13 u14 h R):CallOK Tryz.prog 56 [vhp u0 u1,vag [vsl u2 u3 u4,vsl u5 u6 u7,vsl u8 u9 u10,vi u11,vi u12,vi u13,vi u14]] h R:=
 call_of (cfg:=⟨[],[(3,([6],[.one (.int .i64)],[(2,[.int .i64,.int .i64,.int .i64,.slice])]))],[(1,[0,1,2,3,4,5,6,7,8,9,10]),(5,[0,1,2,3,4,5,6,7,8,9,10,11,12,13,14,15])]⟩) noNG mixed Tryz.func56 [.one (.hp u0 u1),.ag [.v (vsl u2 u3 u4),.v (vsl u5 u6 u7),.v (vsl u8 u9 u10),.v (vi u11),.v (vi u12),.v (vi u13),.v (vi u14)]] (by kernel_rfl) rfl (by kernel_rfl) H
def VC_R_less (u0 u1:Nat)(u2 u3:Nat)(h:Hp)(R:Value→Hp→Prop):Prop:=
 (∃ x1,(Hp.cell h u0 u1=some (vi x1))∧(∃ x2,(Hp.cell h u2 u3=some (vi x2))∧(((decide (x1≠x2))=true→(∃ x3,(Hp.cell h u0 u1=some (vi x3))∧(∃ x4,(Hp.cell h u2 u3=some (vi x4))∧R (vb (decide (x3 < x4))) h)))∧((decide (x1≠x2))=false→(∃ x6,(Hp.cell h u0 (u1+1)=some (vi x6))∧(∃ x7,(Hp.cell h u2 (u3+1)=some (vi x7))∧(((decide (x6≠x7))=true→(∃ x8,(Hp.cell h u0 (u1+1)=some (vi x8))∧(∃ x9,(Hp.cell h u2 (u3+1)=some (vi x9))∧R (vb (decide (x8 < x9))) h)))∧((decide (x6≠x7))=false→(∃ x11,(Hp.cell h u0 ((u1+1)+1)=some (vi x11))∧(∃ x12,(Hp.cell h u2 ((u3+1)+1)=some (vi x12))∧R (vb (decide (x11 < x12))) h))))))))))
theorem ok_R_less {u0 u1 u2 u3 h R}(H:VC_R_less u0 u1 u2 u3 h R):CallOK Tryz.prog 108 [vhp u0 u1,vhp u2 u3] h R:=
 call_of (cfg:=⟨[],[],[(1,[0,1,2,3,4,5,6,7,8]),(2,[0,1,2,3,4,5,6,7,8,9]),(3,[0,1,2,3,4,5,6,7,8,9,10]),(4,[0,1,2,3,4,5,6,7,8,9,10,11]),(5,[0,1,2,3,4,5,6,7,8,9,10,11])]⟩) noNG mixed Tryz.func108 [.one (.hp u0 u1),.one (.hp u2 u3)] (by kernel_rfl) rfl (by kernel_rfl) H
def VC_R_find (u0:Option Addr)(u1 u2:Nat)(u3:Int)(u4:Int)(u5:Int)(u6:Int)(h:Hp)(R:Value→Hp→Prop):Prop:=
 (SemOK Tryz.prog (Instr.makeSlice 121 (vi u6) (vi u6)) h fun v1 h2=>∃ a3 n3 c3,v1=(vsl a3 n3 c3)∧(∀ b4,h2 b4=none→let h5:= Hp.set h2 b4 (cellsO [vi u3,vi u4,vi u5,vsl a3 n3 c3,vb false] 123);(let J23:Int→Hp→Prop:=fun x25 h26=>(∃ b27 o28,((decide (x25 < (u1:Int)))=true→(u0=some ⟨b27,o28,none⟩∧(0:Int)≤x25∧x25 < (u1:Int)))∧(∃ q29,((decide (x25 < (u1:Int)))=true→Hp.cell h26 b27 (o28+x25.toNat*1)=some (vp q29))∧(∃ b30 o31,((decide (x25 < (u1:Int)))=true→q29=some ⟨b30,o31,none⟩)∧(∃ x32,((decide (x25 < (u1:Int)))=true→Hp.cell h26 b30 o31=some (vi x32))∧(∃ b33 o34,((bif (decide (x25 < (u1:Int))) then(decide (x32=u3)) else false)=true→(u0=some ⟨b33,o34,none⟩∧(0:Int)≤x25∧x25 < (u1:Int)))∧(∃ q35,((bif (decide (x25 < (u1:Int))) then(decide (x32=u3)) else false)=true→Hp.cell h26 b33 (o34+x25.toNat*1)=some (vp q35))∧(∃ b36 o37,((bif (decide (x25 < (u1:Int))) then(decide (x32=u3)) else false)=true→q35=some ⟨b36,o37,none⟩)∧(∃ x38 x39,((bif (decide (x25 < (u1:Int))) then(decide (x32=u3)) else false)=true→Hp.row h26 b36 (o37+1) 2=some [vi x38,vi x39])∧(∃ p40,((bif (decide (x25 < (u1:Int))) then(decide (x32=u3)) else false)=true→Rd Tryz.prog ((eqGuard .eql 41 (.tmp 56) (.tmp 57) (vag [vi x38,vi x39]) (vag [vi u4,vi u5]) >>= fun _=>binOp .eql 41 (vag [vi x38,vi x39]) (vag [vi u4,vi u5]))) h26 (vb p40))∧(((bif (bif (decide (x25 < (u1:Int))) then(decide (x32=u3)) else false) then p40 else false)=true→(∃ b41 o42,(u0=some ⟨b41,o42,none⟩∧(0:Int)≤x25∧x25 < (u1:Int))∧(∃ q43,(Hp.cell h26 b41 (o42+x25.toNat*1)=some (vp q43))∧R (vtup [vsl u0 u1 u2,vp q43]) h26)))∧((bif (bif (decide (x25 < (u1:Int))) then(decide (x32=u3)) else false) then p40 else false)=false→(∃ a45 n45 c45,(Rd Tryz.prog (Instr.sliceAt 101 (vsl u0 u1 u2) none (some (vi x25)) none) h26 (vsl a45 n45 c45))∧(SemOK Tryz.prog (Builtin.append_ #[101,101] 101 #[vsl none 0 0,vsl a45 n45 c45]) h26 fun v46 h47=>∃ a48 n48 c48,v46=(vsl a48 n48 c48)∧(∀ b49,h47 b49=none→let h50:= Hp.set h47 b49 (cellsO [vhp b4 0] 114);(SemOK Tryz.prog (Builtin.append_ #[101,101] 101 #[vsl a48 n48 c48,(vsl (some (⟨b49,0,none⟩:Addr)) 1 1)]) h50 fun v51 h52=>∃ a53 n53 c53,v51=(vsl a53 n53 c53)∧(∃ a54 n54 c54,(Rd Tryz.prog (Instr.sliceAt 101 (vsl u0 u1 u2) (some (vi x25)) none none) h52 (vsl a54 n54 c54))∧(SemOK Tryz.prog (Builtin.append_ #[101,101] 101 #[vsl a53 n53 c53,vsl a54 n54 c54]) h52 fun v55 h56=>∃ a57 n57 c57,v55=(vsl a57 n57 c57)∧R (vtup [vsl a57 n57 c57,vhp b4 0]) h56)))))))))))))))));(∃(I7:List Value→Hp→Prop) (m8:List Value→Hp→Nat),I7 [vi 0] h5∧∀ vs9 h10,I7 vs9 h10→∃ x11,vs9=[vi x11]∧(((decide (x11 < (u1:Int)))=true→(∃ b14 o15,(u0=some ⟨b14,o15,none⟩∧(0:Int)≤x11∧x11 < (u1:Int))∧(∃ q16,(Hp.cell h10 b14 (o15+x11.toNat*1)=some (vp q16))∧(CallOK Tryz.prog 108 [vp q16,vhp b4 0] h10 fun v17 h18=>∃ p19,v17=(vb p19)∧(((!p19)=true→(J23 x11 h18))∧((!p19)=false→(∃ x22,(IsW x22 (x11+1))∧(I7 [vi x22] h18∧m8 [vi x22] h18 < m8 vs9 h10))))))))∧((decide (x11 < (u1:Int)))=false→(J23 x11 h10)))))))
theorem ok_R_find {u0 u1 u2 u3 u4 u5 u6 h R}(H:VC_R_find u0 u1 u2 u3 u4 u5 u6 h R):CallOK Tryz.prog 54 [vsl u0 u1 u2,vi u3,vag [vi u4,vi u5],vi u6] h R:=
 call_of (cfg:=⟨[19],[(3,([11],[.one (.int .i64)],[]))],[(1,[0,1,2,3,4,5,6]),(7,[0,1,2,3,4,5,6,7,8,9,10,11,12,13,14,15,16,17,18,19,20,21,22,23,24,25]),(8,[0,1,2,3,4,5,6])]⟩) noNG mixed Tryz.func54 [.one (.v (vsl u0 u1 u2)),.one (.v (vi u3)),.ag [.v (vi u4),.v (vi u5)],.one (.v (vi u6))] (by kernel_rfl) rfl (by kernel_rfl) H
def VC_R_Gathered (u0:Int)(u1:Option Addr)(u2 u3:Nat)(h:Hp)(R:Value→Hp→Prop):Prop:=
 (∃(I2:List Value→Hp→Prop) (m3:List Value→Hp→Nat),I2 [vi 0,vi 0,vi 0,vi 0] h∧∀ vs4 h5,I2 vs4 h5→∃ x6 x7 x8 x9,vs4=[vi x6,vi x7,vi x8,vi x9]∧(((decide (x9 < (u2:Int)))=true→(let J25:Int→Int→Int→Prop:=fun x32 x33 x34=>(∃ x35,(IsW x35 (x9+1))∧(I2 [vi x32,vi x33,vi x34,vi x35] h5∧m3 [vi x32,vi x33,vi x34,vi x35] h5 < m3 vs4 h5));(∃ b12 o13,(u1=some ⟨b12,o13,none⟩∧(0:Int)≤x9∧x9 < (u2:Int))∧(∃ x14 x15,(Hp.row h5 b12 (o13+x9.toNat*2) 2=some [vi x14,vi x15])∧(((bif (decide (u0≠1)) then(decide (x14=0)) else false)=true→(J25 x6 x7 x8))∧((bif (decide (u0≠1)) then(decide (x14=0)) else false)=false→(let J20:Int→Prop:=fun x21=>(∃ x22,(IsW x22 (x6+1))∧(∃ x23,(IsW x23 (x7+x15))∧(J25 x22 x23 x21)));(((bif (bif (decide (x6=0)) then true else(bif (decide (u0=4)) then(decide (x15 < x8)) else false)) then true else(bif (decide (u0=5)) then(decide (x15 > x8)) else false))=true→(J20 x15))∧((bif (bif (decide (x6=0)) then true else(bif (decide (u0=4)) then(decide (x15 < x8)) else false)) then true else(bif (decide (u0=5)) then(decide (x15 > x8)) else false))=false→(J20 x8))))))))))∧((decide (x9 < (u2:Int)))=false→(((decide (u0 < 3))=true→(CallOK Tryz.prog 149 [vi x6] h5 fun v36 h37=>∃ x38 x39,v36=(vag [vi x38,vi x39])∧R (vag [vi x38,vi x39]) h37))∧((decide (u0 < 3))=false→(((decide (x6=0))=true→R (vag [vi 0,vi 0]) h5)∧((decide (x6=0))=false→(((decide (u0=3))=true→(CallOK Tryz.prog 149 [vi x7] h5 fun v42 h43=>∃ x44 x45,v42=(vag [vi x44,vi x45])∧R (vag [vi x44,vi x45]) h43))∧((decide (u0=3))=false→(CallOK Tryz.prog 149 [vi x8] h5 fun v47 h48=>∃ x49 x50,v47=(vag [vi x49,vi x50])∧R (vag [vi x49,vi x50]) h48))))))))))
theorem ok_R_Gathered {u0 u1 u2 u3 h R}(H:VC_R_Gathered u0 u1 u2 u3 h R):CallOK Tryz.prog 109 [vi u0,vsl u1 u2 u3] h R:=
 call_of (cfg:=⟨[],[(5,([5,6,7,8],[.one (.int .i64),.one (.int .i64),.one (.int .i64),.one (.int .i64)],[]))],[]⟩) noNG mixed Tryz.func109 [.one (.v (vi u0)),.one (.v (vsl u1 u2 u3))] (by kernel_rfl) rfl (by kernel_rfl) H
open Go.Txt
theorem R_Gathered_ok {k:Int}(hk:1≤k){a:Option Addr}{n c:Nat}{l:List (Int × Int)}{h:Hp}{R:Value→Hp→Prop}(S:SlP encV h a n l)(hv:∀ v ∈ l,smallV v)(hn:n≤1048576)
  (hK:R (vag (encV (gVal k (l.foldl (gStep k) (0,0,0))))) h):CallOK Tryz.prog 109 [vi k,vsl a n c] h R:=by
 refine ok_R_Gathered ?_
 unfold VC_R_Gathered
 have hl:=S.1
 refine⟨fun vs hh=>hh=h∧∃ i:Nat,i≤n∧vs=[vi ((l.take i).foldl (gStep k) (0,0,0)).1,vi ((l.take i).foldl (gStep k) (0,0,0)).2.1,vi ((l.take i).foldl (gStep k) (0,0,0)).2.2,vi i],
  fun vs hh=>n - (vint vs 3).toNat,⟨rfl,0,Nat.zero_le _,by simp⟩,?_⟩
 rintro vs hh ⟨rfl,i,hi,rfl⟩
 refine⟨_,_,_,_,rfl,fun e=>?_,fun e=>?_⟩
 ·have hlt:i < n:=by simpa using e
  have hx:l[i]?=some l[i]:=List.getElem?_eq_getElem (by omega)
  obtain⟨b,o,ea,hr⟩:=S.get encV_len (by decide) hx
  have tk:l.take (i+1)=l.take i++[l[i]]:=List.take_succ_eq_append_getElem (by omega)
  have B:=gfold_bound (k:=k) (l.take i) (0,0,0) (fun v hm=>hv v (List.mem_of_mem_take hm)) (by decide)
  have hs:=hv l[i] (List.getElem_mem _)
  have st:((l.take (i+1)).foldl (gStep k) (0,0,0))=gStep k ((l.take i).foldl (gStep k) (0,0,0)) l[i]:=by rw [tk,List.foldl_append];rfl
  have len:(l.take i).length≤i:=by rw [List.length_take];exact Nat.min_le_left _ _
  simp only at B
  have go:∀ x y z:Int,(x,y,z)=((l.take (i+1)).foldl (gStep k) (0,0,0))→∃ u:Int,IsW u ((i:Int)+1)∧((hh=hh∧∃ j:Nat,j≤n∧[vi x,vi y,vi z,vi u]=[vi ((l.take j).foldl (gStep k) (0,0,0)).1,vi ((l.take j).foldl (gStep k) (0,0,0)).2.1,vi ((l.take j).foldl (gStep k) (0,0,0)).2.2,vi j]) ∧
    n - (vint [vi x,vi y,vi z,vi u] 3).toNat < n - (vint [vi ((l.take i).foldl (gStep k) (0,0,0)).1,vi ((l.take i).foldl (gStep k) (0,0,0)).2.1,vi ((l.take i).foldl (gStep k) (0,0,0)).2.2,vi (i:Int)] 3).toNat):=by
   intro x y z e
   refine⟨_,isW (by unfold InR;omega),⟨rfl,i+1,hlt,?_⟩,by simp [vint];omega⟩
   rw [←e]
   simp
  generalize hG:(l.take i).foldl (gStep k) (0,0,0)=G at *
  generalize hG2:(l.take (i+1)).foldl (gStep k) (0,0,0)=G2 at *
  unfold smallV at hs
  have i1:InR (G.1+1):=by unfold InR;omega
  have i2:InR (G.2.1+l[i].2):=by unfold InR;omega
  intro J23
  refine⟨b,o,⟨ea,by omega,by omega⟩,_,_,by simpa [encV] using hr,fun e=>?_,fun e=>?_⟩
  ·have e':k≠1∧l[i].1=0:=by simpa [Bool.cond_eq_ite] using e
   refine go _ _ _ ?_
   rw [st,gStep,if_pos e']
  ·have e':¬(k≠1∧l[i].1=0):=by simpa [Bool.cond_eq_ite] using e
   intro J20
   refine⟨fun e=>?_,fun e=>?_⟩
   ·have e2:G.1=0∨(k=4∧l[i].2 < G.2.2)∨(k=5∧l[i].2 > G.2.2):=by simp [Bool.cond_eq_ite] at e;omega
    refine⟨_,isW i1,_,isW i2,go _ _ _ ?_⟩
    rw [st,gStep,if_neg e',if_pos e2]
   ·have e2:¬(G.1=0∨(k=4∧l[i].2 < G.2.2)∨(k=5∧l[i].2 > G.2.2)):=by simp [Bool.cond_eq_ite] at e;omega
    refine⟨_,isW i1,_,isW i2,go _ _ _ ?_⟩
    rw [st,gStep,if_neg e',if_neg e2]
 ·have hge:i=n:=by simp at e;omega
  have ht:l.take i=l:=List.take_of_length_le (by omega)
  rw [ht]
  generalize hG:l.foldl (gStep k) (0,0,0)=G at *
  unfold gVal at hK
  refine⟨fun e=>?_,fun e=>⟨fun e2=>?_,fun e2=>⟨fun e3=>?_,fun e3=>?_⟩⟩⟩
  ·have e:k=1∨k=2:=by simp at e;omega
   rw [if_pos e] at hK
   exact R_Num_ok ⟨_,_,rfl,hK⟩
  all_goals have e:¬(k=1∨k=2):=by simp at e;omega
  all_goals rw [if_neg e] at hK
  ·have e2:G.1=0:=by simpa using e2
   rw [if_pos e2] at hK
   exact hK
  all_goals have e2:¬ G.1=0:=by simpa using e2
  all_goals rw [if_neg e2] at hK
  ·have e3:k=3:=by simpa using e3
   rw [if_pos e3] at hK
   exact R_Num_ok ⟨_,_,rfl,hK⟩
  ·have e3:¬ k=3:=by simpa using e3
   rw [if_neg e3] at hK
   exact R_Num_ok ⟨_,_,rfl,hK⟩
theorem R_eval_ok {l:List Nd}(hx:exprF l=0){a:Option Addr}{n c:Nat}{h:Hp}(S:SlP encN h a n l){e:EvL}{R:Value→Hp→Prop}(hK:R (vag (encV (valE e l))) h):CallOK Tryz.prog 107 [vsl a n c,vag (encE e)] h R:=by
 obtain⟨O,hl⟩:=exprF_ok hx
 exact R_Eval_ok S O.wf (by have:=O.pos;omega) (by omega) hK
section
variable {q:Qy}{a1:Option Addr}{n1 c1:Nat}{a2:Option Addr}{n2 c2:Nat}{a3:Option Addr}{n3 c3:Nat}{h:Hp}{R:Value→Hp→Prop}
theorem R_asks_ok {e:EvL}(Q:QAt h q a1 n1 a2 n2 a3 n3)(B:QOk q)(hK:R (vb (asksQ q e)) h):CallOK Tryz.prog 52 [qV a1 n1 c1 a2 n2 c2 a3 n3 c3 q,vag (encE e)] h R:=by
 refine ok_R_asks ?_
 unfold VC_R_asks
 have hn:=Q.w.1
 unfold asksQ at hK
 refine⟨fun e1=>?_,fun e1=>?_⟩
 ·have e1:=of_decide_eq_true e1
  have hb:q.wh=[]:=List.length_eq_zero_iff.1 (by omega)
  rw [decide_eq_true hb] at hK
  exact hK
 ·have e1:=of_decide_eq_false e1
  have hb:q.wh≠[]:=fun e2=>e1 (by rw [hn,e2];rfl)
  refine R_eval_ok (B.w hb) Q.w ⟨_,_,rfl,?_⟩
  rw [decide_eq_false hb] at hK
  have e2:(bif (decide ((valE e q.wh).1=2)) then(decide ((valE e q.wh).2=1)) else false)=(false||decide (valE e q.wh=truthV true)):=by
   rw [cand,Bool.false_or]
   exact decide_eq_decide.2 (Prod.ext_iff (y:=truthV true)).symm
  rw [e2]
  exact hK
theorem R_keyOf_ok {e:EvL}(Q:QAt h q a1 n1 a2 n2 a3 n3)(B:QOk q)(hK:R (vag (encV (keyQ q e))) h):CallOK Tryz.prog 55 [qV a1 n1 c1 a2 n2 c2 a3 n3 c3 q,vag (encE e)] h R:=by
 refine ok_R_keyOf ?_
 unfold VC_R_keyOf
 unfold keyQ at hK
 have hn:=Q.b.1
 refine⟨fun e1=>?_,fun e1=>?_⟩
 ·have e1:=of_decide_eq_true e1
  have hb:q.by_=[]:=List.length_eq_zero_iff.1 (by omega)
  rw [if_pos hb] at hK
  exact hK
 ·have e1:=of_decide_eq_false e1
  have hb:q.by_≠[]:=fun e2=>e1 (by rw [hn,e2];rfl)
  refine R_eval_ok (B.b hb) Q.b ⟨_,_,rfl,?_⟩
  rw [if_neg hb] at hK
  exact hK
theorem R_less_ok {b1 b2:Nat}{k k':PK}(x1:h.cell b1 0=some (vi k.1))(x2:h.cell b1 1=some (vi k.2.1))(x3:h.cell b1 2=some (vi k.2.2))(y1:h.cell b2 0=some (vi k'.1))(y2:h.cell b2 1=some (vi k'.2.1))(y3:h.cell b2 2=some (vi k'.2.2))(hK:R (vb (decide (aheadK k k'))) h):CallOK Tryz.prog 108 [vhp b1 0,vhp b2 0] h R:=by
 refine ok_R_less ?_
 unfold VC_R_less
 refine⟨_,x1,_,y1,fun e=>⟨_,x1,_,y1,?_⟩,fun e=>⟨_,x2,_,y2,fun e2=>⟨_,x2,_,y2,?_⟩,fun e2=>⟨_,x3,_,y3,?_⟩⟩⟩
 ·have e:=of_decide_eq_true e
  rw [show decide (k.1 < k'.1)=decide (aheadK k k') from decide_eq_decide.2 (by unfold aheadK;omega)]
  exact hK
 ·have e:=Decidable.not_not.1 (of_decide_eq_false e)
  have e2:=of_decide_eq_true e2
  rw [show decide (k.2.1 < k'.2.1)=decide (aheadK k k') from decide_eq_decide.2 (by unfold aheadK;omega)]
  exact hK
 ·have e:=Decidable.not_not.1 (of_decide_eq_false e)
  have e2:=Decidable.not_not.1 (of_decide_eq_false e2)
  rw [show decide (k.2.2 < k'.2.2)=decide (aheadK k k') from decide_eq_decide.2 (by unfold aheadK;omega)]
  exact hK
end
structure PN where
 k:PK
 b:Nat
 t:Nat
 cs:List (List Vl)
 told:Bool
abbrev TabV:=TabAt encV 2 41 70
def pnCells (x:PN):List Value:=[vi x.k.1,vi x.k.2.1,vi x.k.2.2,vsl (some ⟨x.t,0,none⟩) x.cs.length x.cs.length,vb x.told]
def paneH (x:PN)(h:Hp)(F:Nat→Prop):Prop:=h x.b=some (cellsO (pnCells x) 123)∧∃ G,TabV h G x.t x.cs∧¬ G x.b∧F=fun b=>b=x.b∨G b
theorem paneH_fp (x:PN):Fp (paneH x) where
 al:=by
  rintro h F ⟨h1,G,D,hd,rfl⟩ b (rfl|hb)
  ·rw [h1];simp
  ·exact D.al b hb
 keep:=by
  rintro h h' F ⟨h1,G,D,hd,rfl⟩ hk
  exact⟨hk x.b (.inl rfl) _ h1,G,D.keep fun b hb=>hk b (.inr hb),hd,rfl⟩
structure PanR (h0 h:Hp)(a:Option Addr)(c:Nat)(R:List PN):Prop where
 v:OwnV h0 h 114 1 a R.length c (R.map fun r=>vhp r.b 0)
 i:∃ F,EachP paneH R h F∧(∀ b,F b→h0 b=none)∧∀ b,F b→a≠some ⟨b,0,none⟩
section
variable {h0 h:Hp}{a:Option Addr}{c:Nat}{R:List PN}
theorem PanR.nil (hl:h0.le h):PanR h0 h none 0 []:=⟨OwnV.nil hl _ _,_,EachP.nil h,fun b hb=>hb.elim,fun b hb=>hb.elim⟩
theorem PanR.le0 (N:PanR h0 h a c R):h0.le h:=N.v.le
theorem PanR.le (N:PanR h0 h a c R){h':Hp}(l:h.le h'):PanR h0 h' a c R:=by
 obtain⟨F,E,n1,n2⟩:=N.i
 exact⟨N.v.mono l,F,(EachP.fp paneH_fp R).keep E fun b _ o ho=>l b o ho,n1,n2⟩
theorem PanR.ptr (N:PanR h0 h a c R){i:Nat}{r:PN}(hr:R[i]?=some r):∃ b o,a=some ⟨b,o,none⟩∧h.cell b (o+i*1)=some (vhp r.b 0):=by
 exact N.v.row.get1 (by rw [List.getElem?_map,hr];rfl)
theorem PanR.cells (N:PanR h0 h a c R){i:Nat}{r:PN}(hr:R[i]?=some r):h r.b=some (cellsO (pnCells r) 123)∧TabR encV h (some ⟨r.t,0,none⟩) r.cs.length r.cs:=by
 obtain⟨F,E,n1,n2⟩:=N.i
 obtain⟨G,X,_,_⟩:=E.at paneH_fp hr
 obtain⟨h1,G',D,_,_⟩:=X
 exact⟨h1,D.r⟩
theorem PanR.inner (N:PanR h0 h a c R){i:Nat}{r:PN}(hr:R[i]?=some r):∃ G,TabV h G r.t r.cs∧¬ G r.b∧h r.b=some (cellsO (pnCells r) 123)∧(∀ b,G b→h0 b=none) ∧
  ∀(h':Hp) (G':Nat→Prop) (cs':List (List Vl)),Mut G h G' h'→TabV h' G' r.t cs'→cs'.length=r.cs.length→PanR h0 h' a c (R.set i { r with cs:=cs' }):=by
 obtain⟨F,E,n1,n2⟩:=N.i
 obtain⟨G0,X,hGF,H⟩:=E.at paneH_fp hr
 obtain⟨h1,G,D,hd,rfl⟩:=X
 refine⟨G,D,hd,h1,fun b hb=>n1 b (hGF b (.inr hb)),fun h' G' cs' M D' hlen=>?_⟩
 have hb':h' r.b=some (cellsO (pnCells r) 123):=M.keep r.b _ hd h1
 have hG':¬ G' r.b:=fun q=>by
  rcases M.new r.b q with q|q
  ·exact hd q
  ·rw [h1] at q;cases q
 have M2:Mut (fun b=>b=r.b∨G b) h (fun b=>b=r.b∨G' b) h':=⟨fun b o hb ho=>M.keep b o (fun q=>hb (.inr q)) ho,fun b hb=>by
  rcases hb with hb|hb
  ·exact .inl (.inl hb)
  ·rcases M.new b hb with q|q
   ·exact .inl (.inr q)
   ·exact .inr q⟩
 obtain⟨F2,E2,M3⟩:=H h' (fun b=>b=r.b∨G' b) { r with cs:=cs' } M2 ⟨by
  rw [hb']
  unfold pnCells
  simp only [hlen],G',D',hG',rfl⟩
 obtain⟨k,d⟩:=M3.apart ((OwnF.fp _ _ _ _ _ _).al (⟨N.v.own,rfl⟩:OwnF 114 1 a R.length c (R.map fun r=>vhp r.b 0) h (fun b=>a=some ⟨b,0,none⟩))) (fun b hb hb2=>n2 b hb hb2)
 obtain⟨l',n1'⟩:=M3.old N.le0 n1
 refine⟨?_,F2,E2,n1',fun b hb hb2=>d b hb hb2⟩
 have e:(R.set i { r with cs:=cs' }).map (fun r=>vhp r.b 0)=R.map fun r=>vhp r.b 0:=by
  rw [List.map_set]
  apply List.ext_getElem?
  intro j
  rw [List.getElem?_set]
  split
  ·rename_i hij
   subst hij
   rw [List.getElem?_map,hr]
   obtain⟨hi,_⟩:=List.getElem?_eq_some_iff.1 hr
   rw [if_pos (by simpa using hi)]
   rfl
  ·rfl
 rw [e,List.length_set]
 have O2:=(OwnF.fp _ _ _ _ _ _).keep (⟨N.v.own,rfl⟩:OwnF 114 1 a R.length c (R.map fun r=>vhp r.b 0) h (fun b=>a=some ⟨b,0,none⟩)) k
 exact⟨l',O2.1,N.v.new⟩
end
theorem cell_at {h:Hp}{b i:Nat}{xs:List Value}{t:TypeId}{v:Value}(hb:h b=some (cellsO xs t))(hv:xs[i]?=some v):Hp.cell h b i=some v:=by
 unfold Hp.cell
 rw [hb]
 simpa using hv
section
variable {q:Qy}{a1:Option Addr}{n1 c1:Nat}{a2:Option Addr}{n2 c2:Nat}{a3:Option Addr}{n3 c3:Nat}{h0 h:Hp}{a:Option Addr}{c:Nat}{R:List PN}{R':Value→Hp→Prop}
set_option maxHeartbeats 1000000 in
theorem R_pane_add_ok {e:EvL}(Q:QAt h0 q a1 n1 a2 n2 a3 n3)(B:QOk q)(N:PanR h0 h a c R){i:Nat}{r:PN}(hr:R[i]?=some r)(hcs:r.cs.length=q.aggs.length)(hb:∀ l ∈ r.cs,l.length≤1000000)
  (hK:∀ h',PanR h0 h' a c (R.set i { r with cs:=colP r.cs (valsQ q e) })→R' (vtup []) h'):CallOK Tryz.prog 57 [vhp r.b 0,qV a1 n1 c1 a2 n2 c2 a3 n3 c3 q,vag (encE e)] h R':=by
 refine ok_R_pane_add ?_
 unfold VC_R_pane_add
 have hn1:=Q.g.len
 have hvl:(valsQ q e).length=r.cs.length:=by unfold valsQ;rw [List.length_map,hcs]
 have hcl:=colP_len hvl
 have hn4:=B.n2
 obtain⟨hi,hri⟩:=List.getElem?_eq_some_iff.1 hr
 have set_id:R.set i { r with cs:=r.cs }=R:=by
  apply List.ext_getElem?
  intro j
  rw [List.getElem?_set]
  split
  ·rename_i hij;subst hij;first|rw [if_pos hi,hr]|rw [hr]
  ·rfl
 refine⟨fun vs hh=>∃ j:Nat,vs=[vi j]∧j≤r.cs.length∧PanR h0 hh a c (R.set i { r with cs:=(colP r.cs (valsQ q e)).take j++r.cs.drop j }),fun vs hh=>r.cs.length - (vint vs 0).toNat,⟨0,rfl,Nat.zero_le _,by simpa [set_id] using N⟩,?_⟩
 rintro vs hh ⟨j,rfl,hj,N5⟩
 refine⟨j,rfl,fun e1=>?_,fun e1=>?_⟩
 ·have hlt:j < r.cs.length:=by have:=of_decide_eq_true e1;omega
  have hx:q.aggs[j]?=some q.aggs[j]:=List.getElem?_eq_getElem (by omega)
  have hvi:(valsQ q e)[j]'(by omega)=if (q.aggs[j]'(by omega)).1=1 then(0,0) else valE e (q.aggs[j]'(by omega)).2:=by unfold valsQ;rw [List.getElem_map]
  have hmem:=List.getElem_mem (by omega:j < q.aggs.length)
  have hkr:=B.g _ hmem
  have h5:=N5.le0
  have hr5:(R.set i { r with cs:=(colP r.cs (valsQ q e)).take j++r.cs.drop j })[i]?=some { r with cs:=(colP r.cs (valsQ q e)).take j++r.cs.drop j }:=by rw [List.getElem?_set,if_pos rfl,if_pos hi]
  have hcjl:((colP r.cs (valsQ q e)).take j++r.cs.drop j).length=r.cs.length:=by rw [List.length_append,List.length_take,List.length_drop];omega
  have hcj:((colP r.cs (valsQ q e)).take j++r.cs.drop j)[j]?=some (r.cs[j]):=by
   rw [List.getElem?_append_right (by rw [List.length_take];omega),List.length_take,Nat.min_eq_left (by omega),Nat.sub_self,List.getElem?_drop,Nat.add_zero,List.getElem?_eq_getElem hlt]
  have hni:(colP r.cs (valsQ q e))[j]'(by omega)=r.cs[j]++[(valsQ q e)[j]'(by omega)]:=by unfold colP;rw [List.getElem_zipWith]
  have hset:((colP r.cs (valsQ q e)).take j++r.cs.drop j).set j (r.cs[j]++[(valsQ q e)[j]'(by omega)])=(colP r.cs (valsQ q e)).take (j+1)++r.cs.drop (j+1):=by
   rw [←hni,List.set_append_right _ _ (by rw [List.length_take];omega),List.length_take,Nat.min_eq_left (by omega),Nat.sub_self,List.drop_eq_getElem_cons hlt,List.set_cons_zero,List.take_succ_eq_append_getElem (by omega:j < (colP r.cs (valsQ q e)).length),List.append_assoc]
   rfl
  have hbl:=hb _ (List.getElem_mem hlt)
  obtain⟨G,D,hnG,hcell,hGn,H⟩:=N5.inner hr5
  simp only at D hcell H
  obtain⟨b,o,a',c',ha,hrow,hS⟩:=(Q.g.le h5).row aggRw_len (by decide) hx
  have k0:=Hp.row_cell hrow (i:=0) (x:=vi (q.aggs[j]'(by omega)).1) rfl
  have k1:=Hp.row_cell hrow (i:=1) (x:=vsl a' (q.aggs[j]'(by omega)).2.length c') rfl
  refine⟨b,o,⟨ha,by omega,by omega⟩,_,by rw [Int.toNat_natCast];exact k0,?_⟩
  intro J20
  have hJ:∀ v:Int × Int,v=(valsQ q e)[j]'(by omega)→J20 v.1 v.2 hh:=by
   intro v hv
   have k3:Hp.cell hh r.b (0+3)=some (vsl (some ⟨r.t,0,none⟩) ((colP r.cs (valsQ q e)).take j++r.cs.drop j).length ((colP r.cs (valsQ q e)).take j++r.cs.drop j).length):=cell_at hcell rfl
   rw [hcjl] at k3
   obtain⟨aj,cj,hcellj,_⟩:=D.cell hcj
   refine⟨_,_,_,k3,_,_,_,k3,r.t,0,⟨rfl,by omega,by omega⟩,_,_,_,by rw [Int.toNat_natCast];exact hcellj,?_⟩
   intro b46 hb46 h47
   refine TabAt.app elValP (fun v=>rfl) one_v D hcj (by omega) (by omega) (x:=v) hcellj hb46 fun a50 c50 h49 hfr hst=>⟨_,_,_,rfl,cell_at (hfr r.b _ (.inl hnG) hcell) (by unfold pnCells;simp only [hcjl];rfl),r.t,0,⟨rfl,by omega,by omega⟩,?_⟩
   rw [Int.toNat_natCast]
   refine hst _ fun h53 F' D' M=>?_
   refine⟨_,isW (by unfold InR;omega),⟨j+1,rfl,by omega,?_⟩,by simp [vint];omega⟩
   have N53:=H h53 F' _ M D' (by rw [List.length_set])
   rw [List.set_set,hv,hset] at N53
   exact N53
  clear_value J20
  refine⟨fun e2=>?_,fun e2=>?_⟩
  ·have e2:=of_decide_eq_true e2
   refine⟨b,o,⟨ha,by omega,by omega⟩,a',_,c',by rw [Int.toNat_natCast];exact k1,?_⟩
   refine R_eval_ok (hkr.2.2.1 (by omega)) hS ⟨_,_,rfl,hJ _ ?_⟩
   rw [hvi,if_neg (by omega)]
  ·have e2:=of_decide_eq_false e2
   refine hJ (0,0) ?_
   rw [hvi,if_pos (by omega)]
 ·have hge:j=r.cs.length:=by have:=of_decide_eq_false e1;omega
  rw [hge,List.drop_length,List.append_nil,List.take_of_length_le (by omega)] at N5
  exact hK hh N5
theorem R_pane_out_ok {r:PN}(Q:QAt h q a1 n1 a2 n2 a3 n3)(B:QOk q)(hcell:h r.b=some (cellsO (pnCells r) 123))(T:TabR encV h (some ⟨r.t,0,none⟩) r.cs.length r.cs)(hcs:r.cs.length=q.aggs.length)(hb:∀ l ∈ r.cs,l.length≤1000000∧∀ v ∈ l,smallV v)
  (hK:∀ a c h',VecV h h' a c ((List.zipWith accF (kindsQ q) r.cs).map gOut)→R' (vag [vi r.k.1,vi r.k.2.1,vi r.k.2.2,vsl a ((List.zipWith accF (kindsQ q) r.cs).map gOut).length c]) h'):CallOK Tryz.prog 56 [vhp r.b 0,qV a1 n1 c1 a2 n2 c2 a3 n3 c3 q] h R':=by
 refine ok_R_pane_out ?_
 unfold VC_R_pane_out
 have hn1:=Q.g.len
 have hn4:=B.n2
 refine⟨r.k.1,cell_at hcell rfl,r.k.2.1,r.k.2.2,?_,?_⟩
 ·exact row_cells' hcell (by unfold pnCells;simp)
 intro J34
 have hJ:∀ a c h',VecV h h' a c ((List.zipWith accF (kindsQ q) r.cs).map gOut)→J34 r.k.1 r.k.2.1 r.k.2.2 a ((List.zipWith accF (kindsQ q) r.cs).map gOut).length c h':=hK
 clear_value J34
 have hkl:=kindsQ_len q
 generalize hz:(List.zipWith accF (kindsQ q) r.cs).map gOut=out at hJ ⊢
 have hol:out.length=n1:=by rw [←hz,List.length_map,List.length_zipWith];omega
 refine⟨fun vs hh=>∃(i:Nat) (a:Option Addr) (c:Nat),vs=[vi i,vi r.k.1,vi r.k.2.1,vi r.k.2.2,vsl a (out.take i).length c]∧i≤n1∧VecV h hh a c (out.take i),fun vs hh=>n1 - (vint vs 0).toNat,⟨0,none,0,rfl,Nat.zero_le _,OwnV.nil (Hp.le_refl h) _ _⟩,?_⟩
 rintro vs hh ⟨i,a,c,rfl,hi,V⟩
 refine⟨_,_,_,_,_,_,_,rfl,fun e=>?_,fun e=>?_⟩
 ·have hlt:i < n1:=by have:=of_decide_eq_true e;omega
  have hx:q.aggs[i]?=some q.aggs[i]:=List.getElem?_eq_getElem (by omega)
  have hxc:r.cs[i]?=some r.cs[i]:=List.getElem?_eq_getElem (by omega)
  have hl0:=V.le0
  obtain⟨b,o,a',c',ha,hrow,hS⟩:=(Q.g.le hl0).row aggRw_len (by decide) hx
  have k0:=Hp.row_cell hrow (i:=0) (x:=vi (q.aggs[i]'(by omega)).1) rfl
  obtain⟨b2,o2,a22,c22,ea,hc22,hS22⟩:=(T.le hl0).cell hxc
  have hi2:i < q.aggs.length:=by omega
  have hi3:i < r.cs.length:=by omega
  have ho:((List.zipWith accF (kindsQ q) r.cs).map gOut)[i]?=some (gVal (q.aggs[i]'(by omega)).1 ((r.cs[i]'(by omega)).foldl (gStep (q.aggs[i]'(by omega)).1) (0,0,0))):=by
   rw [List.getElem?_map,List.getElem?_zipWith,hxc]
   unfold kindsQ
   rw [List.getElem?_map,hx]
   rfl
  rw [hz] at ho
  have tk:out.take (i+1)=out.take i++[gVal (q.aggs[i]'(by omega)).1 ((r.cs[i]'(by omega)).foldl (gStep (q.aggs[i]'(by omega)).1) (0,0,0))]:=by rw [List.take_add_one,ho];rfl
  have hti:(out.take i).length=i:=by rw [List.length_take];omega
  have hm:=hb _ (List.getElem_mem (by omega:i < r.cs.length))
  have hk1:=(B.g _ (List.getElem_mem (by omega:i < q.aggs.length))).1
  refine⟨b,o,⟨ha,by omega,by omega⟩,_,by rw [Int.toNat_natCast];exact k0,_,_,_,cell_at (hl0 _ _ hcell) rfl,b2,o2,⟨ea,by omega,by omega⟩,a22,_,c22,by rw [Int.toNat_natCast];exact hc22,?_⟩
  refine R_Gathered_ok hk1 hS22 hm.2 (by omega) ⟨_,_,rfl,?_⟩
  intro b27 hb27 h28
  refine Vec.app elValP (fun v=>rfl) one_v V (by rw [hti];omega) (by rw [hti];omega) (x:=gVal (q.aggs[i]'(by omega)).1 ((r.cs[i]'(by omega)).foldl (gStep (q.aggs[i]'(by omega)).1) (0,0,0))) hb27 fun a' c' h' V'=>⟨_,_,_,rfl,_,isW (by unfold InR;omega),⟨i+1,a',c',?_,by omega,?_⟩,by simp [vint];omega⟩
  ·rw [tk];rfl
  ·rw [tk];exact V'
 ·have hge:i=n1:=by have:=of_decide_eq_false e;omega
  rw [List.take_of_length_le (by omega)] at V ⊢
  exact hJ a c hh V
end
theorem insK_here (K:PK):∀(l:List PK) (j:Nat),(∀ x ∈ l.take j,aheadK x K)→l[j]?=some K→insK K l=l
 | [],j,_,h=>by simp at h
 | x :: l,0,_,h=>by
  simp at h
  rw [insK,if_neg (by rw [h];exact aheadK_irr K),if_pos h]
 | x :: l,j+1,h1,h=>by
  have hx:=h1 x (by simp)
  rw [insK,if_pos hx,insK_here K l j (fun y hy=>h1 y (by simp [hy])) (by simpa using h)]
theorem insK_split (K:PK):∀(l:List PK) (j:Nat),j≤l.length→(∀ x ∈ l.take j,aheadK x K)→(∀ x,l[j]?=some x→¬ aheadK x K∧x≠K)→insK K l=l.take j++K :: l.drop j
 | [],0,_,_,_=>rfl
 | [],j+1,h,_,_=>by simp at h
 | x :: l,0,_,_,h=>by
  obtain⟨h1,h2⟩:=h x rfl
  rw [insK,if_neg h1,if_neg h2]
  rfl
 | x :: l,j+1,hj,h1,h=>by
  have hx:=h1 x (by simp)
  rw [insK,if_pos hx,insK_split K l j (by simpa using hj) (fun y hy=>h1 y (by simp [hy])) (fun y hy=>h y (by simpa using hy))]
  rfl
theorem elRows:ElT Tryz.prog 121 70 1 24:=.of (by kernel_rfl) (by kernel_rfl) (by decide)
theorem elPtr:ElT Tryz.prog 101 114 1 8:=.of (by kernel_rfl) (by kernel_rfl) (by decide)
def ptrV (r:PN):Value:=vhp r.b 0
theorem flat_ptr (R:List PN):(R.flatMap fun r=>[ptrV r])=R.map ptrV:=by
 induction R with
 | nil=>rfl
 | cons r R ih=>rw [List.flatMap_cons,ih];rfl
theorem one_ptrs (R:List PN):∀ u ∈ R.map ptrV,u.oneCell'=true:=by
 intro u hu
 obtain⟨r,_,rfl⟩:=List.mem_map.1 hu
 rfl
section
variable {h0 h:Hp}{a:Option Addr}{c:Nat}{R:List PN}{R':Value→Hp→Prop}
set_option maxHeartbeats 2000000 in
theorem R_find_ok (N:PanR h0 h a c R){K:PK}{n:Nat}(hn:n≤1000000)(hR:R.length≤1000000)
  (hf:∀(i:Nat) (r:PN) (h':Hp),R[i]?=some r→r.k=K→insK K (R.map (·.k))=R.map (·.k)→PanR h0 h' a c R→R' (vtup [vsl a R.length c,vhp r.b 0]) h')
  (hnew:∀(j:Nat) (x:PN) (a':Option Addr) (c':Nat) (h':Hp),j≤R.length→x.k=K→x.cs=List.replicate n []→x.told=false→insK K (R.map (·.k))=(R.take j++x :: R.drop j).map (·.k)→PanR h0 h' a' c' (R.take j++x :: R.drop j)→R' (vtup [vsl a' (R.length+1) c',vhp x.b 0]) h') :
  CallOK Tryz.prog 54 [vsl a R.length c,vi K.1,vag (encV K.2),vi (n:Int)] h R':=by
 refine ok_R_find ?_
 unfold VC_R_find
 have hcap:R.length≤c:=N.v.own.cap
 refine sem_make elRows (z:=[vsl none 0 0]) (by kernel_rfl) hn (by omega) fun t ht=>⟨_,_,_,rfl,?_⟩
 have l2:h.le (h.set t (cellsO ((List.replicate n [vsl none 0 0]).flatten) 70)):=Hp.le_set (Hp.le_refl h) ht _
 have D2:TabV (h.set t (cellsO ((List.replicate n [vsl none 0 0]).flatten) 70)) (fun y=>y=t) t (List.replicate n []):=TabAt.new ht n
 generalize h.set t (cellsO ((List.replicate n [vsl none 0 0]).flatten) 70)=h2 at l2 D2
 intro b4 hb4 h5x
 have l5:h2.le (h2.set b4 (cellsO [vi K.1,vi K.2.1,vi K.2.2,vsl (some ⟨t,0,none⟩) n n,vb false] 123)):=Hp.le_set (Hp.le_refl h2) hb4 _
 have e5:(h2.set b4 (cellsO [vi K.1,vi K.2.1,vi K.2.2,vsl (some ⟨t,0,none⟩) n n,vb false] 123)) b4=some (cellsO [vi K.1,vi K.2.1,vi K.2.2,vsl (some ⟨t,0,none⟩) n n,vb false] 123):=Hp.set_same _ _ _
 have eh5:h5x=h2.set b4 (cellsO [vi K.1,vi K.2.1,vi K.2.2,vsl (some ⟨t,0,none⟩) n n,vb false] 123):=rfl
 clear_value h5x
 rw [←eh5] at l5 e5
 clear eh5
 have l05:=Hp.le_trans l2 l5
 have N5:=N.le l05
 have hb4h:h b4=none:=Hp.none_of_le l2 hb4
 have hX:paneH ⟨K,b4,t,List.replicate n [],false⟩ h5x (fun b=>b=b4∨b=t):=by
  refine⟨?_,fun y=>y=t,D2.le l5,fun e=>?_,rfl⟩
  ·unfold pnCells
   simp only [List.length_replicate]
   exact e5
  ·exact D2.al t rfl (by rw [←e];exact hb4)
 intro J23
 have hJ:∀ j:Nat,j≤R.length→(∀ r ∈ R.take j,aheadK r.k K)→(∀ r,R[j]?=some r→¬ aheadK r.k K)→J23 (j:Int) h5x:=by
  intro j hj hz hna
  have hzk:∀ x ∈ (R.map (·.k)).take j,aheadK x K:=by
   intro x hx
   rw [←List.map_take] at hx
   obtain⟨r,hr,rfl⟩:=List.mem_map.1 hx
   exact hz r hr
  -- one that is not there
  have put:(∀ r,R[j]?=some r→r.k≠K)→∃(a45:Option Addr) (n45 c45:Nat),(Rd Tryz.prog (Instr.sliceAt 101 (vsl a R.length c) none (some (vi (j:Int))) none) h5x (vsl a45 n45 c45))∧(SemOK Tryz.prog (Builtin.append_ #[101,101] 101 #[(vsl none 0 0),(vsl a45 n45 c45)]) h5x fun v46 h47=>∃(a48:Option Addr) (n48 c48:Nat),v46=(vsl a48 n48 c48) ∧
    (∀(b49:Nat),h47 b49=none→let h50:Hp:=Hp.set h47 b49 (cellsO [(vhp b4 0)] 114);(SemOK Tryz.prog (Builtin.append_ #[101,101] 101 #[(vsl a48 n48 c48),(vsl (some (⟨b49,0,none⟩:Addr)) 1 1)]) h50 fun v51 h52=>∃(a53:Option Addr) (n53 c53:Nat),v51=(vsl a53 n53 c53) ∧
     (∃(a54:Option Addr) (n54 c54:Nat),(Rd Tryz.prog (Instr.sliceAt 101 (vsl a R.length c) (some (vi (j:Int))) none none) h52 (vsl a54 n54 c54))∧(SemOK Tryz.prog (Builtin.append_ #[101,101] 101 #[(vsl a53 n53 c53),(vsl a54 n54 c54)]) h52 fun v55 h56=>∃(a57:Option Addr) (n57 c57:Nat),v55=(vsl a57 n57 c57)∧R' (vtup [(vsl a57 n57 c57),(vhp b4 0)]) h56))))):=by
   intro hne
   have hrow:SlP (fun r=>[ptrV r]) h5x a R.length R:=⟨rfl,by rw [flat_ptr];exact N5.v.row⟩
   have rdh:=rd_slice_h (P:=Tryz.prog) (h:=h5x) (t:=101) (e:=114) (by kernel_rfl) (by kernel_rfl) (a:=a) (n:=R.length) (c:=c) (x:=(j:Int)) (by omega) (by omega)
   rw [Int.toNat_natCast] at rdh
   have htl:(R.take j).length=j:=by rw [List.length_take];omega
   refine⟨a,j,c,rdh,?_⟩
   have hst:=(hrow.take (sz:=1) (fun _=>rfl) hj).2
   rw [flat_ptr] at hst
   refine OwnV.append elPtr (OwnV.nil (Hp.le_refl h5x) _ _) (m:=j) hst (by rw [List.length_map,htl,Nat.mul_one]) (one_ptrs _) (by omega) (by omega) fun a48 c48 h47 O47 _ _=>⟨_,_,_,rfl,?_⟩
   intro b49 hb49 h50
   refine OwnV.append elPtr (OwnV.set hb49 _ O47) (HasRow.new _ _ [vhp b4 0] _) (m:=1) rfl (by intro u hu;rw [List.mem_singleton.1 hu];rfl) (by omega) (by omega) fun a53 c53 h52 O52 _ _=>⟨_,_,_,rfl,?_⟩
   have rdl:=rd_slice_l (P:=Tryz.prog) (h:=h52) (t:=101) (e:=114) (by kernel_rfl) (by kernel_rfl) (a:=a) (n:=R.length) (c:=c) (x:=(j:Int)) (by omega) (by omega)
   rw [Int.toNat_natCast] at rdl
   refine⟨_,_,_,rdl,?_⟩
   have hsz:szT Tryz.prog 114=1:=by kernel_rfl
   rw [hsz]
   have hsd:=((hrow.le O52.le).drop (sz:=1) (fun _=>rfl) hj hcap).2
   rw [flat_ptr] at hsd
   refine OwnV.append elPtr O52 (m:=R.length - j) hsd (by rw [List.length_map,List.length_drop,Nat.mul_one]) (one_ptrs _) (by omega) (by omega) fun a57 c57 h56 O56 _ _=>⟨_,_,_,rfl,?_⟩
   have hlen:0+j+1+(R.length - j)=R.length+1:=by omega
   have hRl:(R.take j++(⟨K,b4,t,List.replicate n [],false⟩:PN) :: R.drop j).length=R.length+1:=by rw [List.length_append,List.length_cons,List.length_drop,htl];omega
   rw [hlen] at O56 ⊢
   refine hnew j ⟨K,b4,t,List.replicate n [],false⟩ a57 c57 h56 hj rfl rfl rfl ?_ ⟨?_,?_⟩
   ·rw [insK_split K (R.map (·.k)) j (by simpa using hj) hzk (fun x hx=>?_)]
    ·simp
    ·rw [List.getElem?_map,Option.map_eq_some_iff] at hx
     obtain⟨r,hr,rfl⟩:=hx
     exact⟨hna r hr,hne r hr⟩
   ·rw [hRl]
    have:=OwnV.trans N5.le0 O56
    have e:[]++List.map ptrV (List.take j R)++[vhp b4 0]++List.map ptrV (List.drop j R)=(R.take j++(⟨K,b4,t,List.replicate n [],false⟩:PN) :: R.drop j).map fun r=>vhp r.b 0:=by
     rw [List.map_append,List.map_cons,List.nil_append,List.append_assoc]
     rfl
    rw [e] at this
    exact this
   ·obtain⟨F,E,m1,m2⟩:=N.i
    have al:=(EachP.fp paneH_fp R).al E
    have E5:=(EachP.fp paneH_fp R).keep E fun b _ o ho=>l05 b o ho
    have E6:=E5.cons hX (fun b hb hF=>by
     rcases hb with rfl|rfl
     ·exact al _ hF hb4h
     ·exact al _ hF ht)
    have E7:=(EachP.fp paneH_fp _).keep E6 fun b _ o ho=>O56.le b o ho
    have hp:(R.take j++(⟨K,b4,t,List.replicate n [],false⟩:PN) :: R.drop j).Perm (⟨K,b4,t,List.replicate n [],false⟩ :: R):=by
     have:=List.perm_middle (a:=(⟨K,b4,t,List.replicate n [],false⟩:PN)) (l₁:=R.take j) (l₂:=R.drop j)
     rw [List.take_append_drop] at this
     exact this
    refine⟨_,E7.perm hp,fun b hb=>?_,fun b hb hb2=>?_⟩
    ·rcases hb with (rfl|rfl)|hb
     ·exact Hp.none_of_le N.le0 hb4h
     ·exact Hp.none_of_le N.le0 ht
     ·exact m1 b hb
    ·exact(EachP.fp paneH_fp _).al E6 b hb (O56.new b hb2)
  by_cases hlt:j < R.length
  ·have hx:R[j]?=some R[j]:=List.getElem?_eq_getElem hlt
   have hnr:=hna _ hx
   generalize R[j]=r at hx hnr
   obtain⟨b,o,ea,hc⟩:=N5.ptr hx
   obtain⟨hcl,_⟩:=N5.cells hx
   have hbd:a=some ⟨b,o,none⟩∧(0:Int)≤j∧(j:Int) < ((R.length:Nat):Int):=⟨ea,by omega,by omega⟩
   refine⟨b,o,fun _=>hbd,some ⟨r.b,0,none⟩,fun _=>by rw [Int.toNat_natCast];exact hc,r.b,0,fun _=>rfl,r.k.1,fun _=>cell_at hcl rfl,b,o,fun _=>hbd,some ⟨r.b,0,none⟩,fun _=>by rw [Int.toNat_natCast];exact hc,r.b,0,fun _=>rfl,r.k.2.1,r.k.2.2,fun _=>row_cells' hcl (by unfold pnCells;simp),decide (r.k.2=K.2),fun _=>rd_eqV,fun e=>?_,fun e=>?_⟩
   ·rw [decide_eq_true (show ((j:Nat):Int) < ((R.length:Nat):Int) by omega)] at e
    have e:(bif (bif true then decide (r.k.1=K.1) else false) then decide (r.k.2=K.2) else false)=true:=e
    have ek:r.k=K:=by
     cases h1:decide (r.k.1=K.1) with
     | false=>rw [h1] at e;cases e
     | true=>
      rw [h1] at e
      exact Prod.ext (of_decide_eq_true h1) (of_decide_eq_true e)
    refine⟨b,o,hbd,_,by rw [Int.toNat_natCast];exact hc,hf j r h5x hx ek (insK_here K _ j hzk (by rw [List.getElem?_map,hx,←ek];rfl)) N5⟩
   ·refine put fun r' hr'=>?_
    rw [hx] at hr'
    cases hr'
    intro ek
    rw [decide_eq_true (show ((j:Nat):Int) < ((R.length:Nat):Int) by omega)] at e
    have e:(bif (bif true then decide (r.k.1=K.1) else false) then decide (r.k.2=K.2) else false)=false:=e
    rw [ek,decide_eq_true rfl,decide_eq_true rfl] at e
    cases e
  ·have hf0:decide (((j:Nat):Int) < ((R.length:Nat):Int))=false:=decide_eq_false (by omega)
   refine⟨0,0,fun e=>(by rw [hf0] at e;cases e),none,fun e=>(by rw [hf0] at e;cases e),0,0,fun e=>(by rw [hf0] at e;cases e),0,fun e=>(by rw [hf0] at e;cases e),0,0,fun e=>(by rw [hf0] at e;cases e),none,fun e=>(by rw [hf0] at e;cases e),0,0,fun e=>(by rw [hf0] at e;cases e),0,0,fun e=>(by rw [hf0] at e;cases e),false,fun e=>(by rw [hf0] at e;cases e),fun e=>(by rw [hf0] at e;cases e),fun _=>?_⟩
   exact put fun r' hr'=>absurd (List.getElem?_eq_some_iff.1 hr').1 hlt
 clear_value J23
 refine⟨fun vs hh=>hh=h5x∧∃ j:Nat,vs=[vi j]∧j≤R.length∧∀ r ∈ R.take j,aheadK r.k K,fun vs hh=>R.length - (vint vs 0).toNat,⟨rfl,0,rfl,Nat.zero_le _,by simp⟩,?_⟩
 rintro vs hh ⟨rfl,j,rfl,hj,hz⟩
 refine⟨j,rfl,fun e=>?_,fun e=>?_⟩
 ·have hlt:j < R.length:=by have:=of_decide_eq_true e;omega
  have hx:R[j]?=some R[j]:=List.getElem?_eq_getElem hlt
  have tk:R.take (j+1)=R.take j++[R[j]]:=List.take_succ_eq_append_getElem hlt
  obtain⟨b,o,ea,hc⟩:=N5.ptr hx
  obtain⟨hcl,_⟩:=N5.cells hx
  refine⟨b,o,⟨ea,by omega,by omega⟩,_,by rw [Int.toNat_natCast];exact hc,?_⟩
  refine R_less_ok (k:=(R[j]).k) (k':=K) (cell_at hcl rfl) (cell_at hcl rfl) (cell_at hcl rfl) (cell_at e5 rfl) (cell_at e5 rfl) (cell_at e5 rfl) ⟨_,rfl,fun e2=>?_,fun e2=>?_⟩
  ·have e2:¬ aheadK (R[j]).k K:=by simpa using e2
   exact hJ j (by omega) hz fun r hr=>by rw [hx] at hr;cases hr;exact e2
  ·have e2:aheadK (R[j]).k K:=by simpa using e2
   refine⟨_,isW (by unfold InR;omega),⟨rfl,j+1,rfl,by omega,fun r hr=>?_⟩,by simp [vint];omega⟩
   rw [tk] at hr
   rcases List.mem_append.1 hr with h3|h3
   ·exact hz r h3
   ·rw [List.mem_singleton.1 h3];exact e2
 ·have hge:j=R.length:=by have:=of_decide_eq_false e;omega
  exact hJ j hj hz fun r hr=>absurd (List.getElem?_eq_some_iff.1 hr).1 (by omega)
end
theorem PanR.rebase {h0 h:Hp}{a:Option Addr}{c:Nat}{R:List PN}(N:PanR h0 h a c R){h1:Hp}(l1:h.le h1){g:Option Addr}(hg:∀ b o,g=some ⟨b,o,none⟩→h b=none):∃ hx:Hp,h0.le hx∧(∀{xs:List Value},HasRow h1 g xs→HasRow hx g xs)∧PanR hx h1 a c R:=by
 obtain⟨F,E,n1,n2⟩:=N.i
 have al:=(EachP.fp paneH_fp R).al E
 have alo:=(OwnF.fp _ _ _ _ _ _).al (⟨N.v.own,rfl⟩:OwnF 114 1 a R.length c (R.map fun r=>vhp r.b 0) h (fun b=>a=some ⟨b,0,none⟩))
 have N1:=N.le l1
 cases g with
 | none=>
  refine⟨h0,Hp.le_refl _,fun H=>?_,N1⟩
  rcases H with e|⟨b,o,e,_⟩
  ·exact .inl e
  ·cases e
 | some g=>
  have hgn:g.spot=none→h g.block=none:=fun hs=>hg g.block g.off (by obtain⟨x,y,z⟩:=g;simp only at hs;subst hs;rfl)
  by_cases hs:g.spot=none
  ·have hgn:=hgn hs
   refine⟨fun b=>if b=g.block then h1 b else h0 b,fun b o ho=>?_,fun H=>?_,?_⟩
   ·have:b≠g.block:=fun e=>by subst e;rw [N.le0 _ _ ho] at hgn;cases hgn
    simp only [if_neg this];exact ho
   ·rcases H with e|⟨b,o,e,hr⟩
    ·exact .inl e
    ·refine .inr ⟨b,o,e,?_⟩
     have hb:b=g.block:=by simp only [Option.some.injEq] at e;rw [e]
     unfold Hp.row at hr ⊢
     simp only [if_pos hb]
     exact hr
   ·have hle:Hp.le (fun b=>if b=g.block then h1 b else h0 b) h1:=by
     intro b o ho
     simp only at ho
     split at ho
     ·exact ho
     ·exact N1.le0 b o ho
    have hnew:∀ b,h b≠none→h0 b=none→(fun b=>if b=g.block then h1 b else h0 b) b=none:=by
     intro b hb hb0
     have:b≠g.block:=fun e=>by subst e;exact hb hgn
     simp only [if_neg this];exact hb0
    exact⟨⟨hle,N1.v.own,fun b hb=>hnew b (alo b hb) (N.v.new b hb)⟩,F,(EachP.fp paneH_fp R).keep E fun b _ o ho=>l1 b o ho,fun b hb=>hnew b (al b hb) (n1 b hb),n2⟩
  ·refine⟨h0,Hp.le_refl _,fun H=>?_,N1⟩
   rcases H with e|⟨b,o,e,_⟩
   ·exact .inl e
   ·simp only [Option.some.injEq] at e
    rw [e] at hs
    exact absurd rfl hs
end Go.Proofs.YtiflgceoamkmnaaGreatDoor
namespace Go.Proofs.YtiflgceoamkmnaaGreatDoor
open Go Go.Vc
def VC_value_Compare (u0:Int)(u1:Int)(u2:Int)(u3:Int)(h:Hp)(R:Value→Hp→Prop):Prop:=
 (CallOK Tryz.prog 125 [vi u0,vi u2] h fun v1 h2=>∃ x3,v1=(vi x3)∧(CallOK Tryz.prog 125 [vi u1,vi u3] h2 fun v4 h5=>∃ x6,v4=(vi x6)∧(∀ b7,h5 b7=none→let h8:= Hp.set h5 b7 (cellsO [vi x3,vi x6] 3);(CallOK Tryz.prog 124 [(vsl (some (⟨b7,0,none⟩:Addr)) 2 2)] h8 fun v9 h10=>∃ x11,v9=(vi x11)∧R (vi x11) h10))))
theorem ok_value_Compare {u0 u1 u2 u3 h R}(H:VC_value_Compare u0 u1 u2 u3 h R):CallOK Tryz.prog 79 [vag [vi u0,vi u1],vag [vi u2,vi u3]] h R:=
 call_of (cfg:=⟨[],[],[(1,[0,1,2,3,5,6,7,8,4,9,10,11,12])]⟩) noNG mixed Tryz.func79 [.ag [.v (vi u0),.v (vi u1)],.ag [.v (vi u2),.v (vi u3)]] (by kernel_rfl) rfl (by kernel_rfl) H
def VC_cmp_Or_int (u0:Option Addr)(u1 u2:Nat)(h:Hp)(R:Value→Hp→Prop):Prop:=
 (∃(I2:List Value→Hp→Prop) (m3:List Value→Hp→Nat),I2 [vi 0] h∧∀ vs4 h5,I2 vs4 h5→∃ x6,vs4=[vi x6]∧(((decide (x6 < (u1:Int)))=true→(∃ b9 o10,(u0=some ⟨b9,o10,none⟩∧(0:Int)≤x6∧x6 < (u1:Int))∧(∃ x11,(Hp.cell h5 b9 (o10+x6.toNat*1)=some (vi x11))∧(((decide (x11≠0))=true→R (vi x11) h5)∧((decide (x11≠0))=false→(∃ x13,(IsW x13 (x6+1))∧(I2 [vi x13] h5∧m3 [vi x13] h5 < m3 vs4 h5)))))))∧((decide (x6 < (u1:Int)))=false→R (vi 0) h5)))
theorem ok_cmp_Or_int {u0 u1 u2 h R}(H:VC_cmp_Or_int u0 u1 u2 h R):CallOK Tryz.prog 124 [vsl u0 u1 u2] h R:=
 call_of (cfg:=⟨[],[(3,([8],[.one (.int .i64)],[]))],[]⟩) noNG mixed Tryz.func124 [.one (.v (vsl u0 u1 u2))] (by kernel_rfl) rfl (by kernel_rfl) H
def VC_cmp_Compare_int (u0:Int)(u1:Int)(h:Hp)(R:Value→Hp→Prop):Prop:=
 (CallOK Tryz.prog 163 [vi u0] h fun v1 h2=>∃ p3,v1=(vb p3)∧(CallOK Tryz.prog 163 [vi u1] h2 fun v4 h5=>∃ p6,v4=(vb p6)∧((p3=true→((p6=true→R (vi 0) h5)∧(p6=false→R (vi (-1)) h5)))∧(p3=false→((p6=true→R (vi 1) h5)∧(p6=false→(((decide (u0 < u1))=true→R (vi (-1)) h5)∧((decide (u0 < u1))=false→(((decide (u0 > u1))=true→R (vi 1) h5)∧((decide (u0 > u1))=false→R (vi 0) h5))))))))))
theorem ok_cmp_Compare_int {u0 u1 h R}(H:VC_cmp_Compare_int u0 u1 h R):CallOK Tryz.prog 125 [vi u0,vi u1] h R:=
 call_of (cfg:=⟨[],[],[]⟩) noNG mixed Tryz.func125 [.one (.v (vi u0)),.one (.v (vi u1))] (by kernel_rfl) rfl (by kernel_rfl) H
def VC_cmp_isNaN_int (u0:Int)(h:Hp)(R:Value→Hp→Prop):Prop:=
 R (vb (decide (u0≠u0))) h
theorem ok_cmp_isNaN_int {u0 h R}(H:VC_cmp_isNaN_int u0 h R):CallOK Tryz.prog 163 [vi u0] h R:=
 call_of (cfg:=⟨[],[],[]⟩) noNG mixed Tryz.func163 [.one (.v (vi u0))] (by kernel_rfl) rfl (by kernel_rfl) H
theorem cmp_Compare_ok {x y:Int}{h:Hp}{R:Value→Hp→Prop}(hK:R (vi (cmpI x y)) h):CallOK Tryz.prog 125 [vi x,vi y] h R:=by
 have nan:∀{z:Int} {K:Value→Hp→Prop},K (vb false) h→CallOK Tryz.prog 163 [vi z] h K:=by
  intro z K hk
  refine ok_cmp_isNaN_int ?_
  unfold VC_cmp_isNaN_int
  simpa using hk
 refine ok_cmp_Compare_int ?_
 unfold VC_cmp_Compare_int
 unfold cmpI at hK
 refine nan ⟨_,rfl,nan ⟨_,rfl,fun e=>by (cases e),fun _=>⟨fun e=>by (cases e),fun _=>⟨fun e=>?_,fun e=>⟨fun e2=>?_,fun e2=>?_⟩⟩⟩⟩⟩
 ·rw [if_pos (of_decide_eq_true e)] at hK;exact hK
 ·rw [if_neg (of_decide_eq_false e),if_pos (of_decide_eq_true e2)] at hK;exact hK
 ·rw [if_neg (of_decide_eq_false e),if_neg (of_decide_eq_false e2)] at hK;exact hK
theorem cmp_Or2_ok {x y:Int}{a:Option Addr}{c:Nat}{h:Hp}{R:Value→Hp→Prop}(S:SlI h a 2 [x,y])(hK:R (vi (if x≠0 then x else y)) h):CallOK Tryz.prog 124 [vsl a 2 c] h R:=by
 refine ok_cmp_Or_int ?_
 unfold VC_cmp_Or_int
 refine⟨fun vs hh=>hh=h∧∃ i:Nat,vs=[vi i]∧i≤2∧(0 < i→x=0)∧(1 < i→y=0),fun vs hh=>2 - (vint vs 0).toNat,⟨rfl,0,rfl,by decide,by simp,by simp⟩,?_⟩
 rintro vs hh ⟨rfl,i,rfl,hi,h1,h2⟩
 refine⟨i,rfl,fun e=>?_,fun e=>?_⟩
 ·have hlt:i < 2:=by have:=of_decide_eq_true e;omega
  obtain⟨b,o,ea,hc⟩:=S.get hlt
  refine⟨b,o,⟨ea,by omega,by omega⟩,_,hc,fun e=>?_,fun e=>⟨_,isW (by unfold InR;omega),⟨rfl,i+1,rfl,by omega,?_,?_⟩,by simp [vint];omega⟩⟩
  ·match i,hlt with
   | 0,_=>
    have hx:x≠0:=of_decide_eq_true e
    rw [if_pos hx] at hK;exact hK
   | 1,_=>
    have hx:=h1 (by decide)
    rw [if_neg (by simp [hx])] at hK;exact hK
  ·intro _
   match i,hlt with
   | 0,_=>have:=of_decide_eq_false e;simpa using this
   | 1,_=>exact h1 (by decide)
  ·intro hi1
   match i,hlt with
   | 0,_=>omega
   | 1,_=>have:=of_decide_eq_false e;simpa using this
 ·have hge:i=2:=by have:=of_decide_eq_false e;omega
  subst hge
  have hx:=h1 (by decide)
  have hy:=h2 (by decide)
  rw [if_neg (by simp [hx]),hy] at hK
  exact hK
theorem value_Compare_ok {a b:Int × Int}{h:Hp}{R:Value→Hp→Prop}(hK:∀ h',h.le h'→R (vi (cmpV a b)) h'):CallOK Tryz.prog 79 [vag (encV a),vag (encV b)] h R:=by
 refine ok_value_Compare ?_
 unfold VC_value_Compare
 refine cmp_Compare_ok ⟨_,rfl,cmp_Compare_ok ⟨_,rfl,?_⟩⟩
 intro b7 hb7 h8
 refine cmp_Or2_ok (x:=cmpI a.1 b.1) (y:=cmpI a.2 b.2) ⟨rfl,HasRow.new _ _ [vi (cmpI a.1 b.1),vi (cmpI a.2 b.2)] _⟩ ⟨_,rfl,hK _ (Hp.le_set (Hp.le_refl h) hb7 _)⟩
end Go.Proofs.YtiflgceoamkmnaaGreatDoor
namespace Go.Vc
open Go
section
variable {P:Program}{h:Hp}
theorem run_copy_rowK (w:World)(dT sT ty elem:TypeId)(k g o dLen dCap:Nat)(a:Addr)(sLen sCap:Nat)(cur:Array Value)(t:TypeId)(cs:List Value)
  (hu:P.underlying dT=some (.slice elem)) (hs:(P.info? elem).map (·.size)=some k)
  (hg:w.heap[g]?=some (.cells cur t (0,0))) (hn:cs.length=Nat.min sLen dLen*k)
  (hsrc:∀ j v,cs[j]?=some v→w.cell? (a.add j)=some v) (hfit:o+cs.length≤cur.size) (h1:∀ v ∈ cs,v.oneCell'=true) :
  (Builtin.copy_ #[dT,sT] ty #[.slice (some ⟨g,o,none⟩) dLen dCap,.slice (some a) sLen sCap]).run P w =
   .ok (goInt (Nat.min sLen dLen)) (w.setRow g (cur.toList.take o++cs++cur.toList.drop (o+cs.length)).toArray):=by
 have hl:=run_firstCells_some (P:=P) w k (Nat.min sLen dLen) a sLen sCap cs hn hsrc
 have hst:=run_storeCells_at P g o t cs 0 cur w hg (by simpa using hfit) h1
 cases hq:P.info? elem with
 | none=>simp [hq] at hs
 | some i=>
  have hi:i.size=k:=by simpa [hq] using hs
  simp [Builtin.copy_,run_underlying hu,Builtin.lenOf,sizeOf,typeInfo,hq,hi,hl,hst]
theorem sem_copyK {dT sT ty e:TypeId}(hu:P.underlying dT=some (.slice e)){k:Nat}(hi:(P.info? e).map (·.size)=some k){g o dLen dCap:Nat}{a2:Option Addr}{sLen c2:Nat}{L ys:List Value}{t:TypeId}(hg:h g=some (cellsO L t))(H:HasRow h a2 ys)(hl:ys.length=Nat.min sLen dLen*k)(hfit:o+ys.length≤L.length)
  (h1:∀ u ∈ ys,u.oneCell'=true) (hne:ys≠[]) {K:Value→Hp→Prop} (hK:K (vi (Nat.min sLen dLen:Nat)) (h.set g (cellsO (setL L o ys) t))):SemOK P (Builtin.copy_ #[dT,sT] ty #[vsl (some ⟨g,o,none⟩) dLen dCap,vsl a2 sLen c2]) h K:=by
 intro w hs
 rcases H with h4|⟨b2,o2,rfl,hr⟩
 ·exact absurd h4 hne
 ·have hrun:=run_copy_rowK (P:=P) w dT sT ty e k g o dLen dCap ⟨b2,o2,none⟩ sLen c2 L.toArray t ys hu hi (hs g _ hg) hl (fun j v hj=>by rw [addr_add];exact cell_cell (Hp.row_cell hr hj) hs) (by simpa using hfit) h1
  exact⟨_,_,_,hrun,setRow_Sub hs hg,setRow_Fr hg,hK⟩
theorem sem_clearK {t ty e:TypeId}{k bytes:Nat}(T:ElT P t e k bytes){z:List Value}(hz:(zeroL P e).map tvals=some z)(h1:∀ u ∈ z,u.oneCell'=true){g o n c:Nat}{L:List Value}(hn:0 < n)(hg:h g=some (cellsO L e))(hfit:o+n*k≤L.length){K:Value→Hp→Prop}
  (hK:K (vtup []) (h.set g (cellsO (setL L o ((List.replicate n z).flatten)) e))):SemOK P (Builtin.clear_ #[t] ty #[vsl (some ⟨g,o,none⟩) n c]) h K:=by
 intro w hs
 obtain⟨i,zv,hi,hiz,hsz,hby,hzs⟩:=T.el
 have hzl:z=zv.cells.toList:=by
  unfold zeroL at hz
  rw [hi] at hz
  simp only [Option.bind_some,hiz,Option.map_some,Option.some.injEq] at hz
  rw [←hz,tvals_tvsOf]
 have hzl2:z.length=k:=by rw [hzl,Array.length_toList];exact hzs
 have hfl:(Builtin.zeroCells zv.cells n).toList=(List.replicate n z).flatten:=by
  have e1:Builtin.zeroCells zv.cells n=((List.replicate n zv.cells.toList).flatten).toArray:=flat_zero zv.cells n (by rw [hzs];exact T.pos)
  rw [e1,hzl]
 have hlen:((List.replicate n z).flatten).length=n*k:=by rw [List.length_flatten];simp [hzl2]
 have h1':∀ u ∈ (List.replicate n z).flatten,u.oneCell'=true:=by
  intro u hu
  obtain⟨l,hl,hu⟩:=List.mem_flatten.1 hu
  rw [List.eq_of_mem_replicate hl] at hu
  exact h1 u hu
 have hst:=run_storeCells_at P g o e ((List.replicate n z).flatten) 0 L.toArray w (hs g _ hg) (by simp only [Nat.add_zero,List.size_toArray];rw [hlen];exact hfit) h1'
 have hrun:(Builtin.clear_ #[t] ty #[vsl (some ⟨g,o,none⟩) n c]).run P w=.ok (vtup []) (w.setRow g (setL L o ((List.replicate n z).flatten)).toArray):=by
  obtain⟨m,rfl⟩:∃ m,n=m+1:=⟨n - 1,by omega⟩
  simp only [Nat.add_zero] at hst
  simp [Builtin.clear_,run_underlying T.sl,zeroValue,typeInfo,hi,hiz,hfl,hst,setL]
 exact⟨_,_,_,hrun,setRow_Sub hs hg,setRow_Fr hg,hK⟩
theorem sem_append_zeros {t tn ty e:TypeId}{k bytes:Nat}(T:ElT P t e k bytes)(htn:P.underlying tn=some (.int .i64)){z:List Value}(hz:(zeroL P e).map tvals=some z){a:Option Addr}{n c m:Nat}{xs:List Value}(H:HasRow h a xs)(hxs:xs.length=n*k)(hm:0 < m)(hc:c < n+m)
  (hb:(n+m)*bytes≤140737488355328) (h63:n+m≤140737488355328) {K:Value→Hp→Prop}
  (hK:∀ a' c' h',OwnV h h' e k a' (n+m) c' (xs++(List.replicate m z).flatten)→K (vsl a' (n+m) c') h') :
  SemOK P (Builtin.append_ #[t,tn] ty #[vsl a n c,vi (m:Int)]) h K:=by
 intro w hs
 obtain⟨i,zv,hi,hiz,rfl,rfl,hzs⟩:=T.el
 have hzl:z=zv.cells.toList:=by
  unfold zeroL at hz
  rw [hi] at hz
  simp only [Option.bind_some,hiz,Option.map_some,Option.some.injEq] at hz
  rw [←hz,tvals_tvsOf]
 have hzl2:z.length=i.size:=by rw [hzl,Array.length_toList];exact hzs
 have hfl:∀ m,(Builtin.zeroCells zv.cells m).toList=(List.replicate m z).flatten:=fun m=>by
  have e1:Builtin.zeroCells zv.cells m=((List.replicate m zv.cells.toList).flatten).toArray:=flat_zero zv.cells m (by rw [hzs];exact T.pos)
  rw [e1,hzl]
 have hlen:((List.replicate m z).flatten).length=m*i.size:=by rw [List.length_flatten];simp [hzl2]
 have hold:(Builtin.firstCells i.size n (.slice a n c)).run P w.drew=.ok xs.toArray w.drew:=by
  cases a with
  | none=>
   have:xs=[]:=by
    rcases H with h4|⟨b,o,e,_⟩
    ·exact h4
    ·cases e
   subst this
   exact run_firstCells_none _ _ _ _ _
  | some ad=>
   have hsrc:=HasRow.cells hs H
   exact run_firstCells_some w.drew i.size n ad n c xs hxs (fun j v hj=>hsrc j v hj)
 have hbm:m*i.bytes≤(n+m)*i.bytes:=Nat.mul_le_mul_right _ (by omega)
 have hr:=Lib.run_append_grow_zeros (P:=P) w t tn ty e i zv .i64 .i64 T.sl htn hi hiz a n c xs hold m hm T.pos hc (by omega) (by omega) (growslice_fits hc hb)
 have hno:h w.heap.size=none:=Sub.none hs
 refine⟨_,_,_,hr,drew_alloc_Sub hs _,drew_alloc_Fr h w _,hK _ _ _ ⟨Hp.le_set (Hp.le_refl h) hno _,⟨?_,.inr ⟨w.heap.size,_,rfl,Hp.set_same _ _ _,grownCap_ge w (n+m) c e,grownCap_le_maxLen w (n+m) c e (by simp only [maxLen];omega),?_,?_⟩⟩,fun g hg=>by cases hg;exact hno⟩⟩
 ·rw [List.length_append,hlen,hxs,Nat.add_mul]
 ·have hge:=grownCap_ge w (n+m) c e
  simp only [Array.size_append,List.size_toArray,size_zeroCells,hzs,hxs,←Nat.add_mul]
  congr 1
  omega
 ·simp only [Array.toList_append,hfl m]
  rw [List.take_left' (by rw [List.length_append,hlen,hxs,Nat.add_mul])]
theorem ext_overlaps {f:FuncId}{fn:Func}{tS tR e:TypeId}(hf:P.funcs[f]?=some fn)(hname:(fn.name == "runtime.NumGoroutine")=false)(hb:fn.body.isNone=true)(hn:Extern.findNext fn=none)(he:Extern.find fn=some (Extern.SlicesOverlaps.overlaps #[tS,tS] #[tR]))
  (ht:P.underlying tS=some (.slice e)) (hi:(P.info? e).isSome=true) {b1 o1 b2 o2 la ca lb cb:Nat} (hne:b1≠b2) {L1 L2:List Value} {t1 t2:TypeId} (h1:h b1=some (cellsO L1 t1)) (h2:h b2=some (cellsO L2 t2)) (hL2:L2≠[]) {K:Value→Hp→Prop} (hK:K (vb false) h) :
  ExtOK P f [vsl (some ⟨b1,o1,none⟩) la ca,vsl (some ⟨b2,o2,none⟩) lb cb] h K:=by
 intro w hs
 obtain⟨i,hi⟩:=Option.isSome_iff_exists.1 hi
 have w1:=hs b1 _ h1
 have w2:=hs b2 _ h2
 refine⟨vb false,w,h,?_,hs,Fr.refl h w,hK⟩
 rw [run_callFunc_extern hf hname hb hn he]
 have:=Lib.run_overlaps_apart (P:=P) w tS tR e ht i.size (fun w=>by simp [sizeOf,typeInfo,hi]) ⟨b1,o1,none⟩ ⟨b2,o2,none⟩ la ca lb cb hne t1 t2 L1.length L2.length (by simp [World.shape?,w1]) (by simp [World.shape?,w2]) (by simpa using hL2) (by simp [World.frozen?,w1]) (by simp [World.frozen?,w1])
 show ((Extern.SlicesOverlaps.overlaps #[tS,tS] #[tR] #[.slice (some ⟨b1,o1,none⟩) la ca,.slice (some ⟨b2,o2,none⟩) lb cb]).run P w).andThen _=_
 rw [this]
 rfl
theorem rd_cap {t e ty:TypeId}(ht:P.underlying t=some (.slice e)){a:Option Addr}{n c:Nat}:Rd P (Builtin.cap_ #[t] ty #[vsl a n c]) h (vi (c:Int)):=by
 intro w _
 simp [Builtin.cap_,run_underlying ht,goInt]
theorem OwnV.grow {h0:Hp}{e:TypeId}{sz n m c:Nat}{a:Option Addr}{xs:List Value}(O:OwnV h0 h e sz a n c xs)(h1:n≤m)(h2:m≤c):∃ ys,ys.length=(m - n)*sz∧OwnV h0 h e sz a m c (xs++ys):=by
 obtain⟨l,⟨hl,O'⟩,nw⟩:=O
 rcases O' with ⟨ha,hn,hc⟩|⟨g,cur,ha,hg,h3,h4,h5,h6⟩
 ·have:m=n:=by omega
  subst this
  exact⟨[],by simp,l,by rw [List.append_nil];exact⟨hl,.inl ⟨ha,hn,hc⟩⟩,nw⟩
 ·have hb:n*sz≤m*sz:=Nat.mul_le_mul_right _ h1
  have hb2:m*sz≤c*sz:=Nat.mul_le_mul_right _ h2
  have hcl:cur.toList.length=c*sz:=by rw [Array.length_toList];exact h5
  refine⟨(cur.toList.take (m*sz)).drop (n*sz),by rw [List.length_drop,List.length_take,hcl,Nat.min_eq_left hb2,Nat.sub_mul],l,⟨?_,.inr ⟨g,cur,ha,hg,h2,h4,h5,?_⟩⟩,nw⟩
  ·rw [List.length_append,hl,List.length_drop,List.length_take,hcl,Nat.min_eq_left hb2]
   omega
  ·have h7:(cur.toList.take (m*sz)).take (n*sz)=xs:=by rw [List.take_take,Nat.min_eq_left hb];exact h6
   have h8:=List.take_append_drop (n*sz) (cur.toList.take (m*sz))
   rw [h7] at h8
   exact h8.symm
theorem OwnV.blk {h0:Hp}{e:TypeId}{sz n c:Nat}{a:Option Addr}{xs:List Value}(O:OwnV h0 h e sz a n c xs)(hc:0 < c)(hz:0 < sz):∃ g L,a=some ⟨g,0,none⟩∧h g=some (cellsO L e)∧L≠[]:=by
 obtain⟨l,⟨hl,O'⟩,nw⟩:=O
 rcases O' with ⟨ha,hn,hc'⟩|⟨g,cur,ha,hg,h3,h4,h5,h6⟩
 ·omega
 ·refine⟨g,cur.toList,ha,by rw [hg],fun e2=>?_⟩
  have:=congrArg List.length e2
  rw [Array.length_toList,h5] at this
  have:=Nat.mul_pos hc hz
  simp at *
  omega
theorem OwnV.copy {h0:Hp}{dT sT ty e:TypeId}(hu:P.underlying dT=some (.slice e)){sz:Nat}(hi:(P.info? e).map (·.size)=some sz){n c:Nat}{a:Option Addr}{xs:List Value}(O:OwnV h0 h e sz a n c xs){g j dLen dCap:Nat}(ha:a=some ⟨g,0,none⟩){a2:Option Addr}{sLen c2:Nat}{ys:List Value}(H:HasRow h a2 ys)
  (hl:ys.length=Nat.min sLen dLen*sz) (hfit:j+ys.length≤n*sz) (h1:∀ u ∈ ys,u.oneCell'=true) (hne:ys≠[]) {K:Value→Hp→Prop}
  (hK:∀ h',OwnV h0 h' e sz a n c (setL xs j ys)→(∀ b o,b≠g→h b=some o→h' b=some o)→K (vi (Nat.min sLen dLen:Nat)) h'):SemOK P (Builtin.copy_ #[dT,sT] ty #[vsl (some ⟨g,j,none⟩) dLen dCap,vsl a2 sLen c2]) h K:=by
 obtain⟨l,⟨hl0,O'⟩,nw⟩:=O
 rcases O' with ⟨ha',_⟩|⟨g',cur,ha',hg,h3,h4,h5,h6⟩
 ·rw [ha'] at ha;cases ha
 ·rw [ha'] at ha
  cases ha
  have hb:n*sz≤c*sz:=Nat.mul_le_mul_right _ h3
  have hcl:cur.toList.length=c*sz:=by rw [Array.length_toList];exact h5
  refine sem_copyK hu hi (L:=cur.toList) (t:=e) (by rw [hg]) H hl (by omega) h1 hne ?_
  refine hK _ ⟨fun b o ho=>?_,⟨?_,.inr ⟨g,_,ha',Hp.set_same _ _ _,h3,h4,?_,?_⟩⟩,nw⟩ fun b o hne ho=>(Hp.set_other h _ hne).trans ho
  ·have hne:b≠g:=fun q=>by subst q;rw [nw b ha'] at ho;cases ho
   exact(Hp.set_other h _ hne).trans (l b o ho)
  ·rw [setL_length _ _ _ (by omega)];exact hl0
  ·show (setL cur.toList j ys).length=_
   rw [setL_length _ _ _ (by omega)];exact hcl
  ·show (setL cur.toList j ys).take (n*sz)=_
   rw [setL_take _ _ _ _ hfit (by rw [hcl];exact hb),h6]
theorem OwnV.clear {h0:Hp}{t ty e:TypeId}{sz bytes:Nat}(T:ElT P t e sz bytes){z:List Value}(hz:(zeroL P e).map tvals=some z)(h1:∀ u ∈ z,u.oneCell'=true)(hzl:z.length=sz){n c:Nat}{a:Option Addr}{xs:List Value}(O:OwnV h0 h e sz a n c xs){g j k dCap:Nat}(ha:a=some ⟨g,0,none⟩)(hk:0 < k)(hfit:j+k*sz≤n*sz){K:Value→Hp→Prop}
  (hK:∀ h',OwnV h0 h' e sz a n c (setL xs j ((List.replicate k z).flatten))→K (vtup []) h'):SemOK P (Builtin.clear_ #[t] ty #[vsl (some ⟨g,j,none⟩) k dCap]) h K:=by
 have hlen:((List.replicate k z).flatten).length=k*sz:=by rw [List.length_flatten];simp [hzl]
 obtain⟨l,⟨hl0,O'⟩,nw⟩:=O
 rcases O' with ⟨ha',_⟩|⟨g',cur,ha',hg,h3,h4,h5,h6⟩
 ·rw [ha'] at ha;cases ha
 ·rw [ha'] at ha
  cases ha
  have hb:n*sz≤c*sz:=Nat.mul_le_mul_right _ h3
  have hcl:cur.toList.length=c*sz:=by rw [Array.length_toList];exact h5
  refine sem_clearK T hz h1 hk (L:=cur.toList) (by rw [hg]) (by omega) ?_
  refine hK _ ⟨fun b o ho=>?_,⟨?_,.inr ⟨g,_,ha',Hp.set_same _ _ _,h3,h4,?_,?_⟩⟩,nw⟩
  ·have hne:b≠g:=fun q=>by subst q;rw [nw b ha'] at ho;cases ho
   exact(Hp.set_other h _ hne).trans (l b o ho)
  ·rw [setL_length _ _ _ (by omega)];exact hl0
  ·show (setL cur.toList j _).length=_
   rw [setL_length _ _ _ (by omega)];exact hcl
  ·show (setL cur.toList j _).take (n*sz)=_
   rw [setL_take _ _ _ _ (by omega) (by rw [hcl];exact hb),h6]
end
end Go.Vc
namespace Go.Proofs.YtiflgceoamkmnaaGreatDoor
open Go Go.Vc
def VC_panes_Table_find (u0:Option Addr)(u1 u2:Nat)(u3:Int)(u4:Int)(u5:Int)(h:Hp)(R:Value→Hp→Prop):Prop:=
 (∀ b1,h b1=none→let h2:= Hp.set h b1 (cellsO [vi u3] 3);(CallOK Tryz.prog 173 [vsl u0 u1 u2,vag [vi u4,vi u5],(Value.func (.func 174) #[] #[vhp b1 0])] h2 fun v3 h4=>∃ x5 p6,v3=(vtup [vi x5,vb p6])∧R (vtup [vi x5,vb p6]) h4))
theorem ok_panes_Table_find {u0 u1 u2 u3 u4 u5 h R}(H:VC_panes_Table_find u0 u1 u2 u3 u4 u5 h R):CallOK Tryz.prog 145 [vag [vsl u0 u1 u2],vi u3,vag [vi u4,vi u5]] h R:=
 call_of (cfg:=⟨[4],[],[]⟩) noNG mixed Tryz.func145 [.ag [.v (vsl u0 u1 u2)],.one (.v (vi u3)),.ag [.v (vi u4),.v (vi u5)]] (by kernel_rfl) rfl (by kernel_rfl) H
def VC_panes_Table_find_1 (u0:Int)(u1:Int)(u2:Int)(u3:Option Addr)(u4 u5:Nat)(u6:Bool)(u7:Int)(u8:Int)(f_0b f_0o:Nat)(h:Hp)(R:Value→Hp→Prop):Prop:=
 (∃ x1,(Hp.cell h f_0b f_0o=some (vi x1))∧(CallOK Tryz.prog 125 [vi u0,vi x1] h fun v2 h3=>∃ x4,v2=(vi x4)∧(CallOK Tryz.prog 79 [vag [vi u1,vi u2],vag [vi u7,vi u8]] h3 fun v5 h6=>∃ x7,v5=(vi x7)∧(∀ b8,h6 b8=none→let h9:= Hp.set h6 b8 (cellsO [vi x4,vi x7] 3);(CallOK Tryz.prog 124 [(vsl (some (⟨b8,0,none⟩:Addr)) 2 2)] h9 fun v10 h11=>∃ x12,v10=(vi x12)∧R (vi x12) h11)))))
theorem ok_panes_Table_find_1 {u0 u1 u2 u3 u4 u5 u6 u7 u8 f_0b f_0o h R}(H:VC_panes_Table_find_1 u0 u1 u2 u3 u4 u5 u6 u7 u8 f_0b f_0o h R):CallOK Tryz.prog 174 [vag [vi u0,vi u1,vi u2,vsl u3 u4 u5,vb u6],vag [vi u7,vi u8],vhp f_0b f_0o] h R:=
 call_of (cfg:=⟨[],[],[(1,[0,1,2,4,5,6,3,7,8,9,10])]⟩) noNG mixed Tryz.func174 [.ag [.v (vi u0),.v (vi u1),.v (vi u2),.v (vsl u3 u4 u5),.v (vb u6)],.ag [.v (vi u7),.v (vi u8)],.one (.hp f_0b f_0o)] (by kernel_rfl) rfl (by kernel_rfl) H
def VC_slices_BinarySearchFunc_panes_Pane_panes_Pane_api_Value (u0:Option Addr)(u1 u2:Nat)(u3:Int)(u4:Int)(u5:Value)(h:Hp)(R:Value→Hp→Prop):Prop:=
 (∃(I2:List Value→Hp→Prop) (m3:List Value→Hp→Nat),I2 [vi 0,(vi (u1:Int))] h∧∀ vs4 h5,I2 vs4 h5→∃ x6 x7,vs4=[vi x6,vi x7]∧(((decide (x6 < x7))=true→(∃ x10,(IsW x10 (x6+x7))∧(∃ x11,(Rd Tryz.prog (binOp .shr 191 (vk .u64 (IntKind.wrap .u64 x10)) (vk .u64 1)) h5 (vk .u64 x11))∧(∃ b12 o13,(u0=some ⟨b12,o13,none⟩∧(0:Int)≤(IntKind.wrap .i64 x11)∧(IntKind.wrap .i64 x11) < (u1:Int))∧(∃ x14 x15 x16 a17 n17 c17 p18,(Hp.row h5 b12 (o13+(IntKind.wrap .i64 x11).toNat*5) 5=some [vi x14,vi x15,vi x16,vsl a17 n17 c17,vb p18])∧(InvOK Tryz.prog u5 [vag [vi x14,vi x15,vi x16,vsl a17 n17 c17,vb p18],vag [vi u3,vi u4]] h5 fun v19 h20=>∃ x21,v19=(vi x21)∧(((decide (x21 < 0))=true→(∃ x22,(IsW x22 ((IntKind.wrap .i64 x11)+1))∧(I2 [vi x22,vi x7] h20∧m3 [vi x22,vi x7] h20 < m3 vs4 h5)))∧((decide (x21 < 0))=false→(I2 [vi x6,(vi (IntKind.wrap .i64 x11))] h20∧m3 [vi x6,(vi (IntKind.wrap .i64 x11))] h20 < m3 vs4 h5)))))))))∧((decide (x6 < x7))=false→(∃ b23 o24,((decide (x6 < (u1:Int)))=true→(u0=some ⟨b23,o24,none⟩∧(0:Int)≤x6∧x6 < (u1:Int)))∧(∃ x25 x26 x27 a28 n28 c28 p29,((decide (x6 < (u1:Int)))=true→Hp.row h5 b23 (o24+x6.toNat*5) 5=some [vi x25,vi x26,vi x27,vsl a28 n28 c28,vb p29])∧(∃(J30:SV→Hp→Prop),((decide (x6 < (u1:Int)))=true→(InvOK Tryz.prog u5 [vag [vi x25,vi x26,vi x27,vsl a28 n28 c28,vb p29],vag [vi u3,vi u4]] h5 fun v31 h32=>∃ x33,v31=(vi x33)∧J30 (.t (.one (.v (vi x33)))) h32))∧(¬((decide (x6 < (u1:Int)))=true)→J30 (.t (.one (.v (vi 0)))) h5)∧∀ h34 x35,J30 (.t (.one (.v (vi x35)))) h34→R (vtup [vi x6,(vb (bif (decide (x6 < (u1:Int))) then(decide (x35=0)) else false))]) h34))))))
theorem ok_slices_BinarySearchFunc_panes_Pane_panes_Pane_api_Value {u0 u1 u2 u3 u4 u5 h R}(H:VC_slices_BinarySearchFunc_panes_Pane_panes_Pane_api_Value u0 u1 u2 u3 u4 u5 h R):CallOK Tryz.prog 173 [vsl u0 u1 u2,vag [vi u3,vi u4],u5] h R:=
 call_of (cfg:=⟨[],[(3,([9,10],[.one (.int .i64),.one (.int .i64)],[]))],[(5,[0,1,2,3,4,5,6,7]),(8,[0,1,2,3,4,5,6,7,8,9,10,11,12,13,14,15])]⟩) noNG mixed Tryz.func173 [.one (.v (vsl u0 u1 u2)),.ag [.v (vi u3),.v (vi u4)],.one (.v u5)] (by kernel_rfl) rfl (by kernel_rfl) H
def VC_slices_Clone_panes_Pane_panes_Pane (u0:Option Addr)(u1 u2:Nat)(h:Hp)(R:Value→Hp→Prop):Prop:=
 (∃ p1,(Rd Tryz.prog ((eqGuard .eql 59 (.tmp 3) (.const (vsl none 0 0)) (vsl u0 u1 u2) (vsl none 0 0) >>= fun _=>binOp .eql 59 (vsl u0 u1 u2) (vsl none 0 0))) h (vb p1))∧((p1=true→R (vsl none 0 0) h)∧(p1=false→(∀ b3,h b3=none→let h4:= Hp.set h b3 (cellsO [] 79);(SemOK Tryz.prog (Builtin.append_ #[59,59] 59 #[(vsl (some (⟨b3,0,none⟩:Addr)) 0 0),vsl u0 u1 u2]) h4 fun v5 h6=>∃ a7 n7 c7,v5=(vsl a7 n7 c7)∧R (vsl a7 n7 c7) h6)))))
theorem ok_slices_Clone_panes_Pane_panes_Pane {u0 u1 u2 h R}(H:VC_slices_Clone_panes_Pane_panes_Pane u0 u1 u2 h R):CallOK Tryz.prog 103 [vsl u0 u1 u2] h R:=
 call_of (cfg:=⟨[],[],[]⟩) noNG mixed Tryz.func103 [.one (.v (vsl u0 u1 u2))] (by kernel_rfl) rfl (by kernel_rfl) H
def VC_slices_Clone_gather_Acc_gather_Acc (u0:Option Addr)(u1 u2:Nat)(h:Hp)(R:Value→Hp→Prop):Prop:=
 (∃ p1,(Rd Tryz.prog ((eqGuard .eql 77 (.tmp 3) (.const (vsl none 0 0)) (vsl u0 u1 u2) (vsl none 0 0) >>= fun _=>binOp .eql 77 (vsl u0 u1 u2) (vsl none 0 0))) h (vb p1))∧((p1=true→R (vsl none 0 0) h)∧(p1=false→(∀ b3,h b3=none→let h4:= Hp.set h b3 (cellsO [] 139);(SemOK Tryz.prog (Builtin.append_ #[77,77] 77 #[(vsl (some (⟨b3,0,none⟩:Addr)) 0 0),vsl u0 u1 u2]) h4 fun v5 h6=>∃ a7 n7 c7,v5=(vsl a7 n7 c7)∧R (vsl a7 n7 c7) h6)))))
theorem ok_slices_Clone_gather_Acc_gather_Acc {u0 u1 u2 h R}(H:VC_slices_Clone_gather_Acc_gather_Acc u0 u1 u2 h R):CallOK Tryz.prog 147 [vsl u0 u1 u2] h R:=
 call_of (cfg:=⟨[],[],[]⟩) noNG mixed Tryz.func147 [.one (.v (vsl u0 u1 u2))] (by kernel_rfl) rfl (by kernel_rfl) H
def VC_slices_Insert_panes_Pane_panes_Pane (u0:Option Addr)(u1 u2:Nat)(u3:Int)(u4:Option Addr)(u5 u6:Nat)(h:Hp)(R:Value→Hp→Prop):Prop:=
 (∃ a1 n1 c1,(Rd Tryz.prog (Instr.sliceAt 59 (vsl u0 u1 u2) (some (vi u3)) none none) h (vsl a1 n1 c1))∧(((decide ((u5:Int)=0))=true→R (vsl u0 u1 u2) h)∧((decide ((u5:Int)=0))=false→(((decide (u3=(u1:Int)))=true→(SemOK Tryz.prog (Builtin.append_ #[59,59] 59 #[vsl u0 u1 u2,vsl u4 u5 u6]) h fun v3 h4=>∃ a5 n5 c5,v3=(vsl a5 n5 c5)∧R (vsl a5 n5 c5) h4))∧((decide (u3=(u1:Int)))=false→(∃ x7,(IsW x7 ((u1:Int)+(u5:Int)))∧(∃ x8,(Rd Tryz.prog (Builtin.cap_ #[59] 3 #[vsl u0 u1 u2]) h (vi x8))∧(((decide (x7 > x8))=true→(∃ a9 n9 c9,(Rd Tryz.prog (Instr.sliceAt 59 (vsl u0 u1 u2) none (some (vi u3)) none) h (vsl a9 n9 c9))∧(∃ x10,(IsW x10 ((u1:Int)+(u5:Int)))∧(∃ x11,(IsW x11 (x10 - u3))∧(SemOK Tryz.prog (Builtin.append_ #[59,3] 59 #[vsl a9 n9 c9,vi x11]) h fun v12 h13=>∃ a14 n14 c14,v12=(vsl a14 n14 c14)∧(∃ a15 n15 c15,(Rd Tryz.prog (Instr.sliceAt 59 (vsl a14 n14 c14) (some (vi u3)) none none) h13 (vsl a15 n15 c15))∧(SemOK Tryz.prog (Builtin.copy_ #[59,59] 3 #[vsl a15 n15 c15,vsl u4 u5 u6]) h13 fun v16 h17=>∃ x18,v16=(vi x18)∧(∃ x19,(IsW x19 (u3+(u5:Int)))∧(∃ a20 n20 c20,(Rd Tryz.prog (Instr.sliceAt 59 (vsl a14 n14 c14) (some (vi x19)) none none) h17 (vsl a20 n20 c20))∧(∃ a21 n21 c21,(Rd Tryz.prog (Instr.sliceAt 59 (vsl u0 u1 u2) (some (vi u3)) none none) h17 (vsl a21 n21 c21))∧(SemOK Tryz.prog (Builtin.copy_ #[59,59] 3 #[vsl a20 n20 c20,vsl a21 n21 c21]) h17 fun v22 h23=>∃ x24,v22=(vi x24)∧R (vsl a14 n14 c14) h23)))))))))))∧((decide (x7 > x8))=false→(∃ x26,(IsW x26 ((u1:Int)+(u5:Int)))∧(∃ a27 n27 c27,(Rd Tryz.prog (Instr.sliceAt 59 (vsl u0 u1 u2) none (some (vi x26)) none) h (vsl a27 n27 c27))∧(∃ x28,(IsW x28 (u3+(u5:Int)))∧(∃ a29 n29 c29,(Rd Tryz.prog (Instr.sliceAt 59 (vsl a27 n27 c27) (some (vi x28)) none none) h (vsl a29 n29 c29))∧(ExtOK Tryz.prog 175 [vsl u4 u5 u6,vsl a29 n29 c29] h fun v30 h31=>∃ p32,v30=(vb p32)∧(((!p32)=true→(∃ x33,(IsW x33 (u3+(u5:Int)))∧(∃ a34 n34 c34,(Rd Tryz.prog (Instr.sliceAt 59 (vsl a27 n27 c27) (some (vi x33)) none none) h31 (vsl a34 n34 c34))∧(∃ a35 n35 c35,(Rd Tryz.prog (Instr.sliceAt 59 (vsl a27 n27 c27) (some (vi u3)) none none) h31 (vsl a35 n35 c35))∧(SemOK Tryz.prog (Builtin.copy_ #[59,59] 3 #[vsl a34 n34 c34,vsl a35 n35 c35]) h31 fun v36 h37=>∃ x38,v36=(vi x38)∧(∃ a39 n39 c39,(Rd Tryz.prog (Instr.sliceAt 59 (vsl a27 n27 c27) (some (vi u3)) none none) h37 (vsl a39 n39 c39))∧(SemOK Tryz.prog (Builtin.copy_ #[59,59] 3 #[vsl a39 n39 c39,vsl u4 u5 u6]) h37 fun v40 h41=>∃ x42,v40=(vi x42)∧R (vsl a27 n27 c27) h41)))))))∧((!p32)=false→(∃ a44 n44 c44,(Rd Tryz.prog (Instr.sliceAt 59 (vsl a27 n27 c27) (some (vi (u1:Int))) none none) h31 (vsl a44 n44 c44))∧(SemOK Tryz.prog (Builtin.copy_ #[59,59] 3 #[vsl a44 n44 c44,vsl u4 u5 u6]) h31 fun v45 h46=>∃ x47,v45=(vi x47)∧(∃ a48 n48 c48,(Rd Tryz.prog (Instr.sliceAt 59 (vsl a27 n27 c27) (some (vi u3)) none none) h46 (vsl a48 n48 c48))∧(CallOK Tryz.prog 176 [vsl a48 n48 c48,(vi (u5:Int))] h46 fun v49 h50=>v49=(vtup [])∧R (vsl a27 n27 c27) h50))))))))))))))))))))
theorem ok_slices_Insert_panes_Pane_panes_Pane {u0 u1 u2 u3 u4 u5 u6 h R}(H:VC_slices_Insert_panes_Pane_panes_Pane u0 u1 u2 u3 u4 u5 u6 h R):CallOK Tryz.prog 146 [vsl u0 u1 u2,vi u3,vsl u4 u5 u6] h R:=
 call_of (cfg:=⟨[],[],[(11,[0,1,2,3,4,5,6,7,8]),(15,[0,1,2,3,4,5,6,7,8])]⟩) noNG mixed Tryz.func146 [.one (.v (vsl u0 u1 u2)),.one (.v (vi u3)),.one (.v (vsl u4 u5 u6))] (by kernel_rfl) rfl (by kernel_rfl) H
def VC_panes_Table_Add (u0:Option Addr)(u1 u2:Nat)(u3:Int)(u4:Int)(u5:Int)(u6:Option Addr)(u7 u8:Nat)(u9:Option Addr)(u10 u11:Nat)(h:Hp)(R:Value→Hp→Prop):Prop:=
 (CallOK Tryz.prog 145 [vag [vsl u0 u1 u2],vi u3,vag [vi u4,vi u5]] h fun v1 h2=>∃ x3 p4,v1=(vtup [vi x3,vb p4])∧(CallOK Tryz.prog 103 [vsl u0 u1 u2] h2 fun v5 h6=>∃ a7 n7 c7,v5=(vsl a7 n7 c7)∧(let J83:Option Addr→Nat→Nat→Int→Int→Int→Option Addr→Nat→Nat→Bool→Hp→Prop:=fun a315 n315 c315 x316 x317 x318 a319 n319 c319 p320 h321=>(∃ b322 o323,(a315=some ⟨b322,o323,none⟩∧(0:Int)≤x3∧x3 < (n315:Int))∧(∃ x324 x325 x326 a327 n327 c327 p328,(Hp.row h321 b322 (o323+x3.toNat*5) 5=some [vi x324,vi x325,vi x326,vsl a327 n327 c327,vb p328])∧(CallOK Tryz.prog 147 [vsl a327 n327 c327] h321 fun v329 h330=>∃ a331 n331 c331,v329=(vsl a331 n331 c331)∧(∃(I333:List Value→Hp→Prop) (m334:List Value→Hp→Nat),I333 [vi 0] h330∧∀ vs335 h336,I333 vs335 h336→∃ x337,vs335=[vi x337]∧(((decide (x337 < (u10:Int)))=true→(∃ b340 o341,(u9=some ⟨b340,o341,none⟩∧(0:Int)≤x337∧x337 < (u10:Int))∧(∃ x342 x343,(Hp.row h336 b340 (o341+x337.toNat*2) 2=some [vi x342,vi x343])∧(∃ b344 o345,(a331=some ⟨b344,o345,none⟩∧(0:Int)≤x337∧x337 < (n331:Int))∧(∃ x346 x347 x348 x349,(Hp.row h336 b344 (o345+x337.toNat*4) 4=some [vi x346,vi x347,vi x348,vi x349])∧(CallOK Tryz.prog 121 [vag [vi x346,vi x347,vi x348,vi x349],vag [vi x342,vi x343]] h336 fun v350 h351=>∃ x352 x353 x354 x355,v350=(vag [vi x352,vi x353,vi x354,vi x355])∧(∃ b356 o357,(a331=some ⟨b356,o357,none⟩∧(0:Int)≤x337∧x337 < (n331:Int))∧(Hp.store h351 b356 (o357+x337.toNat*4) [vi x352,vi x353,vi x354,vi x355] fun h358=>(∃ x360,(IsW x360 (x337+1))∧(I333 [vi x360] h358∧m334 [vi x360] h358 < m334 vs335 h336))))))))))∧((decide (x337 < (u10:Int)))=false→(∃ b361 o362,(a315=some ⟨b361,o362,none⟩∧(0:Int)≤x3∧x3 < (n315:Int))∧(Hp.store h336 b361 (o362+x3.toNat*5) [vi x324,vi x325,vi x326,vsl a331 n331 c331,vb p328] fun h363=>R (vtup [vag [vsl a315 n315 c315],vag [vi x316,vi x317,vi x318,vsl a319 n319 c319,vb p320],vb p4]) h363))))))));((p4=true→(∃ b8 o9,(a7=some ⟨b8,o9,none⟩∧(0:Int)≤x3∧x3 < (n7:Int))∧(∃ x10 x11 x12 a13 n13 c13 p14,(Hp.row h6 b8 (o9+x3.toNat*5) 5=some [vi x10,vi x11,vi x12,vsl a13 n13 c13,vb p14])∧(J83 a7 n7 c7 x10 x11 x12 a13 n13 c13 p14 h6))))∧(p4=false→(let J45:Int→Int→Int→Option Addr→Nat→Nat→Bool→Hp→Prop:=fun x71 x72 x73 a74 n74 c74 p75 h76=>(∀ b77,h76 b77=none→let h78:= Hp.set h76 b77 (cellsO [vi x71,vi x72,vi x73,vsl a74 n74 c74,vb p75] 79);(CallOK Tryz.prog 146 [vsl a7 n7 c7,vi x3,(vsl (some (⟨b77,0,none⟩:Addr)) 1 1)] h78 fun v79 h80=>∃ a81 n81 c81,v79=(vsl a81 n81 c81)∧(J83 a81 n81 c81 0 0 0 none 0 0 false h80)));(∃(I17:List Value→Hp→Prop) (m18:List Value→Hp→Nat),I17 [vi 0,vi u3,vi u4,vi u5,vsl none 0 0,vb false] h6∧∀ vs19 h20,I17 vs19 h20→∃ x21 x22 x23 x24 a25 n25 c25 p26,vs19=[vi x21,vi x22,vi x23,vi x24,vsl a25 n25 c25,vb p26]∧(((decide (x21 < (u7:Int)))=true→(∃ b29 o30,(u6=some ⟨b29,o30,none⟩∧(0:Int)≤x21∧x21 < (u7:Int))∧(∃ x31,(Hp.cell h20 b29 (o30+x21.toNat*1)=some (vi x31))∧(CallOK Tryz.prog 75 [vi x31] h20 fun v32 h33=>∃ x34 x35 x36 x37,v32=(vag [vi x34,vi x35,vi x36,vi x37])∧(∀ b38,h33 b38=none→let h39:= Hp.set h33 b38 (cellsO [vi x34,vi x35,vi x36,vi x37] 139);(SemOK Tryz.prog (Builtin.append_ #[77,77] 77 #[vsl a25 n25 c25,(vsl (some (⟨b38,0,none⟩:Addr)) 1 1)]) h39 fun v40 h41=>∃ a42 n42 c42,v40=(vsl a42 n42 c42)∧(∃ x44,(IsW x44 (x21+1))∧(I17 [vi x44,vi x22,vi x23,vi x24,vsl a42 n42 c42,vb p26] h41∧m18 [vi x44,vi x22,vi x23,vi x24,vsl a42 n42 c42,vb p26] h41 < m18 vs19 h20))))))))∧((decide (x21 < (u7:Int)))=false→(J45 x22 x23 x24 a25 n25 c25 p26 h20))))))))))
theorem ok_panes_Table_Add {u0 u1 u2 u3 u4 u5 u6 u7 u8 u9 u10 u11 h R}(H:VC_panes_Table_Add u0 u1 u2 u3 u4 u5 u6 u7 u8 u9 u10 u11 h R):CallOK Tryz.prog 99 [vag [vsl u0 u1 u2],vi u3,vag [vi u4,vi u5],vsl u6 u7 u8,vsl u9 u10 u11] h R:=
 call_of (cfg:=⟨[],[(7,([41],[.one (.int .i64)],[(4,[.int .i64,.int .i64,.int .i64,.slice,.bool])])),(15,([68],[.one (.int .i64)],[]))],[(9,[0,1,2,3,4,5,6,7]),(17,[0,1,2,3,4,5,6,7,8,9,10,11]),(20,[0,1,2,3,4,5,6])]⟩) noNG mixed Tryz.func99 [.ag [.v (vsl u0 u1 u2)],.one (.v (vi u3)),.ag [.v (vi u4),.v (vi u5)],.one (.v (vsl u6 u7 u8)),.one (.v (vsl u9 u10 u11))] (by kernel_rfl) rfl (by kernel_rfl) H
def VC_panes_Table_Tell (u0:Option Addr)(u1 u2:Nat)(u3:Int)(u4:Int)(h:Hp)(R:Value→Hp→Prop):Prop:=
 (CallOK Tryz.prog 103 [vsl u0 u1 u2] h fun v1 h2=>∃ a3 n3 c3,v1=(vsl a3 n3 c3)∧(∃(I5:List Value→Hp→Prop) (m6:List Value→Hp→Nat),I5 [vsl none 0 0,vi 0] h2∧∀ vs7 h8,I5 vs7 h8→∃ a9 n9 c9 x10,vs7=[vsl a9 n9 c9,vi x10]∧(((decide (x10 < (n3:Int)))=true→(let J38:Option Addr→Nat→Nat→Hp→Prop:=fun a41 n41 c41 h42=>(∃ x43,(IsW x43 (x10+1))∧(I5 [vsl a41 n41 c41,vi x43] h42∧m6 [vsl a41 n41 c41,vi x43] h42 < m6 vs7 h8));(∃ b13 o14,(a3=some ⟨b13,o14,none⟩∧(0:Int)≤x10∧x10 < (n3:Int))∧(∃ x15 x16 x17 a18 n18 c18 p19,(Hp.row h8 b13 (o14+x10.toNat*5) 5=some [vi x15,vi x16,vi x17,vsl a18 n18 c18,vb p19])∧(∃ x20,((!p19)=true→IsW x20 (x15+u3))∧(((bif (!p19) then(decide (x20≤u4)) else false)=true→(∃ b21 o22,(a3=some ⟨b21,o22,none⟩∧(0:Int)≤x10∧x10 < (n3:Int))∧(Hp.store h8 b21 ((o22+x10.toNat*5)+4) [vb true] fun h23=>(∃ b24 o25,(a3=some ⟨b24,o25,none⟩∧(0:Int)≤x10∧x10 < (n3:Int))∧(∃ x26 x27 x28 a29 n29 c29 p30,(Hp.row h23 b24 (o25+x10.toNat*5) 5=some [vi x26,vi x27,vi x28,vsl a29 n29 c29,vb p30])∧(∀ b31,h23 b31=none→let h32:= Hp.set h23 b31 (cellsO [vi x26,vi x27,vi x28,vsl a29 n29 c29,vb p30] 79);(SemOK Tryz.prog (Builtin.append_ #[59,59] 59 #[vsl a9 n9 c9,(vsl (some (⟨b31,0,none⟩:Addr)) 1 1)]) h32 fun v33 h34=>∃ a35 n35 c35,v33=(vsl a35 n35 c35)∧(J38 a35 n35 c35 h34))))))))∧((bif (!p19) then(decide (x20≤u4)) else false)=false→(J38 a9 n9 c9 h8))))))))∧((decide (x10 < (n3:Int)))=false→R (vtup [vag [vsl a3 n3 c3],vsl a9 n9 c9]) h8))))
theorem ok_panes_Table_Tell {u0 u1 u2 u3 u4 h R}(H:VC_panes_Table_Tell u0 u1 u2 u3 u4 h R):CallOK Tryz.prog 49 [vag [vsl u0 u1 u2],vi u3,vi u4] h R:=
 call_of (cfg:=⟨[],[(4,([9,17],[.one (.slice),.one (.int .i64)],[]))],[]⟩) noNG mixed Tryz.func49 [.ag [.v (vsl u0 u1 u2)],.one (.v (vi u3)),.one (.v (vi u4))] (by kernel_rfl) rfl (by kernel_rfl) H
def VC_panes_Table_Drop (u0:Option Addr)(u1 u2:Nat)(u3:Int)(u4:Int)(h:Hp)(R:Value→Hp→Prop):Prop:=
 (∀ b1,h b1=none→let h2:= Hp.set h b1 (cellsO [vi u3] 3);(∀ b3,h2 b3=none→let h4:= Hp.set h2 b3 (cellsO [vi u4] 3);(CallOK Tryz.prog 103 [vsl u0 u1 u2] h4 fun v5 h6=>∃ a7 n7 c7,v5=(vsl a7 n7 c7)∧(CallOK Tryz.prog 105 [vsl a7 n7 c7,(Value.func (.func 106) #[] #[vhp b1 0,vhp b3 0])] h6 fun v8 h9=>∃ a10 n10 c10,v8=(vsl a10 n10 c10)∧R (vag [vsl a10 n10 c10]) h9))))
theorem ok_panes_Table_Drop {u0 u1 u2 u3 u4 h R}(H:VC_panes_Table_Drop u0 u1 u2 u3 u4 h R):CallOK Tryz.prog 51 [vag [vsl u0 u1 u2],vi u3,vi u4] h R:=
 call_of (cfg:=⟨[4,5],[],[]⟩) noNG mixed Tryz.func51 [.ag [.v (vsl u0 u1 u2)],.one (.v (vi u3)),.one (.v (vi u4))] (by kernel_rfl) rfl (by kernel_rfl) H
def VC_panes_Table_Drop_1 (u0:Int)(u1:Int)(u2:Int)(u3:Option Addr)(u4 u5:Nat)(u6:Bool)(f_0b f_0o:Nat)(f_1b f_1o:Nat)(h:Hp)(R:Value→Hp→Prop):Prop:=
 (∃ x1,(Hp.cell h f_0b f_0o=some (vi x1))∧(∃ x2,(IsW x2 (u0+x1))∧(∃ x3,(Hp.cell h f_1b f_1o=some (vi x3))∧R (vb (decide (x2≤x3))) h)))
theorem ok_panes_Table_Drop_1 {u0 u1 u2 u3 u4 u5 u6 f_0b f_0o f_1b f_1o h R}(H:VC_panes_Table_Drop_1 u0 u1 u2 u3 u4 u5 u6 f_0b f_0o f_1b f_1o h R):CallOK Tryz.prog 106 [vag [vi u0,vi u1,vi u2,vsl u3 u4 u5,vb u6],vhp f_0b f_0o,vhp f_1b f_1o] h R:=
 call_of (cfg:=⟨[],[],[]⟩) noNG mixed Tryz.func106 [.ag [.v (vi u0),.v (vi u1),.v (vi u2),.v (vsl u3 u4 u5),.v (vb u6)],.one (.hp f_0b f_0o),.one (.hp f_1b f_1o)] (by kernel_rfl) rfl (by kernel_rfl) H
def VC_slices_DeleteFunc_panes_Pane_panes_Pane (u0:Option Addr)(u1 u2:Nat)(u3:Value)(h:Hp)(R:Value→Hp→Prop):Prop:=
 (CallOK Tryz.prog 73 [vsl u0 u1 u2,u3] h fun v1 h2=>∃ x3,v1=(vi x3)∧(((decide (x3=(-1)))=true→R (vsl u0 u1 u2) h2)∧((decide (x3=(-1)))=false→(∃ x5,(IsW x5 (x3+1))∧(∃(I7:List Value→Hp→Prop) (m8:List Value→Hp→Nat),I7 [vi x3,vi x5] h2∧∀ vs9 h10,I7 vs9 h10→∃ x11 x12,vs9=[vi x11,vi x12]∧(((decide (x12 < (u1:Int)))=true→(let J31:Int→Hp→Prop:=fun x34 h35=>(∃ x36,(IsW x36 (x12+1))∧(I7 [vi x34,vi x36] h35∧m8 [vi x34,vi x36] h35 < m8 vs9 h10));(∃ b15 o16,(u0=some ⟨b15,o16,none⟩∧(0:Int)≤x12∧x12 < (u1:Int))∧(∃ x17 x18 x19 a20 n20 c20 p21,(Hp.row h10 b15 (o16+x12.toNat*5) 5=some [vi x17,vi x18,vi x19,vsl a20 n20 c20,vb p21])∧(InvOK Tryz.prog u3 [vag [vi x17,vi x18,vi x19,vsl a20 n20 c20,vb p21]] h10 fun v22 h23=>∃ p24,v22=(vb p24)∧(((!p24)=true→(∃ b25 o26,(u0=some ⟨b25,o26,none⟩∧(0:Int)≤x11∧x11 < (u1:Int))∧(Hp.store h23 b25 (o26+x11.toNat*5) [vi x17,vi x18,vi x19,vsl a20 n20 c20,vb p21] fun h27=>(∃ x28,(IsW x28 (x11+1))∧(J31 x28 h27)))))∧((!p24)=false→(J31 x11 h23))))))))∧((decide (x12 < (u1:Int)))=false→(∃ a37 n37 c37,(Rd Tryz.prog (Instr.sliceAt 59 (vsl u0 u1 u2) (some (vi x11)) none none) h10 (vsl a37 n37 c37))∧(SemOK Tryz.prog (Builtin.clear_ #[59] 0 #[vsl a37 n37 c37]) h10 fun v38 h39=>v38=(vtup [])∧(∃ a40 n40 c40,(Rd Tryz.prog (Instr.sliceAt 59 (vsl u0 u1 u2) none (some (vi x11)) none) h39 (vsl a40 n40 c40))∧R (vsl a40 n40 c40) h39))))))))))
theorem ok_slices_DeleteFunc_panes_Pane_panes_Pane {u0 u1 u2 u3 h R}(H:VC_slices_DeleteFunc_panes_Pane_panes_Pane u0 u1 u2 u3 h R):CallOK Tryz.prog 105 [vsl u0 u1 u2,u3] h R:=
 call_of (cfg:=⟨[],[(5,([5,6],[.one (.int .i64),.one (.int .i64)],[]))],[]⟩) noNG mixed Tryz.func105 [.one (.v (vsl u0 u1 u2)),.one (.v u3)] (by kernel_rfl) rfl (by kernel_rfl) H
def encPr (r:PR):List Value:=(prRow r).enc
theorem encPr_len (r:PR):(encPr r).length=5:=rfl
theorem one_encPr (r:PR):∀ u ∈ encPr r,u.oneCell'=true:=one_prow _
theorem one_prs (R:List PR):∀ u ∈ R.flatMap encPr,u.oneCell'=true:=by
 intro u hu
 obtain⟨r,_,hr⟩:=List.mem_flatMap.1 hu
 exact one_encPr r u hr
structure Tb (h:Hp)(a:Option Addr)(R:List PR):Prop where
 s:SlP encPr h a R.length R
 i:∀ r ∈ R,HasRow h r.a (r.acs.flatMap encAc)
theorem Tb.le {h h':Hp}{a:Option Addr}{R:List PR}(T:Tb h a R)(l:h.le h'):Tb h' a R:=⟨T.s.le l,fun r hr=>(T.i r hr).le l⟩
section
variable {h:Hp}{K':Value→Hp→Prop}{a:Option Addr}{R:List PR}{c:Nat}
theorem clone_Pane_ok (S:SlP encPr h a R.length R)(hn:R.length≤1000000)(hK:∀ a' c' h',OwnV h h' 79 5 a' R.length c' (R.flatMap encPr)→K' (vsl a' R.length c') h'):CallOK Tryz.prog 103 [vsl a R.length c] h K':=by
 refine ok_slices_Clone_panes_Pane_panes_Pane ?_
 unfold VC_slices_Clone_panes_Pane_panes_Pane
 refine⟨_,rd_eqNilS (e:=79) (by kernel_rfl),fun e=>?_,fun e=>?_⟩
 ·have h0:R.flatMap encPr=[]:=by
   rcases S.2 with h1|⟨b,o,ha,_⟩
   ·exact h1
   ·rw [ha] at e;cases e
  have hn0:R=[]:=by
   have:=congrArg List.length h0
   rw [flatMap_length encPr_len] at this
   exact List.eq_nil_of_length_eq_zero (by simp at this;omega)
  subst hn0
  exact hK none 0 h (OwnV.nil (Hp.le_refl h) _ _)
 ·intro b3 hb3 h4
  have O0:OwnV h h4 79 5 (some ⟨b3,0,none⟩) 0 0 []:=OwnV.mk_new (Hp.le_refl h) hb3 _ [] rfl (by simp [maxLen])
  refine OwnV.append elPane O0 (S.le (Hp.le_set (Hp.le_refl h) hb3 _)).2 (flatMap_length encPr_len R) (one_prs R) (by omega) (by omega) fun a' c' h' O' _ _=>⟨_,_,_,rfl,?_⟩
  rw [Nat.zero_add,List.nil_append] at *
  exact hK a' c' h' O'
theorem clone_Acc_ok {l:List AcS}(S:HasRow h a (l.flatMap encAc))(hn:l.length≤1000000)(hK:∀ a' c' h',VecA h h' a' c' l→K' (vsl a' l.length c') h'):CallOK Tryz.prog 147 [vsl a l.length c] h K':=by
 refine ok_slices_Clone_gather_Acc_gather_Acc ?_
 unfold VC_slices_Clone_gather_Acc_gather_Acc
 refine⟨_,rd_eqNilS (e:=139) (by kernel_rfl),fun e=>?_,fun e=>?_⟩
 ·have h0:l.flatMap encAc=[]:=by
   rcases S with h1|⟨b,o,ha,_⟩
   ·exact h1
   ·rw [ha] at e;cases e
  have hn0:l=[]:=by
   have:=congrArg List.length h0
   rw [flatMap_length encAc_len] at this
   exact List.eq_nil_of_length_eq_zero (by simp at this;omega)
  subst hn0
  exact hK none 0 h (OwnV.nil (Hp.le_refl h) _ _)
 ·intro b3 hb3 h4
  have O0:OwnV h h4 139 4 (some ⟨b3,0,none⟩) 0 0 []:=OwnV.mk_new (Hp.le_refl h) hb3 _ [] rfl (by simp [maxLen])
  have h1:∀ u ∈ l.flatMap encAc,u.oneCell'=true:=by
   intro u hu
   obtain⟨r,_,hr⟩:=List.mem_flatMap.1 hu
   exact one_ac r u hr
  refine OwnV.append elAcc O0 (S.le (Hp.le_set (Hp.le_refl h) hb3 _)) (flatMap_length encAc_len l) h1 (by omega) (by omega) fun a' c' h' O' _ _=>⟨_,_,_,rfl,?_⟩
  rw [Nat.zero_add,List.nil_append] at *
  exact hK a' c' h' O'
theorem index_Pane_ok {fv:Value}{p:PR→Bool}(S:SlP encPr h a R.length R)(hn:R.length≤1000000)(hf:∀ r ∈ R,∀ K2:Value→Hp→Prop,K2 (vb (p r)) h→InvOK Tryz.prog fv [vag (encPr r)] h K2)
  (hy:∀(i:Nat) (r:PR),R[i]?=some r→p r=true→(∀ x ∈ R.take i,p x=false)→K' (vi i) h) (hno:(∀ r ∈ R,p r=false)→K' (vi (-1)) h):CallOK Tryz.prog 73 [vsl a R.length c,fv] h K':=by
 refine ok_slices_IndexFunc_panes_Pane_panes_Pane ?_
 unfold VC_slices_IndexFunc_panes_Pane_panes_Pane
 refine⟨fun vs hh=>hh=h∧∃ i:Nat,vs=[vi i]∧i≤R.length∧∀ r ∈ R.take i,p r=false,fun vs hh=>R.length - (vint vs 0).toNat,⟨rfl,0,rfl,Nat.zero_le _,by simp⟩,?_⟩
 rintro vs hh ⟨rfl,i,rfl,hi,hz⟩
 refine⟨i,rfl,fun e=>?_,fun e=>?_⟩
 ·have hlt:i < R.length:=by have:=of_decide_eq_true e;omega
  have hx:R[i]?=some R[i]:=List.getElem?_eq_getElem hlt
  have tk:R.take (i+1)=R.take i++[R[i]]:=List.take_succ_eq_append_getElem hlt
  obtain⟨b,o,ea,hr⟩:=S.get encPr_len (by decide) hx
  refine⟨b,o,⟨ea,by omega,by omega⟩,_,_,_,_,_,_,_,by rw [Int.toNat_natCast];exact hr,hf _ (List.getElem_mem hlt) _ ⟨_,rfl,fun e2=>hy i _ hx e2 hz,fun e2=>?_⟩⟩
  refine⟨_,isW (by unfold InR;omega),⟨rfl,i+1,rfl,by omega,fun r hr=>?_⟩,by simp [vint];omega⟩
  rw [tk] at hr
  rcases List.mem_append.1 hr with h3|h3
  ·exact hz r h3
  ·rw [List.mem_singleton.1 h3];exact e2
 ·have hge:i=R.length:=by have:=of_decide_eq_false e;omega
  refine hno ?_
  rw [hge,List.take_length] at hz
  exact hz
theorem insert_Pane_ok {h0:Hp}{x:PR}{i b:Nat}(O:OwnV h0 h 79 5 a R.length c (R.flatMap encPr))(hn:R.length≤1000000)(hi:i≤R.length)(hb:h b=some (cellsO (encPr x) 79))(hab:a≠some ⟨b,0,none⟩)
  (hK:∀ a' c' h',OwnV h0 h' 79 5 a' (R.length+1) c' ((R.take i++x :: R.drop i).flatMap encPr)→K' (vsl a' (R.length+1) c') h'):CallOK Tryz.prog 146 [vsl a R.length c,vi i,vsl (some ⟨b,0,none⟩) 1 1] h K':=by
 refine ok_slices_Insert_panes_Pane_panes_Pane ?_
 unfold VC_slices_Insert_panes_Pane_panes_Pane
 have hT:Tryz.prog.underlying 59=some (.slice 79):=by kernel_rfl
 have hI:(Tryz.prog.info? 79).isSome=true:=by kernel_rfl
 have hS:(Tryz.prog.info? 79).map (·.size)=some 5:=by kernel_rfl
 have hsz:szT Tryz.prog 79=5:=by kernel_rfl
 have hcap:=O.own.cap
 have hHv:HasRow h (some ⟨b,0,none⟩) (encPr x):=.inr ⟨b,0,rfl,row_cells' hb (by simp)⟩
 have hA:((R.take i).flatMap encPr).length=i*5:=by rw [flatMap_length encPr_len,List.length_take,Nat.min_eq_left hi]
 have hD:((R.drop i).flatMap encPr).length=(R.length - i)*5:=by rw [flatMap_length encPr_len,List.length_drop]
 have hAD:R.flatMap encPr=(R.take i).flatMap encPr++(R.drop i).flatMap encPr:=by rw [←List.flatMap_append,List.take_append_drop]
 have hres:(R.take i++x :: R.drop i).flatMap encPr=(R.take i).flatMap encPr++(encPr x++(R.drop i).flatMap encPr):=by rw [List.flatMap_append,List.flatMap_cons]
 rw [hres] at hK
 have S:SlP encPr h a R.length R:=⟨rfl,O.row⟩
 have rdl:=fun(n c:Nat) (a:Option Addr) (x:Nat) (hh:Hp) (h1:x≤n)=>rd_slice_l (P:=Tryz.prog) (h:=hh) (t:=59) (e:=79) hT hI (a:=a) (n:=n) (c:=c) (x:=(x:Int)) (by omega) (by omega)
 have rdh:=fun(n c:Nat) (a:Option Addr) (x:Nat) (hh:Hp) (h1:x≤c)=>rd_slice_h (P:=Tryz.prog) (h:=hh) (t:=59) (e:=79) hT hI (a:=a) (n:=n) (c:=c) (x:=(x:Int)) (by omega) (by omega)
 simp only [Int.toNat_natCast,hsz] at rdl rdh
 have cutG:∀(g x c:Nat),c≠x→cutA (some ⟨g,0,none⟩) x c 5=some ⟨g,x*5,none⟩:=by
  intro g x c hne
  unfold cutA
  rw [if_neg hne]
  simp only [Option.map_some,Addr.add]
  split
  ·rename_i h0;simp [h0]
  ·simp
 refine⟨_,_,_,rdl R.length c a i h hi,fun e=>absurd (of_decide_eq_true e) (by decide),fun _=>⟨fun e=>?_,fun e=>?_⟩⟩
 ·have hie:i=R.length:=by have:=of_decide_eq_true e;omega
  refine OwnV.append elPane O (m:=1) hHv rfl (one_encPr x) (by omega) (by omega) fun a' c' h' O' _ _=>⟨_,_,_,rfl,hK a' c' h' ?_⟩
  subst hie
  rw [List.take_length,List.drop_length]
  simpa using O'
 ·have hlt:i < R.length:=by have:=of_decide_eq_false e;omega
  have hDne:(R.drop i).flatMap encPr≠[]:=by
   intro e2
   rw [e2] at hD
   simp at hD
   omega
  refine⟨_,isW (by unfold InR;omega),_,rd_cap hT,fun e2=>?_,fun e2=>?_⟩
  ·have hgt:c < R.length+1:=by have:=of_decide_eq_true e2;omega
   refine⟨_,_,_,rdh R.length c a i h (by omega),_,isW (by unfold InR;omega),_,isW (by unfold InR;omega),?_⟩
   have e3:((R.length:Int)+((1:Nat):Int) - (i:Int))=((R.length+1 - i:Nat):Int):=by omega
   rw [e3]
   have hz:(zeroL Tryz.prog 79).map tvals=some [vi 0,vi 0,vi 0,vsl none 0 0,vb false]:=by kernel_rfl
   refine sem_append_zeros elPane (by kernel_rfl) hz (n:=i) (S.take encPr_len hi).2 hA (m:=R.length+1 - i) (by omega) (by omega) (by omega) (by omega) fun a14 c14 h13 O13=>⟨_,_,_,rfl,?_⟩
   have hnn:i+(R.length+1 - i)=R.length+1:=by omega
   rw [hnn] at O13 ⊢
   have hc14:=O13.own.cap
   obtain⟨g,L14,rfl,hg14,_⟩:=O13.blk (by omega) (by decide)
   have hZ:((List.replicate (R.length+1 - i) [vi 0,vi 0,vi 0,vsl none 0 0,vb false]).flatten).length=(R.length+1 - i)*5:=by rw [List.length_flatten];simp
   generalize hZe:(List.replicate (R.length+1 - i) [vi 0,vi 0,vi 0,vsl none 0 0,vb false]).flatten=Z at O13 hZ
   have hga:h g=none:=O13.new g rfl
   refine⟨_,_,_,rdl (R.length+1) c14 _ i h13 (by omega),?_⟩
   rw [cutG g i c14 (by omega)]
   refine OwnV.copy hT hS O13 rfl (hHv.le O13.le) (by rw [encPr_len,show Nat.min 1 (R.length+1 - i)=1 from Nat.min_eq_left (by omega)]) (by rw [encPr_len];omega) (one_encPr x) (by simp [encPr,D.PRow.enc]) fun h17 O17 k17=>⟨_,rfl,_,isW (by unfold InR;omega),?_⟩
   have e4:((i:Int)+((1:Nat):Int))=((i+1:Nat):Int):=by omega
   rw [e4]
   refine⟨_,_,_,rdl (R.length+1) c14 _ (i+1) h17 (by omega),_,_,_,rdl R.length c a i h17 hi,?_⟩
   rw [cutG g (i+1) c14 (by omega)]
   have l17:h.le h17:=O17.le
   refine OwnV.copy hT hS O17 rfl (((S.drop encPr_len hi hcap).le l17).2) (by rw [hD];congr 1;simp only [Nat.min_def];split<;>omega) (by rw [hD];omega) (one_prs _) hDne fun h23 O23 _=>⟨_,rfl,?_⟩
   refine hK _ _ h23 ?_
   have s1:setL ((R.take i).flatMap encPr++Z) (i*5) (encPr x)=(R.take i).flatMap encPr++(encPr x++Z.drop 5):=by
    have:=setL_app_r ((R.take i).flatMap encPr) Z 0 (encPr x)
    rw [Nat.add_zero,hA] at this
    rw [this]
    simp [setL,encPr_len]
   have s2:setL ((R.take i).flatMap encPr++(encPr x++Z.drop 5)) ((i+1)*5) ((R.drop i).flatMap encPr)=(R.take i).flatMap encPr++(encPr x++(R.drop i).flatMap encPr):=by
    have h1:=setL_app_r ((R.take i).flatMap encPr) (encPr x++Z.drop 5) 5 ((R.drop i).flatMap encPr)
    have h2:=setL_app_r (encPr x) (Z.drop 5) 0 ((R.drop i).flatMap encPr)
    rw [Nat.add_zero,encPr_len] at h2
    rw [hA,show i*5+5=(i+1)*5 by omega] at h1
    rw [h1,h2]
    congr 2
    unfold setL
    have h3:(Z.drop 5).drop (0+((R.drop i).flatMap encPr).length)=[]:=List.drop_eq_nil_of_le (by rw [List.length_drop,hZ,hD];omega)
    rw [List.take_zero,List.nil_append,h3,List.append_nil]
   rw [s1,s2] at O23
   exact O23.trans O.le
  ·have hle:R.length+1≤c:=by have:=of_decide_eq_false e2;omega
   obtain⟨Y,hY,O1⟩:=OwnV.grow O (m:=R.length+1) (by omega) hle
   obtain⟨g,L0,ha,hg,hL0⟩:=O.blk (by omega) (by decide)
   subst ha
   have e3:((R.length:Int)+((1:Nat):Int))=((R.length+1:Nat):Int):=by omega
   have e4:((i:Int)+((1:Nat):Int))=((i+1:Nat):Int):=by omega
   have hbg:b≠g:=fun e=>hab (by rw [e])
   refine⟨_,isW (by unfold InR;omega),?_⟩
   rw [e3]
   refine⟨_,_,_,rdh R.length c _ (R.length+1) h hle,_,isW (by unfold InR;omega),?_⟩
   rw [e4]
   refine⟨_,_,_,rdl (R.length+1) c _ (i+1) h (by omega),?_⟩
   rw [cutG g (i+1) c (by omega)]
   refine ext_overlaps (tR:=4) Tryz.func175 (by kernel_rfl) (by kernel_rfl) (by kernel_rfl) (by kernel_rfl) hT hI hbg hb hg hL0 ⟨_,rfl,fun _=>?_,fun e=>absurd e (by decide)⟩
   refine⟨_,isW (by unfold InR;omega),?_⟩
   refine⟨_,_,_,rdl (R.length+1) c _ (i+1) h (by omega),_,_,_,rdl (R.length+1) c _ i h (by omega),?_⟩
   rw [cutG g (i+1) c (by omega),cutG g i c (by omega)]
   have hsrc:=(S.drop encPr_len hi hcap).2
   rw [cutG g i c (by omega)] at hsrc
   refine OwnV.copy hT hS O1 rfl hsrc (by rw [hD];congr 1;simp only [Nat.min_def];split<;>omega) (by rw [hD];omega) (one_prs _) hDne fun h37 O37 k37=>⟨_,rfl,?_⟩
   refine⟨_,_,_,rdl (R.length+1) c _ i h37 (by omega),?_⟩
   rw [cutG g i c (by omega)]
   have hHv37:HasRow h37 (some ⟨b,0,none⟩) (encPr x):=.inr ⟨b,0,rfl,row_cells' (k37 b _ hbg hb) (by simp)⟩
   refine OwnV.copy hT hS O37 rfl hHv37 (by rw [encPr_len,show Nat.min 1 (R.length+1 - i)=1 from Nat.min_eq_left (by omega)]) (by rw [encPr_len];omega) (one_encPr x) (by simp [encPr,D.PRow.enc]) fun h41 O41 _=>⟨_,rfl,?_⟩
   refine hK _ _ h41 ?_
   have hY5:Y.length=5:=by rw [hY];omega
   have s1:setL (R.flatMap encPr++Y) ((i+1)*5) ((R.drop i).flatMap encPr)=(R.take i).flatMap encPr++(((R.drop i).flatMap encPr++Y).take 5++(R.drop i).flatMap encPr):=by
    have h1:=setL_app_r ((R.take i).flatMap encPr) ((R.drop i).flatMap encPr++Y) 5 ((R.drop i).flatMap encPr)
    rw [hA,show i*5+5=(i+1)*5 by omega,←List.append_assoc,←hAD] at h1
    rw [h1]
    congr 1
    unfold setL
    have h3:((R.drop i).flatMap encPr++Y).drop (5+((R.drop i).flatMap encPr).length)=[]:=List.drop_eq_nil_of_le (by rw [List.length_append,hY5];omega)
    rw [h3,List.append_nil]
   have s2:setL ((R.take i).flatMap encPr++(((R.drop i).flatMap encPr++Y).take 5++(R.drop i).flatMap encPr)) (i*5) (encPr x)=(R.take i).flatMap encPr++(encPr x++(R.drop i).flatMap encPr):=by
    have h1:=setL_app_r ((R.take i).flatMap encPr) (((R.drop i).flatMap encPr++Y).take 5++(R.drop i).flatMap encPr) 0 (encPr x)
    rw [Nat.add_zero,hA] at h1
    rw [h1]
    congr 1
    unfold setL
    have h5:(((R.drop i).flatMap encPr++Y).take 5).length=5:=by rw [List.length_take,List.length_append,hY5];omega
    rw [List.take_zero,List.nil_append,Nat.zero_add,encPr_len,List.drop_left' h5]
   rw [s1,s2] at O41
   exact O41
end
end Go.Proofs.YtiflgceoamkmnaaGreatDoor
