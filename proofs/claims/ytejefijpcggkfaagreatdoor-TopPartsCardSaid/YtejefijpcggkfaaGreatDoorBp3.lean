/-
  Laws and contracts on which the statement's proof stands, part 3. Conditions: those stated at each.
-/
import Derived.Shelf.SlSortCmp.NoneTotal
import Derived.Shelf.Small.Bits
import Derived.Shelf.Small.Strs
import Derived.Shelf.Small.Wraps
import Derived.Shelf.Strconv.Atoi
import Derived.Shelf.Strconv.Itoa0
import Derived.Shelf.Strconv.Itoa1
import Derived.Shelf.LaysM
import Derived.Shelf.Strconv.Itoa2
import Derived.Shelf.Strconv.Itoa3
import Derived.Shelf.Strconv.AtoiErrFast
import Derived.Shelf.Strconv.ParseIntEmpty
import Derived.Shelf.Strconv.AtoiFail
import Derived.Shelf.Strconv.Clone
import Derived.Shelf.Strconv.SyntaxError
import Derived.Shelf.LaysC
import Derived.Shelf.Strconv.ToError
import Derived.Shelf.Strconv.AtoiErr
import Derived.Shelf.Strconv.ErrVar
import Derived.Shelf.Strconv.Lower
import Derived.Shelf.Strconv.ParseUint10
import Derived.Shelf.Strconv.ParseUint10Empty
import Derived.Shelf.Strconv.ParseUint10Any
import Derived.Shelf.Strconv.ParseInt10
import Derived.Shelf.Strconv.AtoiLong
import Derived.Shelf.Strconv.AtoiInnerAll
import Derived.Shelf.Strconv.RangeError
import Derived.Shelf.Strconv.ToErrorRange
import Derived.Shelf.Strconv.AtoiAll
import Derived.Shelf.Strconv.ErrVarAll
import Derived.Shelf.Strings.Search1
import Derived.Test.YtejefijpcggkfaaGreatDoorProg
import Derived.WalkKit
import Derived.Deep.RegionWith
import Derived.Lib.ItoaNum
import Derived.Below
import Derived.Lib.AtoiErrMem
import Derived.Lib.ConvBytes
import Derived.MapKept
import Derived.Lib.Join
import Derived.WalkLawsBesides
import Derived.RangeFuncNested
import Derived.RangeFuncLeaves
import Derived.Test.YtejefijpcggkfaaGreatDoorBp2
namespace Go.Proofs
open Go.Shelf
def Tryz.lays128_ren : Go.Shelf.Ren := ⟨fun | 128 => 98 | n => n, fun | 51 => 150 | 3 => 3 | 4 => 4 | 46 => 113 | 5 => 5 | 9 => 9 | n => n, fun | n => n⟩
def Tryz.lays125_ren : Go.Shelf.Ren := ⟨fun | 125 => 59 | 128 => 98 | 129 => 99 | n => n, fun | 46 => 113 | 3 => 3 | 51 => 150 | 53 => 152 | 4 => 4 | 5 => 5 | 9 => 9 | n => n, fun | n => n⟩
def Tryz.lays137_ren : Go.Shelf.Ren := ⟨fun | 137 => 104 | 217 => 124 | 266 => 139 | n => n, fun | 9 => 9 | 5 => 5 | 3 => 3 | n => n, fun | n => n⟩
open Go.RowKit in
def Tryz.lays215_ren : Go.Shelf.Ren := ⟨fun | 215 => 100 | n => n, fun | 3 => 3 | 4 => 4 | n => n, fun | n => n⟩
open Go.RowKit in
def Tryz.lays122_ren : Go.Shelf.Ren := ⟨fun | 122 => 61 | 215 => 100 | n => n, fun | 3 => 3 | 4 => 4 | n => n, fun | n => n⟩
open Go.RowKit in
def Tryz.lays244_ren : Go.Shelf.Ren := ⟨fun | 244 => 107 | 247 => 129 | 287 => 142 | 321 => 147 | 322 => 148 | n => n, fun | 9 => 9 | 3 => 3 | 75 => 42 | 4 => 4 | 5 => 5 | 167 => 176 | 37 => 177 | 0 => 0 | 85 => 178 | 2 => 2 | 53 => 152 | 175 => 189 | 46 => 113 | 21 => 21 | 80 => 132 | n => n, fun | n => n⟩
open Go.RowKit in
def Tryz.lays172_ren : Go.Shelf.Ren := ⟨fun | 172 => 74 | 244 => 107 | 245 => 108 | 247 => 129 | 279 => 130 | 280 => 131 | 281 => 132 | 282 => 133 | 287 => 142 | 316 => 143 | 171 => 145 | 205 => 144 | 321 => 147 | 322 => 148 | 243 => 149 | 246 => 151 | 283 => 153 | 284 => 154 | 285 => 155 | 286 => 156 | 129 => 99 | 317 => 158 | 318 => 159 | 319 => 160 | 320 => 161 | 337 => 162 | 338 => 163 | n => n, fun | 9 => 9 | 3 => 3 | 75 => 42 | 76 => 128 | 4 => 4 | 5 => 5 | 167 => 176 | 37 => 177 | 0 => 0 | 85 => 178 | 2 => 2 | 168 => 180 | 53 => 152 | 175 => 189 | 46 => 113 | 210 => 193 | 127 => 196 | 145 => 199 | 143 => 197 | 21 => 21 | 171 => 201 | 173 => 203 | 212 => 208 | 51 => 150 | 20 => 20 | 213 => 209 | 232 => 210 | 233 => 211 | 80 => 132 | n => n, fun | 15 => 1 | 16 => 2 | 17 => 5 | 18 => 6 | 19 => 7 | n => n⟩
open Go.RowKit in
def Tryz.lays129_ren : Go.Shelf.Ren := ⟨fun | 129 => 99 | n => n, fun | 53 => 152 | 3 => 3 | 4 => 4 | 46 => 113 | 5 => 5 | 9 => 9 | n => n, fun | n => n⟩
def Tryz.lays317_ren : Go.Shelf.Ren := ⟨fun | 317 => 158 | n => n, fun | 3 => 3 | 46 => 113 | n => n, fun | n => n⟩
open Go.Lib in
def Tryz.lays318_ren : Go.Shelf.Ren := ⟨fun | 318 => 159 | n => n, fun | 3 => 3 | 4 => 4 | n => n, fun | n => n⟩
open Go.Lib in
def Tryz.lays283_ren : Go.Shelf.Ren := ⟨fun | 283 => 153 | n => n, fun | 3 => 3 | 9 => 9 | 4 => 4 | n => n, fun | n => n⟩
open Go.Lib in
def Tryz.laysM284_ren : Go.Shelf.Ren := ⟨fun | 284 => 154 | 129 => 99 | 317 => 158 | 318 => 159 | n => n, fun | 53 => 152 | 3 => 3 | 212 => 208 | 0 => 0 | 4 => 4 | 46 => 113 | 5 => 5 | 9 => 9 | n => n, fun | 17 => 5 | n => n⟩
open Go.Lib in
def Tryz.lays285_ren : Go.Shelf.Ren := ⟨fun | 285 => 155 | n => n, fun | 37 => 177 | 53 => 152 | 3 => 3 | 4 => 4 | 51 => 150 | 9 => 9 | 5 => 5 | 0 => 0 | n => n, fun | n => n⟩
open Go.RowKit Go.Sort Go.Lib in
def Tryz.laysM246_ren : Go.Shelf.Ren := ⟨fun | 246 => 151 | 283 => 153 | 284 => 154 | 285 => 155 | 286 => 156 | 129 => 99 | 317 => 158 | 318 => 159 | 319 => 160 | 320 => 161 | 337 => 162 | 338 => 163 | n => n, fun | 2 => 2 | 3 => 3 | 9 => 9 | 4 => 4 | 171 => 201 | 0 => 0 | 53 => 152 | 37 => 177 | 5 => 5 | 173 => 203 | 212 => 208 | 51 => 150 | 20 => 20 | 213 => 209 | 46 => 113 | 232 => 210 | 233 => 211 | n => n, fun | 17 => 5 | 18 => 6 | 19 => 7 | n => n⟩
open Go.RowKit Go.Sort Go.Lib in
def Tryz.lays246_ren : Go.Shelf.Ren := ⟨fun | 246 => 151 | 283 => 153 | 284 => 154 | 285 => 155 | 286 => 156 | 129 => 99 | 317 => 158 | 318 => 159 | 319 => 160 | 320 => 161 | 337 => 162 | 338 => 163 | n => n, fun | 2 => 2 | 3 => 3 | 9 => 9 | 4 => 4 | 171 => 201 | 0 => 0 | 53 => 152 | 37 => 177 | 5 => 5 | 173 => 203 | 212 => 208 | 51 => 150 | 20 => 20 | 213 => 209 | 46 => 113 | 232 => 210 | 233 => 211 | n => n, fun | 17 => 5 | 18 => 6 | 19 => 7 | n => n⟩
open Go.RowKit Go.Sort Go.Lib in
def Tryz.laysM243_ren : Go.Shelf.Ren := ⟨fun | 243 => 149 | 246 => 151 | 283 => 153 | 284 => 154 | 285 => 155 | 286 => 156 | 129 => 99 | 317 => 158 | 318 => 159 | 319 => 160 | 320 => 161 | 337 => 162 | 338 => 163 | n => n, fun | 3 => 3 | 9 => 9 | 2 => 2 | 4 => 4 | 171 => 201 | 0 => 0 | 53 => 152 | 37 => 177 | 5 => 5 | 173 => 203 | 212 => 208 | 51 => 150 | 20 => 20 | 213 => 209 | 46 => 113 | 232 => 210 | 233 => 211 | n => n, fun | 17 => 5 | 18 => 6 | 19 => 7 | n => n⟩
open Go.RowKit Go.Sort Go.Lib in
def Tryz.lays243_ren : Go.Shelf.Ren := ⟨fun | 243 => 149 | 246 => 151 | 283 => 153 | 284 => 154 | 285 => 155 | 286 => 156 | 129 => 99 | 317 => 158 | 318 => 159 | 319 => 160 | 320 => 161 | 337 => 162 | 338 => 163 | n => n, fun | 3 => 3 | 9 => 9 | 2 => 2 | 4 => 4 | 171 => 201 | 0 => 0 | 53 => 152 | 37 => 177 | 5 => 5 | 173 => 203 | 212 => 208 | 51 => 150 | 20 => 20 | 213 => 209 | 46 => 113 | 232 => 210 | 233 => 211 | n => n, fun | 17 => 5 | 18 => 6 | 19 => 7 | n => n⟩
open Go.RowKit Go.Sort Go.Lib in
def Tryz.laysM171_ren : Go.Shelf.Ren := ⟨fun | 171 => 145 | 243 => 149 | 246 => 151 | 283 => 153 | 284 => 154 | 285 => 155 | 286 => 156 | 129 => 99 | 317 => 158 | 318 => 159 | 319 => 160 | 320 => 161 | 337 => 162 | 338 => 163 | n => n, fun | 3 => 3 | 9 => 9 | 2 => 2 | 4 => 4 | 171 => 201 | 0 => 0 | 53 => 152 | 37 => 177 | 5 => 5 | 173 => 203 | 212 => 208 | 51 => 150 | 20 => 20 | 213 => 209 | 46 => 113 | 232 => 210 | 233 => 211 | n => n, fun | 17 => 5 | 18 => 6 | 19 => 7 | n => n⟩
theorem Tryz.laysM171 : Go.Proofs.LaysM.n171 Tryz.prog Tryz.laysM171_ren := {
  mixed := by kernel_rfl
  f129 := Tryz.func99.trans (congrArg some (by kernel_rfl))
  f171 := Tryz.func145.trans (congrArg some (by kernel_rfl))
  f243 := Tryz.func149.trans (congrArg some (by kernel_rfl))
  f246 := Tryz.func151.trans (congrArg some (by kernel_rfl))
  f283 := Tryz.func153.trans (congrArg some (by kernel_rfl))
  f284 := Tryz.func154.trans (congrArg some (by kernel_rfl))
  f285 := Tryz.func155.trans (congrArg some (by kernel_rfl))
  f286 := Tryz.func156.trans (congrArg some (by kernel_rfl))
  f317 := Tryz.func158.trans (congrArg some (by kernel_rfl))
  f318 := Tryz.func159.trans (congrArg some (by kernel_rfl))
  f319 := Tryz.func160.trans (congrArg some (by kernel_rfl))
  f320 := Tryz.func161.trans (congrArg some (by kernel_rfl))
  f337 := Tryz.func162.trans (congrArg some (by kernel_rfl))
  f338 := Tryz.func163.trans (congrArg some (by kernel_rfl))
  t0 := Tryz.underlying0
  a0 := Tryz.isAgg0
  z0 := Tryz.sizeOf0
  v0 := Tryz.zeroValue0
  t2 := Tryz.underlying2
  a2 := Tryz.isAgg2
  z2 := Tryz.sizeOf2
  v2 := Tryz.zeroValue2
  t3 := Tryz.underlying3
  a3 := Tryz.isAgg3
  z3 := Tryz.sizeOf3
  v3 := Tryz.zeroValue3
  t4 := Tryz.underlying4
  a4 := Tryz.isAgg4
  z4 := Tryz.sizeOf4
  v4 := Tryz.zeroValue4
  t5 := Tryz.underlying5
  a5 := Tryz.isAgg5
  z5 := Tryz.sizeOf5
  v5 := Tryz.zeroValue5
  t9 := Tryz.underlying9
  a9 := Tryz.isAgg9
  z9 := Tryz.sizeOf9
  v9 := Tryz.zeroValue9
  t20 := Tryz.underlying20
  a20 := Tryz.isAgg20
  z20 := Tryz.sizeOf20
  v20 := Tryz.zeroValue20
  t37 := Tryz.underlying177
  a37 := Tryz.isAgg177
  z37 := Tryz.sizeOf177
  v37 := Tryz.zeroValue177
  t46 := Tryz.underlying113
  a46 := Tryz.isAgg113
  z46 := Tryz.sizeOf113
  v46 := Tryz.zeroValue113
  t51 := Tryz.underlying150
  a51 := Tryz.isAgg150
  z51 := Tryz.sizeOf150
  v51 := Tryz.zeroValue150
  t53 := Tryz.underlying152
  a53 := Tryz.isAgg152
  z53 := Tryz.sizeOf152
  v53 := Tryz.zeroValue152
  t171 := Tryz.underlying201
  a171 := Tryz.isAgg201
  z171 := Tryz.sizeOf201
  v171 := Tryz.zeroValue201
  t173 := Tryz.underlying203
  a173 := Tryz.isAgg203
  z173 := Tryz.sizeOf203
  v173 := Tryz.zeroValue203
  t212 := Tryz.underlying208
  a212 := Tryz.isAgg208
  z212 := Tryz.sizeOf208
  v212 := Tryz.zeroValue208
  t213 := Tryz.underlying209
  a213 := Tryz.isAgg209
  z213 := Tryz.sizeOf209
  t232 := Tryz.underlying210
  a232 := Tryz.isAgg210
  z232 := Tryz.sizeOf210
  v232 := Tryz.zeroValue210
  t233 := Tryz.underlying211
  a233 := Tryz.isAgg211
  z233 := Tryz.sizeOf211
  v233 := Tryz.zeroValue211
  g17 := by kernel_rfl
  g18 := by kernel_rfl
  g19 := by kernel_rfl
  i0 := by kernel_rfl
  i2 := by kernel_rfl
  i3 := by kernel_rfl
  i4 := by kernel_rfl
  i5 := by kernel_rfl
  i9 := by kernel_rfl
  i20 := by kernel_rfl
  i37 := by kernel_rfl
  i46 := by kernel_rfl
  i51 := by kernel_rfl
  i53 := by kernel_rfl
  i171 := by kernel_rfl
  i173 := by kernel_rfl
  i212 := by kernel_rfl
  i232 := by kernel_rfl
  i233 := by kernel_rfl
  m17 := by kernel_rfl
  m18 := by kernel_rfl
  m19 := by kernel_rfl }
open Go.RowKit Go.Sort Go.Lib in
theorem Tryz.strconv_Itoa (n : Int) (h0 : -9223372036854775808 ≤ n) (h1 : n ≤ 9223372036854775807) (w : World) (htab : Lib.TabIs Tryz.prog w "internal/strconv.uint64pow10" .u64 Lib.pow10Tab) :
    Calls Tryz.prog 145 #[.int .i64 n] w fun e w' => e = .returned (.string ⟨(Lib.itoa n).toArray⟩) ∧ ∃ k os, w' = grow (w.drewN k) os := Any.strconv_Itoa Tryz.laysM171 n h0 h1 w htab
def Tryz.lays171_ren : Go.Shelf.Ren := ⟨fun | 171 => 145 | 243 => 149 | 246 => 151 | 283 => 153 | 284 => 154 | 285 => 155 | 286 => 156 | 129 => 99 | 317 => 158 | 318 => 159 | 319 => 160 | 320 => 161 | 337 => 162 | 338 => 163 | n => n, fun | 3 => 3 | 9 => 9 | 2 => 2 | 4 => 4 | 171 => 201 | 0 => 0 | 53 => 152 | 37 => 177 | 5 => 5 | 173 => 203 | 212 => 208 | 51 => 150 | 20 => 20 | 213 => 209 | 46 => 113 | 232 => 210 | 233 => 211 | n => n, fun | 17 => 5 | 18 => 6 | 19 => 7 | n => n⟩
open Go.RowKit Go.Sort Go.Lib in
open Go.RowKit in
def Tryz.lays247_ren : Go.Shelf.Ren := ⟨fun | 247 => 129 | 287 => 142 | 321 => 147 | 322 => 148 | n => n, fun | 9 => 9 | 3 => 3 | 2 => 2 | 75 => 42 | 4 => 4 | 167 => 176 | 5 => 5 | 53 => 152 | 175 => 189 | 46 => 113 | 37 => 177 | 0 => 0 | 21 => 21 | 80 => 132 | n => n, fun | n => n⟩
open Go.RowKit in
open Go.RowKit in
open Go.RowKit in
def Tryz.laysM316_ren : Go.Shelf.Ren := ⟨fun | 316 => 143 | n => n, fun | 9 => 9 | 3 => 3 | 4 => 4 | 37 => 177 | 0 => 0 | 127 => 196 | 5 => 5 | n => n, fun | n => n⟩
open Go.RowKit in
def Tryz.laysM279_ren : Go.Shelf.Ren := ⟨fun | 279 => 130 | 316 => 143 | n => n, fun | 9 => 9 | 168 => 180 | 75 => 42 | 210 => 193 | 3 => 3 | 4 => 4 | 37 => 177 | 0 => 0 | 127 => 196 | 80 => 132 | 5 => 5 | n => n, fun | 15 => 1 | n => n⟩
open Go.RowKit in
def Tryz.laysC245_ren : Go.Shelf.Ren := ⟨fun | 245 => 108 | 279 => 130 | 280 => 131 | 281 => 132 | 282 => 133 | 316 => 143 | 171 => 145 | 205 => 144 | 243 => 149 | 246 => 151 | 283 => 153 | 284 => 154 | 285 => 155 | 286 => 156 | 129 => 99 | 317 => 158 | 318 => 159 | 319 => 160 | 320 => 161 | 337 => 162 | 338 => 163 | n => n, fun | 9 => 9 | 3 => 3 | 75 => 42 | 167 => 176 | 4 => 4 | 168 => 180 | 210 => 193 | 37 => 177 | 0 => 0 | 127 => 196 | 145 => 199 | 143 => 197 | 2 => 2 | 171 => 201 | 53 => 152 | 5 => 5 | 173 => 203 | 212 => 208 | 51 => 150 | 20 => 20 | 213 => 209 | 46 => 113 | 232 => 210 | 233 => 211 | 80 => 132 | n => n, fun | 15 => 1 | 16 => 2 | 17 => 5 | 18 => 6 | 19 => 7 | n => n⟩
open Go.RowKit in
def Tryz.laysC172_ren : Go.Shelf.Ren := ⟨fun | 172 => 74 | 244 => 107 | 245 => 108 | 247 => 129 | 279 => 130 | 280 => 131 | 281 => 132 | 282 => 133 | 287 => 142 | 316 => 143 | 171 => 145 | 205 => 144 | 321 => 147 | 322 => 148 | 243 => 149 | 246 => 151 | 283 => 153 | 284 => 154 | 285 => 155 | 286 => 156 | 129 => 99 | 317 => 158 | 318 => 159 | 319 => 160 | 320 => 161 | 337 => 162 | 338 => 163 | n => n, fun | 9 => 9 | 3 => 3 | 75 => 42 | 76 => 128 | 4 => 4 | 5 => 5 | 167 => 176 | 37 => 177 | 0 => 0 | 85 => 178 | 2 => 2 | 168 => 180 | 53 => 152 | 175 => 189 | 46 => 113 | 210 => 193 | 127 => 196 | 145 => 199 | 143 => 197 | 21 => 21 | 171 => 201 | 173 => 203 | 212 => 208 | 51 => 150 | 20 => 20 | 213 => 209 | 232 => 210 | 233 => 211 | 80 => 132 | n => n, fun | 15 => 1 | 16 => 2 | 17 => 5 | 18 => 6 | 19 => 7 | n => n⟩
theorem Tryz.laysC172 : Go.Proofs.LaysC.n172 Tryz.prog Tryz.laysC172_ren := {
  mixed := by kernel_rfl
  f129 := Tryz.func99.trans (congrArg some (by kernel_rfl))
  f171 := Tryz.func145.trans (congrArg some (by kernel_rfl))
  f172 := Tryz.func74.trans (congrArg some (by kernel_rfl))
  f205 := Tryz.func144.trans (congrArg some (by kernel_rfl))
  f243 := Tryz.func149.trans (congrArg some (by kernel_rfl))
  f244 := Tryz.func107.trans (congrArg some (by kernel_rfl))
  f245 := Tryz.func108.trans (congrArg some (by kernel_rfl))
  f246 := Tryz.func151.trans (congrArg some (by kernel_rfl))
  f247 := Tryz.func129.trans (congrArg some (by kernel_rfl))
  f279 := Tryz.func130.trans (congrArg some (by kernel_rfl))
  f280 := Tryz.func131.trans (congrArg some (by kernel_rfl))
  f281 := Tryz.func132.trans (congrArg some (by kernel_rfl))
  f282 := Tryz.func133.trans (congrArg some (by kernel_rfl))
  f283 := Tryz.func153.trans (congrArg some (by kernel_rfl))
  f284 := Tryz.func154.trans (congrArg some (by kernel_rfl))
  f285 := Tryz.func155.trans (congrArg some (by kernel_rfl))
  f286 := Tryz.func156.trans (congrArg some (by kernel_rfl))
  f287 := Tryz.func142.trans (congrArg some (by kernel_rfl))
  f316 := Tryz.func143.trans (congrArg some (by kernel_rfl))
  f317 := Tryz.func158.trans (congrArg some (by kernel_rfl))
  f318 := Tryz.func159.trans (congrArg some (by kernel_rfl))
  f319 := Tryz.func160.trans (congrArg some (by kernel_rfl))
  f320 := Tryz.func161.trans (congrArg some (by kernel_rfl))
  f321 := Tryz.func147.trans (congrArg some (by kernel_rfl))
  f322 := Tryz.func148.trans (congrArg some (by kernel_rfl))
  f337 := Tryz.func162.trans (congrArg some (by kernel_rfl))
  f338 := Tryz.func163.trans (congrArg some (by kernel_rfl))
  t0 := Tryz.underlying0
  a0 := Tryz.isAgg0
  z0 := Tryz.sizeOf0
  v0 := Tryz.zeroValue0
  t2 := Tryz.underlying2
  a2 := Tryz.isAgg2
  z2 := Tryz.sizeOf2
  v2 := Tryz.zeroValue2
  t3 := Tryz.underlying3
  a3 := Tryz.isAgg3
  z3 := Tryz.sizeOf3
  v3 := Tryz.zeroValue3
  t4 := Tryz.underlying4
  a4 := Tryz.isAgg4
  z4 := Tryz.sizeOf4
  v4 := Tryz.zeroValue4
  t5 := Tryz.underlying5
  a5 := Tryz.isAgg5
  z5 := Tryz.sizeOf5
  v5 := Tryz.zeroValue5
  t9 := Tryz.underlying9
  a9 := Tryz.isAgg9
  z9 := Tryz.sizeOf9
  v9 := Tryz.zeroValue9
  t20 := Tryz.underlying20
  a20 := Tryz.isAgg20
  z20 := Tryz.sizeOf20
  v20 := Tryz.zeroValue20
  t21 := Tryz.underlying21
  a21 := Tryz.isAgg21
  z21 := Tryz.sizeOf21
  v21 := Tryz.zeroValue21
  t37 := Tryz.underlying177
  a37 := Tryz.isAgg177
  z37 := Tryz.sizeOf177
  v37 := Tryz.zeroValue177
  t46 := Tryz.underlying113
  a46 := Tryz.isAgg113
  z46 := Tryz.sizeOf113
  v46 := Tryz.zeroValue113
  t51 := Tryz.underlying150
  a51 := Tryz.isAgg150
  z51 := Tryz.sizeOf150
  v51 := Tryz.zeroValue150
  t53 := Tryz.underlying152
  a53 := Tryz.isAgg152
  z53 := Tryz.sizeOf152
  v53 := Tryz.zeroValue152
  t75 := Tryz.underlying42
  a75 := Tryz.isAgg42
  z75 := Tryz.sizeOf42
  v75 := Tryz.zeroValue42
  t76 := Tryz.underlying128
  a76 := Tryz.isAgg128
  z76 := Tryz.sizeOf128
  v76 := Tryz.zeroValue128
  t85 := Tryz.underlying178
  a85 := Tryz.isAgg178
  z85 := Tryz.sizeOf178
  v85 := Tryz.zeroValue178
  t127 := Tryz.underlying196
  a127 := Tryz.isAgg196
  z127 := Tryz.sizeOf196
  v127 := Tryz.zeroValue196
  t143 := Tryz.underlying197
  a143 := Tryz.isAgg197
  z143 := Tryz.sizeOf197
  v143 := Tryz.zeroValue197
  t145 := Tryz.underlying199
  a145 := Tryz.isAgg199
  z145 := Tryz.sizeOf199
  v145 := Tryz.zeroValue199
  t167 := Tryz.underlying176
  a167 := Tryz.isAgg176
  z167 := Tryz.sizeOf176
  v167 := Tryz.zeroValue176
  t168 := Tryz.underlying180
  a168 := Tryz.isAgg180
  z168 := Tryz.sizeOf180
  v168 := Tryz.zeroValue180
  t171 := Tryz.underlying201
  a171 := Tryz.isAgg201
  z171 := Tryz.sizeOf201
  v171 := Tryz.zeroValue201
  t173 := Tryz.underlying203
  a173 := Tryz.isAgg203
  z173 := Tryz.sizeOf203
  v173 := Tryz.zeroValue203
  t175 := Tryz.underlying189
  a175 := Tryz.isAgg189
  z175 := Tryz.sizeOf189
  v175 := Tryz.zeroValue189
  t210 := Tryz.underlying193
  a210 := Tryz.isAgg193
  z210 := Tryz.sizeOf193
  v210 := Tryz.zeroValue193
  t212 := Tryz.underlying208
  a212 := Tryz.isAgg208
  z212 := Tryz.sizeOf208
  v212 := Tryz.zeroValue208
  t213 := Tryz.underlying209
  a213 := Tryz.isAgg209
  z213 := Tryz.sizeOf209
  t232 := Tryz.underlying210
  a232 := Tryz.isAgg210
  z232 := Tryz.sizeOf210
  v232 := Tryz.zeroValue210
  t233 := Tryz.underlying211
  a233 := Tryz.isAgg211
  z233 := Tryz.sizeOf211
  v233 := Tryz.zeroValue211
  g15 := by kernel_rfl
  g16 := by kernel_rfl
  g17 := by kernel_rfl
  g18 := by kernel_rfl
  g19 := by kernel_rfl
  t80 := Tryz.underlying132
  a80 := Tryz.isAgg132
  z80 := Tryz.sizeOf132
  v80 := Tryz.zeroValue132
  i0 := by kernel_rfl
  i2 := by kernel_rfl
  i3 := by kernel_rfl
  i4 := by kernel_rfl
  i5 := by kernel_rfl
  i9 := by kernel_rfl
  i20 := by kernel_rfl
  i21 := by kernel_rfl
  i37 := by kernel_rfl
  i46 := by kernel_rfl
  i51 := by kernel_rfl
  i53 := by kernel_rfl
  i75 := by kernel_rfl
  i76 := by kernel_rfl
  i80 := by kernel_rfl
  i85 := by kernel_rfl
  i127 := by kernel_rfl
  i143 := by kernel_rfl
  i145 := by kernel_rfl
  i167 := by kernel_rfl
  i168 := by kernel_rfl
  i171 := by kernel_rfl
  i173 := by kernel_rfl
  i175 := by kernel_rfl
  i210 := by kernel_rfl
  i212 := by kernel_rfl
  i232 := by kernel_rfl
  i233 := by kernel_rfl
  m15 := by kernel_rfl
  m16 := by kernel_rfl
  m17 := by kernel_rfl
  m18 := by kernel_rfl
  m19 := by kernel_rfl
  c0 := by kernel_rfl
  c2 := by kernel_rfl
  c3 := by kernel_rfl
  c4 := by kernel_rfl
  c5 := by kernel_rfl
  c9 := by kernel_rfl
  c20 := by kernel_rfl
  c21 := by kernel_rfl
  c37 := by kernel_rfl
  c46 := by kernel_rfl
  c51 := by kernel_rfl
  c53 := by kernel_rfl
  c75 := by kernel_rfl
  c76 := by kernel_rfl
  c80 := by kernel_rfl
  c85 := by kernel_rfl
  c127 := by kernel_rfl
  c143 := by kernel_rfl
  c145 := by kernel_rfl
  c167 := by kernel_rfl
  c168 := by kernel_rfl
  c171 := by kernel_rfl
  c173 := by kernel_rfl
  c175 := by kernel_rfl
  c210 := by kernel_rfl
  c212 := by kernel_rfl
  c213 := by kernel_rfl
  c232 := by kernel_rfl
  c233 := by kernel_rfl }
open Go.RowKit in
open Go.RowKit in
def Tryz.lays321_ren : Go.Shelf.Ren := ⟨fun | 321 => 147 | n => n, fun | 5 => 5 | n => n, fun | n => n⟩
open Go.RowKit in
def Tryz.lays287_ren : Go.Shelf.Ren := ⟨fun | 287 => 142 | 321 => 147 | 322 => 148 | n => n, fun | 9 => 9 | 3 => 3 | 53 => 152 | 75 => 42 | 4 => 4 | 167 => 176 | 5 => 5 | 46 => 113 | 37 => 177 | 0 => 0 | 21 => 21 | 80 => 132 | n => n, fun | n => n⟩
open Go.RowKit in
open Go.RowKit in
def Tryz.laysC247_ren : Go.Shelf.Ren := ⟨fun | 247 => 129 | 287 => 142 | 321 => 147 | 322 => 148 | n => n, fun | 9 => 9 | 3 => 3 | 2 => 2 | 75 => 42 | 4 => 4 | 167 => 176 | 5 => 5 | 53 => 152 | 175 => 189 | 46 => 113 | 37 => 177 | 0 => 0 | 21 => 21 | 80 => 132 | n => n, fun | n => n⟩
open Go.RowKit in
def Tryz.laysC244_ren : Go.Shelf.Ren := ⟨fun | 244 => 107 | 247 => 129 | 287 => 142 | 321 => 147 | 322 => 148 | n => n, fun | 9 => 9 | 3 => 3 | 75 => 42 | 4 => 4 | 5 => 5 | 167 => 176 | 37 => 177 | 0 => 0 | 85 => 178 | 2 => 2 | 53 => 152 | 175 => 189 | 46 => 113 | 21 => 21 | 80 => 132 | n => n, fun | n => n⟩
open Go.RowKit in
open Go.RowKit in
def Tryz.laysM280_ren : Go.Shelf.Ren := ⟨fun | 280 => 131 | 316 => 143 | n => n, fun | 9 => 9 | 168 => 180 | 75 => 42 | 210 => 193 | 3 => 3 | 4 => 4 | 37 => 177 | 0 => 0 | 127 => 196 | 80 => 132 | 5 => 5 | n => n, fun | 16 => 2 | n => n⟩
open Go.RowKit in
open Go.RowKit in
open Go.RowKit in
theorem Tryz.strconv_Atoi_ok (s : ByteArray) (hmax : s.size ≤ 9223372036854775806) (v : Int) (h : Lib.atoiAll s.data.toList = .ok v) (w : World) :
    Calls Tryz.prog 74 #[.string s] w fun e w' => e = .returned (.tuple #[.int .i64 v, .nilIface]) ∧ (w' = w ∨ ∃ t, w' = Lib.bytesWorld w 5 t) := Any.strconv_Atoi_ok Tryz.laysC172 s hmax v h w
open Go.RowKit in
open Go.RowKit in
def Tryz.lays217_ren : Go.Shelf.Ren := ⟨fun | 217 => 124 | 266 => 139 | n => n, fun | 9 => 9 | 5 => 5 | 3 => 3 | n => n, fun | n => n⟩
open Go.RowKit Go.Lib in
def Tryz.sortPanes_ren : Go.Shelf.Ren := ⟨fun | 6 => 27 | 15 => 59 | 14 => 58 | 28 => 98 | 29 => 99 | 20 => 90 | 21 => 91 | 22 => 92 | 23 => 93 | 24 => 94 | 25 => 95 | 26 => 96 | 27 => 97 | 46 => 117 | 47 => 118 | 48 => 119 | 49 => 120 | 50 => 121 | 57 => 138 | n => n, fun | 22 => 55 | 24 => 64 | 25 => 74 | 3 => 3 | 39 => 113 | 0 => 0 | 53 => 150 | 55 => 152 | 4 => 4 | 46 => 143 | 45 => 142 | 50 => 147 | 5 => 5 | 9 => 9 | 66 => 168 | 70 => 172 | 76 => 186 | 77 => 163 | n => n, fun | n => n⟩
theorem Tryz.sortPanes : Go.Proofs.SlLaysF0.n6 Tryz.prog Tryz.sortPanes_ren := {
  mixed := by kernel_rfl
  f6 := ⟨Tryz.f27.name, by decide, Tryz.func27.trans (congrArg some (by kernel_rfl))⟩
  f14 := ⟨Tryz.f58.name, by decide, Tryz.func58.trans (congrArg some (by kernel_rfl))⟩
  f15 := Tryz.func59.trans (congrArg some (by kernel_rfl))
  f20 := ⟨Tryz.f90.name, by decide, Tryz.func90.trans (congrArg some (by kernel_rfl))⟩
  f21 := ⟨Tryz.f91.name, by decide, Tryz.func91.trans (congrArg some (by kernel_rfl))⟩
  f22 := ⟨Tryz.f92.name, by decide, Tryz.func92.trans (congrArg some (by kernel_rfl))⟩
  f23 := ⟨Tryz.f93.name, by decide, Tryz.func93.trans (congrArg some (by kernel_rfl))⟩
  f24 := ⟨Tryz.f94.name, by decide, Tryz.func94.trans (congrArg some (by kernel_rfl))⟩
  f25 := ⟨Tryz.f95.name, by decide, Tryz.func95.trans (congrArg some (by kernel_rfl))⟩
  f26 := ⟨Tryz.f96.name, by decide, Tryz.func96.trans (congrArg some (by kernel_rfl))⟩
  f27 := ⟨Tryz.f97.name, by decide, Tryz.func97.trans (congrArg some (by kernel_rfl))⟩
  f28 := Tryz.func98.trans (congrArg some (by kernel_rfl))
  f29 := Tryz.func99.trans (congrArg some (by kernel_rfl))
  f46 := ⟨Tryz.f117.name, by decide, Tryz.func117.trans (congrArg some (by kernel_rfl))⟩
  f47 := Tryz.func118.trans (congrArg some (by kernel_rfl))
  f48 := Tryz.func119.trans (congrArg some (by kernel_rfl))
  f49 := ⟨Tryz.f120.name, by decide, Tryz.func120.trans (congrArg some (by kernel_rfl))⟩
  f50 := ⟨Tryz.f121.name, by decide, Tryz.func121.trans (congrArg some (by kernel_rfl))⟩
  f57 := ⟨Tryz.f138.name, by decide, Tryz.func138.trans (congrArg some (by kernel_rfl))⟩
  t0 := Tryz.underlying0
  a0 := Tryz.isAgg0
  z0 := Tryz.sizeOf0
  v0 := Tryz.zeroValue0
  t3 := Tryz.underlying3
  a3 := Tryz.isAgg3
  z3 := Tryz.sizeOf3
  v3 := Tryz.zeroValue3
  t4 := Tryz.underlying4
  a4 := Tryz.isAgg4
  z4 := Tryz.sizeOf4
  v4 := Tryz.zeroValue4
  t5 := Tryz.underlying5
  a5 := Tryz.isAgg5
  z5 := Tryz.sizeOf5
  v5 := Tryz.zeroValue5
  t9 := Tryz.underlying9
  a9 := Tryz.isAgg9
  z9 := Tryz.sizeOf9
  v9 := Tryz.zeroValue9
  t22 := Tryz.underlying55
  a22 := Tryz.isAgg55
  z22 := Tryz.sizeOf55
  v22 := Tryz.zeroValue55
  t25 := Tryz.underlying74
  a25 := Tryz.isAgg74
  z25 := Tryz.sizeOf74
  v25 := Tryz.zeroValue74
  t39 := Tryz.underlying113
  a39 := Tryz.isAgg113
  z39 := Tryz.sizeOf113
  v39 := Tryz.zeroValue113
  t45 := Tryz.underlying142
  a45 := Tryz.isAgg142
  z45 := Tryz.sizeOf142
  v45 := Tryz.zeroValue142
  t46 := Tryz.underlying143
  a46 := Tryz.isAgg143
  z46 := Tryz.sizeOf143
  v46 := Tryz.zeroValue143
  t50 := Tryz.underlying147
  a50 := Tryz.isAgg147
  z50 := Tryz.sizeOf147
  v50 := Tryz.zeroValue147
  t53 := Tryz.underlying150
  a53 := Tryz.isAgg150
  z53 := Tryz.sizeOf150
  v53 := Tryz.zeroValue150
  t55 := Tryz.underlying152
  a55 := Tryz.isAgg152
  z55 := Tryz.sizeOf152
  v55 := Tryz.zeroValue152
  t66 := Tryz.underlying168
  a66 := Tryz.isAgg168
  z66 := Tryz.sizeOf168
  v66 := Tryz.zeroValue168
  t70 := Tryz.underlying172
  a70 := Tryz.isAgg172
  z70 := Tryz.sizeOf172
  v70 := Tryz.zeroValue172
  t76 := Tryz.underlying186
  a76 := Tryz.isAgg186
  z76 := Tryz.sizeOf186
  v76 := Tryz.zeroValue186
  t77 := Tryz.underlying163
  a77 := Tryz.isAgg163
  z77 := Tryz.sizeOf163
  v77 := Tryz.zeroValue163 }
end Go.Proofs
namespace Go.Vc
open Go
set_option linter.unusedVariables false
section
variable {P : Program}
end
end Go.Vc
namespace Go.Proofs.YtejefijpcggkfaaGreatDoor
open Go Go.Vc Go.RowKit
set_option linter.unusedVariables false
set_option maxRecDepth 100000
def decM (n : Int) : Nat := if n < 0 then 2 * n.natAbs + 1 else 2 * n.natAbs
theorem callOK_below {f : FuncId} {args : List Value} {h : Hp} {K : Value → Hp → Prop} (H : ∀ w, Sub h w → Calls Tryz.prog f args.toArray w fun e w' => ∃ v, e = .returned v ∧ Below w.heap.size w w' ∧ K v h) : CallOK Tryz.prog f args h K := by
  intro w hs
  refine (H w hs).mono ?_
  rintro e w' ⟨v, he, hB, hK⟩
  refine ⟨v, h, he, fun b o hb => ?_, ⟨hB.os, hB.tape, hB.output, hB.size, fun b hb hn => ⟨hB.block b hb, hn⟩⟩, hK⟩
  have := hs b o hb
  have hlt := (Array.getElem?_eq_some_iff.1 this).1
  rw [hB.block b hlt]
  exact this
end Go.Proofs.YtejefijpcggkfaaGreatDoor
namespace Go.Proofs.YtejefijpcggkfaaGreatDoor
open Go Go.Vc Go.RowKit
set_option linter.unusedVariables false
set_option maxRecDepth 100000
def TabP (h : Hp) : Prop := ∀ w, Sub h w → Lib.TabIs Tryz.prog w "internal/strconv.uint64pow10" .u64 Lib.pow10Tab
theorem sub_le {h h' : Hp} {w : World} (hl : h.le h') (hs : Sub h' w) : Sub h w := fun b o ho => hs b o (hl b o ho)
theorem TabP.le {h h' : Hp} (T : TabP h) (hl : h.le h') : TabP h' := fun w hs => T w (sub_le hl hs)
theorem vars_sub {W w : World} {name : String} {cs : Array Value} (hT : W.var? Tryz.prog name = some cs) (hs : Sub (hpOf W) w) : w.var? Tryz.prog name = some cs := by
  unfold World.var? at *
  cases hg : Tryz.prog.globalNamed name with
  | none => rw [hg] at hT; cases hT
  | some g =>
    rw [hg] at hT
    simp only [Option.bind_some] at hT ⊢
    cases hb : W.heap[g]? with
    | none => rw [hb] at hT; cases hT
    | some o =>
      rw [hs g o hb]
      rw [hb] at hT
      exact hT
theorem var_sub {W w : World} {name : String} {k : IntKind} {zs : List Int} (hT : Lib.TabIs Tryz.prog W name k zs) (hs : Sub (hpOf W) w) : Lib.TabIs Tryz.prog w name k zs := vars_sub hT hs
theorem below_grow (w : World) (k : Nat) (os : Array Obj) : Below w.heap.size w (Go.Sort.grow (w.drewN k) os) := by
  refine ⟨rfl, rfl, rfl, ?_, fun i hi => ?_⟩
  · show w.heap.size ≤ (w.heap ++ os).size
    rw [Array.size_append]
    omega
  · show (w.heap ++ os)[i]? = w.heap[i]?
    rw [Array.getElem?_append_left hi]
theorem strconv_Itoa_ok {n : Int} (hn : InR n) {h : Hp} (T : TabP h) {R : Value → Hp → Prop} (hK : R (vs (bs (Lib.itoa n))) h) : CallOK Tryz.prog 145 [vi n] h R :=
  callOK_below fun w hs => (Tryz.strconv_Itoa n hn.1 hn.2 w (T w hs)).mono fun e w' ⟨he, k, os, hw⟩ => ⟨_, he, by rw [hw]; exact below_grow w k os, hK⟩
end Go.Proofs.YtejefijpcggkfaaGreatDoor
namespace Go.Proofs.YtejefijpcggkfaaGreatDoor
open Go Go.Vc
set_option maxRecDepth 100000
set_option linter.unusedVariables false
def VC_value_Parse (u_s : ByteArray) (h : Hp) (R : Value → Hp → Prop) : Prop :=
  (∃ (p1 : Bool), (Rd Tryz.prog ((eqGuard .eql 9 (.tmp 6) (.const (vs ⟨#[110, 117, 108, 108]⟩)) (vs u_s) (vs ⟨#[110, 117, 108, 108]⟩) >>= fun _ => binOp .eql 9 (vs u_s) (vs ⟨#[110, 117, 108, 108]⟩))) h (vb p1)) ∧ ((p1 = true → (CallOK Tryz.prog 56 [] h fun v2 h3 => ∃ (x4 : Int) (x5 : Int), v2 = (vag [(vi x4), (vi x5)]) ∧ R (vtup [(vag [(vi x4), (vi x5)]), (ifv none)]) h3)) ∧ (p1 = false → (∃ (p6 : Bool), (Rd Tryz.prog ((eqGuard .eql 9 (.tmp 6) (.const (vs ⟨#[116, 114, 117, 101]⟩)) (vs u_s) (vs ⟨#[116, 114, 117, 101]⟩) >>= fun _ => binOp .eql 9 (vs u_s) (vs ⟨#[116, 114, 117, 101]⟩))) h (vb p6)) ∧ (let J10 : Bool → Prop := fun (p11 : Bool) => ((p11 = true → (∃ (p12 : Bool), (Rd Tryz.prog ((eqGuard .eql 9 (.tmp 13) (.const (vs ⟨#[116, 114, 117, 101]⟩)) (vs u_s) (vs ⟨#[116, 114, 117, 101]⟩) >>= fun _ => binOp .eql 9 (vs u_s) (vs ⟨#[116, 114, 117, 101]⟩))) h (vb p12)) ∧ (CallOK Tryz.prog 55 [(vb p12)] h fun v13 h14 => ∃ (x15 : Int) (x16 : Int), v13 = (vag [(vi x15), (vi x16)]) ∧ R (vtup [(vag [(vi x15), (vi x16)]), (ifv none)]) h14))) ∧ (p11 = false → (CallOK Tryz.prog 74 [(vs u_s)] h fun v18 h19 => ∃ (x20 : Int) (e21 : Option (TypeId × Value)), v18 = (vtup [(vi x20), (ifv e21)]) ∧ (∃ (J22 : SV → Hp → Prop), ((Option.isSome e21) = false → (CallOK Tryz.prog 145 [(vi x20)] h19 fun v23 h24 => ∃ (s25 : ByteArray), v23 = (vs s25) ∧ J22 (.t (.one (.v (vs s25)))) h24)) ∧ (¬ ((Option.isSome e21) = false) → J22 (.t (.one (.v (vs ⟨#[]⟩)))) h19) ∧ ∀ (h26 : Hp) (s27 : ByteArray), J22 (.t (.one (.v (vs s27)))) h26 → (∃ (p28 : Bool), ((Option.isSome e21) = false → Rd Tryz.prog ((eqGuard .neq 9 (.tmp 25) (.tmp 26) (vs s27) (vs u_s) >>= fun _ => binOp .neq 9 (vs s27) (vs u_s))) h26 (vb p28)) ∧ (((bif (bif (bif (Option.isSome e21) then true else p28) then true else (decide ((x20 : Int) < (-1000000000)))) then true else (decide ((x20 : Int) > 1000000000))) = true → R (vtup [(vag [(vi 0), (vi 0)]), (ifv (some (95, (vi 4))))]) h26) ∧ ((bif (bif (bif (Option.isSome e21) then true else p28) then true else (decide ((x20 : Int) < (-1000000000)))) then true else (decide ((x20 : Int) > 1000000000))) = false → (CallOK Tryz.prog 101 [(vi x20)] h26 fun v30 h31 => ∃ (x32 : Int) (x33 : Int), v30 = (vag [(vi x32), (vi x33)]) ∧ R (vtup [(vag [(vi x32), (vi x33)]), (ifv none)]) h31)))))))); ((p6 = true → (J10 p6)) ∧ (p6 = false → (∃ (p8 : Bool), (Rd Tryz.prog ((eqGuard .eql 9 (.tmp 6) (.const (vs ⟨#[102, 97, 108, 115, 101]⟩)) (vs u_s) (vs ⟨#[102, 97, 108, 115, 101]⟩) >>= fun _ => binOp .eql 9 (vs u_s) (vs ⟨#[102, 97, 108, 115, 101]⟩))) h (vb p8)) ∧ (J10 p8)))))))))
theorem ok_value_Parse {u_s : ByteArray} {h : Hp} {R : Value → Hp → Prop} (H : VC_value_Parse u_s h R) : CallOK Tryz.prog 157 [(vs u_s)] h R :=
  call_of (cfg := ⟨[], [], []⟩) noNG mixed Tryz.func157 [.one (.v (vs u_s))] (by kernel_rfl) rfl (by kernel_rfl) H
end Go.Proofs.YtejefijpcggkfaaGreatDoor
namespace Go.Proofs.YtejefijpcggkfaaGreatDoor
open Go Go.Vc
set_option maxRecDepth 100000
set_option linter.unusedVariables false
end Go.Proofs.YtejefijpcggkfaaGreatDoor
namespace Go.Proofs.YtejefijpcggkfaaGreatDoor
open Go Go.Vc
set_option maxRecDepth 100000
set_option linter.unusedVariables false
end Go.Proofs.YtejefijpcggkfaaGreatDoor
namespace Go.Proofs.YtejefijpcggkfaaGreatDoor
open Go Go.Vc
set_option linter.unusedVariables false
end Go.Proofs.YtejefijpcggkfaaGreatDoor
namespace Go.Proofs.YtejefijpcggkfaaGreatDoor
open Go Go.Vc Go.Txt
set_option linter.unusedVariables false
set_option maxRecDepth 100000
structure TabE (h : Hp) : Prop where
  a : ∃ tp p, ∀ w, Sub h w → w.var? Tryz.prog "strconv.ErrSyntax" = some #[.iface tp p]
  b : ∃ tp p, ∀ w, Sub h w → w.var? Tryz.prog "strconv.ErrRange" = some #[.iface tp p]
theorem TabE.le {h h' : Hp} (T : TabE h) (hl : h.le h') : TabE h' := by
  obtain ⟨⟨t, p, a⟩, ⟨u, q, b⟩⟩ := T
  exact ⟨⟨t, p, fun w hs => a w (sub_le hl hs)⟩, ⟨u, q, fun w hs => b w (sub_le hl hs)⟩⟩
theorem strconv_Atoi_ok {l : List UInt8} (hl : l.length ≤ 1000000) {h : Hp} (E : TabE h) {R : Value → Hp → Prop} (hY : ∀ v, Lib.atoiAll l = .ok v → R (vtup [vi v, ifv none]) h) (hN : (∀ v, Lib.atoiAll l ≠ .ok v) → ∀ x e, R (vtup [vi x, ifv (some e)]) h) :
    CallOK Tryz.prog 74 [vs (bs l)] h R := by
  have hsz : (bs l).size = l.length := bs_size l
  have hdl : (bs l).data.toList = l := by simp [bs]
  obtain ⟨⟨t, p, ha⟩, ⟨u, q, hb⟩⟩ := E
  refine callOK_below fun w hs => ?_
  cases hA : Lib.atoiAll l
  · rename_i v
    refine (Tryz.strconv_Atoi_ok (bs l) (by omega) v (by rw [hdl]; exact hA) w).mono ?_
    rintro e w' ⟨he, hw⟩
    refine ⟨_, he, ?_, hY v hA⟩
    rcases hw with rfl | ⟨t, rfl⟩
    · exact RowKit.Below.refl _ _
    · exact Lib.bytesWorld_below _ _ _
  · refine (Any.strconv_Atoi_syntax_var Tryz.laysC172 (bs l) (by omega) (by rw [hdl]; exact hA) t p w (ha w hs)).mono ?_
    rintro e w' ⟨N, he, _, _, hB⟩
    exact ⟨_, he, hB, hN (fun v e => by rw [hA] at e; cases e) _ (_, _)⟩
  · refine (Any.strconv_Atoi_range_var Tryz.laysC172 (bs l) (by omega) (by rw [hdl]; exact hA) u q w (hb w hs)).mono ?_
    rintro e w' ⟨N, he, _, _, hB⟩
    exact ⟨_, he, hB, hN (fun v e => by rw [hA] at e; cases e) _ (_, _)⟩
def textV (v : Int × Int) : List UInt8 := if v.1 = 0 then wNull else if v.1 = 1 then Lib.itoa v.2 else if v.2 = 0 then wFalse else wTrue
def readV (l : List UInt8) : (Int × Int) × Int :=
  if l = wNull then ((0, 0), 0) else if l = wTrue ∨ l = wFalse then (truthV (decide (l = wTrue)), 0) else
    match Lib.atoiAll l with
    | .ok v => if Lib.itoa v = l ∧ -1000000000 ≤ v ∧ v ≤ 1000000000 then (numV v, 0) else ((0, 0), 4)
    | _ => ((0, 0), 4)
theorem value_Parse_ok {l : List UInt8} (hl : l.length ≤ 1000000) {h : Hp} (T : TabP h) (E : TabE h) {R : Value → Hp → Prop} (hK : R (vtup [vag (encV (readV l).1), ifv (errV (readV l).2)]) h) : CallOK Tryz.prog 157 [vs (bs l)] h R := by
  refine ok_value_Parse ?_
  unfold VC_value_Parse
  refine ⟨_, rd_eqBs (b := wNull), fun g => ?_, fun g1 => ?_⟩
  · have g := of_decide_eq_true g
    have : readV l = ((0, 0), 0) := by unfold readV; rw [if_pos g]
    rw [this] at hK
    exact value_Null_ok ⟨_, _, rfl, hK⟩
  have g1 := of_decide_eq_false g1
  refine ⟨_, rd_eqBs (b := wTrue), ?_⟩
  intro J10
  have yes : l = wTrue ∨ l = wFalse → J10 true := by
    intro hw
    refine ⟨fun _ => ⟨_, rd_eqBs (b := wTrue), ?_⟩, fun g => by cases g⟩
    have : readV l = (truthV (decide (l = wTrue)), 0) := by unfold readV; rw [if_neg g1, if_pos hw]
    rw [this] at hK
    exact value_Truth_ok ⟨_, _, rfl, hK⟩
  have no : ¬ (l = wTrue ∨ l = wFalse) → J10 false := by
    intro hw
    refine ⟨fun g => by (cases g), fun _ => ?_⟩
    have hr : readV l = match Lib.atoiAll l with
      | .ok v => if Lib.itoa v = l ∧ -1000000000 ≤ v ∧ v ≤ 1000000000 then (numV v, 0) else ((0, 0), 4)
      | _ => ((0, 0), 4) := by unfold readV; rw [if_neg g1, if_neg hw]
    refine strconv_Atoi_ok hl E (fun v hv => ⟨_, _, rfl, ?_⟩) fun hn x e => ⟨_, _, rfl, ?_⟩
    · rw [hv] at hr
      simp only at hr
      have hb := Lib.atoiAll_bounds hv
      refine ⟨fun x h' => h' = h ∧ x = .t (.one (.v (vs (bs (Lib.itoa v))))), fun _ => strconv_Itoa_ok (by unfold InR; omega) T ⟨_, rfl, rfl, rfl⟩, fun g => absurd rfl g, ?_⟩
      rintro h26 s27 ⟨rfl, e⟩
      cases e
      refine ⟨_, fun _ => rd_neBs (a := Lib.itoa v) (b := l), fun g => ?_, fun g => ?_⟩
      · have : ¬ (Lib.itoa v = l ∧ -1000000000 ≤ v ∧ v ≤ 1000000000) := by
          rintro ⟨h1, h2, h3⟩
          rw [decide_eq_true h1, decide_eq_false (show ¬ v < -1000000000 by omega), decide_eq_false (show ¬ v > 1000000000 by omega)] at g
          cases g
        rw [hr, if_neg this] at hK
        exact hK
      · have : Lib.itoa v = l ∧ -1000000000 ≤ v ∧ v ≤ 1000000000 := by
          obtain ⟨g, g3⟩ := bor_false g
          obtain ⟨g, g2⟩ := bor_false g
          obtain ⟨_, g⟩ := bor_false g
          have g3 := of_decide_eq_false g3
          have g2 := of_decide_eq_false g2
          exact ⟨by simpa using g, by omega, by omega⟩
        rw [hr, if_pos this] at hK
        exact value_Number_ok ⟨_, _, rfl, hK⟩
    · have hr2 : readV l = ((0, 0), 4) := by
        rw [hr]
        cases hA : Lib.atoiAll l
        · exact absurd hA (hn _)
        · rfl
        · rfl
      rw [hr2] at hK
      refine ⟨fun x h' => h' = h ∧ ∃ s, x = .t (.one (.v (vs s))), fun g => by (cases g), fun _ => ⟨rfl, _, rfl⟩, ?_⟩
      rintro h26 s27 ⟨rfl, s, e⟩
      cases e
      exact ⟨false, fun g => by (cases g), fun _ => hK, fun g => by cases g⟩
  clear_value J10
  refine ⟨fun g => ?_, fun g2 => ⟨_, rd_eqBs (b := wFalse), ?_⟩⟩
  · rw [g]; exact yes (.inl (of_decide_eq_true g))
  · have g2 := of_decide_eq_false g2
    by_cases hf : l = wFalse
    · rw [decide_eq_true hf]; exact yes (.inr hf)
    · rw [decide_eq_false hf]; exact no (by rintro (h | h); exact g2 h; exact hf h)
def tailV (l : List UInt8) : List UInt8 := if 1 < l.length ∧ l.head? = some 45 then l.drop 1 else l
def readR (l : List UInt8) : (Int × Int) × Int :=
  if l = wNull then ((0, 0), 0) else if l = wTrue ∨ l = wFalse then (truthV (decide (l = wTrue)), 0) else
    if natF (tailV l) 1000000000 true < 0 ∨ ((tailV l).length < l.length ∧ natF (tailV l) 1000000000 true = 0) then ((0, 0), 4)
    else (numV (if (tailV l).length < l.length then - natF (tailV l) 1000000000 true else natF (tailV l) 1000000000 true), 0)
end Go.Proofs.YtejefijpcggkfaaGreatDoor
namespace Go.Proofs.YtejefijpcggkfaaGreatDoor
open Go Go.Vc
set_option maxRecDepth 100000
set_option linter.unusedVariables false
def VC_query_reader_fail (u_rb u_ro : Nat) (u_err : Option (TypeId × Value)) (h : Hp) (R : Value → Hp → Prop) : Prop :=
  (∃ (e1 : Option (TypeId × Value)), (Hp.cell h u_rb (u_ro + 2) = some (ifv e1)) ∧ (let J5 : Hp → Prop := fun (h6 : Hp) => (Hp.store h6 u_rb u_ro [(vsl none 0 0)] fun h7 => R (vtup []) h7); (((Option.isNone e1) = true → (Hp.store h u_rb (u_ro + 2) [(ifv u_err)] fun h2 => (J5 h2))) ∧ ((Option.isNone e1) = false → (J5 h)))))
theorem ok_query_reader_fail {u_rb u_ro : Nat} {u_err : Option (TypeId × Value)} {h : Hp} {R : Value → Hp → Prop} (H : VC_query_reader_fail u_rb u_ro u_err h R) : CallOK Tryz.prog 69 [(vhp u_rb u_ro), (ifv u_err)] h R :=
  call_of (cfg := ⟨[], [], []⟩) noNG mixed Tryz.func69 [.one (.hp u_rb u_ro), .one (.ifc u_err)] (by kernel_rfl) rfl (by kernel_rfl) H
def VC_query_reader_is (u_rb u_ro : Nat) (u_wordsa : Option Addr) (u_wordsn u_wordsc : Nat) (h : Hp) (R : Value → Hp → Prop) : Prop :=
  (∃ (a1 : Option Addr) (n1 c1 : Nat), (Hp.cell h u_rb u_ro = some (vsl a1 n1 c1)) ∧ (∃ (a2 : Option Addr) (n2 c2 : Nat), ((decide ((((n1 : Nat) : Int) : Int) = 0)) = false → Hp.cell h u_rb u_ro = some (vsl a2 n2 c2)) ∧ (∃ (b3 o4 : Nat), ((decide ((((n1 : Nat) : Int) : Int) = 0)) = false → (a2 = some ⟨b3, o4, none⟩ ∧ (0 : Int) ≤ 0 ∧ 0 < ((n2 : Nat) : Int))) ∧ (∃ (s5 : ByteArray), ((decide ((((n1 : Nat) : Int) : Int) = 0)) = false → Hp.cell h b3 (o4 + (0 : Int).toNat * 1) = some (vs s5)) ∧ (∃ (J6 : SV → Hp → Prop), ((decide ((((n1 : Nat) : Int) : Int) = 0)) = false → (CallOK Tryz.prog 71 [(vsl u_wordsa u_wordsn u_wordsc), (vs s5)] h fun v7 h8 => ∃ (p9 : Bool), v7 = (vb p9) ∧ J6 (.t (.one (.v (vb p9)))) h8)) ∧ (¬ ((decide ((((n1 : Nat) : Int) : Int) = 0)) = false) → J6 (.t (.one (.v (vb false)))) h) ∧ ∀ (h10 : Hp) (p11 : Bool), J6 (.t (.one (.v (vb p11)))) h10 → (((bif (decide ((((n1 : Nat) : Int) : Int) = 0)) then true else (!p11)) = true → R (vs ⟨#[]⟩) h10) ∧ ((bif (decide ((((n1 : Nat) : Int) : Int) = 0)) then true else (!p11)) = false → (∃ (a13 : Option Addr) (n13 c13 : Nat), (Hp.cell h10 u_rb u_ro = some (vsl a13 n13 c13)) ∧ (∃ (b14 o15 : Nat), (a13 = some ⟨b14, o15, none⟩ ∧ (0 : Int) ≤ 0 ∧ 0 < ((n13 : Nat) : Int)) ∧ (∃ (s16 : ByteArray), (Hp.cell h10 b14 (o15 + (0 : Int).toNat * 1) = some (vs s16)) ∧ (∃ (a17 : Option Addr) (n17 c17 : Nat), (Hp.cell h10 u_rb u_ro = some (vsl a17 n17 c17)) ∧ (∃ (a18 : Option Addr) (n18 c18 : Nat), (Rd Tryz.prog (Instr.sliceAt 83 (vsl a17 n17 c17) (some (vi 1)) none none) h10 (vsl a18 n18 c18)) ∧ (Hp.store h10 u_rb u_ro [(vsl a18 n18 c18)] fun h19 => R (vs s16) h19)))))))))))))
theorem ok_query_reader_is {u_rb u_ro : Nat} {u_wordsa : Option Addr} {u_wordsn u_wordsc : Nat} {h : Hp} {R : Value → Hp → Prop} (H : VC_query_reader_is u_rb u_ro u_wordsa u_wordsn u_wordsc h R) : CallOK Tryz.prog 41 [(vhp u_rb u_ro), (vsl u_wordsa u_wordsn u_wordsc)] h R :=
  call_of (cfg := ⟨[], [], []⟩) noNG mixed Tryz.func41 [.one (.hp u_rb u_ro), .one (.v (vsl u_wordsa u_wordsn u_wordsc))] (by kernel_rfl) rfl (by kernel_rfl) H
def VC_query_reader_must (u_rb u_ro : Nat) (u_word : ByteArray) (h : Hp) (R : Value → Hp → Prop) : Prop :=
  (∀ (b1 : Nat), h b1 = none → let h2 : Hp := Hp.set h b1 (cellsO [(vs u_word)] 9); (CallOK Tryz.prog 41 [(vhp u_rb u_ro), (vsl (some (⟨b1, 0, none⟩ : Addr)) 1 1)] h2 fun v3 h4 => ∃ (s5 : ByteArray), v3 = (vs s5) ∧ (∃ (p6 : Bool), (Rd Tryz.prog ((eqGuard .eql 9 (.tmp 7) (.const (vs ⟨#[]⟩)) (vs s5) (vs ⟨#[]⟩) >>= fun _ => binOp .eql 9 (vs s5) (vs ⟨#[]⟩))) h4 (vb p6)) ∧ ((p6 = true → (CallOK Tryz.prog 69 [(vhp u_rb u_ro), (ifv (some (95, (vi 4))))] h4 fun v7 h8 => v7 = (vtup []) ∧ R (vtup []) h8)) ∧ (p6 = false → R (vtup []) h4)))))
theorem ok_query_reader_must {u_rb u_ro : Nat} {u_word : ByteArray} {h : Hp} {R : Value → Hp → Prop} (H : VC_query_reader_must u_rb u_ro u_word h R) : CallOK Tryz.prog 39 [(vhp u_rb u_ro), (vs u_word)] h R :=
  call_of (cfg := ⟨[], [], []⟩) noNG mixed Tryz.func39 [.one (.hp u_rb u_ro), .one (.v (vs u_word))] (by kernel_rfl) rfl (by kernel_rfl) H
def VC_query_reader_number (u_rb u_ro : Nat) (u_most : Int) (h : Hp) (R : Value → Hp → Prop) : Prop :=
  (∃ (a1 : Option Addr) (n1 c1 : Nat), (Hp.cell h u_rb u_ro = some (vsl a1 n1 c1)) ∧ (((decide ((((n1 : Nat) : Int) : Int) = 0)) = true → (CallOK Tryz.prog 69 [(vhp u_rb u_ro), (ifv (some (95, (vi 4))))] h fun v2 h3 => v2 = (vtup []) ∧ R (vi 0) h3)) ∧ ((decide ((((n1 : Nat) : Int) : Int) = 0)) = false → (∃ (a5 : Option Addr) (n5 c5 : Nat), (Hp.cell h u_rb u_ro = some (vsl a5 n5 c5)) ∧ (∃ (b6 o7 : Nat), (a5 = some ⟨b6, o7, none⟩ ∧ (0 : Int) ≤ 0 ∧ 0 < ((n5 : Nat) : Int)) ∧ (∃ (s8 : ByteArray), (Hp.cell h b6 (o7 + (0 : Int).toNat * 1) = some (vs s8)) ∧ (CallOK Tryz.prog 74 [(vs s8)] h fun v9 h10 => ∃ (x11 : Int) (e12 : Option (TypeId × Value)), v9 = (vtup [(vi x11), (ifv e12)]) ∧ (∃ (a13 : Option Addr) (n13 c13 : Nat), ((Option.isSome e12) = false → Hp.cell h10 u_rb u_ro = some (vsl a13 n13 c13)) ∧ (∃ (b14 o15 : Nat), ((Option.isSome e12) = false → (a13 = some ⟨b14, o15, none⟩ ∧ (0 : Int) ≤ 0 ∧ 0 < ((n13 : Nat) : Int))) ∧ (∃ (s16 : ByteArray), ((Option.isSome e12) = false → Hp.cell h10 b14 (o15 + (0 : Int).toNat * 1) = some (vs s16)) ∧ (∃ (x17 : Int), ((Option.isSome e12) = false → Rd Tryz.prog (Instr.index 9 (vs s16) (vi 0)) h10 (vk .u8 x17)) ∧ (∃ (a18 : Option Addr) (n18 c18 : Nat), ((bif (Option.isSome e12) then true else (decide ((x17 : Int) < 48))) = false → Hp.cell h10 u_rb u_ro = some (vsl a18 n18 c18)) ∧ (∃ (b19 o20 : Nat), ((bif (Option.isSome e12) then true else (decide ((x17 : Int) < 48))) = false → (a18 = some ⟨b19, o20, none⟩ ∧ (0 : Int) ≤ 0 ∧ 0 < ((n18 : Nat) : Int))) ∧ (∃ (s21 : ByteArray), ((bif (Option.isSome e12) then true else (decide ((x17 : Int) < 48))) = false → Hp.cell h10 b19 (o20 + (0 : Int).toNat * 1) = some (vs s21)) ∧ (∃ (x22 : Int), ((bif (Option.isSome e12) then true else (decide ((x17 : Int) < 48))) = false → Rd Tryz.prog (Instr.index 9 (vs s21) (vi 0)) h10 (vk .u8 x22)) ∧ (((bif (bif (bif (Option.isSome e12) then true else (decide ((x17 : Int) < 48))) then true else (decide ((x22 : Int) > 57))) then true else (decide ((x11 : Int) > u_most))) = true → (CallOK Tryz.prog 69 [(vhp u_rb u_ro), (ifv (some (95, (vi 4))))] h10 fun v23 h24 => v23 = (vtup []) ∧ R (vi 0) h24)) ∧ ((bif (bif (bif (Option.isSome e12) then true else (decide ((x17 : Int) < 48))) then true else (decide ((x22 : Int) > 57))) then true else (decide ((x11 : Int) > u_most))) = false → (∃ (a26 : Option Addr) (n26 c26 : Nat), (Hp.cell h10 u_rb u_ro = some (vsl a26 n26 c26)) ∧ (∃ (a27 : Option Addr) (n27 c27 : Nat), (Rd Tryz.prog (Instr.sliceAt 83 (vsl a26 n26 c26) (some (vi 1)) none none) h10 (vsl a27 n27 c27)) ∧ (Hp.store h10 u_rb u_ro [(vsl a27 n27 c27)] fun h28 => R (vi x11) h28))))))))))))))))))))
theorem ok_query_reader_number {u_rb u_ro : Nat} {u_most : Int} {h : Hp} {R : Value → Hp → Prop} (H : VC_query_reader_number u_rb u_ro u_most h R) : CallOK Tryz.prog 43 [(vhp u_rb u_ro), (vi u_most)] h R :=
  call_of (cfg := ⟨[], [], []⟩) noNG mixed Tryz.func43 [.one (.hp u_rb u_ro), .one (.v (vi u_most))] (by kernel_rfl) rfl (by kernel_rfl) H
def VC_query_leaf (u_nOp : Int) (u_nX : Int) (u_nY : Int) (u_nN : Int) (u_nValKind : Int) (u_nValN : Int) (h : Hp) (R : Value → Hp → Prop) : Prop :=
  (∀ (b1 : Nat), h b1 = none → let h2 : Hp := Hp.set h b1 (cellsO [(vi u_nOp), (vi u_nX), (vi u_nY), (vi u_nN), (vi u_nValKind), (vi u_nValN)] 137); R (vsl (some (⟨b1, 0, none⟩ : Addr)) 1 1) h2)
theorem ok_query_leaf {u_nOp : Int} {u_nX : Int} {u_nY : Int} {u_nN : Int} {u_nValKind : Int} {u_nValN : Int} {h : Hp} {R : Value → Hp → Prop} (H : VC_query_leaf u_nOp u_nX u_nY u_nN u_nValKind u_nValN h R) : CallOK Tryz.prog 125 [(vag [(vi u_nOp), (vi u_nX), (vi u_nY), (vi u_nN), (vi u_nValKind), (vi u_nValN)])] h R :=
  call_of (cfg := ⟨[], [], []⟩) noNG mixed Tryz.func125 [.ag [.v (vi u_nOp), .v (vi u_nX), .v (vi u_nY), .v (vi u_nN), .v (vi u_nValKind), .v (vi u_nValN)]] (by kernel_rfl) rfl (by kernel_rfl) H
def VC_query_reader_join (u_rb u_ro : Nat) (u_op : Int) (u_xa : Option Addr) (u_xn u_xc : Nat) (u_ya : Option Addr) (u_yn u_yc : Nat) (h : Hp) (R : Value → Hp → Prop) : Prop :=
  (∃ (x1 : Int), (IsW x1 (((u_xn : Nat) : Int) + ((u_yn : Nat) : Int))) ∧ (((decide ((x1 : Int) ≥ 40)) = true → (CallOK Tryz.prog 69 [(vhp u_rb u_ro), (ifv (some (95, (vi 2))))] h fun v2 h3 => v2 = (vtup []) ∧ (CallOK Tryz.prog 125 [(vag [(vi 1), (vi 0), (vi 0), (vi 0), (vi 0), (vi 0)])] h3 fun v4 h5 => ∃ (a6 : Option Addr) (n6 c6 : Nat), v4 = (vsl a6 n6 c6) ∧ R (vsl a6 n6 c6) h5))) ∧ ((decide ((x1 : Int) ≥ 40)) = false → (CallOK Tryz.prog 126 [(vi u_op), (vsl u_xa u_xn u_xc), (vsl u_ya u_yn u_yc)] h fun v8 h9 => ∃ (a10 : Option Addr) (n10 c10 : Nat), v8 = (vsl a10 n10 c10) ∧ R (vsl a10 n10 c10) h9))))
theorem ok_query_reader_join {u_rb u_ro : Nat} {u_op : Int} {u_xa : Option Addr} {u_xn u_xc : Nat} {u_ya : Option Addr} {u_yn u_yc : Nat} {h : Hp} {R : Value → Hp → Prop} (H : VC_query_reader_join u_rb u_ro u_op u_xa u_xn u_xc u_ya u_yn u_yc h R) : CallOK Tryz.prog 105 [(vhp u_rb u_ro), (vi u_op), (vsl u_xa u_xn u_xc), (vsl u_ya u_yn u_yc)] h R :=
  call_of (cfg := ⟨[], [], []⟩) noNG mixed Tryz.func105 [.one (.hp u_rb u_ro), .one (.v (vi u_op)), .one (.v (vsl u_xa u_xn u_xc)), .one (.v (vsl u_ya u_yn u_yc))] (by kernel_rfl) rfl (by kernel_rfl) H
def VC_query_reader_down (u_rb u_ro : Nat) (u_f : Value) (h : Hp) (R : Value → Hp → Prop) : Prop :=
  (∃ (x1 : Int), (Hp.cell h u_rb (u_ro + 1) = some (vi x1)) ∧ (∃ (x2 : Int), (IsW x2 (x1 + 1)) ∧ (Hp.store h u_rb (u_ro + 1) [(vi x2)] fun h3 => (∃ (x4 : Int), (Hp.cell h3 u_rb (u_ro + 1) = some (vi x4)) ∧ (let J9 : Hp → Prop := fun (h10 : Hp) => (InvOK Tryz.prog u_f [] h10 fun v11 h12 => ∃ (a13 : Option Addr) (n13 c13 : Nat), v11 = (vsl a13 n13 c13) ∧ (∃ (x14 : Int), (Hp.cell h12 u_rb (u_ro + 1) = some (vi x14)) ∧ (∃ (x15 : Int), (IsW x15 (x14 - 1)) ∧ (Hp.store h12 u_rb (u_ro + 1) [(vi x15)] fun h16 => R (vsl a13 n13 c13) h16)))); (((decide ((x4 : Int) > 12)) = true → (CallOK Tryz.prog 69 [(vhp u_rb u_ro), (ifv (some (95, (vi 2))))] h3 fun v5 h6 => v5 = (vtup []) ∧ (J9 h6))) ∧ ((decide ((x4 : Int) > 12)) = false → (J9 h3))))))))
theorem ok_query_reader_down {u_rb u_ro : Nat} {u_f : Value} {h : Hp} {R : Value → Hp → Prop} (H : VC_query_reader_down u_rb u_ro u_f h R) : CallOK Tryz.prog 128 [(vhp u_rb u_ro), u_f] h R :=
  call_of (cfg := ⟨[], [], []⟩) noNG mixed Tryz.func128 [.one (.hp u_rb u_ro), .one (.v u_f)] (by kernel_rfl) rfl (by kernel_rfl) H
def VC_query_reader_atom (u_rb u_ro : Nat) (h : Hp) (R : Value → Hp → Prop) : Prop :=
  (∀ (b1 : Nat), h b1 = none → let h2 : Hp := Hp.set h b1 (cellsO [(vs ⟨#[40]⟩), (vs ⟨#[110, 117, 108, 108]⟩), (vs ⟨#[116, 114, 117, 101]⟩), (vs ⟨#[102, 97, 108, 115, 101]⟩), (vs ⟨#[116]⟩), (vs ⟨#[107]⟩), (vs ⟨#[97]⟩), (vs ⟨#[98]⟩)] 9); (CallOK Tryz.prog 41 [(vhp u_rb u_ro), (vsl (some (⟨b1, 0, none⟩ : Addr)) 8 8)] h2 fun v3 h4 => ∃ (s5 : ByteArray), v3 = (vs s5) ∧ (∃ (p6 : Bool), (Rd Tryz.prog ((eqGuard .eql 9 (.tmp 10) (.const (vs ⟨#[40]⟩)) (vs s5) (vs ⟨#[40]⟩) >>= fun _ => binOp .eql 9 (vs s5) (vs ⟨#[40]⟩))) h4 (vb p6)) ∧ ((p6 = true → (CallOK Tryz.prog 128 [(vhp u_rb u_ro), (Value.func (.func 42) #[(vhp u_rb u_ro)] #[])] h4 fun v7 h8 => ∃ (a9 : Option Addr) (n9 c9 : Nat), v7 = (vsl a9 n9 c9) ∧ (CallOK Tryz.prog 39 [(vhp u_rb u_ro), (vs ⟨#[41]⟩)] h8 fun v10 h11 => v10 = (vtup []) ∧ R (vsl a9 n9 c9) h11))) ∧ (p6 = false → (∃ (p12 : Bool), (Rd Tryz.prog ((eqGuard .eql 9 (.tmp 10) (.const (vs ⟨#[110, 117, 108, 108]⟩)) (vs s5) (vs ⟨#[110, 117, 108, 108]⟩) >>= fun _ => binOp .eql 9 (vs s5) (vs ⟨#[110, 117, 108, 108]⟩))) h4 (vb p12)) ∧ (let J18 : Bool → Prop := fun (p19 : Bool) => ((p19 = true → (CallOK Tryz.prog 157 [(vs s5)] h4 fun v20 h21 => ∃ (x22 : Int) (x23 : Int) (e24 : Option (TypeId × Value)), v20 = (vtup [(vag [(vi x22), (vi x23)]), (ifv e24)]) ∧ (CallOK Tryz.prog 125 [(vag [(vi 1), (vi 0), (vi 0), (vi 0), (vi x22), (vi x23)])] h21 fun v25 h26 => ∃ (a27 : Option Addr) (n27 c27 : Nat), v25 = (vsl a27 n27 c27) ∧ R (vsl a27 n27 c27) h26))) ∧ (p19 = false → (∃ (p28 : Bool), (Rd Tryz.prog ((eqGuard .eql 9 (.tmp 10) (.const (vs ⟨#[]⟩)) (vs s5) (vs ⟨#[]⟩) >>= fun _ => binOp .eql 9 (vs s5) (vs ⟨#[]⟩))) h4 (vb p28)) ∧ ((p28 = true → (CallOK Tryz.prog 43 [(vhp u_rb u_ro), (vi 1000000000)] h4 fun v29 h30 => ∃ (x31 : Int), v29 = (vi x31) ∧ (CallOK Tryz.prog 101 [(vi x31)] h30 fun v32 h33 => ∃ (x34 : Int) (x35 : Int), v32 = (vag [(vi x34), (vi x35)]) ∧ (CallOK Tryz.prog 125 [(vag [(vi 1), (vi 0), (vi 0), (vi 0), (vi x34), (vi x35)])] h33 fun v36 h37 => ∃ (a38 : Option Addr) (n38 c38 : Nat), v36 = (vsl a38 n38 c38) ∧ R (vsl a38 n38 c38) h37)))) ∧ (p28 = false → (∃ (a39 : Option Addr) (n39 c39 : Nat), (Hp.cell h4 4 0 = some (vsl a39 n39 c39)) ∧ (CallOK Tryz.prog 70 [(vsl a39 n39 c39), (vs s5)] h4 fun v40 h41 => ∃ (x42 : Int), v40 = (vi x42) ∧ (CallOK Tryz.prog 125 [(vag [(vi 2), (vi 0), (vi 0), (vi x42), (vi 0), (vi 0)])] h41 fun v43 h44 => ∃ (a45 : Option Addr) (n45 c45 : Nat), v43 = (vsl a45 n45 c45) ∧ R (vsl a45 n45 c45) h44)))))))); ((p12 = true → (J18 p12)) ∧ (p12 = false → (∃ (p14 : Bool), (Rd Tryz.prog ((eqGuard .eql 9 (.tmp 10) (.const (vs ⟨#[116, 114, 117, 101]⟩)) (vs s5) (vs ⟨#[116, 114, 117, 101]⟩) >>= fun _ => binOp .eql 9 (vs s5) (vs ⟨#[116, 114, 117, 101]⟩))) h4 (vb p14)) ∧ ((p14 = true → (J18 p14)) ∧ (p14 = false → (∃ (p16 : Bool), (Rd Tryz.prog ((eqGuard .eql 9 (.tmp 10) (.const (vs ⟨#[102, 97, 108, 115, 101]⟩)) (vs s5) (vs ⟨#[102, 97, 108, 115, 101]⟩) >>= fun _ => binOp .eql 9 (vs s5) (vs ⟨#[102, 97, 108, 115, 101]⟩))) h4 (vb p16)) ∧ (J18 p16))))))))))))))
theorem ok_query_reader_atom {u_rb u_ro : Nat} {h : Hp} {R : Value → Hp → Prop} (H : VC_query_reader_atom u_rb u_ro h R) : CallOK Tryz.prog 152 [(vhp u_rb u_ro)] h R :=
  call_of (cfg := ⟨[], [], []⟩) noNG mixed Tryz.func152 [.one (.hp u_rb u_ro)] (by kernel_rfl) rfl (by kernel_rfl) H
def VC_query_reader_unary (u_rb u_ro : Nat) (h : Hp) (R : Value → Hp → Prop) : Prop :=
  (∀ (b1 : Nat), h b1 = none → let h2 : Hp := Hp.set h b1 (cellsO [(vs ⟨#[45]⟩)] 9); (CallOK Tryz.prog 41 [(vhp u_rb u_ro), (vsl (some (⟨b1, 0, none⟩ : Addr)) 1 1)] h2 fun v3 h4 => ∃ (s5 : ByteArray), v3 = (vs s5) ∧ (∃ (p6 : Bool), (Rd Tryz.prog ((eqGuard .eql 9 (.tmp 5) (.const (vs ⟨#[]⟩)) (vs s5) (vs ⟨#[]⟩) >>= fun _ => binOp .eql 9 (vs s5) (vs ⟨#[]⟩))) h4 (vb p6)) ∧ ((p6 = true → (CallOK Tryz.prog 152 [(vhp u_rb u_ro)] h4 fun v7 h8 => ∃ (a9 : Option Addr) (n9 c9 : Nat), v7 = (vsl a9 n9 c9) ∧ R (vsl a9 n9 c9) h8)) ∧ (p6 = false → (CallOK Tryz.prog 128 [(vhp u_rb u_ro), (Value.func (.func 150) #[(vhp u_rb u_ro)] #[])] h4 fun v11 h12 => ∃ (a13 : Option Addr) (n13 c13 : Nat), v11 = (vsl a13 n13 c13) ∧ (CallOK Tryz.prog 105 [(vhp u_rb u_ro), (vi 3), (vsl a13 n13 c13), (vsl none 0 0)] h12 fun v14 h15 => ∃ (a16 : Option Addr) (n16 c16 : Nat), v14 = (vsl a16 n16 c16) ∧ R (vsl a16 n16 c16) h15)))))))
theorem ok_query_reader_unary {u_rb u_ro : Nat} {h : Hp} {R : Value → Hp → Prop} (H : VC_query_reader_unary u_rb u_ro h R) : CallOK Tryz.prog 150 [(vhp u_rb u_ro)] h R :=
  call_of (cfg := ⟨[], [], []⟩) noNG mixed Tryz.func150 [.one (.hp u_rb u_ro)] (by kernel_rfl) rfl (by kernel_rfl) H
def VC_query_reader_row (u_rb u_ro : Nat) (u_next : Value) (u_ops : Value) (u_wordsa : Option Addr) (u_wordsn u_wordsc : Nat) (h : Hp) (R : Value → Hp → Prop) : Prop :=
  (InvOK Tryz.prog u_next [] h fun v1 h2 => ∃ (a3 : Option Addr) (n3 c3 : Nat), v1 = (vsl a3 n3 c3) ∧ (let J26 : Option Addr → Nat → Nat → Hp → Prop := fun (a28 : Option Addr) (n28 c28 : Nat) (h29 : Hp) => R (vsl a28 n28 c28) h29; (∃ (I5 : List Value → Hp → Prop) (m6 : List Value → Hp → Nat), I5 [(vsl a3 n3 c3)] h2 ∧ ∀ (vs7 : List Value) (h8 : Hp), I5 vs7 h8 → ∃ (a9 : Option Addr) (n9 c9 : Nat), vs7 = [(vsl a9 n9 c9)] ∧ (∃ (e10 : Option (TypeId × Value)), (Hp.cell h8 u_rb (u_ro + 2) = some (ifv e10)) ∧ (((Option.isNone e10) = true → (CallOK Tryz.prog 41 [(vhp u_rb u_ro), (vsl u_wordsa u_wordsn u_wordsc)] h8 fun v13 h14 => ∃ (s15 : ByteArray), v13 = (vs s15) ∧ (∃ (p16 : Bool), (Rd Tryz.prog ((eqGuard .eql 9 (.tmp 21) (.const (vs ⟨#[]⟩)) (vs s15) (vs ⟨#[]⟩) >>= fun _ => binOp .eql 9 (vs s15) (vs ⟨#[]⟩))) h14 (vb p16)) ∧ ((p16 = true → (J26 a9 n9 c9 h14)) ∧ (p16 = false → (∃ (x19 : Int), (Rd Tryz.prog (Instr.lookup 127 u_ops (vs s15) false) h14 (vi x19)) ∧ (InvOK Tryz.prog u_next [] h14 fun v20 h21 => ∃ (a22 : Option Addr) (n22 c22 : Nat), v20 = (vsl a22 n22 c22) ∧ ((Rd Tryz.prog (Instr.lookup 127 u_ops (vs s15) false) h21 (vi x19)) ∧ (CallOK Tryz.prog 105 [(vhp u_rb u_ro), (vi x19), (vsl a9 n9 c9), (vsl a22 n22 c22)] h21 fun v23 h24 => ∃ (a25 : Option Addr) (n25 c25 : Nat), v23 = (vsl a25 n25 c25) ∧ (I5 [(vsl a25 n25 c25)] h24 ∧ m6 [(vsl a25 n25 c25)] h24 < m6 vs7 h8)))))))))) ∧ ((Option.isNone e10) = false → (J26 a9 n9 c9 h8)))))))
theorem ok_query_reader_row {u_rb u_ro : Nat} {u_next : Value} {u_ops : Value} {u_wordsa : Option Addr} {u_wordsn u_wordsc : Nat} {h : Hp} {R : Value → Hp → Prop} (H : VC_query_reader_row u_rb u_ro u_next u_ops u_wordsa u_wordsn u_wordsc h R) : CallOK Tryz.prog 72 [(vhp u_rb u_ro), u_next, u_ops, (vsl u_wordsa u_wordsn u_wordsc)] h R :=
  call_of (cfg := ⟨[], [(2, ([9], [.one (.slice)], []))], [(5, [0, 1, 2, 3, 4, 5, 6, 7, 8])]⟩) noNG mixed Tryz.func72 [.one (.hp u_rb u_ro), .one (.v u_next), .one (.v u_ops), .one (.v (vsl u_wordsa u_wordsn u_wordsc))] (by kernel_rfl) rfl (by kernel_rfl) H
def VC_query_reader_product (u_rb u_ro : Nat) (h : Hp) (R : Value → Hp → Prop) : Prop :=
  (SemOK Tryz.prog (Instr.makeMap 127 none) h fun v1 h2 => ∃ (y3 : Value), v1 = y3 ∧ (SemOKu Tryz.prog (Instr.mapUpdate 127 y3 (vs ⟨#[42]⟩) (vi 8)) h2 fun h4 => (∀ (b5 : Nat), h4 b5 = none → let h6 : Hp := Hp.set h4 b5 (cellsO [(vs ⟨#[42]⟩)] 9); (CallOK Tryz.prog 72 [(vhp u_rb u_ro), (Value.func (.func 150) #[(vhp u_rb u_ro)] #[]), y3, (vsl (some (⟨b5, 0, none⟩ : Addr)) 1 1)] h6 fun v7 h8 => ∃ (a9 : Option Addr) (n9 c9 : Nat), v7 = (vsl a9 n9 c9) ∧ R (vsl a9 n9 c9) h8))))
theorem ok_query_reader_product {u_rb u_ro : Nat} {h : Hp} {R : Value → Hp → Prop} (H : VC_query_reader_product u_rb u_ro h R) : CallOK Tryz.prog 146 [(vhp u_rb u_ro)] h R :=
  call_of (cfg := ⟨[], [], []⟩) noNG mixed Tryz.func146 [.one (.hp u_rb u_ro)] (by kernel_rfl) rfl (by kernel_rfl) H
def VC_query_reader_sum (u_rb u_ro : Nat) (h : Hp) (R : Value → Hp → Prop) : Prop :=
  (SemOK Tryz.prog (Instr.makeMap 127 none) h fun v1 h2 => ∃ (y3 : Value), v1 = y3 ∧ (SemOKu Tryz.prog (Instr.mapUpdate 127 y3 (vs ⟨#[43]⟩) (vi 6)) h2 fun h4 => (SemOKu Tryz.prog (Instr.mapUpdate 127 y3 (vs ⟨#[45]⟩) (vi 7)) h4 fun h5 => (∀ (b6 : Nat), h5 b6 = none → let h7 : Hp := Hp.set h5 b6 (cellsO [(vs ⟨#[43]⟩), (vs ⟨#[45]⟩)] 9); (CallOK Tryz.prog 72 [(vhp u_rb u_ro), (Value.func (.func 146) #[(vhp u_rb u_ro)] #[]), y3, (vsl (some (⟨b6, 0, none⟩ : Addr)) 2 2)] h7 fun v8 h9 => ∃ (a10 : Option Addr) (n10 c10 : Nat), v8 = (vsl a10 n10 c10) ∧ R (vsl a10 n10 c10) h9)))))
theorem ok_query_reader_sum {u_rb u_ro : Nat} {h : Hp} {R : Value → Hp → Prop} (H : VC_query_reader_sum u_rb u_ro h R) : CallOK Tryz.prog 141 [(vhp u_rb u_ro)] h R :=
  call_of (cfg := ⟨[], [], []⟩) noNG mixed Tryz.func141 [.one (.hp u_rb u_ro)] (by kernel_rfl) rfl (by kernel_rfl) H
def VC_query_reader_compare (u_rb u_ro : Nat) (h : Hp) (R : Value → Hp → Prop) : Prop :=
  (CallOK Tryz.prog 141 [(vhp u_rb u_ro)] h fun v1 h2 => ∃ (a3 : Option Addr) (n3 c3 : Nat), v1 = (vsl a3 n3 c3) ∧ (∀ (b4 : Nat), h2 b4 = none → let h5 : Hp := Hp.set h2 b4 (cellsO [(vs ⟨#[60]⟩), (vs ⟨#[62]⟩), (vs ⟨#[60, 61]⟩), (vs ⟨#[62, 61]⟩), (vs ⟨#[61]⟩), (vs ⟨#[60, 62]⟩), (vs ⟨#[105, 115]⟩)] 9); (CallOK Tryz.prog 41 [(vhp u_rb u_ro), (vsl (some (⟨b4, 0, none⟩ : Addr)) 7 7)] h5 fun v6 h7 => ∃ (s8 : ByteArray), v6 = (vs s8) ∧ (let J78 : Option Addr → Nat → Nat → Hp → Prop := fun (a80 : Option Addr) (n80 c80 : Nat) (h81 : Hp) => R (vsl a80 n80 c80) h81; (∃ (p9 : Bool), (Rd Tryz.prog ((eqGuard .eql 9 (.tmp 11) (.const (vs ⟨#[60]⟩)) (vs s8) (vs ⟨#[60]⟩) >>= fun _ => binOp .eql 9 (vs s8) (vs ⟨#[60]⟩))) h7 (vb p9)) ∧ ((p9 = true → (CallOK Tryz.prog 141 [(vhp u_rb u_ro)] h7 fun v10 h11 => ∃ (a12 : Option Addr) (n12 c12 : Nat), v10 = (vsl a12 n12 c12) ∧ (CallOK Tryz.prog 105 [(vhp u_rb u_ro), (vi 11), (vsl a3 n3 c3), (vsl a12 n12 c12)] h11 fun v13 h14 => ∃ (a15 : Option Addr) (n15 c15 : Nat), v13 = (vsl a15 n15 c15) ∧ R (vsl a15 n15 c15) h14))) ∧ (p9 = false → (∃ (p16 : Bool), (Rd Tryz.prog ((eqGuard .eql 9 (.tmp 11) (.const (vs ⟨#[62]⟩)) (vs s8) (vs ⟨#[62]⟩) >>= fun _ => binOp .eql 9 (vs s8) (vs ⟨#[62]⟩))) h7 (vb p16)) ∧ ((p16 = true → (CallOK Tryz.prog 141 [(vhp u_rb u_ro)] h7 fun v17 h18 => ∃ (a19 : Option Addr) (n19 c19 : Nat), v17 = (vsl a19 n19 c19) ∧ (CallOK Tryz.prog 105 [(vhp u_rb u_ro), (vi 11), (vsl a19 n19 c19), (vsl a3 n3 c3)] h18 fun v20 h21 => ∃ (a22 : Option Addr) (n22 c22 : Nat), v20 = (vsl a22 n22 c22) ∧ R (vsl a22 n22 c22) h21))) ∧ (p16 = false → (∃ (p23 : Bool), (Rd Tryz.prog ((eqGuard .eql 9 (.tmp 11) (.const (vs ⟨#[60, 61]⟩)) (vs s8) (vs ⟨#[60, 61]⟩) >>= fun _ => binOp .eql 9 (vs s8) (vs ⟨#[60, 61]⟩))) h7 (vb p23)) ∧ ((p23 = true → (CallOK Tryz.prog 141 [(vhp u_rb u_ro)] h7 fun v24 h25 => ∃ (a26 : Option Addr) (n26 c26 : Nat), v24 = (vsl a26 n26 c26) ∧ (CallOK Tryz.prog 105 [(vhp u_rb u_ro), (vi 11), (vsl a26 n26 c26), (vsl a3 n3 c3)] h25 fun v27 h28 => ∃ (a29 : Option Addr) (n29 c29 : Nat), v27 = (vsl a29 n29 c29) ∧ (CallOK Tryz.prog 105 [(vhp u_rb u_ro), (vi 4), (vsl a29 n29 c29), (vsl none 0 0)] h28 fun v30 h31 => ∃ (a32 : Option Addr) (n32 c32 : Nat), v30 = (vsl a32 n32 c32) ∧ R (vsl a32 n32 c32) h31)))) ∧ (p23 = false → (∃ (p33 : Bool), (Rd Tryz.prog ((eqGuard .eql 9 (.tmp 11) (.const (vs ⟨#[62, 61]⟩)) (vs s8) (vs ⟨#[62, 61]⟩) >>= fun _ => binOp .eql 9 (vs s8) (vs ⟨#[62, 61]⟩))) h7 (vb p33)) ∧ ((p33 = true → (CallOK Tryz.prog 141 [(vhp u_rb u_ro)] h7 fun v34 h35 => ∃ (a36 : Option Addr) (n36 c36 : Nat), v34 = (vsl a36 n36 c36) ∧ (CallOK Tryz.prog 105 [(vhp u_rb u_ro), (vi 11), (vsl a3 n3 c3), (vsl a36 n36 c36)] h35 fun v37 h38 => ∃ (a39 : Option Addr) (n39 c39 : Nat), v37 = (vsl a39 n39 c39) ∧ (CallOK Tryz.prog 105 [(vhp u_rb u_ro), (vi 4), (vsl a39 n39 c39), (vsl none 0 0)] h38 fun v40 h41 => ∃ (a42 : Option Addr) (n42 c42 : Nat), v40 = (vsl a42 n42 c42) ∧ R (vsl a42 n42 c42) h41)))) ∧ (p33 = false → (∃ (p43 : Bool), (Rd Tryz.prog ((eqGuard .eql 9 (.tmp 11) (.const (vs ⟨#[61]⟩)) (vs s8) (vs ⟨#[61]⟩) >>= fun _ => binOp .eql 9 (vs s8) (vs ⟨#[61]⟩))) h7 (vb p43)) ∧ ((p43 = true → (CallOK Tryz.prog 141 [(vhp u_rb u_ro)] h7 fun v44 h45 => ∃ (a46 : Option Addr) (n46 c46 : Nat), v44 = (vsl a46 n46 c46) ∧ (CallOK Tryz.prog 105 [(vhp u_rb u_ro), (vi 12), (vsl a3 n3 c3), (vsl a46 n46 c46)] h45 fun v47 h48 => ∃ (a49 : Option Addr) (n49 c49 : Nat), v47 = (vsl a49 n49 c49) ∧ R (vsl a49 n49 c49) h48))) ∧ (p43 = false → (∃ (p50 : Bool), (Rd Tryz.prog ((eqGuard .eql 9 (.tmp 11) (.const (vs ⟨#[60, 62]⟩)) (vs s8) (vs ⟨#[60, 62]⟩) >>= fun _ => binOp .eql 9 (vs s8) (vs ⟨#[60, 62]⟩))) h7 (vb p50)) ∧ ((p50 = true → (CallOK Tryz.prog 141 [(vhp u_rb u_ro)] h7 fun v51 h52 => ∃ (a53 : Option Addr) (n53 c53 : Nat), v51 = (vsl a53 n53 c53) ∧ (CallOK Tryz.prog 105 [(vhp u_rb u_ro), (vi 12), (vsl a3 n3 c3), (vsl a53 n53 c53)] h52 fun v54 h55 => ∃ (a56 : Option Addr) (n56 c56 : Nat), v54 = (vsl a56 n56 c56) ∧ (CallOK Tryz.prog 105 [(vhp u_rb u_ro), (vi 4), (vsl a56 n56 c56), (vsl none 0 0)] h55 fun v57 h58 => ∃ (a59 : Option Addr) (n59 c59 : Nat), v57 = (vsl a59 n59 c59) ∧ R (vsl a59 n59 c59) h58)))) ∧ (p50 = false → (∃ (p60 : Bool), (Rd Tryz.prog ((eqGuard .eql 9 (.tmp 11) (.const (vs ⟨#[105, 115]⟩)) (vs s8) (vs ⟨#[105, 115]⟩) >>= fun _ => binOp .eql 9 (vs s8) (vs ⟨#[105, 115]⟩))) h7 (vb p60)) ∧ ((p60 = true → (∀ (b61 : Nat), h7 b61 = none → let h62 : Hp := Hp.set h7 b61 (cellsO [(vs ⟨#[110, 111, 116]⟩)] 9); (CallOK Tryz.prog 41 [(vhp u_rb u_ro), (vsl (some (⟨b61, 0, none⟩ : Addr)) 1 1)] h62 fun v63 h64 => ∃ (s65 : ByteArray), v63 = (vs s65) ∧ (CallOK Tryz.prog 39 [(vhp u_rb u_ro), (vs ⟨#[110, 117, 108, 108]⟩)] h64 fun v66 h67 => v66 = (vtup []) ∧ (CallOK Tryz.prog 105 [(vhp u_rb u_ro), (vi 5), (vsl a3 n3 c3), (vsl none 0 0)] h67 fun v68 h69 => ∃ (a70 : Option Addr) (n70 c70 : Nat), v68 = (vsl a70 n70 c70) ∧ (∃ (p71 : Bool), (Rd Tryz.prog ((eqGuard .neq 9 (.tmp 70) (.const (vs ⟨#[]⟩)) (vs s65) (vs ⟨#[]⟩) >>= fun _ => binOp .neq 9 (vs s65) (vs ⟨#[]⟩))) h69 (vb p71)) ∧ ((p71 = true → (CallOK Tryz.prog 105 [(vhp u_rb u_ro), (vi 4), (vsl a70 n70 c70), (vsl none 0 0)] h69 fun v72 h73 => ∃ (a74 : Option Addr) (n74 c74 : Nat), v72 = (vsl a74 n74 c74) ∧ (J78 a74 n74 c74 h73))) ∧ (p71 = false → (J78 a70 n70 c70 h69))))))))) ∧ (p60 = false → (J78 a3 n3 c3 h7))))))))))))))))))))))))))
theorem ok_query_reader_compare {u_rb u_ro : Nat} {h : Hp} {R : Value → Hp → Prop} (H : VC_query_reader_compare u_rb u_ro h R) : CallOK Tryz.prog 127 [(vhp u_rb u_ro)] h R :=
  call_of (cfg := ⟨[], [], []⟩) noNG mixed Tryz.func127 [.one (.hp u_rb u_ro)] (by kernel_rfl) rfl (by kernel_rfl) H
def VC_query_reader_not (u_rb u_ro : Nat) (h : Hp) (R : Value → Hp → Prop) : Prop :=
  (∀ (b1 : Nat), h b1 = none → let h2 : Hp := Hp.set h b1 (cellsO [(vs ⟨#[110, 111, 116]⟩)] 9); (CallOK Tryz.prog 41 [(vhp u_rb u_ro), (vsl (some (⟨b1, 0, none⟩ : Addr)) 1 1)] h2 fun v3 h4 => ∃ (s5 : ByteArray), v3 = (vs s5) ∧ (∃ (p6 : Bool), (Rd Tryz.prog ((eqGuard .eql 9 (.tmp 5) (.const (vs ⟨#[]⟩)) (vs s5) (vs ⟨#[]⟩) >>= fun _ => binOp .eql 9 (vs s5) (vs ⟨#[]⟩))) h4 (vb p6)) ∧ ((p6 = true → (CallOK Tryz.prog 127 [(vhp u_rb u_ro)] h4 fun v7 h8 => ∃ (a9 : Option Addr) (n9 c9 : Nat), v7 = (vsl a9 n9 c9) ∧ R (vsl a9 n9 c9) h8)) ∧ (p6 = false → (CallOK Tryz.prog 128 [(vhp u_rb u_ro), (Value.func (.func 106) #[(vhp u_rb u_ro)] #[])] h4 fun v11 h12 => ∃ (a13 : Option Addr) (n13 c13 : Nat), v11 = (vsl a13 n13 c13) ∧ (CallOK Tryz.prog 105 [(vhp u_rb u_ro), (vi 4), (vsl a13 n13 c13), (vsl none 0 0)] h12 fun v14 h15 => ∃ (a16 : Option Addr) (n16 c16 : Nat), v14 = (vsl a16 n16 c16) ∧ R (vsl a16 n16 c16) h15)))))))
theorem ok_query_reader_not {u_rb u_ro : Nat} {h : Hp} {R : Value → Hp → Prop} (H : VC_query_reader_not u_rb u_ro h R) : CallOK Tryz.prog 106 [(vhp u_rb u_ro)] h R :=
  call_of (cfg := ⟨[], [], []⟩) noNG mixed Tryz.func106 [.one (.hp u_rb u_ro)] (by kernel_rfl) rfl (by kernel_rfl) H
def VC_query_reader_and (u_rb u_ro : Nat) (h : Hp) (R : Value → Hp → Prop) : Prop :=
  (SemOK Tryz.prog (Instr.makeMap 127 none) h fun v1 h2 => ∃ (y3 : Value), v1 = y3 ∧ (SemOKu Tryz.prog (Instr.mapUpdate 127 y3 (vs ⟨#[97, 110, 100]⟩) (vi 9)) h2 fun h4 => (∀ (b5 : Nat), h4 b5 = none → let h6 : Hp := Hp.set h4 b5 (cellsO [(vs ⟨#[97, 110, 100]⟩)] 9); (CallOK Tryz.prog 72 [(vhp u_rb u_ro), (Value.func (.func 106) #[(vhp u_rb u_ro)] #[]), y3, (vsl (some (⟨b5, 0, none⟩ : Addr)) 1 1)] h6 fun v7 h8 => ∃ (a9 : Option Addr) (n9 c9 : Nat), v7 = (vsl a9 n9 c9) ∧ R (vsl a9 n9 c9) h8))))
theorem ok_query_reader_and {u_rb u_ro : Nat} {h : Hp} {R : Value → Hp → Prop} (H : VC_query_reader_and u_rb u_ro h R) : CallOK Tryz.prog 73 [(vhp u_rb u_ro)] h R :=
  call_of (cfg := ⟨[], [], []⟩) noNG mixed Tryz.func73 [.one (.hp u_rb u_ro)] (by kernel_rfl) rfl (by kernel_rfl) H
def VC_query_reader_or (u_rb u_ro : Nat) (h : Hp) (R : Value → Hp → Prop) : Prop :=
  (SemOK Tryz.prog (Instr.makeMap 127 none) h fun v1 h2 => ∃ (y3 : Value), v1 = y3 ∧ (SemOKu Tryz.prog (Instr.mapUpdate 127 y3 (vs ⟨#[111, 114]⟩) (vi 10)) h2 fun h4 => (∀ (b5 : Nat), h4 b5 = none → let h6 : Hp := Hp.set h4 b5 (cellsO [(vs ⟨#[111, 114]⟩)] 9); (CallOK Tryz.prog 72 [(vhp u_rb u_ro), (Value.func (.func 73) #[(vhp u_rb u_ro)] #[]), y3, (vsl (some (⟨b5, 0, none⟩ : Addr)) 1 1)] h6 fun v7 h8 => ∃ (a9 : Option Addr) (n9 c9 : Nat), v7 = (vsl a9 n9 c9) ∧ R (vsl a9 n9 c9) h8))))
theorem ok_query_reader_or {u_rb u_ro : Nat} {h : Hp} {R : Value → Hp → Prop} (H : VC_query_reader_or u_rb u_ro h R) : CallOK Tryz.prog 42 [(vhp u_rb u_ro)] h R :=
  call_of (cfg := ⟨[], [], []⟩) noNG mixed Tryz.func42 [.one (.hp u_rb u_ro)] (by kernel_rfl) rfl (by kernel_rfl) H
def VC_query_reader_agg (u_rb u_ro : Nat) (h : Hp) (R : Value → Hp → Prop) : Prop :=
  (∀ (b1 : Nat), h b1 = none → let h2 : Hp := Hp.set h b1 (cellsO [(vs ⟨#[99, 111, 117, 110, 116]⟩), (vs ⟨#[115, 117, 109]⟩), (vs ⟨#[109, 105, 110]⟩), (vs ⟨#[109, 97, 120]⟩)] 9); (CallOK Tryz.prog 41 [(vhp u_rb u_ro), (vsl (some (⟨b1, 0, none⟩ : Addr)) 4 4)] h2 fun v3 h4 => ∃ (s5 : ByteArray), v3 = (vs s5) ∧ (∃ (p6 : Bool), (Rd Tryz.prog ((eqGuard .eql 9 (.tmp 8) (.const (vs ⟨#[]⟩)) (vs s5) (vs ⟨#[]⟩) >>= fun _ => binOp .eql 9 (vs s5) (vs ⟨#[]⟩))) h4 (vb p6)) ∧ (let J11 : Hp → Prop := fun (h12 : Hp) => (CallOK Tryz.prog 39 [(vhp u_rb u_ro), (vs ⟨#[40]⟩)] h12 fun v13 h14 => v13 = (vtup []) ∧ (∃ (a15 : Option Addr) (n15 c15 : Nat), (Hp.cell h14 0 0 = some (vsl a15 n15 c15)) ∧ (CallOK Tryz.prog 70 [(vsl a15 n15 c15), (vs s5)] h14 fun v16 h17 => ∃ (x18 : Int), v16 = (vi x18) ∧ (let J56 : Int → Option Addr → Nat → Nat → Hp → Prop := fun (x64 : Int) (a65 : Option Addr) (n65 c65 : Nat) (h66 : Hp) => (CallOK Tryz.prog 39 [(vhp u_rb u_ro), (vs ⟨#[41]⟩)] h66 fun v67 h68 => v67 = (vtup []) ∧ R (vag [(vi x64), (vsl a65 n65 c65)]) h68); (∃ (p19 : Bool), (Rd Tryz.prog ((eqGuard .eql 9 (.tmp 23) (.const (vs ⟨#[99, 111, 117, 110, 116]⟩)) (vs s5) (vs ⟨#[99, 111, 117, 110, 116]⟩) >>= fun _ => binOp .eql 9 (vs s5) (vs ⟨#[99, 111, 117, 110, 116]⟩))) h17 (vb p19)) ∧ ((p19 = true → (∀ (b20 : Nat), h17 b20 = none → let h21 : Hp := Hp.set h17 b20 (cellsO [(vs ⟨#[42]⟩)] 9); (∃ (J22 : SV → Hp → Prop), (p19 = true → (CallOK Tryz.prog 41 [(vhp u_rb u_ro), (vsl (some (⟨b20, 0, none⟩ : Addr)) 1 1)] h21 fun v23 h24 => ∃ (s25 : ByteArray), v23 = (vs s25) ∧ J22 (.t (.one (.v (vs s25)))) h24)) ∧ (¬ (p19 = true) → J22 (.t (.one (.v (vs ⟨#[]⟩)))) h21) ∧ ∀ (h26 : Hp) (s27 : ByteArray), J22 (.t (.one (.v (vs s27)))) h26 → (∃ (p28 : Bool), (p19 = true → Rd Tryz.prog ((eqGuard .neq 9 (.tmp 28) (.const (vs ⟨#[]⟩)) (vs s27) (vs ⟨#[]⟩) >>= fun _ => binOp .neq 9 (vs s27) (vs ⟨#[]⟩))) h26 (vb p28)) ∧ (((bif p19 then p28 else false) = true → (J56 x18 none 0 0 h26)) ∧ ((bif p19 then p28 else false) = false → (∃ (p30 : Bool), (Rd Tryz.prog ((eqGuard .eql 9 (.tmp 32) (.const (vs ⟨#[99, 111, 117, 110, 116]⟩)) (vs s5) (vs ⟨#[99, 111, 117, 110, 116]⟩) >>= fun _ => binOp .eql 9 (vs s5) (vs ⟨#[99, 111, 117, 110, 116]⟩))) h26 (vb p30)) ∧ ((p30 = true → (CallOK Tryz.prog 42 [(vhp u_rb u_ro)] h26 fun v31 h32 => ∃ (a33 : Option Addr) (n33 c33 : Nat), v31 = (vsl a33 n33 c33) ∧ (J56 2 a33 n33 c33 h32))) ∧ (p30 = false → (CallOK Tryz.prog 42 [(vhp u_rb u_ro)] h26 fun v35 h36 => ∃ (a37 : Option Addr) (n37 c37 : Nat), v35 = (vsl a37 n37 c37) ∧ (J56 x18 a37 n37 c37 h36))))))))))) ∧ (¬ (p19 = true) → (∃ (J39 : SV → Hp → Prop), (p19 = true → (CallOK Tryz.prog 41 [(vhp u_rb u_ro), (vsl none 0 0)] h17 fun v40 h41 => ∃ (s42 : ByteArray), v40 = (vs s42) ∧ J39 (.t (.one (.v (vs s42)))) h41)) ∧ (¬ (p19 = true) → J39 (.t (.one (.v (vs ⟨#[]⟩)))) h17) ∧ ∀ (h43 : Hp) (s44 : ByteArray), J39 (.t (.one (.v (vs s44)))) h43 → (∃ (p45 : Bool), (p19 = true → Rd Tryz.prog ((eqGuard .neq 9 (.tmp 28) (.const (vs ⟨#[]⟩)) (vs s44) (vs ⟨#[]⟩) >>= fun _ => binOp .neq 9 (vs s44) (vs ⟨#[]⟩))) h43 (vb p45)) ∧ (((bif p19 then p45 else false) = true → (J56 x18 none 0 0 h43)) ∧ ((bif p19 then p45 else false) = false → (∃ (p47 : Bool), (Rd Tryz.prog ((eqGuard .eql 9 (.tmp 32) (.const (vs ⟨#[99, 111, 117, 110, 116]⟩)) (vs s5) (vs ⟨#[99, 111, 117, 110, 116]⟩) >>= fun _ => binOp .eql 9 (vs s5) (vs ⟨#[99, 111, 117, 110, 116]⟩))) h43 (vb p47)) ∧ ((p47 = true → (CallOK Tryz.prog 42 [(vhp u_rb u_ro)] h43 fun v48 h49 => ∃ (a50 : Option Addr) (n50 c50 : Nat), v48 = (vsl a50 n50 c50) ∧ (J56 2 a50 n50 c50 h49))) ∧ (p47 = false → (CallOK Tryz.prog 42 [(vhp u_rb u_ro)] h43 fun v52 h53 => ∃ (a54 : Option Addr) (n54 c54 : Nat), v52 = (vsl a54 n54 c54) ∧ (J56 x18 a54 n54 c54 h53)))))))))))))))); ((p6 = true → (CallOK Tryz.prog 69 [(vhp u_rb u_ro), (ifv (some (95, (vi 4))))] h4 fun v7 h8 => v7 = (vtup []) ∧ (J11 h8))) ∧ (p6 = false → (J11 h4)))))))
theorem ok_query_reader_agg {u_rb u_ro : Nat} {h : Hp} {R : Value → Hp → Prop} (H : VC_query_reader_agg u_rb u_ro h R) : CallOK Tryz.prog 40 [(vhp u_rb u_ro)] h R :=
  call_of (cfg := ⟨[], [], []⟩) noNG mixed Tryz.func40 [.one (.hp u_rb u_ro)] (by kernel_rfl) rfl (by kernel_rfl) H
def VC_query_reader_optional (u_rb u_ro : Nat) (u_word : ByteArray) (u_otherwise : Int) (h : Hp) (R : Value → Hp → Prop) : Prop :=
  (∀ (b1 : Nat), h b1 = none → let h2 : Hp := Hp.set h b1 (cellsO [(vs u_word)] 9); (CallOK Tryz.prog 41 [(vhp u_rb u_ro), (vsl (some (⟨b1, 0, none⟩ : Addr)) 1 1)] h2 fun v3 h4 => ∃ (s5 : ByteArray), v3 = (vs s5) ∧ (∃ (p6 : Bool), (Rd Tryz.prog ((eqGuard .eql 9 (.tmp 10) (.const (vs ⟨#[]⟩)) (vs s5) (vs ⟨#[]⟩) >>= fun _ => binOp .eql 9 (vs s5) (vs ⟨#[]⟩))) h4 (vb p6)) ∧ ((p6 = true → R (vi u_otherwise) h4) ∧ (p6 = false → (CallOK Tryz.prog 43 [(vhp u_rb u_ro), (vi 1000)] h4 fun v8 h9 => ∃ (x10 : Int), v8 = (vi x10) ∧ R (vi x10) h9))))))
theorem ok_query_reader_optional {u_rb u_ro : Nat} {u_word : ByteArray} {u_otherwise : Int} {h : Hp} {R : Value → Hp → Prop} (H : VC_query_reader_optional u_rb u_ro u_word u_otherwise h R) : CallOK Tryz.prog 44 [(vhp u_rb u_ro), (vs u_word), (vi u_otherwise)] h R :=
  call_of (cfg := ⟨[], [], []⟩) noNG mixed Tryz.func44 [.one (.hp u_rb u_ro), .one (.v (vs u_word)), .one (.v (vi u_otherwise))] (by kernel_rfl) rfl (by kernel_rfl) H
def VC_query_Parse (u_s : ByteArray) (h : Hp) (R : Value → Hp → Prop) : Prop :=
  (CallOK Tryz.prog 38 [(vs u_s)] h fun v1 h2 => ∃ (a3 : Option Addr) (n3 c3 : Nat) (e4 : Option (TypeId × Value)), v1 = (vtup [(vsl a3 n3 c3), (ifv e4)]) ∧ (((Option.isSome e4) = true → R (vtup [(vag [(vsl none 0 0), (vsl none 0 0), (vsl none 0 0), (vi 0), (vi 0), (vi 0), (vi 0)]), (ifv e4)]) h2) ∧ ((Option.isSome e4) = false → (∀ (b6 : Nat), h2 b6 = none → let h7 : Hp := Hp.set h2 b6 (cellsO [(vsl a3 n3 c3), (vi 0), (ifv none)] 88); (CallOK Tryz.prog 39 [(vhp b6 0), (vs ⟨#[115, 101, 108, 101, 99, 116]⟩)] h7 fun v8 h9 => v8 = (vtup []) ∧ (CallOK Tryz.prog 40 [(vhp b6 0)] h9 fun v10 h11 => ∃ (x12 : Int) (a13 : Option Addr) (n13 c13 : Nat), v10 = (vag [(vi x12), (vsl a13 n13 c13)]) ∧ (∀ (b14 : Nat), h11 b14 = none → let h15 : Hp := Hp.set h11 b14 (cellsO [(vi x12), (vsl a13 n13 c13)] 67); (SemOK Tryz.prog (Builtin.append_ #[24, 24] 24 #[(vsl none 0 0), (vsl (some (⟨b14, 0, none⟩ : Addr)) 1 1)]) h15 fun v16 h17 => ∃ (a18 : Option Addr) (n18 c18 : Nat), v16 = (vsl a18 n18 c18) ∧ (let J48 : Option Addr → Nat → Nat → Option Addr → Nat → Nat → Option Addr → Nat → Nat → Hp → Prop := fun (a256 : Option Addr) (n256 c256 : Nat) (a257 : Option Addr) (n257 c257 : Nat) (a258 : Option Addr) (n258 c258 : Nat) (h259 : Hp) => (CallOK Tryz.prog 39 [(vhp b6 0), (vs ⟨#[102, 114, 111, 109]⟩)] h259 fun v260 h261 => v260 = (vtup []) ∧ (CallOK Tryz.prog 39 [(vhp b6 0), (vs ⟨#[101, 118, 101, 110, 116, 115]⟩)] h261 fun v262 h263 => v262 = (vtup []) ∧ (∀ (b264 : Nat), h263 b264 = none → let h265 : Hp := Hp.set h263 b264 (cellsO [(vs ⟨#[119, 104, 101, 114, 101]⟩)] 9); (CallOK Tryz.prog 41 [(vhp b6 0), (vsl (some (⟨b264, 0, none⟩ : Addr)) 1 1)] h265 fun v266 h267 => ∃ (s268 : ByteArray), v266 = (vs s268) ∧ (∃ (p269 : Bool), (Rd Tryz.prog ((eqGuard .neq 9 (.tmp 46) (.const (vs ⟨#[]⟩)) (vs s268) (vs ⟨#[]⟩) >>= fun _ => binOp .neq 9 (vs s268) (vs ⟨#[]⟩))) h267 (vb p269)) ∧ (let J275 : Option Addr → Nat → Nat → Hp → Prop := fun (a314 : Option Addr) (n314 c314 : Nat) (h315 : Hp) => (∀ (b316 : Nat), h315 b316 = none → let h317 : Hp := Hp.set h315 b316 (cellsO [(vs ⟨#[103, 114, 111, 117, 112]⟩)] 9); (CallOK Tryz.prog 41 [(vhp b6 0), (vsl (some (⟨b316, 0, none⟩ : Addr)) 1 1)] h317 fun v318 h319 => ∃ (s320 : ByteArray), v318 = (vs s320) ∧ (∃ (p321 : Bool), (Rd Tryz.prog ((eqGuard .neq 9 (.tmp 53) (.const (vs ⟨#[]⟩)) (vs s320) (vs ⟨#[]⟩) >>= fun _ => binOp .neq 9 (vs s320) (vs ⟨#[]⟩))) h319 (vb p321)) ∧ (let J329 : Option Addr → Nat → Nat → Hp → Prop := fun (a353 : Option Addr) (n353 c353 : Nat) (h354 : Hp) => (CallOK Tryz.prog 39 [(vhp b6 0), (vs ⟨#[119, 105, 110, 100, 111, 119]⟩)] h354 fun v355 h356 => v355 = (vtup []) ∧ (CallOK Tryz.prog 43 [(vhp b6 0), (vi 1000)] h356 fun v357 h358 => ∃ (x359 : Int), v357 = (vi x359) ∧ (CallOK Tryz.prog 44 [(vhp b6 0), (vs ⟨#[115, 108, 105, 100, 101]⟩), (vi x359)] h358 fun v360 h361 => ∃ (x362 : Int), v360 = (vi x362) ∧ (CallOK Tryz.prog 44 [(vhp b6 0), (vs ⟨#[100, 101, 108, 97, 121]⟩), (vi 0)] h361 fun v363 h364 => ∃ (x365 : Int), v363 = (vi x365) ∧ (CallOK Tryz.prog 44 [(vhp b6 0), (vs ⟨#[108, 97, 116, 101]⟩), (vi 0)] h364 fun v366 h367 => ∃ (x368 : Int), v366 = (vi x368) ∧ (∃ (e369 : Option (TypeId × Value)), (Hp.cell h367 b6 (0 + 2) = some (ifv e369)) ∧ (∃ (a370 : Option Addr) (n370 c370 : Nat), ((Option.isNone e369) = true → Hp.cell h367 b6 0 = some (vsl a370 n370 c370)) ∧ (let J374 : Hp → Prop := fun (h375 : Hp) => (∃ (e376 : Option (TypeId × Value)), (Hp.cell h375 b6 (0 + 2) = some (ifv e376)) ∧ (let J383 : Hp → Prop := fun (h384 : Hp) => (∃ (e385 : Option (TypeId × Value)), (Hp.cell h384 b6 (0 + 2) = some (ifv e385)) ∧ (((Option.isSome e385) = true → (∃ (e386 : Option (TypeId × Value)), (Hp.cell h384 b6 (0 + 2) = some (ifv e386)) ∧ ((Hp.cell h384 b6 (0 + 2) = some (ifv e386)) ∧ R (vtup [(vag [(vsl none 0 0), (vsl none 0 0), (vsl none 0 0), (vi 0), (vi 0), (vi 0), (vi 0)]), (ifv e386)]) h384))) ∧ ((Option.isSome e385) = false → R (vtup [(vag [(vsl a256 n256 c256), (vsl a314 n314 c314), (vsl a353 n353 c353), (vi x359), (vi x362), (vi x365), (vi x368)]), (ifv none)]) h384))); (((Option.isNone e376) = true → (CallOK Tryz.prog 45 [(vag [(vsl a256 n256 c256), (vsl a314 n314 c314), (vsl a353 n353 c353), (vi x359), (vi x362), (vi x365), (vi x368)])] h375 fun v377 h378 => ∃ (e379 : Option (TypeId × Value)), v377 = (ifv e379) ∧ (Hp.store h378 b6 (0 + 2) [(ifv e379)] fun h380 => (J383 h380)))) ∧ ((Option.isNone e376) = false → (J383 h375))))); (((bif (Option.isNone e369) then (decide ((((n370 : Nat) : Int) : Int) > 0)) else false) = true → (Hp.store h367 b6 (0 + 2) [(ifv (some (95, (vi 4))))] fun h371 => (J374 h371))) ∧ ((bif (Option.isNone e369) then (decide ((((n370 : Nat) : Int) : Int) > 0)) else false) = false → (J374 h367))))))))))); ((p321 = true → (CallOK Tryz.prog 39 [(vhp b6 0), (vs ⟨#[98, 121]⟩)] h319 fun v322 h323 => v322 = (vtup []) ∧ (CallOK Tryz.prog 42 [(vhp b6 0)] h323 fun v324 h325 => ∃ (a326 : Option Addr) (n326 c326 : Nat), v324 = (vsl a326 n326 c326) ∧ (J329 a326 n326 c326 h325)))) ∧ (p321 = false → (J329 a258 n258 c258 h319))))))); ((p269 = true → (CallOK Tryz.prog 42 [(vhp b6 0)] h267 fun v270 h271 => ∃ (a272 : Option Addr) (n272 c272 : Nat), v270 = (vsl a272 n272 c272) ∧ (J275 a272 n272 c272 h271))) ∧ (p269 = false → (J275 a257 n257 c257 h267))))))))); (∃ (I20 : List Value → Hp → Prop) (m21 : List Value → Hp → Nat), I20 [(vsl a18 n18 c18), (vsl none 0 0), (vsl none 0 0), (vi 0), (vi 0), (vi 0), (vi 0)] h17 ∧ ∀ (vs22 : List Value) (h23 : Hp), I20 vs22 h23 → ∃ (a24 : Option Addr) (n24 c24 : Nat) (a25 : Option Addr) (n25 c25 : Nat) (a26 : Option Addr) (n26 c26 : Nat) (x27 : Int) (x28 : Int) (x29 : Int) (x30 : Int), vs22 = [(vsl a24 n24 c24), (vsl a25 n25 c25), (vsl a26 n26 c26), (vi x27), (vi x28), (vi x29), (vi x30)] ∧ (∀ (b31 : Nat), h23 b31 = none → let h32 : Hp := Hp.set h23 b31 (cellsO [(vs ⟨#[44]⟩)] 9); (CallOK Tryz.prog 41 [(vhp b6 0), (vsl (some (⟨b31, 0, none⟩ : Addr)) 1 1)] h32 fun v33 h34 => ∃ (s35 : ByteArray), v33 = (vs s35) ∧ (∃ (p36 : Bool), (Rd Tryz.prog ((eqGuard .neq 9 (.tmp 31) (.const (vs ⟨#[]⟩)) (vs s35) (vs ⟨#[]⟩) >>= fun _ => binOp .neq 9 (vs s35) (vs ⟨#[]⟩))) h34 (vb p36)) ∧ ((p36 = true → (CallOK Tryz.prog 40 [(vhp b6 0)] h34 fun v39 h40 => ∃ (x41 : Int) (a42 : Option Addr) (n42 c42 : Nat), v39 = (vag [(vi x41), (vsl a42 n42 c42)]) ∧ (∀ (b43 : Nat), h40 b43 = none → let h44 : Hp := Hp.set h40 b43 (cellsO [(vi x41), (vsl a42 n42 c42)] 67); (SemOK Tryz.prog (Builtin.append_ #[24, 24] 24 #[(vsl a24 n24 c24), (vsl (some (⟨b43, 0, none⟩ : Addr)) 1 1)]) h44 fun v45 h46 => ∃ (a47 : Option Addr) (n47 c47 : Nat), v45 = (vsl a47 n47 c47) ∧ (I20 [(vsl a47 n47 c47), (vsl a25 n25 c25), (vsl a26 n26 c26), (vi x27), (vi x28), (vi x29), (vi x30)] h46 ∧ m21 [(vsl a47 n47 c47), (vsl a25 n25 c25), (vsl a26 n26 c26), (vi x27), (vi x28), (vi x29), (vi x30)] h46 < m21 vs22 h23))))) ∧ (p36 = false → (J48 a24 n24 c24 a25 n25 c25 a26 n26 c26 h34))))))))))))))))
theorem ok_query_Parse {u_s : ByteArray} {h : Hp} {R : Value → Hp → Prop} (H : VC_query_Parse u_s h R) : CallOK Tryz.prog 12 [(vs u_s)] h R :=
  call_of (cfg := ⟨[19], [(8, ([], [], [(1, [.slice, .slice, .slice, .int .i64, .int .i64, .int .i64, .int .i64])]))], [(7, [0, 1, 2, 3, 4, 5, 6, 7]), (9, [0, 1, 2, 3, 4, 5, 6, 7]), (27, [0, 1, 2, 3, 4, 5, 6])]⟩) noNG mixed Tryz.func12 [.one (.v (vs u_s))] (by kernel_rfl) rfl (by kernel_rfl) H
def VC_slices_Index_string_string (u_sa : Option Addr) (u_sn u_sc : Nat) (u_v : ByteArray) (h : Hp) (R : Value → Hp → Prop) : Prop :=
  (∃ (I2 : List Value → Hp → Prop) (m3 : List Value → Hp → Nat), I2 [(vi 0)] h ∧ ∀ (vs4 : List Value) (h5 : Hp), I2 vs4 h5 → ∃ (x6 : Int), vs4 = [(vi x6)] ∧ (((decide ((x6 : Int) < ((u_sn : Nat) : Int))) = true → (∃ (b9 o10 : Nat), (u_sa = some ⟨b9, o10, none⟩ ∧ (0 : Int) ≤ x6 ∧ x6 < ((u_sn : Nat) : Int)) ∧ (∃ (s11 : ByteArray), (Hp.cell h5 b9 (o10 + x6.toNat * 1) = some (vs s11)) ∧ (∃ (p12 : Bool), (Rd Tryz.prog ((eqGuard .eql 9 (.tmp 11) (.tmp 15) (vs u_v) (vs s11) >>= fun _ => binOp .eql 9 (vs u_v) (vs s11))) h5 (vb p12)) ∧ ((p12 = true → R (vi x6) h5) ∧ (p12 = false → (∃ (x14 : Int), (IsW x14 (x6 + 1)) ∧ (I2 [(vi x14)] h5 ∧ m3 [(vi x14)] h5 < m3 vs4 h5)))))))) ∧ ((decide ((x6 : Int) < ((u_sn : Nat) : Int))) = false → R (vi (-1)) h5)))
theorem ok_slices_Index_string_string {u_sa : Option Addr} {u_sn u_sc : Nat} {u_v : ByteArray} {h : Hp} {R : Value → Hp → Prop} (H : VC_slices_Index_string_string u_sa u_sn u_sc u_v h R) : CallOK Tryz.prog 70 [(vsl u_sa u_sn u_sc), (vs u_v)] h R :=
  call_of (cfg := ⟨[], [(2, ([8], [.one (.int .i64)], []))], []⟩) noNG mixed Tryz.func70 [.one (.v (vsl u_sa u_sn u_sc)), .one (.v (vs u_v))] (by kernel_rfl) rfl (by kernel_rfl) H
def VC_slices_Contains_string_string (u_sa : Option Addr) (u_sn u_sc : Nat) (u_v : ByteArray) (h : Hp) (R : Value → Hp → Prop) : Prop :=
  (CallOK Tryz.prog 70 [(vsl u_sa u_sn u_sc), (vs u_v)] h fun v1 h2 => ∃ (x3 : Int), v1 = (vi x3) ∧ R (vb (decide ((x3 : Int) ≥ 0))) h2)
theorem ok_slices_Contains_string_string {u_sa : Option Addr} {u_sn u_sc : Nat} {u_v : ByteArray} {h : Hp} {R : Value → Hp → Prop} (H : VC_slices_Contains_string_string u_sa u_sn u_sc u_v h R) : CallOK Tryz.prog 71 [(vsl u_sa u_sn u_sc), (vs u_v)] h R :=
  call_of (cfg := ⟨[], [], []⟩) noNG mixed Tryz.func71 [.one (.v (vsl u_sa u_sn u_sc)), .one (.v (vs u_v))] (by kernel_rfl) rfl (by kernel_rfl) H
end Go.Proofs.YtejefijpcggkfaaGreatDoor
namespace Go.Vc
open Go
set_option linter.unusedVariables false
section
variable {P : Program}
end
structure Bes (F : Nat → Prop) (h : Hp) (F' : Nat → Prop) (h' bx : Hp) : Prop where
  m : Mut F h F' h'
  al : ∀ b, F' b → h' b ≠ none
  x : bx.le h'
  n : ∀ b o, bx b = some o → (h b = none ∨ F b) ∧ ¬ F' b
section
variable {F F' F2 : Nat → Prop} {h h' h2 bx : Hp}
end
end Go.Vc
namespace Go.Vc
open Go Go.MapKept
set_option linter.unusedVariables false
section
variable {P : Program} {h : Hp}
theorem sem_makeMap {T : TypeId} {K : Value → Hp → Prop} (hK : ∀ b, h b = none → K (.map (some b)) (h.set b (.map #[] 0))) : SemOK P (Instr.makeMap T none) h K := by
  intro w hs
  refine ⟨.map (some w.heap.size), _, _, ?_, Sub.pushSet hs _, Fr.pushSet h w _, hK _ hs.none⟩
  simp [Instr.makeMap, newObj, Sem.run_bind, Sem.run]
theorem run_getObj {w : World} {r : Nat} {es : Array MapEntry} {c : Nat} (hb : w.heap[r]? = some (.map es c)) : (getObj r).run P w = .ok (.map es c) w := by simp [getObj, Sem.run, hb]
theorem Sub.mapSet {w : World} (hs : Sub h w) {b : Nat} {o o' : Obj} (hb : h b = some o) : Sub (h.set b o') { w with heap := w.heap.setIfInBounds b o' } ∧ Fr h (h.set b o') w { w with heap := w.heap.setIfInBounds b o' } := by
  have hw := hs b _ hb
  obtain ⟨k1, k2⟩ := heap_set (o' := o') hw
  refine ⟨fun c oc hc => ?_, ⟨rfl, rfl, rfl, by simp, fun c hc hn => ?_⟩⟩
  · by_cases e : c = b
    · subst e; rw [Hp.set_same] at hc; cases hc; exact k1
    · rw [Hp.set_other _ _ e] at hc; exact (k2 c e).trans (hs c oc hc)
  · have e : c ≠ b := fun e => by subst e; rw [hn] at hb; cases hb
    exact ⟨k2 c e, by rw [Hp.set_other _ _ e]; exact hn⟩
theorem sem_mapNew {T k e : TypeId} {d : TypeDesc} (hT : P.underlying T = some (.map k e)) (hd : P.underlying k = some d) {b : Nat} {es : Array MapEntry} {clock : Nat} (hb : h b = some (.map es clock)) {key v : Value} (hk : IsKey d key) (hf : Instr.findNow d key es.toList 0 = some none) {K : Hp → Prop}
    (hK : K (h.set b (.map (es.push { key := key, val := v, born := clock }) (clock + 1)))) : SemOKu P (Instr.mapUpdate T (.map (some b)) key v) h K := by
  intro w hs
  have hw := hs b _ hb
  obtain ⟨k1, k2⟩ := hs.mapSet (o' := .map (es.push { key := key, val := v, born := clock }) (clock + 1)) hb
  refine ⟨_, _, ?_, k1, k2, hK⟩
  simp only [Instr.mapUpdate, Sem.run_bind, run_underlying hT, Result.andThen_ok, run_getObj hw, run_checkKey hd hk, run_findKey hd hf, run_setObj_map _ hw]
theorem rd_lookup {T k e : TypeId} {d : TypeDesc} (hT : P.underlying T = some (.map k e)) (hd : P.underlying k = some d) {b : Nat} {es : Array MapEntry} {clock : Nat} (hb : h b = some (.map es clock)) {key v : Value} (hk : IsKey d key) {i : Nat} (hf : Instr.findNow d key es.toList 0 = some (some (i, v))) : Rd P (Instr.lookup T (.map (some b)) key false) h v := by
  intro w hs
  have hw := hs b _ hb
  simp only [Instr.lookup, Sem.run_bind, run_underlying hT, Result.andThen_ok, run_getObj hw, run_checkKey hd hk, run_findKey hd hf, Sem.run_pure]
  rfl
end
end Go.Vc
namespace Go.Proofs.YtejefijpcggkfaaGreatDoor
open Go Go.Vc
set_option maxRecDepth 100000
set_option linter.unusedVariables false
def VC_expr_Arity (u_op : Int) (h : Hp) (R : Value → Hp → Prop) : Prop :=
  (((bif (decide ((u_op : Int) = 1)) then true else (decide ((u_op : Int) = 2))) = true → R (vi 0) h) ∧ ((bif (decide ((u_op : Int) = 1)) then true else (decide ((u_op : Int) = 2))) = false → (((bif (bif (decide ((u_op : Int) = 3)) then true else (decide ((u_op : Int) = 4))) then true else (decide ((u_op : Int) = 5))) = true → R (vi 1) h) ∧ ((bif (bif (decide ((u_op : Int) = 3)) then true else (decide ((u_op : Int) = 4))) then true else (decide ((u_op : Int) = 5))) = false → (((bif (decide ((u_op : Int) ≥ 6)) then (decide ((u_op : Int) ≤ 12)) else false) = true → R (vi 2) h) ∧ ((bif (decide ((u_op : Int) ≥ 6)) then (decide ((u_op : Int) ≤ 12)) else false) = false → R (vi (-1)) h))))))
theorem ok_expr_Arity {u_op : Int} {h : Hp} {R : Value → Hp → Prop} (H : VC_expr_Arity u_op h R) : CallOK Tryz.prog 135 [(vi u_op)] h R :=
  call_of (cfg := ⟨[], [], []⟩) noNG mixed Tryz.func135 [.one (.v (vi u_op))] (by kernel_rfl) rfl (by kernel_rfl) H
def VC_expr_field (u_eTime : Int) (u_eKKind : Int) (u_eKN : Int) (u_eAKind : Int) (u_eAN : Int) (u_eBKind : Int) (u_eBN : Int) (u_n : Int) (h : Hp) (R : Value → Hp → Prop) : Prop :=
  (CallOK Tryz.prog 101 [(vi u_eTime)] h fun v1 h2 => ∃ (x3 : Int) (x4 : Int), v1 = (vag [(vi x3), (vi x4)]) ∧ (∃ (x5 : Int) (x6 : Int), (Rd Tryz.prog (Instr.index 165 (vag [(vi x3), (vi x4), (vi u_eKKind), (vi u_eKN), (vi u_eAKind), (vi u_eAN), (vi u_eBKind), (vi u_eBN)]) (vi u_n)) h2 (vag [(vi x5), (vi x6)])) ∧ R (vag [(vi x5), (vi x6)]) h2))
theorem ok_expr_field {u_eTime : Int} {u_eKKind : Int} {u_eKN : Int} {u_eAKind : Int} {u_eAN : Int} {u_eBKind : Int} {u_eBN : Int} {u_n : Int} {h : Hp} {R : Value → Hp → Prop} (H : VC_expr_field u_eTime u_eKKind u_eKN u_eAKind u_eAN u_eBKind u_eBN u_n h R) : CallOK Tryz.prog 86 [(vag [(vi u_eTime), (vi u_eKKind), (vi u_eKN), (vi u_eAKind), (vi u_eAN), (vi u_eBKind), (vi u_eBN)]), (vi u_n)] h R :=
  call_of (cfg := ⟨[], [], [(1, [0, 1, 3, 4, 5, 6, 7, 8, 10, 2, 9, 11, 12])]⟩) noNG mixed Tryz.func86 [.ag [.v (vi u_eTime), .v (vi u_eKKind), .v (vi u_eKN), .v (vi u_eAKind), .v (vi u_eAN), .v (vi u_eBKind), .v (vi u_eBN)], .one (.v (vi u_n))] (by kernel_rfl) rfl (by kernel_rfl) H
def VC_expr_Eval (u_la : Option Addr) (u_ln u_lc : Nat) (u_eTime : Int) (u_eKKind : Int) (u_eKN : Int) (u_eAKind : Int) (u_eAN : Int) (u_eBKind : Int) (u_eBN : Int) (h : Hp) (R : Value → Hp → Prop) : Prop :=
  (SemOK Tryz.prog (Instr.makeSlice 49 (vi ((u_ln : Nat) : Int)) (vi ((u_ln : Nat) : Int))) h fun v1 h2 => ∃ (a3 : Option Addr) (n3 c3 : Nat), v1 = (vsl a3 n3 c3) ∧ (∃ (I5 : List Value → Hp → Prop) (m6 : List Value → Hp → Nat), I5 [(vi 0)] h2 ∧ ∀ (vs7 : List Value) (h8 : Hp), I5 vs7 h8 → ∃ (x9 : Int), vs7 = [(vi x9)] ∧ (((decide ((x9 : Int) < ((u_ln : Nat) : Int))) = true → (let J83 : Hp → Prop := fun (h84 : Hp) => (∃ (x85 : Int), (IsW x85 (x9 + 1)) ∧ (I5 [(vi x85)] h84 ∧ m6 [(vi x85)] h84 < m6 vs7 h8)); (∃ (b12 o13 : Nat), (u_la = some ⟨b12, o13, none⟩ ∧ (0 : Int) ≤ x9 ∧ x9 < ((u_ln : Nat) : Int)) ∧ (∃ (x14 : Int) (x15 : Int) (x16 : Int) (x17 : Int) (x18 : Int) (x19 : Int), (Hp.row h8 b12 (o13 + x9.toNat * 6) 6 = some [(vi x14), (vi x15), (vi x16), (vi x17), (vi x18), (vi x19)]) ∧ (((decide ((x14 : Int) = 1)) = true → (∃ (b20 o21 : Nat), (a3 = some ⟨b20, o21, none⟩ ∧ (0 : Int) ≤ x9 ∧ x9 < ((n3 : Nat) : Int)) ∧ (Hp.store h8 b20 (o21 + x9.toNat * 2) [(vi x18), (vi x19)] fun h22 => (J83 h22)))) ∧ ((decide ((x14 : Int) = 1)) = false → (((decide ((x14 : Int) = 2)) = true → (CallOK Tryz.prog 86 [(vag [(vi u_eTime), (vi u_eKKind), (vi u_eKN), (vi u_eAKind), (vi u_eAN), (vi u_eBKind), (vi u_eBN)]), (vi x17)] h8 fun v24 h25 => ∃ (x26 : Int) (x27 : Int), v24 = (vag [(vi x26), (vi x27)]) ∧ (∃ (b28 o29 : Nat), (a3 = some ⟨b28, o29, none⟩ ∧ (0 : Int) ≤ x9 ∧ x9 < ((n3 : Nat) : Int)) ∧ (Hp.store h25 b28 (o29 + x9.toNat * 2) [(vi x26), (vi x27)] fun h30 => (J83 h30))))) ∧ ((decide ((x14 : Int) = 2)) = false → (((decide ((x14 : Int) = 3)) = true → (∃ (b32 o33 : Nat), (a3 = some ⟨b32, o33, none⟩ ∧ (0 : Int) ≤ x15 ∧ x15 < ((n3 : Nat) : Int)) ∧ (∃ (x34 : Int) (x35 : Int), (Hp.row h8 b32 (o33 + x15.toNat * 2) 2 = some [(vi x34), (vi x35)]) ∧ (CallOK Tryz.prog 87 [(vag [(vi x34), (vi x35)])] h8 fun v36 h37 => ∃ (x38 : Int) (x39 : Int), v36 = (vag [(vi x38), (vi x39)]) ∧ (∃ (b40 o41 : Nat), (a3 = some ⟨b40, o41, none⟩ ∧ (0 : Int) ≤ x9 ∧ x9 < ((n3 : Nat) : Int)) ∧ (Hp.store h37 b40 (o41 + x9.toNat * 2) [(vi x38), (vi x39)] fun h42 => (J83 h42))))))) ∧ ((decide ((x14 : Int) = 3)) = false → (((decide ((x14 : Int) = 4)) = true → (∃ (b44 o45 : Nat), (a3 = some ⟨b44, o45, none⟩ ∧ (0 : Int) ≤ x15 ∧ x15 < ((n3 : Nat) : Int)) ∧ (∃ (x46 : Int) (x47 : Int), (Hp.row h8 b44 (o45 + x15.toNat * 2) 2 = some [(vi x46), (vi x47)]) ∧ (CallOK Tryz.prog 88 [(vag [(vi x46), (vi x47)])] h8 fun v48 h49 => ∃ (x50 : Int) (x51 : Int), v48 = (vag [(vi x50), (vi x51)]) ∧ (∃ (b52 o53 : Nat), (a3 = some ⟨b52, o53, none⟩ ∧ (0 : Int) ≤ x9 ∧ x9 < ((n3 : Nat) : Int)) ∧ (Hp.store h49 b52 (o53 + x9.toNat * 2) [(vi x50), (vi x51)] fun h54 => (J83 h54))))))) ∧ ((decide ((x14 : Int) = 4)) = false → (((decide ((x14 : Int) = 5)) = true → (∃ (b56 o57 : Nat), (a3 = some ⟨b56, o57, none⟩ ∧ (0 : Int) ≤ x15 ∧ x15 < ((n3 : Nat) : Int)) ∧ (∃ (x58 : Int), (Hp.cell h8 b56 (o57 + x15.toNat * 2) = some (vi x58)) ∧ (CallOK Tryz.prog 55 [(vb (decide ((x58 : Int) = 0)))] h8 fun v59 h60 => ∃ (x61 : Int) (x62 : Int), v59 = (vag [(vi x61), (vi x62)]) ∧ (∃ (b63 o64 : Nat), (a3 = some ⟨b63, o64, none⟩ ∧ (0 : Int) ≤ x9 ∧ x9 < ((n3 : Nat) : Int)) ∧ (Hp.store h60 b63 (o64 + x9.toNat * 2) [(vi x61), (vi x62)] fun h65 => (J83 h65))))))) ∧ ((decide ((x14 : Int) = 5)) = false → (∃ (b67 o68 : Nat), (a3 = some ⟨b67, o68, none⟩ ∧ (0 : Int) ≤ x15 ∧ x15 < ((n3 : Nat) : Int)) ∧ (∃ (x69 : Int) (x70 : Int), (Hp.row h8 b67 (o68 + x15.toNat * 2) 2 = some [(vi x69), (vi x70)]) ∧ (∃ (b71 o72 : Nat), (a3 = some ⟨b71, o72, none⟩ ∧ (0 : Int) ≤ x16 ∧ x16 < ((n3 : Nat) : Int)) ∧ (∃ (x73 : Int) (x74 : Int), (Hp.row h8 b71 (o72 + x16.toNat * 2) 2 = some [(vi x73), (vi x74)]) ∧ (CallOK Tryz.prog 89 [(vi x14), (vag [(vi x69), (vi x70)]), (vag [(vi x73), (vi x74)])] h8 fun v75 h76 => ∃ (x77 : Int) (x78 : Int), v75 = (vag [(vi x77), (vi x78)]) ∧ (∃ (b79 o80 : Nat), (a3 = some ⟨b79, o80, none⟩ ∧ (0 : Int) ≤ x9 ∧ x9 < ((n3 : Nat) : Int)) ∧ (Hp.store h76 b79 (o80 + x9.toNat * 2) [(vi x77), (vi x78)] fun h81 => (J83 h81)))))))))))))))))))))) ∧ ((decide ((x9 : Int) < ((u_ln : Nat) : Int))) = false → (∃ (x86 : Int), (IsW x86 (((n3 : Nat) : Int) - 1)) ∧ (∃ (b87 o88 : Nat), (a3 = some ⟨b87, o88, none⟩ ∧ (0 : Int) ≤ x86 ∧ x86 < ((n3 : Nat) : Int)) ∧ (∃ (x89 : Int) (x90 : Int), (Hp.row h8 b87 (o88 + x86.toNat * 2) 2 = some [(vi x89), (vi x90)]) ∧ R (vag [(vi x89), (vi x90)]) h8)))))))
theorem ok_expr_Eval {u_la : Option Addr} {u_ln u_lc : Nat} {u_eTime : Int} {u_eKKind : Int} {u_eKN : Int} {u_eAKind : Int} {u_eAN : Int} {u_eBKind : Int} {u_eBN : Int} {h : Hp} {R : Value → Hp → Prop} (H : VC_expr_Eval u_la u_ln u_lc u_eTime u_eKKind u_eKN u_eAKind u_eAN u_eBKind u_eBN h R) : CallOK Tryz.prog 54 [(vsl u_la u_ln u_lc), (vag [(vi u_eTime), (vi u_eKKind), (vi u_eKN), (vi u_eAKind), (vi u_eAN), (vi u_eBKind), (vi u_eBN)])] h R :=
  call_of (cfg := ⟨[], [(3, ([13], [.one (.int .i64)], []))], [(6, [0, 1, 2, 3, 4, 5, 6, 7, 8, 9, 10, 11, 12, 13, 14, 15, 16])]⟩) noNG mixed Tryz.func54 [.one (.v (vsl u_la u_ln u_lc)), .ag [.v (vi u_eTime), .v (vi u_eKKind), .v (vi u_eKN), .v (vi u_eAKind), .v (vi u_eAN), .v (vi u_eBKind), .v (vi u_eBN)]] (by kernel_rfl) rfl (by kernel_rfl) H
def VC_expr_join (u_a : Int) (u_b : Int) (h : Hp) (R : Value → Hp → Prop) : Prop :=
  (((decide ((u_a : Int) = 0)) = true → R (vtup [(vi u_b), (vb true)]) h) ∧ ((decide ((u_a : Int) = 0)) = false → (let J3 : Bool → Prop := fun (p4 : Bool) => ((p4 = true → R (vtup [(vi u_a), (vb true)]) h) ∧ (p4 = false → R (vtup [(vi 0), (vb false)]) h)); (((decide ((u_b : Int) = 0)) = true → (J3 (decide ((u_b : Int) = 0)))) ∧ ((decide ((u_b : Int) = 0)) = false → (J3 (decide ((u_a : Int) = u_b))))))))
theorem ok_expr_join {u_a : Int} {u_b : Int} {h : Hp} {R : Value → Hp → Prop} (H : VC_expr_join u_a u_b h R) : CallOK Tryz.prog 136 [(vi u_a), (vi u_b)] h R :=
  call_of (cfg := ⟨[], [], []⟩) noNG mixed Tryz.func136 [.one (.v (vi u_a)), .one (.v (vi u_b))] (by kernel_rfl) rfl (by kernel_rfl) H
def VC_expr_Type (u_la : Option Addr) (u_ln u_lc : Nat) (h : Hp) (R : Value → Hp → Prop) : Prop :=
  (SemOK Tryz.prog (Instr.makeSlice 57 (vi ((u_ln : Nat) : Int)) (vi ((u_ln : Nat) : Int))) h fun v1 h2 => ∃ (a3 : Option Addr) (n3 c3 : Nat), v1 = (vsl a3 n3 c3) ∧ (∃ (I5 : List Value → Hp → Prop) (m6 : List Value → Hp → Nat), I5 [(vi 0)] h2 ∧ ∀ (vs7 : List Value) (h8 : Hp), I5 vs7 h8 → ∃ (x9 : Int), vs7 = [(vi x9)] ∧ (((decide ((x9 : Int) < ((u_ln : Nat) : Int))) = true → (let J95 : Hp → Prop := fun (h96 : Hp) => (∃ (x97 : Int), (IsW x97 (x9 + 1)) ∧ (I5 [(vi x97)] h96 ∧ m6 [(vi x97)] h96 < m6 vs7 h8)); (∃ (b12 o13 : Nat), (u_la = some ⟨b12, o13, none⟩ ∧ (0 : Int) ≤ x9 ∧ x9 < ((u_ln : Nat) : Int)) ∧ (∃ (x14 : Int) (x15 : Int) (x16 : Int) (x17 : Int) (x18 : Int) (x19 : Int), (Hp.row h8 b12 (o13 + x9.toNat * 6) 6 = some [(vi x14), (vi x15), (vi x16), (vi x17), (vi x18), (vi x19)]) ∧ (let J39 : Int → Prop := fun (x60 : Int) => (CallOK Tryz.prog 135 [(vi x14)] h8 fun v61 h62 => ∃ (x63 : Int), v61 = (vi x63) ∧ (∀ (b64 : Nat), h62 b64 = none → let h65 : Hp := Hp.set h62 b64 (cellsO [(vi x15), (vi x16)] 3); (∃ (a66 : Option Addr) (n66 c66 : Nat), (Rd Tryz.prog (Instr.sliceAt 57 (vsl (some (⟨b64, 0, none⟩ : Addr)) 2 2) none (some (vi x63)) none) h65 (vsl a66 n66 c66)) ∧ (∃ (I68 : List Value → Hp → Prop) (m69 : List Value → Hp → Nat), I68 [(vi 0)] h65 ∧ ∀ (vs70 : List Value) (h71 : Hp), I68 vs70 h71 → ∃ (x72 : Int), vs70 = [(vi x72)] ∧ (((decide ((x72 : Int) < ((n66 : Nat) : Int))) = true → (∃ (b75 o76 : Nat), (a66 = some ⟨b75, o76, none⟩ ∧ (0 : Int) ≤ x72 ∧ x72 < ((n66 : Nat) : Int)) ∧ (∃ (x77 : Int), (Hp.cell h71 b75 (o76 + x72.toNat * 1) = some (vi x77)) ∧ (∃ (b78 o79 : Nat), (a3 = some ⟨b78, o79, none⟩ ∧ (0 : Int) ≤ x77 ∧ x77 < ((n3 : Nat) : Int)) ∧ (∃ (x80 : Int), (Hp.cell h71 b78 (o79 + x77.toNat * 1) = some (vi x80)) ∧ (CallOK Tryz.prog 136 [(vi x60), (vi x80)] h71 fun v81 h82 => ∃ (x83 : Int) (p84 : Bool), v81 = (vtup [(vi x83), (vb p84)]) ∧ (((!p84) = true → R (vtup [(vi 0), (ifv (some (95, (vi 3))))]) h82) ∧ ((!p84) = false → (∃ (x86 : Int), (IsW x86 (x72 + 1)) ∧ (I68 [(vi x86)] h82 ∧ m69 [(vi x86)] h82 < m69 vs70 h71)))))))))) ∧ ((decide ((x72 : Int) < ((n66 : Nat) : Int))) = false → (∃ (b87 o88 : Nat), (a3 = some ⟨b87, o88, none⟩ ∧ (0 : Int) ≤ x9 ∧ x9 < ((n3 : Nat) : Int)) ∧ (Hp.store h71 b87 (o88 + x9.toNat * 1) [(vi x60)] fun h89 => (((bif (decide ((x14 : Int) = 11)) then true else (decide ((x14 : Int) = 12))) = true → (∃ (b90 o91 : Nat), (a3 = some ⟨b90, o91, none⟩ ∧ (0 : Int) ≤ x9 ∧ x9 < ((n3 : Nat) : Int)) ∧ (Hp.store h89 b90 (o91 + x9.toNat * 1) [(vi 2)] fun h92 => (J95 h92)))) ∧ ((bif (decide ((x14 : Int) = 11)) then true else (decide ((x14 : Int) = 12))) = false → (J95 h89))))))))))); (((decide ((x14 : Int) = 1)) = true → (∃ (b20 o21 : Nat), (a3 = some ⟨b20, o21, none⟩ ∧ (0 : Int) ≤ x9 ∧ x9 < ((n3 : Nat) : Int)) ∧ (Hp.store h8 b20 (o21 + x9.toNat * 1) [(vi x18)] fun h22 => (J95 h22)))) ∧ ((decide ((x14 : Int) = 1)) = false → (((decide ((x14 : Int) = 2)) = true → (∃ (b24 o25 : Nat), (a3 = some ⟨b24, o25, none⟩ ∧ (0 : Int) ≤ x9 ∧ x9 < ((n3 : Nat) : Int)) ∧ (Hp.store h8 b24 (o25 + x9.toNat * 1) [(vi 1)] fun h26 => (J95 h26)))) ∧ ((decide ((x14 : Int) = 2)) = false → (((decide ((x14 : Int) = 5)) = true → (∃ (b28 o29 : Nat), (a3 = some ⟨b28, o29, none⟩ ∧ (0 : Int) ≤ x9 ∧ x9 < ((n3 : Nat) : Int)) ∧ (Hp.store h8 b28 (o29 + x9.toNat * 1) [(vi 2)] fun h30 => (J95 h30)))) ∧ ((decide ((x14 : Int) = 5)) = false → (let J35 : Bool → Prop := fun (p36 : Bool) => ((p36 = true → (J39 2)) ∧ (p36 = false → (J39 1))); (((decide ((x14 : Int) = 4)) = true → (J35 (decide ((x14 : Int) = 4)))) ∧ ((decide ((x14 : Int) = 4)) = false → (((decide ((x14 : Int) = 9)) = true → (J35 (decide ((x14 : Int) = 9)))) ∧ ((decide ((x14 : Int) = 9)) = false → (J35 (decide ((x14 : Int) = 10))))))))))))))))))) ∧ ((decide ((x9 : Int) < ((u_ln : Nat) : Int))) = false → (∃ (x98 : Int), (IsW x98 (((n3 : Nat) : Int) - 1)) ∧ (∃ (b99 o100 : Nat), (a3 = some ⟨b99, o100, none⟩ ∧ (0 : Int) ≤ x98 ∧ x98 < ((n3 : Nat) : Int)) ∧ (∃ (x101 : Int), (Hp.cell h8 b99 (o100 + x98.toNat * 1) = some (vi x101)) ∧ R (vtup [(vi x101), (ifv none)]) h8)))))))
theorem ok_expr_Type {u_la : Option Addr} {u_ln u_lc : Nat} {h : Hp} {R : Value → Hp → Prop} (H : VC_expr_Type u_la u_ln u_lc h R) : CallOK Tryz.prog 110 [(vsl u_la u_ln u_lc)] h R :=
  call_of (cfg := ⟨[], [(18, ([56], [.one (.int .i64)], [])), (3, ([17], [.one (.int .i64)], []))], [(17, [0, 1, 2, 3, 5, 6, 10, 7, 4, 8, 9])]⟩) noNG mixed Tryz.func110 [.one (.v (vsl u_la u_ln u_lc))] (by kernel_rfl) rfl (by kernel_rfl) H
def VC_expr_Join (u_op : Int) (u_xa : Option Addr) (u_xn u_xc : Nat) (u_ya : Option Addr) (u_yn u_yc : Nat) (h : Hp) (R : Value → Hp → Prop) : Prop :=
  (CallOK Tryz.prog 140 [(vsl u_xa u_xn u_xc)] h fun v1 h2 => ∃ (a3 : Option Addr) (n3 c3 : Nat), v1 = (vsl a3 n3 c3) ∧ (∃ (x4 : Int), (IsW x4 (((u_xn : Nat) : Int) - 1)) ∧ (∃ (I6 : List Value → Hp → Prop) (m7 : List Value → Hp → Nat), I6 [(vsl a3 n3 c3), (vi 0)] h2 ∧ ∀ (vs8 : List Value) (h9 : Hp), I6 vs8 h9 → ∃ (a10 : Option Addr) (n10 c10 : Nat) (x11 : Int), vs8 = [(vsl a10 n10 c10), (vi x11)] ∧ (((decide ((x11 : Int) < ((u_yn : Nat) : Int))) = true → (∃ (b14 o15 : Nat), (u_ya = some ⟨b14, o15, none⟩ ∧ (0 : Int) ≤ x11 ∧ x11 < ((u_yn : Nat) : Int)) ∧ (∃ (x16 : Int) (x17 : Int) (x18 : Int) (x19 : Int) (x20 : Int) (x21 : Int), (Hp.row h9 b14 (o15 + x11.toNat * 6) 6 = some [(vi x16), (vi x17), (vi x18), (vi x19), (vi x20), (vi x21)]) ∧ (CallOK Tryz.prog 135 [(vi x16)] h9 fun v22 h23 => ∃ (x24 : Int), v22 = (vi x24) ∧ (let J28 : Int → Prop := fun (x38 : Int) => (CallOK Tryz.prog 135 [(vi x16)] h23 fun v39 h40 => ∃ (x41 : Int), v39 = (vi x41) ∧ (let J45 : Int → Prop := fun (x48 : Int) => (∀ (b49 : Nat), h40 b49 = none → let h50 : Hp := Hp.set h40 b49 (cellsO [(vi x16), (vi x38), (vi x48), (vi x19), (vi x20), (vi x21)] 137); (SemOK Tryz.prog (Builtin.append_ #[25, 25] 25 #[(vsl a10 n10 c10), (vsl (some (⟨b49, 0, none⟩ : Addr)) 1 1)]) h50 fun v51 h52 => ∃ (a53 : Option Addr) (n53 c53 : Nat), v51 = (vsl a53 n53 c53) ∧ (∃ (x55 : Int), (IsW x55 (x11 + 1)) ∧ (I6 [(vsl a53 n53 c53), (vi x55)] h52 ∧ m7 [(vsl a53 n53 c53), (vi x55)] h52 < m7 vs8 h9)))); (((decide ((x41 : Int) > 1)) = true → (∃ (x42 : Int), (IsW x42 (x18 + ((u_xn : Nat) : Int))) ∧ (J45 x42))) ∧ ((decide ((x41 : Int) > 1)) = false → (J45 x18))))); (((decide ((x24 : Int) > 0)) = true → (∃ (x25 : Int), (IsW x25 (x17 + ((u_xn : Nat) : Int))) ∧ (J28 x25))) ∧ ((decide ((x24 : Int) > 0)) = false → (J28 x17)))))))) ∧ ((decide ((x11 : Int) < ((u_yn : Nat) : Int))) = false → (CallOK Tryz.prog 135 [(vi u_op)] h9 fun v56 h57 => ∃ (x58 : Int), v56 = (vi x58) ∧ (let J62 : Int → Prop := fun (x65 : Int) => (∀ (b66 : Nat), h57 b66 = none → let h67 : Hp := Hp.set h57 b66 (cellsO [(vi u_op), (vi x4), (vi x65), (vi 0), (vi 0), (vi 0)] 137); (SemOK Tryz.prog (Builtin.append_ #[25, 25] 25 #[(vsl a10 n10 c10), (vsl (some (⟨b66, 0, none⟩ : Addr)) 1 1)]) h67 fun v68 h69 => ∃ (a70 : Option Addr) (n70 c70 : Nat), v68 = (vsl a70 n70 c70) ∧ R (vsl a70 n70 c70) h69)); (((decide ((x58 : Int) > 1)) = true → (∃ (x59 : Int), (IsW x59 (((n10 : Nat) : Int) - 1)) ∧ (J62 x59))) ∧ ((decide ((x58 : Int) > 1)) = false → (J62 0))))))))))
theorem ok_expr_Join {u_op : Int} {u_xa : Option Addr} {u_xn u_xc : Nat} {u_ya : Option Addr} {u_yn u_yc : Nat} {h : Hp} {R : Value → Hp → Prop} (H : VC_expr_Join u_op u_xa u_xn u_xc u_ya u_yn u_yc h R) : CallOK Tryz.prog 126 [(vi u_op), (vsl u_xa u_xn u_xc), (vsl u_ya u_yn u_yc)] h R :=
  call_of (cfg := ⟨[], [(4, ([7, 20], [.one (.slice), .one (.int .i64)], []))], []⟩) noNG mixed Tryz.func126 [.one (.v (vi u_op)), .one (.v (vsl u_xa u_xn u_xc)), .one (.v (vsl u_ya u_yn u_yc))] (by kernel_rfl) rfl (by kernel_rfl) H
def VC_slices_Clone_api_Node_api_Node (u_sa : Option Addr) (u_sn u_sc : Nat) (h : Hp) (R : Value → Hp → Prop) : Prop :=
  (∃ (p1 : Bool), (Rd Tryz.prog ((eqGuard .eql 25 (.tmp 3) (.const (vsl none 0 0)) (vsl u_sa u_sn u_sc) (vsl none 0 0) >>= fun _ => binOp .eql 25 (vsl u_sa u_sn u_sc) (vsl none 0 0))) h (vb p1)) ∧ ((p1 = true → R (vsl none 0 0) h) ∧ (p1 = false → (∀ (b3 : Nat), h b3 = none → let h4 : Hp := Hp.set h b3 (cellsO [] 137); (SemOK Tryz.prog (Builtin.append_ #[25, 25] 25 #[(vsl (some (⟨b3, 0, none⟩ : Addr)) 0 0), (vsl u_sa u_sn u_sc)]) h4 fun v5 h6 => ∃ (a7 : Option Addr) (n7 c7 : Nat), v5 = (vsl a7 n7 c7) ∧ R (vsl a7 n7 c7) h6)))))
theorem ok_slices_Clone_api_Node_api_Node {u_sa : Option Addr} {u_sn u_sc : Nat} {h : Hp} {R : Value → Hp → Prop} (H : VC_slices_Clone_api_Node_api_Node u_sa u_sn u_sc h R) : CallOK Tryz.prog 140 [(vsl u_sa u_sn u_sc)] h R :=
  call_of (cfg := ⟨[], [], []⟩) noNG mixed Tryz.func140 [.one (.v (vsl u_sa u_sn u_sc))] (by kernel_rfl) rfl (by kernel_rfl) H
end Go.Proofs.YtejefijpcggkfaaGreatDoor
namespace Go.Proofs.YtejefijpcggkfaaGreatDoor
open Go Go.Vc
set_option maxRecDepth 100000
set_option linter.unusedVariables false
end Go.Proofs.YtejefijpcggkfaaGreatDoor
namespace Go.Proofs.YtejefijpcggkfaaGreatDoor
open Go Go.Vc
set_option linter.unusedVariables false
set_option maxRecDepth 100000
def encN (n : Nd) : List Value := [vi n.op, vi n.x, vi n.y, vi n.n, vi n.v.1, vi n.v.2]
theorem encN_len (n : Nd) : (encN n).length = 6 := rfl
theorem one_encN (n : Nd) : ∀ u ∈ encN n, u.oneCell' = true := by
  intro u hu
  simp [encN] at hu
  rcases hu with rfl | rfl | rfl | rfl | rfl | rfl <;> rfl
theorem one_nds (l : List Nd) : ∀ u ∈ l.flatMap encN, u.oneCell' = true := by
  intro u hu
  obtain ⟨v, _, hv⟩ := List.mem_flatMap.1 hu
  exact one_encN v u hv
theorem elNd : ElT Tryz.prog 25 137 6 48 := .of (by kernel_rfl) (by kernel_rfl) (by decide)
end Go.Proofs.YtejefijpcggkfaaGreatDoor
namespace Go.Proofs.YtejefijpcggkfaaGreatDoor
open Go Go.Vc
set_option linter.unusedVariables false
set_option maxRecDepth 100000
theorem popN_some {n : Nd} {st s : List Int} (ha : 0 ≤ arI n.op) (h : popN n st = some s) : (s.length : Int) = st.length - arI n.op ∧ st.reverse.take s.length = s.reverse := by
  unfold popN at h
  rcases arI_range ha with h1 | h1 | h1
  · rw [if_pos h1] at h
    cases h
    refine ⟨by omega, ?_⟩
    rw [List.take_of_length_le (by simp)]
  · rw [if_neg (by omega), if_pos h1] at h
    match st, h with
    | a :: t, h =>
      simp only at h
      split at h
      · cases h
        refine ⟨by simp; omega, ?_⟩
        rw [List.reverse_cons, List.take_left' (by simp)]
      · cases h
  · rw [if_neg (by omega), if_neg (by omega)] at h
    match st, h with
    | b :: a :: t, h =>
      simp only at h
      split at h
      · cases h
        refine ⟨by simp; omega, ?_⟩
        rw [List.reverse_cons, List.reverse_cons, List.append_assoc, List.take_left' (by simp)]
      · cases h
theorem chk_none {n : Nd} {l : List Nd} {st : List Int} {i : Nat} (h0 : nodeF n = 0) (h : popN n st = none) : chkGo st i (n :: l) = 3 := by
  rw [chkGo, if_neg (fun q => q h0), h]
theorem chk_some {n : Nd} {l : List Nd} {st s : List Int} {i : Nat} (h0 : nodeF n = 0) (h : popN n st = some s) : chkGo st i (n :: l) = chkGo (i :: s) (i + 1) l := by
  rw [chkGo, if_neg (fun q => q h0), h]
theorem chk_fault {n : Nd} {l : List Nd} {st : List Int} {i : Nat} {f : Int} (h0 : nodeF n = f) (hf : f ≠ 0) : chkGo st i (n :: l) = f := by
  rw [chkGo, if_pos (by rw [h0]; exact hf), h0]
end Go.Proofs.YtejefijpcggkfaaGreatDoor
namespace Go.Proofs.YtejefijpcggkfaaGreatDoor
open Go Go.Vc
set_option linter.unusedVariables false
set_option maxRecDepth 100000
theorem expr_Arity_ok {op : Int} {h : Hp} {R : Value → Hp → Prop} (hK : R (vi (arI op)) h) : CallOK Tryz.prog 135 [vi op] h R := by
  refine ok_expr_Arity ?_
  unfold VC_expr_Arity
  unfold arI at hK
  refine ⟨fun e => ?_, fun e => ⟨fun e2 => ?_, fun e2 => ⟨fun e3 => ?_, fun e3 => ?_⟩⟩⟩
  all_goals simp only [cand, cor] at *
  · rw [if_pos (of_decide_eq_true e)] at hK; exact hK
  · rw [if_neg (of_decide_eq_false e), if_pos (by have := of_decide_eq_true e2; omega)] at hK; exact hK
  · rw [if_neg (of_decide_eq_false e), if_neg (by have := of_decide_eq_false e2; omega), if_pos (by have := of_decide_eq_true e3; omega)] at hK; exact hK
  · rw [if_neg (of_decide_eq_false e), if_neg (by have := of_decide_eq_false e2; omega), if_neg (by have := of_decide_eq_false e3; omega)] at hK; exact hK
end Go.Proofs.YtejefijpcggkfaaGreatDoor
namespace Go.Proofs.YtejefijpcggkfaaGreatDoor
open Go Go.Vc
set_option maxRecDepth 100000
set_option linter.unusedVariables false
end Go.Proofs.YtejefijpcggkfaaGreatDoor
namespace Go.Proofs.YtejefijpcggkfaaGreatDoor
open Go Go.Vc
set_option linter.unusedVariables false
set_option maxRecDepth 100000
section
variable {a : Option Addr} {m c : Nat} {l : List Nd} {h : Hp}
end
end Go.Proofs.YtejefijpcggkfaaGreatDoor
namespace Go.Proofs.YtejefijpcggkfaaGreatDoor
open Go Go.Vc
set_option linter.unusedVariables false
set_option maxRecDepth 100000
section
variable {a : Option Addr} {m c : Nat} {l : List Nd} {h : Hp}
theorem tyG_some (op a b : Int) : tyG op (some a) (some b) = if op = 5 then some 2 else if (a ≠ 0 ∧ a ≠ wantT op) ∨ (b ≠ 0 ∧ b ≠ wantT op) then none else if op = 11 ∨ op = 12 then some 2 else some (wantT op) := rfl
def tyOut : Option Int → Value
  | some t => vtup [vi t, vb true]
  | none => vtup [vi 0, vb false]
end
end Go.Proofs.YtejefijpcggkfaaGreatDoor
namespace Go.Proofs.YtejefijpcggkfaaGreatDoor
open Go Go.Vc
set_option linter.unusedVariables false
set_option maxRecDepth 100000
theorem expr_field_ok {e : EvL} {n : Int} (hn : 0 ≤ n ∧ n ≤ 3) {h : Hp} {R : Value → Hp → Prop} (hK : R (vag (encV (fieldV e n))) h) : CallOK Tryz.prog 86 [vag (encE e), vi n] h R := by
  refine ok_expr_field ?_
  unfold VC_expr_field
  refine value_Number_ok ⟨_, _, rfl, ?_⟩
  have r : n = 0 ∨ n = 1 ∨ n = 2 ∨ n = 3 := by omega
  rcases r with rfl | rfl | rfl | rfl
  · exact ⟨_, _, fun w _ => by kernel_rfl, hK⟩
  · exact ⟨_, _, fun w _ => by kernel_rfl, hK⟩
  · exact ⟨_, _, fun w _ => by kernel_rfl, hK⟩
  · exact ⟨_, _, fun w _ => by kernel_rfl, hK⟩
theorem elVal : ElT Tryz.prog 49 33 2 16 := .of (by kernel_rfl) (by kernel_rfl) (by decide)
theorem outs_get {β : Type} {d : β} {F : Nd → β → β → β} {l : List Nd} {outs : List β} {i k : Nat} (ho : outs.take i = fwd d F (l.take i)) (hi : i ≤ l.length) (hk : k < i) : outs[k]? = some (fAt d F l k) := by
  have h1 : outs[k]? = (outs.take i)[k]? := by rw [List.getElem?_take, if_pos hk]
  rw [h1, ho]
  have hlen : (fwd d F (l.take i)).length = i := by rw [fwd_length, List.length_take]; omega
  rw [← fAt_take l hk hi, List.getD_eq_getElem?_getD, List.getElem?_eq_getElem (by omega)]
  rfl
theorem outs_set {β : Type} {d : β} {F : Nd → β → β → β} {l : List Nd} {outs : List β} {i : Nat} {n : Nd} (ho : outs.take i = fwd d F (l.take i)) (hn : l[i]? = some n) (hl : outs.length = l.length) : (outs.set i (fAt d F l i)).take (i + 1) = fwd d F (l.take (i + 1)) := by
  have hlt := (List.getElem?_eq_some_iff.1 hn).1
  rw [fwd_take l hn, ← ho, List.take_succ_eq_append_getElem (by rw [List.length_set]; omega), List.take_set_of_le (Nat.le_refl _), List.getElem_set_self]
section
variable {a : Option Addr} {m c : Nat} {l : List Nd} {h : Hp}
theorem expr_Eval_ok (S : SlP encN h a m l) (W : WfL l) (hl : 0 < l.length) (hm : l.length ≤ 1000000) {e : EvL} {R : Value → Hp → Prop} (hK : ∀ h', h.le h' → R (vag (encV (valE e l))) h') : CallOK Tryz.prog 54 [vsl a m c, vag (encE e)] h R := by
  refine ok_expr_Eval ?_
  unfold VC_expr_Eval
  obtain rfl := S.1
  refine Vec.make (enc := encV) (x := (0, 0)) elVal (z := [vi 0, vi 0]) (by kernel_rfl) rfl rfl hm (by omega) fun a3 h2 V2 => ⟨_, _, _, rfl, ?_⟩
  refine ⟨fun vs hh => ∃ (i : Nat) (outs : List (Int × Int)), vs = [vi i] ∧ i ≤ l.length ∧ outs.length = l.length ∧ outs.take i = fwd (0, 0) (stepF e) (l.take i) ∧ Vec encV 2 33 h hh a3 l.length outs, fun vs hh => l.length - (vint vs 0).toNat,
    ⟨0, _, rfl, Nat.zero_le _, by simp, rfl, V2⟩, ?_⟩
  rintro vs hh ⟨i, outs, rfl, hi, hlo, ho, V⟩
  refine ⟨i, rfl, fun q => ?_, fun q => ?_⟩
  · have hlt : i < l.length := by have := of_decide_eq_true q; omega
    have hx : l[i]? = some l[i] := List.getElem?_eq_getElem hlt
    have Wn := W _ _ hx
    have hv : vAt e l i = _ := fAt_wf (own_stepF e) hx Wn
    have hset := outs_set ho hx hlo
    obtain ⟨b, o, ha, hr⟩ := (S.le V.le0).get encN_len (by decide) hx
    generalize l[i] = n at *
    have hout : outs[i]? = some (outs[i]'(by omega)) := List.getElem?_eq_getElem (by omega)
    obtain ⟨b3, o3, ha3, hput⟩ := V.put encV_len (x' := vAt e l i) (k := 0) (vs := encV (vAt e l i)) hout (by rw [encV_len]; decide) (by rw [encV_len]; decide) rfl
    have A3 : ∀ {x : Int}, 0 ≤ x → x < l.length → a3 = some ⟨b3, o3, none⟩ ∧ (0 : Int) ≤ x ∧ x < (l.length : Nat) := fun h0 h1 => ⟨ha3, h0, h1⟩
    have rdo : ∀ {x : Int}, 0 ≤ x → x < i → hh.row b3 (o3 + x.toNat * 2) 2 = some (encV (vAt e l x.toNat)) := by
      intro x h0 h1
      obtain ⟨b', o', ha', hr'⟩ := (V.slp encV_len (by decide)).get encV_len (by decide) (outs_get ho hi (k := x.toNat) (by omega))
      rw [ha3] at ha'
      cases ha'
      exact hr'
    intro J83
    have hJ : ∀ h', Vec encV 2 33 h h' a3 l.length (outs.set i (vAt e l i)) → J83 h' := by
      intro h' V'
      exact ⟨_, isW (by unfold InR; omega), ⟨i + 1, _, rfl, by omega, by rw [List.length_set]; exact hlo, hset, V'⟩, by simp [vint]; omega⟩
    clear_value J83
    have fin : ∀ {v : Int × Int}, v = vAt e l i → hh.store b3 (o3 + i * 2) (encV v) J83 := by
      rintro v rfl
      exact hput _ hJ
    have ar := ar0 Wn.a
    have hfold : vAt e l = fAt (0, 0) (stepF e) l := rfl
    rw [← hfold] at hv
    unfold stepF at hv
    have Ai : a3 = some ⟨b3, o3, none⟩ ∧ (0 : Int) ≤ i ∧ (i : Int) < (l.length : Nat) := A3 (by omega) (by omega)
    refine ⟨b, o, ⟨ha, by omega, by omega⟩, _, _, _, _, _, _, hr, fun q => ?_, fun q1 => ⟨fun q => ?_, fun q2 => ⟨fun q => ?_, fun q3 => ⟨fun q => ?_, fun q4 => ⟨fun q => ?_, fun q5 => ?_⟩⟩⟩⟩⟩
    · rw [if_pos (of_decide_eq_true q)] at hv
      exact ⟨b3, o3, Ai, fin hv.symm⟩
    · rw [if_neg (of_decide_eq_false q1), if_pos (of_decide_eq_true q)] at hv
      exact expr_field_ok (Wn.f (of_decide_eq_true q)) ⟨_, _, rfl, b3, o3, Ai, fin hv.symm⟩
    · rw [if_neg (of_decide_eq_false q1), if_neg (of_decide_eq_false q2), if_pos (of_decide_eq_true q)] at hv
      have := of_decide_eq_true q
      have hX := Wn.x (by omega)
      exact ⟨b3, o3, A3 (by omega) (by omega), _, _, rdo hX.1 hX.2, value_Neg_ok ⟨_, _, rfl, b3, o3, Ai, fin hv.symm⟩⟩
    · rw [if_neg (of_decide_eq_false q1), if_neg (of_decide_eq_false q2), if_neg (of_decide_eq_false q3), if_pos (of_decide_eq_true q)] at hv
      have := of_decide_eq_true q
      have hX := Wn.x (by omega)
      exact ⟨b3, o3, A3 (by omega) (by omega), _, _, rdo hX.1 hX.2, value_Not_ok ⟨_, _, rfl, b3, o3, Ai, fin hv.symm⟩⟩
    · rw [if_neg (of_decide_eq_false q1), if_neg (of_decide_eq_false q2), if_neg (of_decide_eq_false q3), if_neg (of_decide_eq_false q4), if_pos (of_decide_eq_true q)] at hv
      have := of_decide_eq_true q
      have hX := Wn.x (by omega)
      exact ⟨b3, o3, A3 (by omega) (by omega), _, Hp.row_cell (rdo hX.1 hX.2) (i := 0) rfl, value_Truth_ok ⟨_, _, rfl, b3, o3, Ai, fin hv.symm⟩⟩
    · have p1 := of_decide_eq_false q1
      have p2 := of_decide_eq_false q2
      have p3 := of_decide_eq_false q3
      have p4 := of_decide_eq_false q4
      have p5 := of_decide_eq_false q5
      rw [if_neg p1, if_neg p2, if_neg p3, if_neg p4, if_neg p5] at hv
      have h2 : arI n.op = 2 := by rcases arI_range Wn.a with h | h | h <;> omega
      have hX := Wn.x (by omega)
      have hY := Wn.y (by omega)
      exact ⟨b3, o3, A3 (by omega) (by omega), _, _, rdo hX.1 hX.2, b3, o3, A3 (by omega) (by omega), _, _, rdo hY.1 hY.2, value_Do_ok ⟨_, _, rfl, b3, o3, Ai, fin hv.symm⟩⟩
  · have hge : i = l.length := by have := of_decide_eq_false q; omega
    subst hge
    obtain ⟨b', o', ha', hr'⟩ := (V.slp encV_len (by decide)).get encV_len (by decide) (outs_get ho (Nat.le_refl _) (k := l.length - 1) (by omega))
    refine ⟨_, isW (by unfold InR; omega), b', o', ⟨ha', by omega, by omega⟩, _, _, ?_, hK hh V.le0⟩
    have e1 : (((l.length : Nat) : Int) - 1).toNat = l.length - 1 := by omega
    rw [e1]
    exact hr'
theorem expr_join_ok {x y : Int} {R : Value → Hp → Prop} (hK : R (vtup [vi (if x = 0 then y else if y = 0 ∨ x = y then x else 0), vb (decide (x = 0 ∨ y = 0 ∨ x = y))]) h) : CallOK Tryz.prog 136 [vi x, vi y] h R := by
  refine ok_expr_join ?_
  unfold VC_expr_join
  refine ⟨fun q => ?_, fun q => ?_⟩
  · have q := of_decide_eq_true q
    rw [if_pos q, decide_eq_true (.inl q)] at hK; exact hK
  have q := of_decide_eq_false q
  rw [if_neg q] at hK
  intro J3
  refine ⟨fun q2 => ⟨fun _ => ?_, fun q3 => ?_⟩, fun q2 => ⟨fun q3 => ?_, fun q3 => ?_⟩⟩
  · have q2 := of_decide_eq_true q2
    rw [if_pos (.inl q2), decide_eq_true (.inr (.inl q2))] at hK; exact hK
  · rw [q2] at q3; cases q3
  · have q3 := of_decide_eq_true q3
    rw [if_pos (.inr q3), decide_eq_true (.inr (.inr q3))] at hK; exact hK
  · have q2 := of_decide_eq_false q2
    have q3 := of_decide_eq_false q3
    rw [if_neg (by omega), decide_eq_false (by omega)] at hK; exact hK
def encI (x : Int) : List Value := [vi x]
theorem encI_len (x : Int) : (encI x).length = 1 := rfl
theorem expr_Type_ok (S : SlP encN h a m l) (O : OkE l) (hm : l.length ≤ 1000000) {R : Value → Hp → Prop} (hK : ∀ h', h.le h' → R (vtup [vi (typE l).1, ifv (errV (typE l).2)]) h') : CallOK Tryz.prog 110 [vsl a m c] h R := by
  have W := O.wf
  have hl := O.pos
  refine ok_expr_Type ?_
  unfold VC_expr_Type
  obtain rfl := S.1
  refine Vec.make (enc := encI) (x := 0) elInt (z := [vi 0]) (by kernel_rfl) rfl rfl hm (by omega) fun a3 h2 V2 => ⟨_, _, _, rfl, ?_⟩
  refine ⟨fun vs hh => ∃ (i : Nat) (outs : List Int), vs = [vi i] ∧ i ≤ l.length ∧ outs.length = l.length ∧ (outs.map some).take i = fwd none tyF (l.take i) ∧ Vec encI 1 3 h hh a3 l.length outs, fun vs hh => l.length - (vint vs 0).toNat,
    ⟨0, _, rfl, Nat.zero_le _, by simp, rfl, V2⟩, ?_⟩
  rintro vs hh ⟨i, outs, rfl, hi, hlo, ho, V⟩
  have get : ∀ {k : Nat}, k < i → ∃ t, outs[k]? = some t ∧ tAt l k = some t := by
    intro k hk
    have := outs_get ho hi hk
    rw [List.getElem?_map, Option.map_eq_some_iff] at this
    obtain ⟨t, h1, h2⟩ := this
    exact ⟨t, h1, h2.symm⟩
  refine ⟨i, rfl, fun q => ?_, fun q => ?_⟩
  · have hlt : i < l.length := by have := of_decide_eq_true q; omega
    have hx : l[i]? = some l[i] := List.getElem?_eq_getElem hlt
    have Wn := W _ _ hx
    have hv : tAt l i = _ := fAt_wf own_tyF hx Wn
    have hset := fun t (e : tAt l i = some t) => (by
      have := outs_set (outs := outs.map some) ho hx (by simpa using hlo)
      rw [show fAt none tyF l i = some t from e, ← List.map_set] at this
      exact this : ((outs.set i t).map some).take (i + 1) = fwd none tyF (l.take (i + 1)))
    obtain ⟨b, o, ha, hr⟩ := (S.le V.le0).get encN_len (by decide) hx
    generalize l[i] = n at *
    have hout : outs[i]? = some (outs[i]'(by omega)) := List.getElem?_eq_getElem (by omega)
    obtain ⟨b3, o3, ha3, _⟩ := V.put encI_len (x' := 0) (k := 0) (vs := [vi 0]) hout (by decide) (by decide) rfl
    have A3 : ∀ {x : Int}, 0 ≤ x → x < l.length → a3 = some ⟨b3, o3, none⟩ ∧ (0 : Int) ≤ x ∧ x < (l.length : Nat) := fun h0 h1 => ⟨ha3, h0, h1⟩
    have put : ∀ (outs' : List Int) (hh' : Hp), outs'.length = l.length → Vec encI 1 3 h hh' a3 l.length outs' → ∀ (t : Int) (K : Hp → Prop), (∀ h', Vec encI 1 3 h h' a3 l.length (outs'.set i t) → K h') → hh'.store b3 (o3 + i * 1) [vi t] K := by
      intro outs' hh' h1 V' t K hK
      obtain ⟨b', o', ha', hp⟩ := V'.put encI_len (i := i) (x := outs'[i]'(by omega)) (x' := t) (k := 0) (vs := [vi t]) (List.getElem?_eq_getElem (by omega)) (Nat.succ_pos 0) (Nat.le_refl 1) rfl
      rw [ha3] at ha'
      cases ha'
      exact hp K hK
    intro J95
    have hJ : ∀ t, tAt l i = some t → ∀ h', Vec encI 1 3 h h' a3 l.length (outs.set i t) → J95 h' := by
      intro t e h' V'
      exact ⟨_, isW (by unfold InR; omega), ⟨i + 1, _, rfl, by omega, by rw [List.length_set]; exact hlo, hset t e, V'⟩, by simp [vint]; omega⟩
    clear_value J95
    have ar := ar0 Wn.a
    have hfold : tAt l = fAt none tyF l := rfl
    rw [← hfold] at hv
    have Ai : a3 = some ⟨b3, o3, none⟩ ∧ (0 : Int) ≤ i ∧ (i : Int) < (l.length : Nat) := A3 (by omega) (by omega)
    refine ⟨b, o, ⟨ha, by omega, by omega⟩, _, _, _, _, _, _, hr, ?_⟩
    intro J39
    have bad : tAt l i = none → ∀ h', h.le h' → R (vtup [vi 0, ifv (errV 3)]) h' := by
      intro e h' l'
      have : typE l = (0, 3) := by
        unfold typE
        cases ht : tAt l (l.length - 1) with
        | none => rfl
        | some t => exact absurd e (O.b.ty W (by rw [ht]; simp) i (Nat.zero_le _) hlt)
      rw [this] at hK
      exact hK h' l'
    have hJ39 : ¬ n.op = 1 → ¬ n.op = 2 → ¬ n.op = 5 → J39 (wantT n.op) := by
      intro p1 p2 p5
      have har : 1 ≤ arI n.op := by rcases arI_range Wn.a with h | h | h <;> omega
      rw [tyF_op p1 p2] at hv
      have hX := Wn.x har
      obtain ⟨tx, ox, ex⟩ := get (k := n.x.toNat) (by omega)
      have hy : ∃ ty, 2 ≤ arI n.op → outs[n.y.toNat]? = some ty ∧ tAt l n.y.toNat = some ty := by
        by_cases h2 : 2 ≤ arI n.op
        · have hY := Wn.y h2
          obtain ⟨ty, q⟩ := get (k := n.y.toNat) (by omega)
          exact ⟨ty, fun _ => q⟩
        · exact ⟨0, fun h => absurd h h2⟩
      obtain ⟨ty, hy⟩ := hy
      have hv2 : tAt l i = tyG n.op (some tx) (some (if arI n.op = 2 then ty else tx)) := by
        rw [hv, ex]
        by_cases h2 : arI n.op = 2
        · rw [if_pos h2, if_pos h2, (hy (by omega)).2]
        · rw [if_neg h2, if_neg h2]
      rw [tyG_some, if_neg p5] at hv2
      have hw0 : wantT n.op ≠ 0 := by unfold wantT; split <;> decide
      generalize hwd : wantT n.op = want at *
      refine expr_Arity_ok ⟨_, rfl, fun b64 hb64 => ?_⟩
      intro h65
      have S65 : SlI h65 (some ⟨b64, 0, none⟩) 2 [n.x, n.y] := ⟨rfl, HasRow.new _ _ [vi n.x, vi n.y] _⟩
      have V65 : Vec encI 1 3 h h65 a3 l.length outs := V.keep0 (Hp.le_set (Hp.le_refl hh) hb64 _)
      clear_value h65
      refine ⟨_, _, _, rd_slice_h (e := 3) (by kernel_rfl) (by kernel_rfl) (by omega) (by rcases arI_range Wn.a with h | h | h <;> omega), ?_⟩
      have rdo : ∀ {x t : Int}, 0 ≤ x → outs[x.toNat]? = some t → h65.cell b3 (o3 + x.toNat * 1) = some (vi t) := by
        intro x t h0 h1
        obtain ⟨b', o', ha', hr'⟩ := (V65.slp encI_len (by decide)).cell (j := 0) encI_len (by decide) h1 rfl
        rw [ha3] at ha'
        cases ha'
        exact hr'
      refine ⟨fun vs h' => h' = h65 ∧ ∃ j : Nat, vs = [vi j] ∧ (j : Int) ≤ arI n.op ∧ (1 ≤ j → tx = 0 ∨ tx = want) ∧ (2 ≤ j → ty = 0 ∨ ty = want), fun vs hh => (arI n.op).toNat - (vint vs 0).toNat, ⟨rfl, 0, rfl, by omega, by omega, by omega⟩, ?_⟩
      rintro vs h71 ⟨rfl, j, rfl, hj, f1, f2⟩
      refine ⟨j, rfl, fun g => ?_, fun g => ?_⟩
      · have hj2 : (j : Int) < arI n.op := by have := of_decide_eq_true g; omega
        have fact : ∃ x t : Int, [n.x, n.y].getD j 0 = x ∧ 0 ≤ x ∧ x < l.length ∧ outs[x.toNat]? = some t ∧ (¬ (t = 0 ∨ t = want) → tAt l i = none) ∧ (j = 0 → t = tx) ∧ (j = 1 → t = ty) := by
          by_cases hj0 : j = 0
          · subst hj0
            refine ⟨n.x, tx, rfl, hX.1, by omega, ox, fun hb => ?_, fun _ => rfl, fun h => by omega⟩
            rw [hv2, if_pos (by omega)]
          · have hj1 : j = 1 := by rcases arI_range Wn.a with h | h | h <;> omega
            subst hj1
            have hY := Wn.y (by omega)
            refine ⟨n.y, ty, rfl, hY.1, by omega, (hy (by omega)).1, fun hb => ?_, fun h => by omega, fun _ => rfl⟩
            rw [hv2, if_pos]
            rw [if_pos (by rcases arI_range Wn.a with h | h | h <;> omega)]
            omega
        obtain ⟨x, t, e0, h0, h1, e1, hb, u1, u2⟩ := fact
        obtain ⟨q, p, hq, hcell⟩ := S65.get (i := j) (by rcases arI_range Wn.a with h | h | h <;> omega)
        rw [e0] at hcell
        refine ⟨q, p, ⟨hq, by omega, by omega⟩, _, hcell, b3, o3, A3 h0 h1, _, rdo h0 e1, expr_join_ok ⟨_, _, rfl, fun g => ?_, fun g => ?_⟩⟩
        · rw [cnot] at g
          have g := of_decide_eq_true g
          exact bad (hb (by omega)) h71 V65.le0
        · rw [cnot] at g
          have g := of_decide_eq_false g
          refine ⟨_, isW (by unfold InR; rcases arI_range Wn.a with h | h | h <;> omega), ⟨rfl, j + 1, rfl, by omega, fun _ => ?_, fun h => ?_⟩, by simp [vint]; omega⟩
          · by_cases hj0 : j = 0
            · have := u1 hj0; omega
            · exact f1 (by omega)
          · have := u2 (by rcases arI_range Wn.a with h | h | h <;> omega); omega
      · have hje : (j : Int) = arI n.op := by have := of_decide_eq_false g; omega
        have hfine : tAt l i = some (if n.op = 11 ∨ n.op = 12 then 2 else want) := by
          rw [hv2, if_neg]
          · split <;> rfl
          · have := f1 (by omega)
            by_cases h2 : arI n.op = 2
            · rw [if_pos h2]
              have := f2 (by omega)
              omega
            · rw [if_neg h2]
              omega
        refine ⟨b3, o3, Ai, put outs _ hlo V65 want _ fun h89 V89 => ⟨fun g => ?_, fun g => ?_⟩⟩
        · rw [cor] at g
          have g := of_decide_eq_true g
          rw [if_pos g] at hfine
          refine ⟨b3, o3, Ai, put _ h89 (by rw [List.length_set]; exact hlo) V89 2 _ fun h92 V92 => hJ 2 hfine h92 ?_⟩
          rw [List.set_set] at V92
          exact V92
        · rw [cor] at g
          have g := of_decide_eq_false g
          rw [if_neg g] at hfine
          exact hJ want hfine h89 V89
    clear_value J39
    refine ⟨fun q => ?_, fun q1 => ⟨fun q => ?_, fun q2 => ⟨fun q => ?_, fun q5 => ?_⟩⟩⟩
    · have e : tAt l i = some n.v.1 := by rw [hv]; unfold tyF; exact if_pos (of_decide_eq_true q)
      exact ⟨b3, o3, Ai, put outs hh hlo V _ _ (hJ _ e)⟩
    · have e : tAt l i = some 1 := by rw [hv]; unfold tyF; rw [if_neg (of_decide_eq_false q1)]; exact if_pos (of_decide_eq_true q)
      exact ⟨b3, o3, Ai, put outs hh hlo V _ _ (hJ _ e)⟩
    · have h5 := of_decide_eq_true q
      have hX := Wn.x (by omega)
      obtain ⟨tx, ox, ex⟩ := get (k := n.x.toNat) (by omega)
      have e : tAt l i = some 2 := by
        rw [hv, tyF_op (by omega) (by omega), if_neg (by omega), ex, tyG_some, if_pos h5]
      exact ⟨b3, o3, Ai, put outs hh hlo V _ _ (hJ _ e)⟩
    · have p1 := of_decide_eq_false q1
      have p2 := of_decide_eq_false q2
      have p5 := of_decide_eq_false q5
      have hw := hJ39 p1 p2 p5
      unfold wantT at hw
      intro J35
      refine ⟨fun g => ⟨fun _ => ?_, fun g2 => ?_⟩, fun g1 => ⟨fun g => ⟨fun _ => ?_, fun g2 => ?_⟩, fun g2 => ⟨fun g => ?_, fun g => ?_⟩⟩⟩
      · rw [if_pos (.inl (of_decide_eq_true g))] at hw; exact hw
      · rw [g] at g2; cases g2
      · rw [if_pos (.inr (.inl (of_decide_eq_true g)))] at hw; exact hw
      · rw [g] at g2; cases g2
      · rw [if_pos (.inr (.inr (of_decide_eq_true g)))] at hw; exact hw
      · have a1 := of_decide_eq_false g1
        have a2 := of_decide_eq_false g2
        have a3 := of_decide_eq_false g
        rw [if_neg (by omega)] at hw; exact hw
  · have hge : i = l.length := by have := of_decide_eq_false q; omega
    subst hge
    obtain ⟨t, ot, et⟩ := get (k := l.length - 1) (by omega)
    obtain ⟨b', o', ha', hr'⟩ := (V.slp encI_len (by decide)).cell (j := 0) encI_len (by decide) ot rfl
    refine ⟨_, isW (by unfold InR; omega), b', o', ⟨ha', by omega, by omega⟩, t, ?_, ?_⟩
    · have e1 : (((l.length : Nat) : Int) - 1).toNat = l.length - 1 := by omega
      rw [e1]
      exact hr'
    · have : typE l = (t, 0) := by unfold typE; rw [et]
      rw [this] at hK
      exact hK hh V.le0
end
end Go.Proofs.YtejefijpcggkfaaGreatDoor
namespace Go.Proofs.YtejefijpcggkfaaGreatDoor
open Go Go.Vc
set_option linter.unusedVariables false
set_option maxRecDepth 100000
abbrev NdVec := Vec encN 6 137
theorem cloneN_ok {a : Option Addr} {n c : Nat} {l : List Nd} {h : Hp} {R : Value → Hp → Prop} (S : SlP encN h a n l) (hn : n ≤ 1000000) (hK : ∀ a' c' h', NdVec h h' a' c' l → R (vsl a' l.length c') h') :
    CallOK Tryz.prog 140 [vsl a n c] h R := by
  refine ok_slices_Clone_api_Node_api_Node ?_
  unfold VC_slices_Clone_api_Node_api_Node
  have hl := S.1
  subst hl
  have hfl : (l.flatMap encN).length = l.length * 6 := by rw [flatMap_length encN_len]
  refine ⟨_, rd_eqNilS (e := 137) (by kernel_rfl), fun e => ?_, fun e => ?_⟩
  · have h0 : l.flatMap encN = [] := by
      rcases S.2 with h1 | ⟨b, o, ha, _⟩
      · exact h1
      · rw [ha] at e; cases e
    rw [h0] at hfl
    have hn0 : l = [] := List.eq_nil_of_length_eq_zero (by simp at hfl; omega)
    subst hn0
    exact hK none 0 h (OwnV.nil (Hp.le_refl h) _ _)
  · intro b3 hb3 h4
    have O0 : OwnV h h4 137 6 (some ⟨b3, 0, none⟩) 0 0 [] := OwnV.mk_new (Hp.le_refl h) hb3 _ [] rfl (by simp [maxLen])
    refine OwnV.append elNd O0 (S.le (Hp.le_set (Hp.le_refl h) hb3 _)).2 hfl (one_nds l) (by omega) (by omega) fun a' c' h' O' _ _ => ⟨_, _, _, rfl, ?_⟩
    rw [Nat.zero_add, List.nil_append] at *
    exact hK a' c' h' O'
inductive Pend (l : List Nd) (f : Nat) : Nat → Nat → Prop where
  | nil : Pend l f f 0
  | cons {g e k : Nat} : Blk l g e → Pend l f g k → Pend l f e (k + 1)
section
variable {a : Option Addr} {m c : Nat} {l : List Nd} {h : Hp}
theorem expr_Join_ok {op : Int} {a2 : Option Addr} {m2 c2 : Nat} {l2 : List Nd} (S : SlP encN h a m l) (S2 : SlP encN h a2 m2 l2) (W2 : WfL l2) (hm : l.length ≤ 1000000) (hm2 : l2.length ≤ 1000000) {R : Value → Hp → Prop}
    (hK : ∀ a' c' h', NdVec h h' a' c' (joinL op l l2) → R (vsl a' (joinL op l l2).length c') h') : CallOK Tryz.prog 126 [vi op, vsl a m c, vsl a2 m2 c2] h R := by
  refine ok_expr_Join ?_
  unfold VC_expr_Join
  obtain rfl := S.1
  obtain rfl := S2.1
  refine cloneN_ok S hm fun a3 c3 h2 V2 => ⟨_, _, _, rfl, _, isW (by unfold InR; omega), ?_⟩
  refine ⟨fun vs hh => ∃ (i : Nat) (a : Option Addr) (c : Nat), vs = [vsl a (l ++ (l2.take i).map (shN l.length)).length c, vi i] ∧ i ≤ l2.length ∧ NdVec h hh a c (l ++ (l2.take i).map (shN l.length)), fun vs hh => l2.length - (vint vs 1).toNat,
    ⟨0, a3, c3, by simp, Nat.zero_le _, by simpa using V2⟩, ?_⟩
  rintro vs hh ⟨i, a4, c4, rfl, hi, V⟩
  have hlen : (l ++ (l2.take i).map (shN l.length)).length = l.length + i := by simp; omega
  refine ⟨_, _, _, _, rfl, fun g => ?_, fun g => ?_⟩
  · have hlt : i < l2.length := by have := of_decide_eq_true g; omega
    have hx : l2[i]? = some l2[i] := List.getElem?_eq_getElem hlt
    have wn := W2 _ _ hx
    obtain ⟨b, o, ha, hr⟩ := (S2.le V.le0).get encN_len (by decide) hx
    have tk : (l2.take (i + 1)).map (shN l.length) = (l2.take i).map (shN l.length) ++ [shN l.length l2[i]] := by
      rw [List.take_succ_eq_append_getElem hlt, List.map_append]; rfl
    generalize l2[i] = y at *
    refine ⟨b, o, ⟨ha, by omega, by omega⟩, _, _, _, _, _, _, hr, expr_Arity_ok ⟨_, rfl, ?_⟩⟩
    intro J28
    have fin : ∀ (x' y' : Int), x' = (shN (l.length : Int) y).x → y' = (shN (l.length : Int) y).y → ∀ (b49 : Nat), hh b49 = none → SemOK Tryz.prog (Builtin.append_ #[25, 25] 25 #[(vsl a4 (l ++ (l2.take i).map (shN l.length)).length c4), (vsl (some (⟨b49, 0, none⟩ : Addr)) 1 1)]) (Hp.set hh b49 (cellsO [(vi y.op), (vi x'), (vi y'), (vi y.n), (vi y.v.1), (vi y.v.2)] 137)) fun v51 h52 => ∃ (a53 : Option Addr) (n53 c53 : Nat), v51 = (vsl a53 n53 c53) ∧ (∃ (x55 : Int), (IsW x55 ((i : Int) + 1)) ∧ ((∃ (i' : Nat) (a : Option Addr) (c : Nat), [vsl a53 n53 c53, vi x55] = [vsl a (l ++ (l2.take i').map (shN l.length)).length c, vi i'] ∧ i' ≤ l2.length ∧ NdVec h h52 a c (l ++ (l2.take i').map (shN l.length))) ∧ l2.length - (vint [vsl a53 n53 c53, vi x55] 1).toNat < l2.length - (vint [vsl a4 (l ++ (l2.take i).map (shN l.length)).length c4, vi i] 1).toNat)) := by
      rintro x' y' rfl rfl b49 hb49
      refine V.app (x := shN (l.length : Int) y) elNd encN_len one_encN (by omega) (by omega) hb49 fun a' c' h' V' => ⟨_, _, _, rfl, _, isW (by unfold InR; omega), ⟨i + 1, a', c', ?_, by omega, ?_⟩, by simp [vint]; omega⟩
      · rw [tk, ← List.append_assoc]; rfl
      · rw [tk, ← List.append_assoc]; exact V'
    have hJ : ∀ x', x' = (shN (l.length : Int) y).x → J28 x' := by
      intro x' hx'
      refine expr_Arity_ok ⟨_, rfl, ?_⟩
      intro J45
      refine ⟨fun g => ?_, fun g => ?_⟩
      · have g := of_decide_eq_true g
        have hy := wn.y (by omega)
        refine ⟨_, isW (by unfold InR; omega), fin _ _ hx' ?_⟩
        unfold shN
        simp only
        rw [if_pos (show 1 < arI y.op by omega)]
      · have g := of_decide_eq_false g
        refine fin _ _ hx' ?_
        unfold shN
        simp only
        rw [if_neg (show ¬ 1 < arI y.op by omega)]
    clear_value J28
    refine ⟨fun g => ?_, fun g => ?_⟩
    · have g := of_decide_eq_true g
      have hX := wn.x (by omega)
      refine ⟨_, isW (by unfold InR; omega), hJ _ ?_⟩
      unfold shN
      simp only
      rw [if_pos (show 0 < arI y.op by omega)]
    · have g := of_decide_eq_false g
      refine hJ _ ?_
      unfold shN
      simp only
      rw [if_neg (show ¬ 0 < arI y.op by omega)]
  · have hge : i = l2.length := by have := of_decide_eq_false g; omega
    subst hge
    rw [List.take_of_length_le (Nat.le_refl _)] at V hlen ⊢
    refine expr_Arity_ok ⟨_, rfl, ?_⟩
    intro J62
    have hJ : ∀ y', y' = (if 1 < arI op then ((l.length + l2.length : Nat) : Int) - 1 else 0) → J62 y' := by
      rintro y' rfl b66 hb66
      intro h67
      exact V.app (x := ⟨op, (l.length : Int) - 1, if 1 < arI op then ((l.length + l2.length : Nat) : Int) - 1 else 0, 0, (0, 0)⟩) elNd encN_len one_encN (by omega) (by omega) hb66 fun a' c' h' V' => ⟨_, _, _, rfl, hK a' c' h' V'⟩
    clear_value J62
    refine ⟨fun g => ?_, fun g => ?_⟩
    · have g := of_decide_eq_true g
      refine ⟨_, isW (by unfold InR; omega), hJ _ ?_⟩
      rw [if_pos (show 1 < arI op by omega), hlen]
    · have g := of_decide_eq_false g
      refine hJ _ ?_
      rw [if_neg (show ¬ 1 < arI op by omega)]
end
end Go.Proofs.YtejefijpcggkfaaGreatDoor
namespace Go.Proofs.YtejefijpcggkfaaGreatDoor
open Go Go.Vc Go.Txt
set_option linter.unusedVariables false
set_option maxRecDepth 100000
structure RdAt (h0 h : Hp) (g : Nat) (s : RS) : Prop where
  b : ∃ a c, h g = some (cellsO [vsl a s.ws.length c, vi s.deep, ifv (errV s.f)] 88) ∧ SlB h0 a s.ws.length s.ws ∧ s.ws.length ≤ c
  l : h0.le h
  n : h0 g = none
  w : ∀ x ∈ s.ws, x.length ≤ 1000000
theorem le_put {h0 h : Hp} {g : Nat} (l : h0.le h) (hg : h0 g = none) (o : Obj) : h0.le (h.set g o) := fun b p hb => by
  rw [Hp.set_other _ _ (fun e => by rw [e, hg] at hb; cases hb)]
  exact l b p hb
theorem slices_Index_ok {a : Option Addr} {n c : Nat} {l : List Wd} {w : Wd} {h : Hp} (S : SlB h a n l) (hn : n ≤ 1000000) {R : Value → Hp → Prop} (hK : R (vi (if w ∈ l then (l.idxOf w : Int) else -1)) h) : CallOK Tryz.prog 70 [vsl a n c, vs (bs w)] h R := by
  refine ok_slices_Index_string_string ?_
  unfold VC_slices_Index_string_string
  have hl := S.1
  refine ⟨fun v hh => hh = h ∧ ∃ i : Nat, v = [vi i] ∧ i ≤ n ∧ w ∉ l.take i, fun v _ => n - (vint v 0).toNat, ⟨rfl, 0, rfl, Nat.zero_le _, by simp⟩, ?_⟩
  rintro v hh ⟨rfl, i, rfl, hi, hno⟩
  refine ⟨i, rfl, fun e => ?_, fun e => ?_⟩
  · have hlt : i < n := by have := of_decide_eq_true e; omega
    obtain ⟨b, o, ha, hc⟩ := SlP.get1 S hlt
    refine ⟨b, o, ⟨ha, by omega, by omega⟩, _, hc, _, rd_eqBs, fun e2 => ?_, fun e2 => ?_⟩
    · have e3 := of_decide_eq_true e2
      have hx : l.getD i [] = l[i]'(by omega) := by rw [List.getD_eq_getElem?_getD, List.getElem?_eq_getElem (by omega)]; rfl
      rw [hx] at e3
      have hm : w ∈ l := by rw [e3]; exact List.getElem_mem _
      have hidx : l.idxOf w = i := by
        have hsp : l = l.take i ++ l[i]'(by omega) :: l.drop (i + 1) := by rw [← List.drop_eq_getElem_cons, List.take_append_drop]
        rw [hsp, List.idxOf_append, if_neg hno, ← e3, List.idxOf_cons_self, List.length_take]
        omega
      rw [if_pos hm, hidx] at hK
      exact hK
    · have e3 := of_decide_eq_false e2
      have hx : l.getD i [] = l[i]'(by omega) := by rw [List.getD_eq_getElem?_getD, List.getElem?_eq_getElem (by omega)]; rfl
      rw [hx] at e3
      refine ⟨_, isW (by unfold InR; omega), ⟨rfl, i + 1, rfl, by omega, ?_⟩, ?_⟩
      · rw [List.take_succ_eq_append_getElem (by omega)]
        intro hm
        rcases List.mem_append.1 hm with h1 | h1
        · exact hno h1
        · exact e3 (by simpa using h1)
      · show n - ((i : Int) + 1).toNat < n - (i : Int).toNat
        omega
  · have hge : i = n := by have := of_decide_eq_false e; omega
    rw [hge, List.take_of_length_le (by omega)] at hno
    rw [if_neg hno] at hK
    exact hK
theorem slices_Contains_ok {a : Option Addr} {n c : Nat} {l : List Wd} {w : Wd} {h : Hp} (S : SlB h a n l) (hn : n ≤ 1000000) {R : Value → Hp → Prop} (hK : R (vb (decide (w ∈ l))) h) : CallOK Tryz.prog 71 [vsl a n c, vs (bs w)] h R := by
  refine ok_slices_Contains_string_string ?_
  unfold VC_slices_Contains_string_string
  refine slices_Index_ok S hn ⟨_, rfl, ?_⟩
  have : decide ((if w ∈ l then (l.idxOf w : Int) else -1) ≥ 0) = decide (w ∈ l) := by
    by_cases hm : w ∈ l
    · simp [hm]
    · simp [hm]
  rw [this]
  exact hK
def At (g : Nat) : Nat → Prop := fun b => b = g
theorem mut_set (h : Hp) (g : Nat) (o : Obj) : Mut (At g) h (At g) (h.set g o) := ⟨fun b o2 hb ho => by rw [Hp.set_other _ _ (fun e => hb e)]; exact ho, fun b hb => .inl hb⟩
theorem rd_block {h : Hp} {g : Nat} {x y z : Value} {T : TypeId} (hb : h g = some (cellsO [x, y, z] T)) : h.cell g 0 = some x ∧ h.cell g (0 + 1) = some y ∧ h.cell g (0 + 2) = some z := ⟨cell_cells hb rfl, cell_cells hb rfl, cell_cells hb rfl⟩
theorem rd_put0 {h : Hp} {g : Nat} {x y z x' : Value} {T : TypeId} (hb : h g = some (cellsO [x, y, z] T)) {K : Hp → Prop} (hK : K (h.set g (cellsO [x', y, z] T))) : h.store g 0 [x'] K := store_cells hb (by simp) hK
theorem rd_put1 {h : Hp} {g : Nat} {x y z y' : Value} {T : TypeId} (hb : h g = some (cellsO [x, y, z] T)) {K : Hp → Prop} (hK : K (h.set g (cellsO [x, y', z] T))) : h.store g (0 + 1) [y'] K := store_cells hb (by simp) hK
theorem rd_put2 {h : Hp} {g : Nat} {x y z z' : Value} {T : TypeId} (hb : h g = some (cellsO [x, y, z] T)) {K : Hp → Prop} (hK : K (h.set g (cellsO [x, y, z'] T))) : h.store g (0 + 2) [z'] K := store_cells hb (by simp) hK
theorem slb_nil (h : Hp) : SlB h none 0 [] := ⟨rfl, (OwnS.nil h 9 1).row⟩
theorem reader_fail_ok {h0 h : Hp} {g : Nat} {s : RS} (D : RdAt h0 h g s) {f : Int} (hf : f ≠ 0) {R : Value → Hp → Prop} (hK : ∀ h', RdAt h0 h' g (s.fail f) → Mut (At g) h (At g) h' → R (vtup []) h') : CallOK Tryz.prog 69 [vhp g 0, ifv (some (95, vi f))] h R := by
  obtain ⟨a, c, hb, hS, hc⟩ := D.b
  refine ok_query_reader_fail ?_
  unfold VC_query_reader_fail
  refine ⟨_, (rd_block hb).2.2, ?_⟩
  intro J5
  refine ⟨fun e => ?_, fun e => ?_⟩
  · have e0 : s.f = 0 := by unfold errV at e; split at e <;> simp_all
    refine rd_put2 hb (rd_put0 (Hp.set_same _ _ _) ?_)
    refine hK _ ⟨⟨none, 0, ?_, slb_nil _, Nat.le_refl _⟩, le_put (le_put D.l D.n _) D.n _, D.n, fun x hx => by cases hx⟩ ((mut_set _ _ _).trans (mut_set _ _ _))
    rw [Hp.set_same]
    show _ = some (cellsO [vsl none 0 0, vi s.deep, ifv (errV (if s.f = 0 then f else s.f))] 88)
    rw [if_pos e0]
    unfold errV
    rw [if_neg hf]
  · have e0 : s.f ≠ 0 := by intro e1; rw [e1] at e; cases e
    refine rd_put0 hb ?_
    refine hK _ ⟨⟨none, 0, ?_, slb_nil _, Nat.le_refl _⟩, le_put D.l D.n _, D.n, fun x hx => by cases hx⟩ (mut_set _ _ _)
    rw [Hp.set_same]
    show _ = some (cellsO [vsl none 0 0, vi s.deep, ifv (errV (if s.f = 0 then f else s.f))] 88)
    rw [if_neg e0]
theorem reader_is_ok {h0 h : Hp} {g : Nat} {s : RS} (D : RdAt h0 h g s) {wa : Option Addr} {wn wc : Nat} {l : List Wd} (S : SlB h wa wn l) (hwn : wn ≤ 1000) (hwl : s.ws.length ≤ 1000000) {R : Value → Hp → Prop} (hK : ∀ h', RdAt h0 h' g (s.is l).2 → Mut (At g) h (At g) h' → R (vs (bs (s.is l).1)) h') : CallOK Tryz.prog 41 [vhp g 0, vsl wa wn wc] h R := by
  obtain ⟨a, c, hb, hS, hc⟩ := D.b
  refine ok_query_reader_is ?_
  unfold VC_query_reader_is
  obtain ⟨ws, dp, f⟩ := s
  simp only at hb hS hc hwl
  have hcell := (rd_block hb).1
  cases ws with
  | nil =>
    refine ⟨_, _, _, hcell, none, 0, 0, fun e => by simp at e, 0, 0, fun e => by simp at e, ⟨#[]⟩, fun e => by simp at e, fun v hh => hh = h ∧ v = .t (.one (.v (vb false))), fun e => by simp at e, fun _ => ⟨rfl, rfl⟩, ?_⟩
    rintro h10 p11 ⟨rfl, e⟩
    cases e
    refine ⟨fun _ => hK _ D (Mut.of_le (Hp.le_refl _)), fun e => by simp at e⟩
  | cons w r =>
    obtain ⟨b, o, ha, hc0⟩ := SlP.get1 (SlP.le D.l hS) (i := 0) (by simp)
    have hc1 : h.cell b (o + (0 : Int).toNat * 1) = some (vs (bs w)) := hc0
    refine ⟨_, _, _, hcell, _, _, _, fun _ => hcell, b, o, fun _ => ⟨ha, by decide, by simp⟩, _, fun _ => hc1, fun v hh => hh = h ∧ v = .t (.one (.v (vb (decide (w ∈ l))))), fun _ => slices_Contains_ok S (by omega) ⟨_, rfl, rfl, rfl⟩, fun e => absurd (by simp; omega) e, ?_⟩
    rintro h10 p11 ⟨rfl, e⟩
    cases e
    refine ⟨fun e => ?_, fun e => ?_⟩
    · have hno : w ∉ l := by
        intro hm
        simp [hm] at e
        omega
      have h1 : (⟨w :: r, dp, f⟩ : RS).is l = ([], ⟨w :: r, dp, f⟩) := by unfold RS.is; simp only; rw [if_neg hno]
      rw [h1] at hK
      exact hK _ D (Mut.of_le (Hp.le_refl _))
    · have hm : w ∈ l := by
        rcases Decidable.em (w ∈ l) with hm | hm
        · exact hm
        · simp [hm] at e
      have h1 : (⟨w :: r, dp, f⟩ : RS).is l = (w, ⟨r, dp, f⟩) := by unfold RS.is; simp only; rw [if_pos hm]
      rw [h1] at hK
      have hsz : szT Tryz.prog 9 = 1 := by kernel_rfl
      have hr := rd_slice_l (P := Tryz.prog) (h := h10) (t := 83) (e := 9) (by kernel_rfl) (by kernel_rfl) (a := a) (n := (w :: r).length) (c := c) (x := 1) (by decide) (by simp; omega)
      rw [hsz] at hr
      refine ⟨_, _, _, hcell, b, o, ⟨ha, by decide, by simp⟩, _, hc1, _, _, _, hcell, _, _, _, hr, rd_put0 hb ?_⟩
      have hS2 := SlP.drop encB_len hS (i := 1) (by simp) hc
      exact hK _ ⟨⟨_, _, Hp.set_same _ _ _, ⟨rfl, hS2.2⟩, by simp at hc ⊢; omega⟩, le_put D.l D.n _, D.n, fun x hx => D.w x (List.mem_cons_of_mem _ hx)⟩ (mut_set _ _ _)
theorem RdAt.le {h0 h h' : Hp} {g : Nat} {s : RS} (D : RdAt h0 h g s) (l : h.le h') : RdAt h0 h' g s := by
  obtain ⟨a, c, hb, hS, hc⟩ := D.b
  exact ⟨⟨a, c, l g _ hb, hS, hc⟩, Hp.le_trans D.l l, D.n, D.w⟩
theorem slb_one (h : Hp) (b : Nat) (w : Wd) : SlB (h.set b (cellsO [vs (bs w)] 9)) (some ⟨b, 0, none⟩) 1 [w] := ⟨rfl, (OwnS.new h b 9 (sz := 1) (n := 1) [vs (bs w)] rfl (by decide)).row⟩
theorem reader_must_ok {h0 h : Hp} {g : Nat} {s : RS} (D : RdAt h0 h g s) (hwl : s.ws.length ≤ 1000000) {w : Wd} {R : Value → Hp → Prop} (hK : ∀ h', RdAt h0 h' g (s.must w) → Mut (At g) h (At g) h' → R (vtup []) h') : CallOK Tryz.prog 39 [vhp g 0, vs (bs w)] h R := by
  refine ok_query_reader_must ?_
  unfold VC_query_reader_must
  intro b1 hb1 h2
  have hl : h.le h2 := Hp.le_set (Hp.le_refl h) hb1 _
  unfold RS.must at hK
  refine reader_is_ok (D.le hl) (slb_one h b1 w) (by decide) hwl fun h4 D4 M4 => ⟨_, rfl, _, rd_eqBs (b := []), fun e => ?_, fun e => ?_⟩
  · rw [if_pos (of_decide_eq_true e)] at hK
    exact reader_fail_ok D4 (by decide) fun h5 D5 M5 => ⟨rfl, hK h5 D5 (((Mut.of_le hl).trans M4).trans M5)⟩
  · rw [if_neg (of_decide_eq_false e)] at hK
    exact hK h4 D4 ((Mut.of_le hl).trans M4)
structure NdAt (hB h : Hp) (a : Option Addr) (n : Nat) (l : List Nd) : Prop where
  s : SlP encN h a n l
  nw : ∀ b o, a = some ⟨b, o, none⟩ → hB b = none
theorem NdAt.base {hB hC h : Hp} {a : Option Addr} {n : Nat} {l : List Nd} (N : NdAt hC h a n l) (hh : ∀ b, hC b = none → hB b = none) : NdAt hB h a n l := ⟨N.s, fun b o e => hh b (N.nw b o e)⟩
theorem NdAt.le {hB h h' : Hp} {a : Option Addr} {n : Nat} {l : List Nd} (N : NdAt hB h a n l) (hl : h.le h') : NdAt hB h' a n l := ⟨N.s.le hl, N.nw⟩
theorem NdAt.mut {hB h h' : Hp} {g : Nat} {a : Option Addr} {n : Nat} {l : List Nd} (N : NdAt hB h a n l) (hg : hB g ≠ none) (M : Mut (At g) h (At g) h') : NdAt hB h' a n l := by
  have ne : ∀ b o, a = some ⟨b, o, none⟩ → b ≠ g := fun b o e q => hg (by rw [← q]; exact N.nw b o e)
  refine ⟨⟨N.s.1, (HasRow.del N.s.2 ne).le fun b o hb => ?_⟩, N.nw⟩
  by_cases e : b = g
  · subst e; simp [Hp.del] at hb
  · refine M.keep b o (fun h => e h) ?_
    simpa [Hp.del, e] using hb
theorem nd_nil (hB h : Hp) : NdAt hB h none 0 [] := ⟨⟨rfl, (OwnS.nil h 137 6).row⟩, fun b o e => by cases e⟩
theorem _root_.Go.Vc.Mut.up {h h' : Hp} {g : Nat} (M : Mut (At g) h (At g) h') (hg : h' g ≠ none) : ∀ b, h' b = none → h b = none := by
  intro b hb
  cases e : h b with
  | none => rfl
  | some o =>
    by_cases q : b = g
    · subst q; exact absurd hb hg
    · rw [M.keep b o (fun h => q h) e] at hb; cases hb
theorem le_up {h h' : Hp} (l : h.le h') : ∀ b, h' b = none → h b = none := fun b hb => Hp.none_of_le l hb
theorem query_leaf_ok {h : Hp} (n : Nd) {R : Value → Hp → Prop} (hK : ∀ a c h', NdAt h h' a 1 [n] → 1 ≤ c → h.le h' → R (vsl a 1 c) h') : CallOK Tryz.prog 125 [vag (encN n)] h R := by
  refine ok_query_leaf ?_
  unfold VC_query_leaf
  intro b1 hb1 h2
  refine hK _ _ _ ⟨⟨rfl, (OwnS.new h b1 137 (sz := 6) (n := 1) (encN n) rfl (by decide)).row⟩, fun b o e => ?_⟩ (by decide) (Hp.le_set (Hp.le_refl h) hb1 _)
  cases e
  exact hb1
theorem RdAt.al {h0 h : Hp} {g : Nat} {s : RS} (D : RdAt h0 h g s) : h g ≠ none := by
  obtain ⟨a, c, hb, _⟩ := D.b
  rw [hb]; simp
theorem reader_join_ok {h0 h : Hp} {g : Nat} {s : RS} (D : RdAt h0 h g s) {op : Int} {ax ay : Option Addr} {nx ny cx cy : Nat} {x y : List Nd} (X : SlP encN h ax nx x) (Y : SlP encN h ay ny y) (Wy : WfL y) (hx : x.length ≤ 1000) (hy : y.length ≤ 1000) {R : Value → Hp → Prop}
    (hK : ∀ a c h', RdAt h0 h' g (joinP op x y s).2 → NdAt h h' a (joinP op x y s).1.length (joinP op x y s).1 → Mut (At g) h (At g) h' → R (vsl a (joinP op x y s).1.length c) h') : CallOK Tryz.prog 105 [vhp g 0, vi op, vsl ax nx cx, vsl ay ny cy] h R := by
  refine ok_query_reader_join ?_
  unfold VC_query_reader_join
  have hnx := X.1
  have hny := Y.1
  unfold joinP at hK
  refine ⟨_, isW (by unfold InR; omega), fun e => ?_, fun e => ?_⟩
  · have e2 := of_decide_eq_true e
    rw [if_pos (by omega)] at hK
    refine reader_fail_ok D (by decide) fun h3 D3 M3 => ⟨rfl, query_leaf_ok leafN fun a c h5 N5 _ l5 => ⟨_, _, _, rfl, ?_⟩⟩
    exact hK a c h5 (D3.le l5) (N5.base (M3.up D3.al)) (M3.trans (Mut.of_le l5))
  · have e2 := of_decide_eq_false e
    rw [if_neg (by omega)] at hK
    refine expr_Join_ok X Y Wy (by omega) (by omega) fun a' c' h' V => ⟨_, _, _, rfl, ?_⟩
    refine hK a' c' h' (D.le V.le0) ⟨V.slp encN_len (by decide), fun b o e => ?_⟩ (Mut.of_le V.le0)
    obtain rfl := (OwnV.own V).at0 b o e
    exact OwnV.new V b e
end Go.Proofs.YtejefijpcggkfaaGreatDoor
namespace Go.Txt
open Go.Lib
set_option linter.unusedVariables false
theorem parse_inv : ∀ (l : List UInt8) (a u : Nat), parseUint10 a l = .ok u → (∀ c ∈ l, isD c) ∧ u = valF a l
  | [], a, u, h => by
    rw [parseUint10] at h
    injection h with h
    exact ⟨by simp, h.symm⟩
  | c :: l, a, u, h => by
    rw [parseUint10] at h
    split at h
    · rename_i hc
      split at h
      · cases h
      · split at h
        · cases h
        · obtain ⟨h1, h2⟩ := parse_inv l _ u h
          refine ⟨fun x hx => ?_, ?_⟩
          · rcases List.mem_cons.1 hx with rfl | hx
            · exact hc
            · exact h1 x hx
          · rw [h2, Nat.mul_comm]; rfl
    · cases h
theorem natF_go {l : List UInt8} (hl : l ≠ []) (most : Int) : natF l most false = natGo most 0 l := by
  unfold natF
  rw [if_neg]
  rintro (h | ⟨h, _⟩)
  · exact hl h
  · cases h
theorem natF_eq {l : List UInt8} (hl : l ≠ []) {most : Int} (hm : 0 ≤ most) : natF l most false = if (∀ c ∈ l, isD c) ∧ (valF 0 l : Int) ≤ most then (valF 0 l : Int) else -1 := by
  rw [natF_go hl]
  exact natGo_spec most l 0 hm
theorem natF_low {l : List UInt8} {most : Int} (hm : 0 ≤ most) : -1 ≤ natF l most false ∧ natF l most false ≤ most := by
  by_cases hl : l = []
  · subst hl; unfold natF; simp; omega
  · rw [natF_eq hl hm]
    split <;> omega
theorem atoi_digits {c : UInt8} {r : List UInt8} (hc : isD c) {v : Int} (h : atoiAll (c :: r) = .ok v) : (∀ x ∈ c :: r, isD x) ∧ v = valF 0 (c :: r) := by
  have hc' := hc
  unfold isD at hc'
  unfold atoiAll at h
  simp only at h
  rw [if_neg (by omega)] at h
  unfold parseMag at h
  rw [if_neg (by simp)] at h
  cases hp : parseUint10 0 (c :: r) with
  | ok u =>
    rw [hp] at h
    simp only at h
    rw [if_neg (show ¬ (c.toNat = 45 ∧ 9223372036854775808 < u) by omega), if_neg (show ¬ c.toNat = 45 by omega)] at h
    split at h
    · cases h
    · injection h with h
      obtain ⟨h1, h2⟩ := parse_inv _ _ _ hp
      exact ⟨h1, by rw [← h, h2]⟩
  | range => rw [hp] at h; cases h
  | _ => rw [hp] at h; cases h
theorem atoi_of_digits {l : List UInt8} (hl : l ≠ []) (hd : ∀ x ∈ l, isD x) (hv : valF 0 l ≤ 1000000000000) : atoiAll l = .ok (valF 0 l) := by
  match l, hl with
  | c :: r, hl =>
    have hc := hd c (List.mem_cons_self ..)
    unfold isD at hc
    have hp := parse_spec (c :: r) 0 hd (by omega)
    unfold atoiAll
    simp only
    rw [if_neg (by omega)]
    unfold parseMag
    rw [if_neg (by simp), hp]
    simp only
    rw [if_neg (by omega), if_neg (by omega), if_neg (by omega)]
theorem atoi_nat {c : UInt8} {r : List UInt8} {v : Int} (h : atoiAll (c :: r) = .ok v) {most : Int} (hm : 0 ≤ most) : natF (c :: r) most false = if isD c ∧ v ≤ most then v else -1 := by
  by_cases hc : isD c
  · obtain ⟨h1, h2⟩ := atoi_digits hc h
    rw [natF_eq (by simp) hm, h2]
    by_cases h3 : (valF 0 (c :: r) : Int) ≤ most
    · rw [if_pos ⟨h1, h3⟩, if_pos ⟨hc, h3⟩]
    · rw [if_neg (fun e => h3 e.2), if_neg (fun e => h3 e.2)]
  · rw [natF_eq (by simp) hm, if_neg (fun e => hc (e.1 c (List.mem_cons_self ..))), if_neg (fun e => hc e.1)]
theorem atoi_none {l : List UInt8} (h : ∀ v, atoiAll l ≠ .ok v) {most : Int} (hm : 0 ≤ most) (hm2 : most ≤ 1000000000000) : natF l most false = -1 := by
  by_cases hl : l = []
  · subst hl; unfold natF; simp
  · rw [natF_eq hl hm]
    by_cases h3 : (∀ c ∈ l, isD c) ∧ (valF 0 l : Int) ≤ most
    · exact absurd (atoi_of_digits hl h3.1 (by omega)) (h _)
    · rw [if_neg h3]
end Go.Txt
namespace Go.Proofs.YtejefijpcggkfaaGreatDoor
open Go Go.Vc Go.Txt
set_option linter.unusedVariables false
set_option maxRecDepth 100000
def aggsW : List Wd := [[], wCount, wCount, wSum, wMin, wMax]
structure TabQ (h : Hp) : Prop where
  p : TabP h
  e : TabE h
  f : ∃ a c, Hp.cell h 4 0 = some (vsl a 4 c) ∧ SlB h a 4 fieldW
  a : ∃ a c, Hp.cell h 0 0 = some (vsl a 6 c) ∧ SlB h a 6 aggsW
theorem TabQ.le {h h' : Hp} (T : TabQ h) (l : h.le h') : TabQ h' := by
  obtain ⟨p, e, ⟨a, c, h1, h2⟩, b, d, h3, h4⟩ := T
  exact ⟨p.le l, e.le l, ⟨a, c, Hp.cell_le l h1, SlP.le l h2⟩, b, d, Hp.cell_le l h3, SlP.le l h4⟩
structure EnvQ (h0 h : Hp) (g : Nat) : Prop where
  t : TabQ h0
  l : h0.le h
  n : h0 g = none
theorem EnvQ.mut {h0 h h' : Hp} {g : Nat} (E : EnvQ h0 h g) (M : Mut (At g) h (At g) h') : EnvQ h0 h' g :=
  ⟨E.t, fun b o hb => M.keep b o (fun e => by rw [show b = g from e, E.n] at hb; cases hb) (E.l b o hb), E.n⟩
theorem EnvQ.now {h0 h : Hp} {g : Nat} (E : EnvQ h0 h g) : TabQ h := E.t.le E.l
structure ElAt {α : Type} (enc : α → List Value) (h : Hp) (g : Nat) (a : Option Addr) (n : Nat) (l : List α) : Prop where
  s : SlP enc h a n l
  ne : ∀ b o, a = some ⟨b, o, none⟩ → b ≠ g
theorem ElAt.mut {α : Type} {enc : α → List Value} {h h' : Hp} {g : Nat} {a : Option Addr} {n : Nat} {l : List α} (N : ElAt enc h g a n l) (M : Mut (At g) h (At g) h') : ElAt enc h' g a n l := by
  refine ⟨⟨N.s.1, (HasRow.del N.s.2 N.ne).le fun b o hb => ?_⟩, N.ne⟩
  by_cases e : b = g
  · subst e; simp [Hp.del] at hb
  · refine M.keep b o (fun h => e h) ?_
    simpa [Hp.del, e] using hb
theorem RdAt.c0 {h0 h : Hp} {g : Nat} {s : RS} (D : RdAt h0 h g s) : ∃ a c, h.cell g 0 = some (vsl a s.ws.length c) := by
  obtain ⟨a, c, hb, _⟩ := D.b
  exact ⟨a, c, (rd_block hb).1⟩
theorem RdAt.c1 {h0 h : Hp} {g : Nat} {s : RS} (D : RdAt h0 h g s) : h.cell g (0 + 1) = some (vi s.deep) := by
  obtain ⟨a, c, hb, _⟩ := D.b
  exact (rd_block hb).2.1
theorem RdAt.c2 {h0 h : Hp} {g : Nat} {s : RS} (D : RdAt h0 h g s) : h.cell g (0 + 2) = some (ifv (errV s.f)) := by
  obtain ⟨a, c, hb, _⟩ := D.b
  exact (rd_block hb).2.2
theorem RdAt.put1 {h0 h : Hp} {g : Nat} {s : RS} (D : RdAt h0 h g s) {d : Int} {K : Hp → Prop} (hK : ∀ h', RdAt h0 h' g ⟨s.ws, d, s.f⟩ → Mut (At g) h (At g) h' → K h') : h.store g (0 + 1) [vi d] K := by
  obtain ⟨a, c, hb, hS, hc⟩ := D.b
  exact rd_put1 hb (hK _ ⟨⟨a, c, Hp.set_same _ _ _, hS, hc⟩, le_put D.l D.n _, D.n, D.w⟩ (mut_set _ _ _))
theorem RdAt.put2 {h0 h : Hp} {g : Nat} {s : RS} (D : RdAt h0 h g s) {f : Int} {K : Hp → Prop} (hK : ∀ h', RdAt h0 h' g ⟨s.ws, s.deep, f⟩ → Mut (At g) h (At g) h' → K h') : h.store g (0 + 2) [ifv (errV f)] K := by
  obtain ⟨a, c, hb, hS, hc⟩ := D.b
  exact rd_put2 hb (hK _ ⟨⟨a, c, Hp.set_same _ _ _, hS, hc⟩, le_put D.l D.n _, D.n, D.w⟩ (mut_set _ _ _))
theorem isD_le {c : UInt8} : (decide (((c.toNat : Nat) : Int) < 48) = false ∧ decide (((c.toNat : Nat) : Int) > 57) = false) ↔ isD c := by
  unfold isD
  constructor
  · rintro ⟨h1, h2⟩
    have h1 := of_decide_eq_false h1
    have h2 := of_decide_eq_false h2
    omega
  · intro h
    exact ⟨decide_eq_false (by omega), decide_eq_false (by omega)⟩
theorem reader_number_ok {h0 h : Hp} {g : Nat} {s : RS} (D : RdAt h0 h g s) (E : EnvQ h0 h g) (hl : s.ws.length ≤ 1000000) {most : Int} (hm : 0 ≤ most) (hm2 : most ≤ 1000000000000) {R : Value → Hp → Prop} (hK : ∀ h', RdAt h0 h' g (s.number most).2 → Mut (At g) h (At g) h' → R (vi (s.number most).1) h') : CallOK Tryz.prog 43 [vhp g 0, vi most] h R := by
  have hfail : (s.number most) = (0, s.fail 4) → CallOK Tryz.prog 69 [vhp g 0, ifv (some (95, vi 4))] h fun v2 h3 => v2 = vtup [] ∧ R (vi 0) h3 := by
    intro e
    rw [e] at hK
    exact reader_fail_ok D (by decide) fun h' D' M => ⟨rfl, hK h' D' M⟩
  obtain ⟨a, c, hb, hS, hc⟩ := D.b
  refine ok_query_reader_number ?_
  unfold VC_query_reader_number
  have hcell := (rd_block hb).1
  have hw := D.w
  obtain ⟨ws, dp, f⟩ := s
  simp only at hb hS hc hcell hw hl
  refine ⟨_, _, _, hcell, fun e => ?_, fun e => ?_⟩
  · have : ws = [] := by
      have := of_decide_eq_true e
      exact List.length_eq_zero_iff.1 (by omega)
    subst this
    exact hfail rfl
  cases ws with
  | nil => simp at e
  | cons w r =>
    obtain ⟨b, o, ha, hc0⟩ := SlP.get1 (SlP.le D.l hS) (i := 0) (by simp)
    have hc1 : h.cell b (o + (0 : Int).toNat * 1) = some (vs (bs w)) := hc0
    have hlen : (0 : Int) < (((w :: r).length : Nat) : Int) := by simp
    have hwl := hw w (List.mem_cons_self ..)
    refine ⟨_, _, _, hcell, b, o, ⟨ha, by decide, hlen⟩, _, hc1, ?_⟩
    refine strconv_Atoi_ok hwl E.now.e (fun v hv => ?_) fun hn x e => ?_
    · match w, hv with
      | [], hv => exact absurd hv (by simp [Lib.atoiAll])
      | c0 :: cs, hv =>
      have hx : Rd Tryz.prog (Instr.index 9 (vs (bs (c0 :: cs))) (vi 0)) h (vk .u8 (c0.toNat : Nat)) := rd_idx (by kernel_rfl) (l := c0 :: cs) (i := 0) (by decide) (by simp)
      refine ⟨_, _, rfl, _, _, _, fun _ => hcell, b, o, fun _ => ⟨ha, by decide, hlen⟩, _, fun _ => hc1, _, fun _ => hx, _, _, _, fun _ => hcell, b, o, fun _ => ⟨ha, by decide, hlen⟩, _, fun _ => hc1, _, fun _ => hx, ?_⟩
      have hnat := atoi_nat hv hm
      have hnum : (⟨(c0 :: cs) :: r, dp, f⟩ : RS).number most = if natF (c0 :: cs) most false < 0 then (0, (⟨(c0 :: cs) :: r, dp, f⟩ : RS).fail 4) else (natF (c0 :: cs) most false, ⟨r, dp, f⟩) := rfl
      have hcond : (bif (bif (bif (Option.isSome (none : Option (TypeId × Value))) then true else (decide (((c0.toNat : Nat) : Int) < 48))) then true else (decide (((c0.toNat : Nat) : Int) > 57))) then true else (decide ((v : Int) > most))) = !decide (isD c0 ∧ v ≤ most) := by
        have hi := @isD_le c0
        rw [show (decide (v > most)) = !decide (v ≤ most) by rw [cnot]; exact decide_eq_decide.2 (by omega)]
        cases h1 : decide (((c0.toNat : Nat) : Int) < 48) <;> cases h2 : decide (((c0.toNat : Nat) : Int) > 57) <;> simp only [h1, h2] at hi <;> simp at hi <;> simp [hi]
      rw [hcond]
      refine ⟨fun e => ?_, fun e => ?_⟩
      · have e2 : ¬ (isD c0 ∧ v ≤ most) := by rw [cnot] at e; exact of_decide_eq_true e
        rw [if_neg e2] at hnat
        rw [hnat, if_pos (by decide)] at hnum
        exact hfail hnum
      · have e2 : isD c0 ∧ v ≤ most := by rw [cnot] at e; exact Decidable.not_not.1 (of_decide_eq_false e)
        rw [if_pos e2] at hnat
        obtain ⟨_, hv2⟩ := atoi_digits e2.1 hv
        rw [hnat, if_neg (by omega)] at hnum
        rw [hnum] at hK
        have hsz : szT Tryz.prog 9 = 1 := by kernel_rfl
        have hr := rd_slice_l (P := Tryz.prog) (h := h) (t := 83) (e := 9) (by kernel_rfl) (by kernel_rfl) (a := a) (n := ((c0 :: cs) :: r).length) (c := c) (x := 1) (by decide) (by simp; omega)
        rw [hsz] at hr
        refine ⟨_, _, _, hcell, _, _, _, hr, rd_put0 hb ?_⟩
        have hS2 := SlP.drop encB_len hS (i := 1) (by simp) hc
        exact hK _ ⟨⟨_, _, Hp.set_same _ _ _, ⟨rfl, hS2.2⟩, by simp at hc ⊢; omega⟩, le_put D.l D.n _, D.n, fun x hx => hw x (List.mem_cons_of_mem _ hx)⟩ (mut_set _ _ _)
    · have no : ∀ {p : Prop}, Option.isSome (some e) = false → p := fun q => by cases q
      refine ⟨x, some e, rfl, none, 0, 0, no, 0, 0, no, ⟨#[]⟩, no, 0, no, none, 0, 0, (fun q => by cases q), 0, 0, (fun q => by cases q), ⟨#[]⟩, (fun q => by cases q), 0, (fun q => by cases q), (fun _ => ?_), (fun q => by cases q)⟩
      have hnat := atoi_none hn hm hm2
      refine hfail ?_
      show (if natF w most false < 0 then (0, (⟨w :: r, dp, f⟩ : RS).fail 4) else (natF w most false, ⟨r, dp, f⟩)) = _
      rw [hnat, if_pos (by decide)]
structure SOk (n : Nat) (s : RS) : Prop where
  good : s.good
  len : s.ws.length < n
  big : s.ws.length ≤ 1000
  d0 : 0 ≤ s.deep
  d1 : s.deep + s.ws.length ≤ 1000000
theorem SOk.goes {n : Nat} {s t : RS} (S : SOk n s) (G : Goes t s) : SOk n t := by
  have h1 := G.len
  have h2 := G.deep
  have := S.len
  have := S.big
  have := S.d0
  have := S.d1
  exact ⟨G.ok, by omega, by omega, by omega, by omega⟩
def Reads (f : FuncId) (P : Ps) (n : Nat) : Prop := ∀ {h0 h : Hp} {g : Nat} {s : RS}, RdAt h0 h g s → EnvQ h0 h g → SOk n s → ∀ {R : Value → Hp → Prop}, (∀ a c h', RdAt h0 h' g (P s).2 → NdAt h h' a (P s).1.length (P s).1 → Mut (At g) h (At g) h' → R (vsl a (P s).1.length c) h') → CallOK Tryz.prog f [vhp g 0] h R
def Bodied (f : FuncId) : Prop := ∃ fn, Tryz.prog.funcs[f]? = some fn ∧ (fn.name == "runtime.NumGoroutine") = false ∧ fn.body.isNone = false
theorem inv_of {f : FuncId} (B : Bodied f) {g : Nat} {h : Hp} {K : Value → Hp → Prop} (H : CallOK Tryz.prog f [vhp g 0] h K) : InvOK Tryz.prog (.func (.func f) #[vhp g 0] #[]) [] h K := ⟨f, _, _, rfl, B, H⟩
theorem reader_down_ok {f : FuncId} {P : Ps} {n : Nat} (B : Bodied f) (F : Reads f P n) (kp : KP P n) {h0 h : Hp} {g : Nat} {s : RS} (D : RdAt h0 h g s) (E : EnvQ h0 h g) (S : SOk n s) (hd : s.deep + s.ws.length < 1000000) {R : Value → Hp → Prop} (hK : ∀ a c h', RdAt h0 h' g (downP P s).2 → NdAt h h' a (downP P s).1.length (downP P s).1 → Mut (At g) h (At g) h' → R (vsl a (downP P s).1.length c) h') : CallOK Tryz.prog 128 [vhp g 0, .func (.func f) #[vhp g 0] #[]] h R := by
  refine ok_query_reader_down ?_
  unfold VC_query_reader_down
  have d0 := S.d0
  refine ⟨_, D.c1, _, isW (by unfold InR; omega), D.put1 fun h3 D3 M3 => ⟨_, D3.c1, ?_⟩⟩
  intro J9
  have key : ∀ (h10 : Hp) (u : RS), RdAt h0 h10 g u → Mut (At g) h (At g) h10 → SOk n u → downP P s = ((P u).1, ⟨(P u).2.ws, (P u).2.deep - 1, (P u).2.f⟩) → J9 h10 := by
    intro h10 u D10 M10 Su hP
    rw [hP] at hK
    have k := kp u Su.good (Nat.le_of_lt Su.len)
    have hdp := k.deep
    have du := Su.d0
    have du1 := Su.d1
    have hg := D.al
    refine inv_of B (F D10 (E.mut M10) Su fun a c h' D' N' M' => ⟨_, _, _, rfl, _, D'.c1, _, isW (by unfold InR; omega), D'.put1 fun h4 D4 M4 => ?_⟩)
    exact hK a c h4 D4 ((N'.base (M10.up D10.al)).mut hg M4) ((M10.trans M').trans M4)
  clear_value J9
  refine ⟨fun e => ?_, fun e => ?_⟩
  · have e2 : s.deep + 1 > 12 := of_decide_eq_true e
    refine reader_fail_ok D3 (by decide) fun h4 D4 M4 => ⟨rfl, key h4 _ D4 (M3.trans M4) ⟨RS.fail_good _ _, by have := S.len; exact Nat.lt_of_le_of_lt (Nat.zero_le _) this, Nat.zero_le _, by show 0 ≤ s.deep + 1; omega, by show s.deep + 1 + ((0 : Nat) : Int) ≤ 1000000; omega⟩ ?_⟩
    unfold downP
    simp only [if_pos e2]
  · have e2 : ¬ s.deep + 1 > 12 := of_decide_eq_false e
    refine key h3 _ D3 M3 ⟨S.good, S.len, S.big, by show 0 ≤ s.deep + 1; omega, by show s.deep + 1 + (s.ws.length : Int) ≤ 1000000; omega⟩ ?_
    unfold downP
    simp only [if_neg e2]
end Go.Proofs.YtejefijpcggkfaaGreatDoor
namespace Go.Proofs.YtejefijpcggkfaaGreatDoor
open Go Go.Vc Go.Txt
set_option linter.unusedVariables false
def signW (op : Int) : Wd := if op = 6 then [43] else if op = 7 then [45] else if op = 8 then [42] else if op = 9 then wAnd else if op = 10 then wOr else if op = 11 then [60] else [61]
def txF (n : Nd) (a b : Wd) : Wd :=
  if n.op = 1 then (if n.v.2 < 0 then [40, 48, 32, 45, 32] ++ Lib.itoa (-n.v.2) ++ [41] else textV n.v)
  else if n.op = 2 then fieldW.getD n.n.toNat []
  else if n.op = 3 then [40, 45, 32] ++ a ++ [41]
  else if n.op = 4 then [40, 110, 111, 116, 32] ++ a ++ [41]
  else if n.op = 5 then [40] ++ a ++ [32, 105, 115, 32, 110, 117, 108, 108, 41]
  else [40] ++ a ++ [32] ++ signW n.op ++ [32] ++ b ++ [41]
abbrev txAt (l : List Nd) (i : Nat) : Wd := fAt [] txF l i
def txE (l : List Nd) : Wd := txAt l (l.length - 1)
def aggT (a : Ag) : Wd := aggsW.getD a.1.toNat [] ++ [40] ++ (if a.1 = 1 then [42] else txE a.2) ++ [41]
def wSel : Wd := [115, 101, 108, 101, 99, 116, 32]
def wFrE : Wd := [32, 102, 114, 111, 109, 32, 101, 118, 101, 110, 116, 115]
def wWhr : Wd := [32, 119, 104, 101, 114, 101, 32]
def wGrp : Wd := [32, 103, 114, 111, 117, 112, 32, 98, 121, 32]
def wWin : Wd := [32, 119, 105, 110, 100, 111, 119, 32]
def wSli : Wd := [32, 115, 108, 105, 100, 101, 32]
def wDel : Wd := [32, 100, 101, 108, 97, 121, 32]
def wLat : Wd := [32, 108, 97, 116, 101, 32]
def wSep : Wd := [44, 32]
def numsT (s : Wd) (q : Qy) : Wd := s ++ wWin ++ Lib.itoa q.size ++ wSli ++ Lib.itoa q.slide ++ wDel ++ Lib.itoa q.delay ++ wLat ++ Lib.itoa q.late
def whT (s : Wd) (q : Qy) : Wd := if q.wh = [] then s else s ++ (wWhr ++ txE q.wh)
def byT (s : Wd) (q : Qy) : Wd := if q.by_ = [] then s else s ++ (wGrp ++ txE q.by_)
def queryT (q : Qy) : Wd := numsT (byT (whT (wSel ++ Lib.join (q.aggs.map aggT) wSep ++ wFrE) q) q) q
structure QOk (q : Qy) : Prop where
  n1 : 1 ≤ q.aggs.length
  n2 : q.aggs.length ≤ 4
  g : ∀ a ∈ q.aggs, 1 ≤ a.1 ∧ a.1 ≤ 5 ∧ (a.1 ≠ 1 → exprF a.2 = 0) ∧ (a.1 = 1 → a.2 = [])
  w : q.wh ≠ [] → exprF q.wh = 0
  b : q.by_ ≠ [] → exprF q.by_ = 0
  s : 1 ≤ q.size ∧ q.size ≤ 1000
  l : 1 ≤ q.slide ∧ q.slide ≤ 1000
  d : 0 ≤ q.delay ∧ q.delay ≤ 1000
  t : 0 ≤ q.late ∧ q.late ≤ 1000
  r : q.slide ≤ q.size ∧ q.size ≤ 4 * q.slide
  ga : ∀ a ∈ q.aggs, a.1 ≠ 1 → typedF a.2 (if a.1 = 2 then 0 else 1) = 0
  wa : q.wh ≠ [] → typedF q.wh 2 = 0
  ba : q.by_ ≠ [] → typedF q.by_ 0 = 0
theorem typedF_expr {l : List Nd} {k : Int} (h : typedF l k = 0) : exprF l = 0 := by
  unfold typedF at h
  split at h
  · rename_i q; exact absurd h q
  · rename_i q; exact Decidable.not_not.1 q
theorem qok_of {q : Qy} (h : qryF q = 0) : QOk q := by
  unfold qryF at h
  split at h
  · cases h
  rename_i h1
  split at h
  · rename_i h2; exact absurd h h2
  rename_i h2
  have h2 := firstF_all (Decidable.not_not.1 h2)
  have h3 := firstF_all h
  have ha : ∀ a ∈ q.aggs, aggF a = 0 := fun a ha => h2 _ (List.mem_map.2 ⟨a, ha, rfl⟩)
  have hw := h3 (if q.wh = [] then 0 else typedF q.wh 2) (by simp)
  have hb := h3 (if q.by_ = [] then 0 else typedF q.by_ 0) (by simp)
  have hn := h3 (numsF q) (by simp)
  have hga : ∀ a ∈ q.aggs, 1 ≤ a.1 ∧ a.1 ≤ 5 ∧ (a.1 ≠ 1 → typedF a.2 (if a.1 = 2 then 0 else 1) = 0) ∧ (a.1 = 1 → a.2 = []) := by
    intro a h4
    have h5 := ha a h4
    unfold aggF at h5
    split at h5
    · cases h5
    · rename_i h6
      refine ⟨by omega, by omega, fun h7 => ?_, fun h7 => ?_⟩
      · rw [if_neg h7] at h5; exact h5
      · exact Decidable.byContradiction fun h8 => h6 (.inr (.inr ⟨h7, h8⟩))
  have hwa : q.wh ≠ [] → typedF q.wh 2 = 0 := fun h4 => by rw [if_neg h4] at hw; exact hw
  have hba : q.by_ ≠ [] → typedF q.by_ 0 = 0 := fun h4 => by rw [if_neg h4] at hb; exact hb
  have hnn : ¬ (q.size < 1 ∨ q.size > 1000 ∨ q.slide < 1 ∨ q.slide > 1000 ∨ q.delay < 0 ∨ q.delay > 1000 ∨ q.late < 0 ∨ q.late > 1000) ∧ ¬ (q.slide > q.size ∨ q.size > 4 * q.slide) := by
    unfold numsF at hn
    split at hn
    · cases hn
    · rename_i h4
      split at hn
      · cases hn
      · rename_i h5; exact ⟨h4, h5⟩
  exact ⟨by omega, by omega, fun a h4 => ⟨(hga a h4).1, (hga a h4).2.1, fun h5 => typedF_expr ((hga a h4).2.2.1 h5), (hga a h4).2.2.2⟩, fun h4 => typedF_expr (hwa h4), fun h4 => typedF_expr (hba h4), by omega, by omega, by omega, by omega, by omega, fun a h4 h5 => (hga a h4).2.2.1 h5, hwa, hba⟩
end Go.Proofs.YtejefijpcggkfaaGreatDoor
namespace Go.Proofs.YtejefijpcggkfaaGreatDoor
open Go Go.Vc
set_option maxRecDepth 100000
set_option linter.unusedVariables false
def VC_query_typed (u_la : Option Addr) (u_ln u_lc : Nat) (u_kind : Int) (h : Hp) (R : Value → Hp → Prop) : Prop :=
  (CallOK Tryz.prog 109 [(vsl u_la u_ln u_lc)] h fun v1 h2 => ∃ (e3 : Option (TypeId × Value)), v1 = (ifv e3) ∧ (((Option.isSome e3) = true → R (ifv e3) h2) ∧ ((Option.isSome e3) = false → (CallOK Tryz.prog 110 [(vsl u_la u_ln u_lc)] h2 fun v5 h6 => ∃ (x7 : Int) (e8 : Option (TypeId × Value)), v5 = (vtup [(vi x7), (ifv e8)]) ∧ (let J11 : Option (TypeId × Value) → Prop := fun (e12 : Option (TypeId × Value)) => R (ifv e12) h6; (((bif (bif (bif (Option.isNone e8) then (decide ((u_kind : Int) ≠ 0)) else false) then (decide ((x7 : Int) ≠ u_kind)) else false) then (decide ((x7 : Int) ≠ 0)) else false) = true → (J11 (some (95, (vi 3))))) ∧ ((bif (bif (bif (Option.isNone e8) then (decide ((u_kind : Int) ≠ 0)) else false) then (decide ((x7 : Int) ≠ u_kind)) else false) then (decide ((x7 : Int) ≠ 0)) else false) = false → (J11 e8))))))))
theorem ok_query_typed {u_la : Option Addr} {u_ln u_lc : Nat} {u_kind : Int} {h : Hp} {R : Value → Hp → Prop} (H : VC_query_typed u_la u_ln u_lc u_kind h R) : CallOK Tryz.prog 75 [(vsl u_la u_ln u_lc), (vi u_kind)] h R :=
  call_of (cfg := ⟨[], [], []⟩) noNG mixed Tryz.func75 [.one (.v (vsl u_la u_ln u_lc)), .one (.v (vi u_kind))] (by kernel_rfl) rfl (by kernel_rfl) H
def VC_query_numbers (u_qAggsa : Option Addr) (u_qAggsn u_qAggsc : Nat) (u_qWherea : Option Addr) (u_qWheren u_qWherec : Nat) (u_qBya : Option Addr) (u_qByn u_qByc : Nat) (u_qSize : Int) (u_qSlide : Int) (u_qDelay : Int) (u_qLate : Int) (h : Hp) (R : Value → Hp → Prop) : Prop :=
  (∀ (b1 : Nat), h b1 = none → let h2 : Hp := Hp.set h b1 (cellsO [(vi u_qSize), (vi u_qSlide)] 3); (∃ (I4 : List Value → Hp → Prop) (m5 : List Value → Hp → Nat), I4 [(vi 0)] h2 ∧ ∀ (vs6 : List Value) (h7 : Hp), I4 vs6 h7 → ∃ (x8 : Int), vs6 = [(vi x8)] ∧ (((decide ((x8 : Int) < ((2 : Nat) : Int))) = true → (∃ (b11 o12 : Nat), ((some (⟨b1, 0, none⟩ : Addr)) = some ⟨b11, o12, none⟩ ∧ (0 : Int) ≤ x8 ∧ x8 < ((2 : Nat) : Int)) ∧ (∃ (x13 : Int), (Hp.cell h7 b11 (o12 + x8.toNat * 1) = some (vi x13)) ∧ (((bif (decide ((x13 : Int) < 1)) then true else (decide ((x13 : Int) > 1000))) = true → R (ifv (some (95, (vi 1)))) h7) ∧ ((bif (decide ((x13 : Int) < 1)) then true else (decide ((x13 : Int) > 1000))) = false → (∃ (x15 : Int), (IsW x15 (x8 + 1)) ∧ (I4 [(vi x15)] h7 ∧ m5 [(vi x15)] h7 < m5 vs6 h7))))))) ∧ ((decide ((x8 : Int) < ((2 : Nat) : Int))) = false → (∀ (b16 : Nat), h7 b16 = none → let h17 : Hp := Hp.set h7 b16 (cellsO [(vi u_qDelay), (vi u_qLate)] 3); (∃ (I19 : List Value → Hp → Prop) (m20 : List Value → Hp → Nat), I19 [(vi 0)] h17 ∧ ∀ (vs21 : List Value) (h22 : Hp), I19 vs21 h22 → ∃ (x23 : Int), vs21 = [(vi x23)] ∧ (((decide ((x23 : Int) < ((2 : Nat) : Int))) = true → (∃ (b26 o27 : Nat), ((some (⟨b16, 0, none⟩ : Addr)) = some ⟨b26, o27, none⟩ ∧ (0 : Int) ≤ x23 ∧ x23 < ((2 : Nat) : Int)) ∧ (∃ (x28 : Int), (Hp.cell h22 b26 (o27 + x23.toNat * 1) = some (vi x28)) ∧ (((bif (decide ((x28 : Int) < 0)) then true else (decide ((x28 : Int) > 1000))) = true → R (ifv (some (95, (vi 1)))) h22) ∧ ((bif (decide ((x28 : Int) < 0)) then true else (decide ((x28 : Int) > 1000))) = false → (∃ (x30 : Int), (IsW x30 (x23 + 1)) ∧ (I19 [(vi x30)] h22 ∧ m20 [(vi x30)] h22 < m20 vs21 h22))))))) ∧ ((decide ((x23 : Int) < ((2 : Nat) : Int))) = false → (∃ (x31 : Int), ((decide ((u_qSlide : Int) > u_qSize)) = false → IsW x31 (4 * u_qSlide)) ∧ (((bif (decide ((u_qSlide : Int) > u_qSize)) then true else (decide ((u_qSize : Int) > x31))) = true → R (ifv (some (95, (vi 3)))) h22) ∧ ((bif (decide ((u_qSlide : Int) > u_qSize)) then true else (decide ((u_qSize : Int) > x31))) = false → R (ifv none) h22)))))))))))
theorem ok_query_numbers {u_qAggsa : Option Addr} {u_qAggsn u_qAggsc : Nat} {u_qWherea : Option Addr} {u_qWheren u_qWherec : Nat} {u_qBya : Option Addr} {u_qByn u_qByc : Nat} {u_qSize : Int} {u_qSlide : Int} {u_qDelay : Int} {u_qLate : Int} {h : Hp} {R : Value → Hp → Prop} (H : VC_query_numbers u_qAggsa u_qAggsn u_qAggsc u_qWherea u_qWheren u_qWherec u_qBya u_qByn u_qByc u_qSize u_qSlide u_qDelay u_qLate h R) : CallOK Tryz.prog 76 [(vag [(vsl u_qAggsa u_qAggsn u_qAggsc), (vsl u_qWherea u_qWheren u_qWherec), (vsl u_qBya u_qByn u_qByc), (vi u_qSize), (vi u_qSlide), (vi u_qDelay), (vi u_qLate)])] h R :=
  call_of (cfg := ⟨[], [(2, ([13], [.one (.int .i64)], [])), (8, ([31], [.one (.int .i64)], []))], []⟩) noNG mixed Tryz.func76 [.ag [.v (vsl u_qAggsa u_qAggsn u_qAggsc), .v (vsl u_qWherea u_qWheren u_qWherec), .v (vsl u_qBya u_qByn u_qByc), .v (vi u_qSize), .v (vi u_qSlide), .v (vi u_qDelay), .v (vi u_qLate)]] (by kernel_rfl) rfl (by kernel_rfl) H
def VC_query_Check (u_qAggsa : Option Addr) (u_qAggsn u_qAggsc : Nat) (u_qWherea : Option Addr) (u_qWheren u_qWherec : Nat) (u_qBya : Option Addr) (u_qByn u_qByc : Nat) (u_qSize : Int) (u_qSlide : Int) (u_qDelay : Int) (u_qLate : Int) (h : Hp) (R : Value → Hp → Prop) : Prop :=
  (((bif (decide ((((u_qAggsn : Nat) : Int) : Int) < 1)) then true else (decide ((((u_qAggsn : Nat) : Int) : Int) > 4))) = true → R (ifv (some (95, (vi 2)))) h) ∧ ((bif (decide ((((u_qAggsn : Nat) : Int) : Int) < 1)) then true else (decide ((((u_qAggsn : Nat) : Int) : Int) > 4))) = false → (∃ (I3 : List Value → Hp → Prop) (m4 : List Value → Hp → Nat), I3 [(vi 0)] h ∧ ∀ (vs5 : List Value) (h6 : Hp), I3 vs5 h6 → ∃ (x7 : Int), vs5 = [(vi x7)] ∧ (((decide ((x7 : Int) < ((u_qAggsn : Nat) : Int))) = true → (let J25 : Hp → Prop := fun (h26 : Hp) => (∃ (x27 : Int), (IsW x27 (x7 + 1)) ∧ (I3 [(vi x27)] h26 ∧ m4 [(vi x27)] h26 < m4 vs5 h6)); (∃ (b10 o11 : Nat), (u_qAggsa = some ⟨b10, o11, none⟩ ∧ (0 : Int) ≤ x7 ∧ x7 < ((u_qAggsn : Nat) : Int)) ∧ (∃ (x12 : Int) (a13 : Option Addr) (n13 c13 : Nat), (Hp.row h6 b10 (o11 + x7.toNat * 2) 2 = some [(vi x12), (vsl a13 n13 c13)]) ∧ (((bif (bif (decide ((x12 : Int) < 1)) then true else (decide ((x12 : Int) > 5))) then true else (bif (decide ((x12 : Int) = 1)) then (decide ((((n13 : Nat) : Int) : Int) > 0)) else false)) = true → R (ifv (some (95, (vi 3)))) h6) ∧ ((bif (bif (decide ((x12 : Int) < 1)) then true else (decide ((x12 : Int) > 5))) then true else (bif (decide ((x12 : Int) = 1)) then (decide ((((n13 : Nat) : Int) : Int) > 0)) else false)) = false → (((decide ((x12 : Int) = 1)) = true → (J25 h6)) ∧ ((decide ((x12 : Int) = 1)) = false → (let J19 : Int → Prop := fun (x20 : Int) => (CallOK Tryz.prog 75 [(vsl a13 n13 c13), (vi x20)] h6 fun v21 h22 => ∃ (e23 : Option (TypeId × Value)), v21 = (ifv e23) ∧ (((Option.isSome e23) = true → R (ifv e23) h22) ∧ ((Option.isSome e23) = false → (J25 h22)))); (((decide ((x12 : Int) = 2)) = true → (J19 0)) ∧ ((decide ((x12 : Int) = 2)) = false → (J19 1)))))))))))) ∧ ((decide ((x7 : Int) < ((u_qAggsn : Nat) : Int))) = false → (let J33 : Hp → Prop := fun (h34 : Hp) => (let J40 : Hp → Prop := fun (h41 : Hp) => (CallOK Tryz.prog 76 [(vag [(vsl u_qAggsa u_qAggsn u_qAggsc), (vsl u_qWherea u_qWheren u_qWherec), (vsl u_qBya u_qByn u_qByc), (vi u_qSize), (vi u_qSlide), (vi u_qDelay), (vi u_qLate)])] h41 fun v42 h43 => ∃ (e44 : Option (TypeId × Value)), v42 = (ifv e44) ∧ R (ifv e44) h43); (((decide ((((u_qByn : Nat) : Int) : Int) > 0)) = true → (CallOK Tryz.prog 75 [(vsl u_qBya u_qByn u_qByc), (vi 0)] h34 fun v35 h36 => ∃ (e37 : Option (TypeId × Value)), v35 = (ifv e37) ∧ (((Option.isSome e37) = true → R (ifv e37) h36) ∧ ((Option.isSome e37) = false → (J40 h36))))) ∧ ((decide ((((u_qByn : Nat) : Int) : Int) > 0)) = false → (J40 h34)))); (((decide ((((u_qWheren : Nat) : Int) : Int) > 0)) = true → (CallOK Tryz.prog 75 [(vsl u_qWherea u_qWheren u_qWherec), (vi 2)] h6 fun v28 h29 => ∃ (e30 : Option (TypeId × Value)), v28 = (ifv e30) ∧ (((Option.isSome e30) = true → R (ifv e30) h29) ∧ ((Option.isSome e30) = false → (J33 h29))))) ∧ ((decide ((((u_qWheren : Nat) : Int) : Int) > 0)) = false → (J33 h6)))))))))
theorem ok_query_Check {u_qAggsa : Option Addr} {u_qAggsn u_qAggsc : Nat} {u_qWherea : Option Addr} {u_qWheren u_qWherec : Nat} {u_qBya : Option Addr} {u_qByn u_qByc : Nat} {u_qSize : Int} {u_qSlide : Int} {u_qDelay : Int} {u_qLate : Int} {h : Hp} {R : Value → Hp → Prop} (H : VC_query_Check u_qAggsa u_qAggsn u_qAggsc u_qWherea u_qWheren u_qWherec u_qBya u_qByn u_qByc u_qSize u_qSlide u_qDelay u_qLate h R) : CallOK Tryz.prog 45 [(vag [(vsl u_qAggsa u_qAggsn u_qAggsc), (vsl u_qWherea u_qWheren u_qWherec), (vsl u_qBya u_qByn u_qByc), (vi u_qSize), (vi u_qSlide), (vi u_qDelay), (vi u_qLate)])] h R :=
  call_of (cfg := ⟨[], [(4, ([23], [.one (.int .i64)], []))], []⟩) noNG mixed Tryz.func45 [.ag [.v (vsl u_qAggsa u_qAggsn u_qAggsc), .v (vsl u_qWherea u_qWheren u_qWherec), .v (vsl u_qBya u_qByn u_qByc), .v (vi u_qSize), .v (vi u_qSlide), .v (vi u_qDelay), .v (vi u_qLate)]] (by kernel_rfl) rfl (by kernel_rfl) H
end Go.Proofs.YtejefijpcggkfaaGreatDoor
namespace Go.Proofs.YtejefijpcggkfaaGreatDoor
open Go Go.Vc
set_option maxRecDepth 100000
set_option linter.unusedVariables false
def VC_expr_one (u_nOp : Int) (u_nX : Int) (u_nY : Int) (u_nN : Int) (u_nValKind : Int) (u_nValN : Int) (h : Hp) (R : Value → Hp → Prop) : Prop :=
  (CallOK Tryz.prog 135 [(vi u_nOp)] h fun v1 h2 => ∃ (x3 : Int), v1 = (vi x3) ∧ (((decide ((x3 : Int) < 0)) = true → R (ifv (some (95, (vi 3)))) h2) ∧ ((decide ((x3 : Int) < 0)) = false → (∃ (p5 : Bool), ((decide ((u_nOp : Int) ≠ 1)) = true → Rd Tryz.prog ((eqGuard .neq 33 (.tmp 15) (.tmp 16) (vag [(vi u_nValKind), (vi u_nValN)]) (vag [(vi 0), (vi 0)]) >>= fun _ => binOp .neq 33 (vag [(vi u_nValKind), (vi u_nValN)]) (vag [(vi 0), (vi 0)]))) h2 (vb p5)) ∧ (((bif (bif (bif (bif (decide ((u_nOp : Int) ≠ 1)) then p5 else false) then true else (bif (decide ((u_nOp : Int) ≠ 2)) then (decide ((u_nN : Int) ≠ 0)) else false)) then true else (bif (decide ((x3 : Int) < 2)) then (decide ((u_nY : Int) ≠ 0)) else false)) then true else (bif (decide ((x3 : Int) < 1)) then (decide ((u_nX : Int) ≠ 0)) else false)) = true → R (ifv (some (95, (vi 3)))) h2) ∧ ((bif (bif (bif (bif (decide ((u_nOp : Int) ≠ 1)) then p5 else false) then true else (bif (decide ((u_nOp : Int) ≠ 2)) then (decide ((u_nN : Int) ≠ 0)) else false)) then true else (bif (decide ((x3 : Int) < 2)) then (decide ((u_nY : Int) ≠ 0)) else false)) then true else (bif (decide ((x3 : Int) < 1)) then (decide ((u_nX : Int) ≠ 0)) else false)) = false → (((bif (decide ((u_nOp : Int) = 2)) then (bif (decide ((u_nN : Int) < 0)) then true else (decide ((u_nN : Int) > 3))) else false) = true → R (ifv (some (95, (vi 1)))) h2) ∧ ((bif (decide ((u_nOp : Int) = 2)) then (bif (decide ((u_nN : Int) < 0)) then true else (decide ((u_nN : Int) > 3))) else false) = false → (CallOK Tryz.prog 77 [(vag [(vi u_nValKind), (vi u_nValN)])] h2 fun v8 h9 => ∃ (e10 : Option (TypeId × Value)), v8 = (ifv e10) ∧ R (ifv e10) h9)))))))))
theorem ok_expr_one {u_nOp : Int} {u_nX : Int} {u_nY : Int} {u_nN : Int} {u_nValKind : Int} {u_nValN : Int} {h : Hp} {R : Value → Hp → Prop} (H : VC_expr_one u_nOp u_nX u_nY u_nN u_nValKind u_nValN h R) : CallOK Tryz.prog 134 [(vag [(vi u_nOp), (vi u_nX), (vi u_nY), (vi u_nN), (vi u_nValKind), (vi u_nValN)])] h R :=
  call_of (cfg := ⟨[], [], []⟩) noNG mixed Tryz.func134 [.ag [.v (vi u_nOp), .v (vi u_nX), .v (vi u_nY), .v (vi u_nN), .v (vi u_nValKind), .v (vi u_nValN)]] (by kernel_rfl) rfl (by kernel_rfl) H
def VC_expr_Check (u_la : Option Addr) (u_ln u_lc : Nat) (h : Hp) (R : Value → Hp → Prop) : Prop :=
  (((decide ((((u_ln : Nat) : Int) : Int) > 40)) = true → R (ifv (some (95, (vi 2)))) h) ∧ ((decide ((((u_ln : Nat) : Int) : Int) > 40)) = false → (∃ (I3 : List Value → Hp → Prop) (m4 : List Value → Hp → Nat), I3 [(vsl none 0 0), (vi 0)] h ∧ ∀ (vs5 : List Value) (h6 : Hp), I3 vs5 h6 → ∃ (a7 : Option Addr) (n7 c7 : Nat) (x8 : Int), vs5 = [(vsl a7 n7 c7), (vi x8)] ∧ (((decide ((x8 : Int) < ((u_ln : Nat) : Int))) = true → (∃ (b11 o12 : Nat), (u_la = some ⟨b11, o12, none⟩ ∧ (0 : Int) ≤ x8 ∧ x8 < ((u_ln : Nat) : Int)) ∧ (∃ (x13 : Int) (x14 : Int) (x15 : Int) (x16 : Int) (x17 : Int) (x18 : Int), (Hp.row h6 b11 (o12 + x8.toNat * 6) 6 = some [(vi x13), (vi x14), (vi x15), (vi x16), (vi x17), (vi x18)]) ∧ (CallOK Tryz.prog 134 [(vag [(vi x13), (vi x14), (vi x15), (vi x16), (vi x17), (vi x18)])] h6 fun v19 h20 => ∃ (e21 : Option (TypeId × Value)), v19 = (ifv e21) ∧ (((Option.isSome e21) = true → R (ifv e21) h20) ∧ ((Option.isSome e21) = false → (CallOK Tryz.prog 135 [(vi x13)] h20 fun v23 h24 => ∃ (x25 : Int), v23 = (vi x25) ∧ (((decide ((x25 : Int) > ((n7 : Nat) : Int))) = true → R (ifv (some (95, (vi 3)))) h24) ∧ ((decide ((x25 : Int) > ((n7 : Nat) : Int))) = false → (∃ (x27 : Int), (IsW x27 (((n7 : Nat) : Int) - x25)) ∧ (∃ (a28 : Option Addr) (n28 c28 : Nat), (Rd Tryz.prog (Instr.sliceAt 57 (vsl a7 n7 c7) (some (vi x27)) none none) h24 (vsl a28 n28 c28)) ∧ (∃ (b29 o30 : Nat), ((decide ((x25 : Int) > 0)) = true → (a28 = some ⟨b29, o30, none⟩ ∧ (0 : Int) ≤ 0 ∧ 0 < ((n28 : Nat) : Int))) ∧ (∃ (x31 : Int), ((decide ((x25 : Int) > 0)) = true → Hp.cell h24 b29 (o30 + (0 : Int).toNat * 1) = some (vi x31)) ∧ (∃ (b32 o33 : Nat), (((bif (decide ((x25 : Int) > 0)) then (decide ((x31 : Int) ≠ x14)) else false) = false ∧ (decide ((x25 : Int) > 1)) = true) → (a28 = some ⟨b32, o33, none⟩ ∧ (0 : Int) ≤ 1 ∧ 1 < ((n28 : Nat) : Int))) ∧ (∃ (x34 : Int), (((bif (decide ((x25 : Int) > 0)) then (decide ((x31 : Int) ≠ x14)) else false) = false ∧ (decide ((x25 : Int) > 1)) = true) → Hp.cell h24 b32 (o33 + (1 : Int).toNat * 1) = some (vi x34)) ∧ (((bif (bif (decide ((x25 : Int) > 0)) then (decide ((x31 : Int) ≠ x14)) else false) then true else (bif (decide ((x25 : Int) > 1)) then (decide ((x34 : Int) ≠ x15)) else false)) = true → R (ifv (some (95, (vi 3)))) h24) ∧ ((bif (bif (decide ((x25 : Int) > 0)) then (decide ((x31 : Int) ≠ x14)) else false) then true else (bif (decide ((x25 : Int) > 1)) then (decide ((x34 : Int) ≠ x15)) else false)) = false → (∃ (x36 : Int), (IsW x36 (((n7 : Nat) : Int) - x25)) ∧ (∃ (a37 : Option Addr) (n37 c37 : Nat), (Rd Tryz.prog (Instr.sliceAt 57 (vsl a7 n7 c7) none (some (vi x36)) none) h24 (vsl a37 n37 c37)) ∧ (∀ (b38 : Nat), h24 b38 = none → let h39 : Hp := Hp.set h24 b38 (cellsO [(vi x8)] 3); (SemOK Tryz.prog (Builtin.append_ #[57, 57] 57 #[(vsl a37 n37 c37), (vsl (some (⟨b38, 0, none⟩ : Addr)) 1 1)]) h39 fun v40 h41 => ∃ (a42 : Option Addr) (n42 c42 : Nat), v40 = (vsl a42 n42 c42) ∧ (∃ (x44 : Int), (IsW x44 (x8 + 1)) ∧ (I3 [(vsl a42 n42 c42), (vi x44)] h41 ∧ m4 [(vsl a42 n42 c42), (vi x44)] h41 < m4 vs5 h6))))))))))))))))))))))) ∧ ((decide ((x8 : Int) < ((u_ln : Nat) : Int))) = false → (((decide ((((n7 : Nat) : Int) : Int) ≠ 1)) = true → R (ifv (some (95, (vi 3)))) h6) ∧ ((decide ((((n7 : Nat) : Int) : Int) ≠ 1)) = false → R (ifv none) h6)))))))
theorem ok_expr_Check {u_la : Option Addr} {u_ln u_lc : Nat} {h : Hp} {R : Value → Hp → Prop} (H : VC_expr_Check u_la u_ln u_lc h R) : CallOK Tryz.prog 109 [(vsl u_la u_ln u_lc)] h R :=
  call_of (cfg := ⟨[], [(5, ([3, 15], [.one (.slice), .one (.int .i64)], []))], [(14, [0, 1, 2, 3, 4, 5, 6, 7, 8, 9, 10, 11, 12, 13, 14, 15, 16, 17, 18, 19, 20, 21])]⟩) noNG mixed Tryz.func109 [.one (.v (vsl u_la u_ln u_lc))] (by kernel_rfl) rfl (by kernel_rfl) H
end Go.Proofs.YtejefijpcggkfaaGreatDoor
namespace Go.Proofs.YtejefijpcggkfaaGreatDoor
open Go Go.Vc
set_option maxRecDepth 100000
set_option linter.unusedVariables false
def VC_value_Check (u_vKind : Int) (u_vN : Int) (h : Hp) (R : Value → Hp → Prop) : Prop :=
  (let J4 : Bool → Prop := fun (p5 : Bool) => ((p5 = true → R (ifv none) h) ∧ (p5 = false → R (ifv (some (95, (vi 3)))) h)); (((bif (decide ((u_vKind : Int) = 0)) then (decide ((u_vN : Int) = 0)) else false) = true → (J4 (bif (decide ((u_vKind : Int) = 0)) then (decide ((u_vN : Int) = 0)) else false))) ∧ ((bif (decide ((u_vKind : Int) = 0)) then (decide ((u_vN : Int) = 0)) else false) = false → (((bif (bif (decide ((u_vKind : Int) = 1)) then (decide ((u_vN : Int) ≥ (-1000000000))) else false) then (decide ((u_vN : Int) ≤ 1000000000)) else false) = true → (J4 (bif (bif (decide ((u_vKind : Int) = 1)) then (decide ((u_vN : Int) ≥ (-1000000000))) else false) then (decide ((u_vN : Int) ≤ 1000000000)) else false))) ∧ ((bif (bif (decide ((u_vKind : Int) = 1)) then (decide ((u_vN : Int) ≥ (-1000000000))) else false) then (decide ((u_vN : Int) ≤ 1000000000)) else false) = false → (J4 (bif (decide ((u_vKind : Int) = 2)) then (bif (decide ((u_vN : Int) = 0)) then true else (decide ((u_vN : Int) = 1))) else false)))))))
theorem ok_value_Check {u_vKind : Int} {u_vN : Int} {h : Hp} {R : Value → Hp → Prop} (H : VC_value_Check u_vKind u_vN h R) : CallOK Tryz.prog 77 [(vag [(vi u_vKind), (vi u_vN)])] h R :=
  call_of (cfg := ⟨[], [], []⟩) noNG mixed Tryz.func77 [.ag [.v (vi u_vKind), .v (vi u_vN)]] (by kernel_rfl) rfl (by kernel_rfl) H
end Go.Proofs.YtejefijpcggkfaaGreatDoor
namespace Go.Proofs.YtejefijpcggkfaaGreatDoor
open Go Go.Vc
set_option linter.unusedVariables false
theorem value_Check_ok {v : Int × Int} {h : Hp} {R : Value → Hp → Prop} (hK : R (ifv (errV (if goodV v then 0 else 3))) h) : CallOK Tryz.prog 77 [vag (encV v)] h R := by
  refine ok_value_Check ?_
  unfold VC_value_Check
  intro J4
  have yes : goodV v → J4 true := fun hg => ⟨fun _ => by rw [if_pos hg] at hK; exact hK, fun e => by cases e⟩
  have no : ¬ goodV v → J4 false := fun hg => ⟨fun e => (by cases e), fun _ => by rw [if_neg hg] at hK; exact hK⟩
  refine ⟨fun e => ?_, fun e => ⟨fun e2 => ?_, fun e2 => ?_⟩⟩
  · rw [e]; exact yes (by unfold goodV; simp [Bool.cond_eq_ite] at e; omega)
  · rw [e2]; exact yes (by unfold goodV; simp [Bool.cond_eq_ite] at e2; omega)
  · by_cases hg : goodV v
    · have : (bif (decide (v.1 = 2)) then (bif (decide (v.2 = 0)) then true else (decide (v.2 = 1))) else false) = true := by
        unfold goodV at hg
        simp [Bool.cond_eq_ite] at e e2 ⊢
        omega
      rw [this]; exact yes hg
    · have : (bif (decide (v.1 = 2)) then (bif (decide (v.2 = 0)) then true else (decide (v.2 = 1))) else false) = false := by
        unfold goodV at hg
        simp [Bool.cond_eq_ite]
        omega
      rw [this]; exact no hg
end Go.Proofs.YtejefijpcggkfaaGreatDoor
namespace Go.Proofs.YtejefijpcggkfaaGreatDoor
open Go Go.Vc
set_option linter.unusedVariables false
set_option maxRecDepth 100000
theorem eq_pair (v : Int × Int) : (v = (0, 0)) = (v.1 = 0 ∧ v.2 = 0) := propext ⟨fun h => by rw [h]; exact ⟨rfl, rfl⟩, fun h => Prod.ext h.1 h.2⟩
theorem expr_one_ok {n : Nd} {h : Hp} {R : Value → Hp → Prop} (hK : R (ifv (errV (nodeF n))) h) : CallOK Tryz.prog 134 [vag (encN n)] h R := by
  refine ok_expr_one ?_
  unfold VC_expr_one
  unfold nodeF at hK
  refine expr_Arity_ok ⟨_, rfl, fun q => ?_, fun q => ⟨_, fun _ => rd_neqV (a := n.v) (b := (0, 0)), fun q2 => ?_, fun q2 => ⟨fun q3 => ?_, fun q3 => value_Check_ok (v := n.v) ⟨_, rfl, ?_⟩⟩⟩⟩
  · rw [if_pos (of_decide_eq_true q)] at hK; exact hK
  all_goals
    have c1 := of_decide_eq_false q
    simp only [cand, cor, cnot] at *
  · have c2 := of_decide_eq_true q2
    rw [if_neg c1, if_pos (by simp only [ne_eq, eq_pair] at c2 ⊢; omega)] at hK
    exact hK
  · have c2 := of_decide_eq_false q2
    have c3 := of_decide_eq_true q3
    rw [if_neg c1, if_neg (by simp only [ne_eq, eq_pair] at c2 ⊢; omega), if_pos c3] at hK
    exact hK
  · have c2 := of_decide_eq_false q2
    have c3 := of_decide_eq_false q3
    rw [if_neg c1, if_neg (by simp only [ne_eq, eq_pair] at c2 ⊢; omega), if_neg c3] at hK
    by_cases hg : goodV n.v
    · rw [if_neg (by simp [hg])] at hK
      rw [if_pos hg]; exact hK
    · rw [if_pos hg] at hK
      rw [if_neg hg]; exact hK
theorem expr_Check_ok {a : Option Addr} {k c : Nat} {l : List Nd} {h : Hp} {R : Value → Hp → Prop} (S : SlP encN h a k l) (hK : ∀ h', h.le h' → R (ifv (errV (exprF l))) h') : CallOK Tryz.prog 109 [vsl a k c] h R := by
  refine ok_expr_Check ?_
  unfold VC_expr_Check
  have hk := S.1
  subst hk
  refine ⟨fun e => ?_, fun e => ?_⟩
  · have : exprF l = 2 := by unfold exprF; rw [if_pos (by have := of_decide_eq_true e; omega)]
    rw [this] at hK; exact hK h (Hp.le_refl h)
  have h40 : l.length ≤ 40 := by have := of_decide_eq_false e; omega
  have e1 : exprF l = chkGo [] 0 l := by unfold exprF; rw [if_neg (by omega)]
  rw [e1] at hK
  refine ⟨fun vs hh => ∃ (i : Nat) (a : Option Addr) (c : Nat) (st : List Int), vs = [vsl a st.length c, vi i] ∧ i ≤ l.length ∧ st.length ≤ i ∧ chkGo [] 0 l = chkGo st i (l.drop i) ∧ OwnV h hh 3 1 a st.length c (st.reverse.map vi), fun vs hh => l.length - (vint vs 1).toNat,
    ⟨0, none, 0, [], rfl, Nat.zero_le _, Nat.le_refl _, rfl, OwnV.nil (Hp.le_refl h) _ _⟩, ?_⟩
  rintro vs hh ⟨i, a1, c1, st, rfl, hi, hst, hc, O⟩
  refine ⟨_, _, _, _, rfl, fun q => ?_, fun q => ?_⟩
  · have hlt : i < l.length := by have := of_decide_eq_true q; omega
    have hx : l[i]? = some l[i] := List.getElem?_eq_getElem hlt
    rw [drop_get hlt] at hc
    obtain ⟨b, o, ha, hr⟩ := (S.le O.le).get encN_len (by decide) hx
    generalize l[i] = n at *
    refine ⟨b, o, ⟨ha, by omega, by omega⟩, _, _, _, _, _, _, hr, expr_one_ok (n := n) ⟨_, rfl, fun q2 => ?_, fun q2 => expr_Arity_ok ⟨_, rfl, ?_⟩⟩⟩
    · rw [errV_some] at q2
      have hf : nodeF n ≠ 0 := by simpa using q2
      rw [chk_fault rfl hf] at hc
      rw [hc] at hK; exact hK hh O.le
    rw [errV_some] at q2
    have hf : nodeF n = 0 := by simpa using q2
    have har : 0 ≤ arI n.op := nodeF_ar hf
    have SI : SlI hh a1 st.length st.reverse := by have := O.sli; exact this
    have hbad : popN n st = none → R (ifv (errV 3)) hh := fun hp => by
      rw [chk_none hf hp] at hc
      rw [hc] at hK; exact hK hh O.le
    have hcap := O.own.cap
    have hgood : ∀ s, popN n st = some s → ∀ x : Int, x = (st.length : Nat) - arI n.op → ∀ K : Value → Hp → Prop, (∀ (a46 : Option Addr) (n46 c46 : Nat) (h45 : Hp), OwnV h h45 3 1 a46 n46 c46 ((((i : Int) :: s).reverse).map vi) → n46 = s.length + 1 → K (vsl a46 n46 c46) h45) →
        ∃ (a38 : Option Addr) (n38 c38 : Nat), (Rd Tryz.prog (Instr.sliceAt 57 (vsl a1 st.length c1) none (some (vi x)) none) hh (vsl a38 n38 c38)) ∧ (∀ (b42 : Nat), hh b42 = none → SemOK Tryz.prog (Builtin.append_ #[57, 57] 57 #[(vsl a38 n38 c38), (vsl (some (⟨b42, 0, none⟩ : Addr)) 1 1)]) (Hp.set hh b42 (cellsO [(vi i)] 3)) K) := by
      intro s hs x hx K hK
      rw [hx]
      obtain ⟨p1, p2⟩ := popN_some har hs
      rw [← p1]
      refine ⟨_, _, _, rd_slice_h (e := 3) (by kernel_rfl) (by kernel_rfl) (by omega) (by omega), fun b42 hb42 => ?_⟩
      rw [Int.toNat_natCast]
      have OC : OwnV h hh 3 1 a1 s.length c1 (s.reverse.map vi) := by
        have := O.cut (m := s.length) (by omega)
        rw [Nat.mul_one, ← List.map_take, p2] at this
        exact this
      refine OwnV.append elInt (OwnV.set hb42 _ OC) (HasRow.new _ _ [vi i] _) (m := 1) rfl (by simp [Value.oneCell']) (by omega) (by omega) fun a2 c2 h2 O2 _ _ => hK _ _ _ _ ?_ rfl
      rw [List.reverse_cons, List.map_append]
      exact O2
    have hnext : ∀ s, popN n st = some s → ∀ (a46 : Option Addr) (n46 c46 : Nat) (h45 : Hp), OwnV h h45 3 1 a46 n46 c46 ((((i : Int) :: s).reverse).map vi) → n46 = s.length + 1 → ∃ (x48 : Int), IsW x48 ((i : Int) + 1) ∧ (∃ (i' : Nat) (a : Option Addr) (c : Nat) (st : List Int), [vsl a46 n46 c46, vi x48] = [vsl a st.length c, vi i'] ∧ i' ≤ l.length ∧ st.length ≤ i' ∧ chkGo [] 0 l = chkGo st i' (l.drop i') ∧ OwnV h h45 3 1 a st.length c (st.reverse.map vi)) ∧ l.length - (vint [vsl a46 n46 c46, vi x48] 1).toNat < l.length - (vint [vsl a1 st.length c1, vi i] 1).toNat := by
      intro s hs a46 n46 c46 h45 O45 hn
      subst hn
      obtain ⟨p1, p2⟩ := popN_some har hs
      refine ⟨_, isW (by unfold InR; omega), ⟨i + 1, a46, c46, (i : Int) :: s, rfl, by omega, by simp; omega, ?_, O45⟩, by simp [vint]; omega⟩
      rw [hc, chk_some hf hs]
    refine ⟨fun q3 => ?_, fun q3 => ?_⟩
    · have hlt2 := of_decide_eq_true q3
      have : popN n st = none := by
        cases hp : popN n st with
        | none => rfl
        | some s => have := (popN_some har hp).1; omega
      exact hbad this
    have hge := of_decide_eq_false q3
    have hw : ∀ {K : Int → Prop}, K ((st.length : Nat) - arI n.op) → ∃ x, IsW x (((st.length : Nat) : Int) - arI n.op) ∧ K x := fun hk => ⟨_, isW (by unfold InR; omega), hk⟩
    refine hw ?_
    have hsz : szT Tryz.prog 3 = 1 := by kernel_rfl
    have rdl := fun (x : Int) (h0 : 0 ≤ x) (h1 : x ≤ st.length) => rd_slice_l (P := Tryz.prog) (h := hh) (t := 57) (e := 3) (by kernel_rfl) (by kernel_rfl) (a := a1) (n := st.length) (c := c1) h0 h1
    rw [hsz] at rdl
    refine ⟨_, _, _, rdl _ (by omega) (by omega), ?_⟩
    have SD := SI.drop (i := ((st.length : Nat) - arI n.op).toNat) (c := c1) (by omega) hcap
    rcases arI_range har with h0 | h0 | h0
    · have hs : popN n st = some st := by unfold popN; rw [if_pos h0]
      rw [h0]
      refine ⟨0, 0, fun g => (by cases g), 0, fun g => (by cases g), 0, 0, fun g => (by cases g.2), 0, fun g => (by cases g.2), fun g => ?_, fun _ => ⟨_, isW (by unfold InR; omega), hgood st hs _ (by rw [h0]) _ fun a46 n46 c46 h45 O e => ⟨_, _, _, rfl, hnext st hs a46 n46 c46 h45 O e⟩⟩⟩
      exfalso
      simp only [cand, cor] at g
      have := of_decide_eq_true g
      omega
    · match st with
      | [] => exfalso; simp at hge; omega
      | z :: s =>
        have hx29 : (((z :: s).length : Nat) : Int) - arI n.op = (s.length : Nat) := by rw [h0]; simp
        rw [hx29] at SD ⊢
        rw [Int.toNat_natCast] at SD ⊢
        have ed : ((z :: s).reverse).drop s.length = [z] := by rw [List.reverse_cons, List.drop_left' (by simp)]
        rw [ed] at SD
        obtain ⟨q, p, hq, hcell⟩ := SD.get (i := 0) (by simp)
        rw [h0]
        by_cases hz : z = n.x
        · have hs : popN n (z :: s) = some s := by unfold popN; rw [if_neg (by omega), if_pos h0]; simp [hz]
          refine ⟨q, p, fun g => ⟨hq, by omega, by simp⟩, z, fun g => hcell, 0, 0, fun g => (by cases g.2), 0, fun g => (by cases g.2), fun g => ?_, fun _ => ?_⟩
          · exfalso
            simp only [cand, cor] at g
            have := of_decide_eq_true g
            omega
          · exact ⟨_, isW (by have : (z :: s).length ≤ i := hst; unfold InR; omega), hgood s hs _ hx29.symm _ fun a46 n46 c46 h45 O e => ⟨_, _, _, rfl, hnext s hs a46 n46 c46 h45 O e⟩⟩
        · have hs : popN n (z :: s) = none := by unfold popN; rw [if_neg (by omega), if_pos h0]; simp [hz]
          have := hbad hs
          refine ⟨q, p, fun g => ⟨hq, by omega, by simp⟩, z, fun g => hcell, 0, 0, fun g => (by cases g.2), 0, fun g => (by cases g.2), fun _ => this, fun g => ?_⟩
          exfalso
          simp only [cand, cor] at g
          have := of_decide_eq_false g
          omega
    · match st with
      | [] => exfalso; simp at hge; omega
      | [z] => exfalso; simp at hge; omega
      | z :: y :: s =>
        have hx29 : (((z :: y :: s).length : Nat) : Int) - arI n.op = (s.length : Nat) := by rw [h0]; simp; omega
        rw [hx29] at SD ⊢
        rw [Int.toNat_natCast] at SD ⊢
        have ed : ((z :: y :: s).reverse).drop s.length = [y, z] := by rw [List.reverse_cons, List.reverse_cons, List.append_assoc, List.drop_left' (by simp)]; rfl
        rw [ed] at SD
        have en : (z :: y :: s).length - s.length = 2 := by simp; omega
        rw [en] at SD ⊢
        obtain ⟨q, p, hq, hcell⟩ := SD.get (i := 0) (by simp)
        obtain ⟨q', p', hq', hcell'⟩ := SD.get (i := 1) (by simp)
        rw [h0]
        by_cases hz : y = n.x ∧ z = n.y
        · have hs : popN n (z :: y :: s) = some s := by unfold popN; rw [if_neg (by omega), if_neg (by omega)]; simp [hz.1, hz.2]
          refine ⟨q, p, fun g => ⟨hq, by omega, by decide⟩, y, fun g => hcell, q', p', fun g => ⟨hq', by omega, by decide⟩, z, fun g => hcell', fun g => ?_, fun _ => ?_⟩
          · exfalso
            simp only [cand, cor] at g
            have := of_decide_eq_true g
            omega
          · exact ⟨_, isW (by have : (z :: y :: s).length ≤ i := hst; unfold InR; omega), hgood s hs _ hx29.symm _ fun a46 n46 c46 h45 O e => ⟨_, _, _, rfl, hnext s hs a46 n46 c46 h45 O e⟩⟩
        · have hs : popN n (z :: y :: s) = none := by unfold popN; rw [if_neg (by omega), if_neg (by omega)]; simp; intro h1 h2; exact hz ⟨h1, h2⟩
          have := hbad hs
          refine ⟨q, p, fun g => ⟨hq, by omega, by decide⟩, y, fun g => hcell, q', p', fun g => ⟨hq', by omega, by decide⟩, z, fun g => hcell', fun _ => this, fun g => ?_⟩
          exfalso
          simp only [cand, cor] at g
          have := of_decide_eq_false g
          omega
  · have hge : i = l.length := by have := of_decide_eq_false q; omega
    subst hge
    rw [List.drop_eq_nil_of_le (Nat.le_refl _), chkGo] at hc
    refine ⟨fun q2 => ?_, fun q2 => ?_⟩
    · rw [if_neg (by have := of_decide_eq_true q2; omega)] at hc
      rw [hc] at hK; exact hK hh O.le
    · rw [if_pos (by have := of_decide_eq_false q2; omega)] at hc
      rw [hc] at hK; exact hK hh O.le
end Go.Proofs.YtejefijpcggkfaaGreatDoor
namespace Go.Proofs.YtejefijpcggkfaaGreatDoor
open Go Go.Vc Go.Txt
set_option linter.unusedVariables false
set_option maxRecDepth 100000
def aggRw : Int → Value → List Value := fun k v => [vi k, v]
theorem aggRw_len (k : Int) (v : Value) : (aggRw k v).length = 2 := rfl
structure QAt (h : Hp) (q : Qy) (a1 : Option Addr) (n1 : Nat) (a2 : Option Addr) (n2 : Nat) (a3 : Option Addr) (n3 : Nat) : Prop where
  g : GTab encN aggRw h a1 n1 q.aggs
  w : SlP encN h a2 n2 q.wh
  b : SlP encN h a3 n3 q.by_
theorem QAt.le {h h' : Hp} {q : Qy} {a1 a2 a3 : Option Addr} {n1 n2 n3 : Nat} (Q : QAt h q a1 n1 a2 n2 a3 n3) (l : h.le h') : QAt h' q a1 n1 a2 n2 a3 n3 := ⟨Q.g.le l, Q.w.le l, Q.b.le l⟩
abbrev qV (a1 : Option Addr) (n1 c1 : Nat) (a2 : Option Addr) (n2 c2 : Nat) (a3 : Option Addr) (n3 c3 : Nat) (q : Qy) : Value := vag [vsl a1 n1 c1, vsl a2 n2 c2, vsl a3 n3 c3, vi q.size, vi q.slide, vi q.delay, vi q.late]
structure QBig (q : Qy) : Prop where
  w : q.wh.length ≤ 1000000
  b : q.by_.length ≤ 1000000
  g : ∀ a ∈ q.aggs, a.2.length ≤ 1000000
  n : q.aggs.length ≤ 1000000
theorem query_typed_ok {a : Option Addr} {k c : Nat} {l : List Nd} {kind : Int} {h : Hp} {R : Value → Hp → Prop} (S : SlP encN h a k l) (hl : l.length ≤ 1000000) (hK : ∀ h', h.le h' → R (ifv (errV (typedF l kind))) h') : CallOK Tryz.prog 75 [vsl a k c, vi kind] h R := by
  refine ok_query_typed ?_
  unfold VC_query_typed
  unfold typedF at hK
  refine expr_Check_ok S fun h2 l2 => ⟨_, rfl, fun e => ?_, fun e => ?_⟩
  · rw [errV_some] at e
    have e2 : exprF l ≠ 0 := by simpa using e
    rw [if_pos e2] at hK
    exact hK h2 l2
  · rw [errV_some] at e
    have e2 : exprF l = 0 := by simpa using e
    rw [if_neg (fun h => h e2)] at hK
    refine expr_Type_ok (S.le l2) (exprF_ok e2).1 hl fun h6 l6 => ⟨_, _, rfl, ?_⟩
    have hc : (bif (bif (bif (Option.isNone (errV (typE l).2)) then (decide ((kind : Int) ≠ 0)) else false) then (decide (((typE l).1 : Int) ≠ kind)) else false) then (decide (((typE l).1 : Int) ≠ 0)) else false) = decide ((((typE l).2 = 0 ∧ kind ≠ 0) ∧ (typE l).1 ≠ kind) ∧ (typE l).1 ≠ 0) := by
      rw [errV_none, cand, cand, cand]
    rw [hc]
    intro J11
    refine ⟨fun q => ?_, fun q => ?_⟩
    · have q := of_decide_eq_true q
      rw [if_neg (fun h => h q.1.1.1), if_pos ⟨q.1.1.2, q.1.2, q.2⟩] at hK
      exact hK h6 (Hp.le_trans l2 l6)
    · have q := of_decide_eq_false q
      have := hK h6 (Hp.le_trans l2 l6)
      by_cases h5 : (typE l).2 ≠ 0
      · rw [if_pos h5] at this; exact this
      · have h5 : (typE l).2 = 0 := Decidable.not_not.1 h5
        rw [if_neg (fun h => h h5), if_neg (fun h => q ⟨⟨⟨h5, h.1⟩, h.2.1⟩, h.2.2⟩)] at this
        show R (ifv (errV (typE l).2)) h6
        rw [h5]; exact this
theorem cell_lit2 (h : Hp) (b : Nat) (x y : Int) (T : TypeId) {i : Nat} (hi : i < 2) : (h.set b (cellsO [vi x, vi y] T)).cell b (0 + (i : Int).toNat * 1) = some (vi (if i = 0 then x else y)) := by
  match i, hi with
  | 0, _ => exact cell_cells (Hp.set_same _ _ _) rfl
  | 1, _ => exact cell_cells (Hp.set_same _ _ _) rfl
theorem query_numbers_ok {q : Qy} {a1 : Option Addr} {n1 c1 : Nat} {a2 : Option Addr} {n2 c2 : Nat} {a3 : Option Addr} {n3 c3 : Nat} {h : Hp} {R : Value → Hp → Prop} (hK : ∀ h', h.le h' → R (ifv (errV (numsF q))) h') : CallOK Tryz.prog 76 [qV a1 n1 c1 a2 n2 c2 a3 n3 c3 q] h R := by
  refine ok_query_numbers ?_
  unfold VC_query_numbers
  intro b1 hb1 h2
  have l2 : h.le h2 := Hp.le_set (Hp.le_refl h) hb1 _
  refine ⟨fun vs' hh => hh = h2 ∧ ∃ i : Nat, vs' = [vi i] ∧ i ≤ 2 ∧ (1 ≤ i → 1 ≤ q.size ∧ q.size ≤ 1000) ∧ (2 ≤ i → 1 ≤ q.slide ∧ q.slide ≤ 1000), fun vs' hh => 2 - (vint vs' 0).toNat, ⟨rfl, 0, rfl, by omega, by omega, by omega⟩, ?_⟩
  rintro vs' hh ⟨rfl, i, rfl, hi, i1, i2⟩
  refine ⟨i, rfl, fun e => ?_, fun e => ?_⟩
  · have hlt : i < 2 := by have := of_decide_eq_true e; omega
    refine ⟨b1, 0, ⟨rfl, by omega, by omega⟩, _, cell_lit2 h b1 q.size q.slide 3 hlt, ?_⟩
    rw [cor]
    refine ⟨fun g => ?_, fun g => ?_⟩
    · have g := of_decide_eq_true g
      have e1 : numsF q = 1 := by
        unfold numsF
        rw [if_pos]
        split at g <;> omega
      rw [e1] at hK
      exact hK _ l2
    · have g := of_decide_eq_false g
      refine ⟨_, isW (by unfold InR; omega), ⟨rfl, i + 1, rfl, by omega, fun h => ?_, fun h => ?_⟩, by simp [vint]; omega⟩
      · by_cases h0 : i = 0
        · rw [if_pos h0] at g; omega
        · exact i1 (by omega)
      · have h0 : ¬ i = 0 := by omega
        rw [if_neg h0] at g; omega
  · have hge : i = 2 := by have := of_decide_eq_false e; omega
    subst hge
    have j1 := i1 (by omega)
    have j2 := i2 (by omega)
    intro b16 hb16 h17
    have l17 : h.le h17 := Hp.le_set l2 hb16 _
    refine ⟨fun vs' hh => hh = h17 ∧ ∃ i : Nat, vs' = [vi i] ∧ i ≤ 2 ∧ (1 ≤ i → 0 ≤ q.delay ∧ q.delay ≤ 1000) ∧ (2 ≤ i → 0 ≤ q.late ∧ q.late ≤ 1000), fun vs' hh => 2 - (vint vs' 0).toNat, ⟨rfl, 0, rfl, by omega, by omega, by omega⟩, ?_⟩
    rintro vs' hh ⟨rfl, i, rfl, hi, i1, i2⟩
    refine ⟨i, rfl, fun e => ?_, fun e => ?_⟩
    · have hlt : i < 2 := by have := of_decide_eq_true e; omega
      refine ⟨b16, 0, ⟨rfl, by omega, by omega⟩, _, cell_lit2 h2 b16 q.delay q.late 3 hlt, ?_⟩
      rw [cor]
      refine ⟨fun g => ?_, fun g => ?_⟩
      · have g := of_decide_eq_true g
        have e1 : numsF q = 1 := by
          unfold numsF
          rw [if_pos]
          split at g <;> omega
        rw [e1] at hK
        exact hK _ l17
      · have g := of_decide_eq_false g
        refine ⟨_, isW (by unfold InR; omega), ⟨rfl, i + 1, rfl, by omega, fun h => ?_, fun h => ?_⟩, by simp [vint]; omega⟩
        · by_cases h0 : i = 0
          · rw [if_pos h0] at g; omega
          · exact i1 (by omega)
        · have h0 : ¬ i = 0 := by omega
          rw [if_neg h0] at g; omega
    · have hge : i = 2 := by have := of_decide_eq_false e; omega
      subst hge
      have j3 := i1 (by omega)
      have j4 := i2 (by omega)
      refine ⟨4 * q.slide, fun _ => isW (by unfold InR; omega), ?_⟩
      rw [cor]
      have hn : numsF q = if q.slide > q.size ∨ q.size > 4 * q.slide then 3 else 0 := by
        unfold numsF
        rw [if_neg (by omega)]
      rw [hn] at hK
      refine ⟨fun g => ?_, fun g => ?_⟩
      · rw [if_pos (of_decide_eq_true g)] at hK
        exact hK _ l17
      · rw [if_neg (of_decide_eq_false g)] at hK
        exact hK _ l17
theorem take_all {α : Type} {l : List α} {g : α → Int} {i : Nat} (hi : i < l.length) (h : ∀ y ∈ l.take i, g y = 0) (h2 : g l[i] = 0) : ∀ y ∈ l.take (i + 1), g y = 0 := by
  intro y hy
  rw [List.take_succ_eq_append_getElem hi] at hy
  rcases List.mem_append.1 hy with h3 | h3
  · exact h y h3
  · rw [List.mem_singleton.1 h3]; exact h2
theorem nil_len {α : Type} {l : List α} : l = [] ↔ l.length = 0 := List.length_eq_zero_iff.symm
theorem query_Check_ok {q : Qy} {a1 : Option Addr} {n1 c1 : Nat} {a2 : Option Addr} {n2 c2 : Nat} {a3 : Option Addr} {n3 c3 : Nat} {h : Hp} {R : Value → Hp → Prop} (Q : QAt h q a1 n1 a2 n2 a3 n3) (B : QBig q) (hK : ∀ h', h.le h' → R (ifv (errV (qryF q))) h') : CallOK Tryz.prog 45 [qV a1 n1 c1 a2 n2 c2 a3 n3 c3 q] h R := by
  refine ok_query_Check ?_
  unfold VC_query_Check
  have hn1 := Q.g.len
  have hn2 := Q.w.1
  have hn3 := Q.b.1
  have hB := B.n
  rw [cor]
  refine ⟨fun e => ?_, fun e => ?_⟩
  · have e := of_decide_eq_true e
    have : qryF q = 2 := by unfold qryF; rw [if_pos (by omega)]
    rw [this] at hK
    exact hK h (Hp.le_refl h)
  have e := of_decide_eq_false e
  have hq : qryF q = if firstF (q.aggs.map aggF) ≠ 0 then firstF (q.aggs.map aggF) else tailF q := by unfold qryF; rw [if_neg (by omega)]
  rw [hq] at hK
  clear hq
  refine ⟨fun vs' hh => h.le hh ∧ ∃ i : Nat, vs' = [vi i] ∧ i ≤ n1 ∧ ∀ y ∈ q.aggs.take i, aggF y = 0, fun vs' hh => n1 - (vint vs' 0).toNat, ⟨Hp.le_refl h, 0, rfl, Nat.zero_le _, by simp⟩, ?_⟩
  rintro vs' hh ⟨lh, i, rfl, hi, hz⟩
  refine ⟨i, rfl, fun g => ?_, fun g => ?_⟩
  · have hlt : i < n1 := by have := of_decide_eq_true g; omega
    have hlt2 : i < q.aggs.length := by omega
    have hx : q.aggs[i]? = some q.aggs[i] := List.getElem?_eq_getElem hlt2
    have hbig := B.g _ (List.mem_of_getElem? hx)
    have hall := @take_all _ q.aggs aggF i hlt2 hz
    generalize q.aggs[i] = y at hx hbig hall
    obtain ⟨k, l⟩ := y
    obtain ⟨b, o, a', c', ha, hrow, hS⟩ := (Q.g.le lh).row aggRw_len (by decide) hx
    have bad : ∀ f, f ≠ 0 → aggF (k, l) = f → ∀ h', h.le h' → R (ifv (errV f)) h' := by
      intro f hf hk h' l'
      have h1 := firstF_at (g := aggF) hz hx (by rw [hk]; exact hf)
      rw [h1, hk, if_pos hf] at hK
      exact hK h' l'
    intro J25
    refine ⟨b, o, ⟨ha, by omega, by omega⟩, k, a', l.length, c', by rw [Int.toNat_natCast]; exact hrow, ?_⟩
    have good : aggF (k, l) = 0 → ∀ h', h.le h' → J25 h' := fun hk h' l' => ⟨_, isW (by unfold InR; omega), ⟨l', i + 1, rfl, by omega, hall hk⟩, by simp [vint]; omega⟩
    clear_value J25
    rw [cor, cand, cor]
    have hnil : l ≠ [] ↔ (l.length : Int) > 0 := by rw [ne_eq, nil_len]; omega
    refine ⟨fun g2 => ?_, fun g2 => ⟨fun g3 => ?_, fun g3 => ?_⟩⟩
    · have g2 := of_decide_eq_true g2
      refine bad 3 (by decide) ?_ hh lh
      unfold aggF
      rw [if_pos (by simp only [hnil]; omega)]
    · have g2 := of_decide_eq_false g2
      have g3 := of_decide_eq_true g3
      refine good ?_ hh lh
      unfold aggF
      rw [if_neg (by simp only [hnil]; omega), if_pos g3]
    · have g2 := of_decide_eq_false g2
      have g3 := of_decide_eq_false g3
      have hf : aggF (k, l) = typedF l (if k = 2 then 0 else 1) := by
        unfold aggF
        rw [if_neg (by simp only [hnil]; omega), if_neg g3]
      intro J19
      have hJ : J19 (if k = 2 then 0 else 1) := by
        refine query_typed_ok hS hbig fun h' l' => ⟨_, rfl, fun g4 => ?_, fun g4 => ?_⟩
        · rw [errV_some] at g4
          exact bad _ (by simpa using g4) hf h' (Hp.le_trans lh l')
        · rw [errV_some] at g4
          exact good (by rw [hf]; simpa using g4) h' (Hp.le_trans lh l')
      clear_value J19
      refine ⟨fun g4 => ?_, fun g4 => ?_⟩
      · rw [if_pos (of_decide_eq_true g4)] at hJ; exact hJ
      · rw [if_neg (of_decide_eq_false g4)] at hJ; exact hJ
  · have hge : i = n1 := by have := of_decide_eq_false g; omega
    have hz0 : firstF (q.aggs.map aggF) = 0 := firstF_zero (by
      intro x hx
      obtain ⟨y, hy, rfl⟩ := List.mem_map.1 hx
      exact hz y (by rw [List.take_of_length_le (by omega)]; exact hy))
    rw [hz0, if_neg (fun h => h rfl)] at hK
    unfold tailF at hK
    have Q := Q.le lh
    intro J33
    have hJ33 : ∀ h', hh.le h' → (if q.wh = [] then 0 else typedF q.wh 2) = 0 → J33 h' := by
      intro h' l' hw
      rw [hw, firstF, if_neg (fun h => h rfl)] at hK
      unfold J33
      intro J40
      have hJ40 : ∀ h2, h'.le h2 → (if q.by_ = [] then 0 else typedF q.by_ 0) = 0 → J40 h2 := by
        intro h2 l2 hb
        rw [hb, firstF, if_neg (fun h => h rfl)] at hK
        refine query_numbers_ok (q := q) fun h3 l3 => ⟨_, rfl, ?_⟩
        have := hK h3 (Hp.le_trans lh (Hp.le_trans l' (Hp.le_trans l2 l3)))
        rw [firstF, firstF] at this
        by_cases hn : numsF q ≠ 0
        · rw [if_pos hn] at this; exact this
        · rw [if_neg hn] at this
          rw [Decidable.not_not.1 hn]; exact this
      clear_value J40
      refine ⟨fun g2 => ?_, fun g2 => ?_⟩
      · have hne : ¬ q.by_ = [] := by have := of_decide_eq_true g2; rw [nil_len]; omega
        rw [if_neg hne] at hJ40 hK
        refine query_typed_ok (Q.le l').b B.b fun h2 l2 => ⟨_, rfl, fun g4 => ?_, fun g4 => ?_⟩
        · rw [errV_some] at g4
          rw [firstF, if_pos (by simpa using g4)] at hK
          exact hK h2 (Hp.le_trans lh (Hp.le_trans l' l2))
        · rw [errV_some] at g4
          exact hJ40 h2 l2 (by simpa using g4)
      · have hnil : q.by_ = [] := by have := of_decide_eq_false g2; rw [nil_len]; omega
        exact hJ40 h' (Hp.le_refl h') (if_pos hnil)
    clear_value J33
    refine ⟨fun g2 => ?_, fun g2 => ?_⟩
    · have hne : ¬ q.wh = [] := by have := of_decide_eq_true g2; rw [nil_len]; omega
      rw [if_neg hne] at hJ33 hK
      refine query_typed_ok Q.w B.w fun h2 l2 => ⟨_, rfl, fun g4 => ?_, fun g4 => ?_⟩
      · rw [errV_some] at g4
        rw [firstF, if_pos (by simpa using g4)] at hK
        exact hK h2 (Hp.le_trans lh l2)
      · rw [errV_some] at g4
        exact hJ33 h2 l2 (by simpa using g4)
    · have hnil : q.wh = [] := by have := of_decide_eq_false g2; rw [nil_len]; omega
      exact hJ33 hh (Hp.le_refl hh) (if_pos hnil)
end Go.Proofs.YtejefijpcggkfaaGreatDoor
namespace Go.Vc
open Go
set_option linter.unusedVariables false
section
variable {α : Type}
def ftE (fs : List (α × (Nat → Prop))) : Nat → Prop := fun b => ∃ x ∈ fs, x.2 b
def ApartL (fs : List (α × (Nat → Prop))) : Prop := fs.Pairwise fun x y => ∀ b, x.2 b → ¬ y.2 b
def EachP (P : α → Hp → (Nat → Prop) → Prop) (l : List α) (h : Hp) (F : Nat → Prop) : Prop :=
  ∃ fs : List (α × (Nat → Prop)), fs.map Prod.fst = l ∧ F = ftE fs ∧ ApartL fs ∧ ∀ x ∈ fs, P x.1 h x.2
variable {P : α → Hp → (Nat → Prop) → Prop}
theorem EachP.fp (fp : ∀ x, Fp (P x)) (l : List α) : Fp (EachP P l) where
  al := by
    rintro h F ⟨fs, _, rfl, _, H⟩ b ⟨x, hx, hb⟩
    exact (fp x.1).al (H x hx) b hb
  keep := by
    rintro h h' F ⟨fs, e, rfl, A, H⟩ hk
    exact ⟨fs, e, rfl, A, fun x hx => (fp x.1).keep (H x hx) fun b hb => hk b ⟨x, hx, hb⟩⟩
theorem EachP.nil (h : Hp) : EachP P [] h (fun _ => False) := ⟨[], rfl, by funext b; simp [ftE], List.Pairwise.nil, fun x hx => by cases hx⟩
theorem EachP.perm {l l' : List α} {h : Hp} {F : Nat → Prop} (E : EachP P l h F) (p : l'.Perm l) : EachP P l' h F := by
  obtain ⟨fs, rfl, rfl, A, H⟩ := E
  have key : ∀ {m m' : List α}, m.Perm m' → ∀ gs : List (α × (Nat → Prop)), gs.map Prod.fst = m' → ∃ gs' : List (α × (Nat → Prop)), gs'.map Prod.fst = m ∧ gs'.Perm gs := by
    intro m m' q
    induction q with
    | nil => intro gs e; exact ⟨gs, e, List.Perm.refl _⟩
    | cons x q ih =>
      intro gs e
      match gs, e with
      | g :: gs, e =>
        simp only [List.map_cons, List.cons.injEq] at e
        obtain ⟨gs', e2, p2⟩ := ih gs e.2
        exact ⟨g :: gs', by rw [List.map_cons, e2, e.1], p2.cons g⟩
    | swap x y q =>
      intro gs e
      match gs, e with
      | g1 :: g2 :: gs, e =>
        simp only [List.map_cons, List.cons.injEq] at e
        exact ⟨g2 :: g1 :: gs, by simp [e], List.Perm.swap _ _ _⟩
    | trans q1 q2 ih1 ih2 =>
      intro gs e
      obtain ⟨g1, e1, p1⟩ := ih2 gs e
      obtain ⟨g2, e2, p2⟩ := ih1 g1 e1
      exact ⟨g2, e2, p2.trans p1⟩
  obtain ⟨gs, e, q⟩ := key p fs rfl
  refine ⟨gs, e, ?_, ?_, fun x hx => H x (q.mem_iff.1 hx)⟩
  · funext b
    apply propext
    constructor
    · rintro ⟨x, hx, hb⟩; exact ⟨x, q.mem_iff.2 hx, hb⟩
    · rintro ⟨x, hx, hb⟩; exact ⟨x, q.mem_iff.1 hx, hb⟩
  · exact (q.pairwise_iff (fun {x y} hxy b hb hb2 => hxy b hb2 hb)).2 A
theorem EachP.cons {l : List α} {x : α} {h : Hp} {F G : Nat → Prop} (E : EachP P l h F) (X : P x h G) (d : ∀ b, G b → ¬ F b) : EachP P (x :: l) h (fun b => G b ∨ F b) := by
  obtain ⟨fs, rfl, rfl, A, H⟩ := E
  refine ⟨(x, G) :: fs, rfl, ?_, List.pairwise_cons.2 ⟨fun y hy b hb hb2 => d b hb ⟨y, hy, hb2⟩, A⟩, ?_⟩
  · funext b
    apply propext
    constructor
    · rintro (hb | ⟨y, hy, hb⟩)
      · exact ⟨_, List.mem_cons_self .., hb⟩
      · exact ⟨y, List.mem_cons_of_mem _ hy, hb⟩
    · rintro ⟨y, hy, hb⟩
      rcases List.mem_cons.1 hy with rfl | hy
      · exact .inl hb
      · exact .inr ⟨y, hy, hb⟩
  · intro y hy
    rcases List.mem_cons.1 hy with rfl | hy
    · exact X
    · exact H y hy
theorem EachP.snoc {l : List α} {x : α} {h : Hp} {F G : Nat → Prop} (E : EachP P l h F) (X : P x h G) (d : ∀ b, G b → ¬ F b) : EachP P (l ++ [x]) h (fun b => G b ∨ F b) := (E.cons X d).perm (List.perm_append_comm (l₁ := l) (l₂ := [x]))
theorem EachP.uncons {l : List α} {x : α} {h : Hp} {F : Nat → Prop} (E : EachP P (x :: l) h F) : ∃ G F', P x h G ∧ EachP P l h F' ∧ (∀ b, G b → ¬ F' b) ∧ ∀ b, F b ↔ (G b ∨ F' b) := by
  obtain ⟨fs, e, rfl, A, H⟩ := E
  match fs, e with
  | (y, G) :: fs, e =>
    simp only [List.map_cons, List.cons.injEq] at e
    obtain ⟨rfl, rfl⟩ := e
    obtain ⟨A1, A2⟩ := List.pairwise_cons.1 A
    refine ⟨G, ftE fs, H _ (List.mem_cons_self ..), ⟨fs, rfl, rfl, A2, fun z hz => H z (List.mem_cons_of_mem _ hz)⟩, ?_, ?_⟩
    · rintro b hb ⟨z, hz, hb2⟩; exact A1 z hz b hb hb2
    · intro b
      constructor
      · rintro ⟨z, hz, hb⟩
        rcases List.mem_cons.1 hz with rfl | hz
        · exact .inl hb
        · exact .inr ⟨z, hz, hb⟩
      · rintro (hb | ⟨z, hz, hb⟩)
        · exact ⟨_, List.mem_cons_self .., hb⟩
        · exact ⟨z, List.mem_cons_of_mem _ hz, hb⟩
theorem erase_perm {l : List α} {i : Nat} (hi : i < l.length) : (l[i] :: l.eraseIdx i).Perm l := by
  rw [List.eraseIdx_eq_take_drop_succ]
  have e : l = l.take i ++ l[i] :: l.drop (i + 1) := by rw [← List.drop_eq_getElem_cons, List.take_append_drop]
  have p := (List.perm_middle (a := l[i]) (l₁ := l.take i) (l₂ := l.drop (i + 1)))
  rw [← e] at p
  exact p.symm
theorem EachP.at (fp : ∀ x, Fp (P x)) {l : List α} {h : Hp} {F : Nat → Prop} (E : EachP P l h F) {i : Nat} {x : α} (hx : l[i]? = some x) : ∃ G, P x h G ∧ (∀ b, G b → F b) ∧
    ∀ (h' : Hp) (G' : Nat → Prop) (x' : α), Mut G h G' h' → P x' h' G' → ∃ F', EachP P (l.set i x') h' F' ∧ Mut F h F' h' := by
  obtain ⟨hi, rfl⟩ := List.getElem?_eq_some_iff.1 hx
  have p : (l[i] :: l.eraseIdx i).Perm l := erase_perm hi
  obtain ⟨G, F1, X, E1, d, hF⟩ := (E.perm p).uncons
  refine ⟨G, X, fun b hb => (hF b).2 (.inl hb), fun h' G' x' M X' => ?_⟩
  obtain ⟨k, d'⟩ := M.apart ((EachP.fp fp _).al E1) d
  have E2 := ((EachP.fp fp _).keep E1 k).cons X' d'
  have p2 : (l.set i x').Perm (x' :: l.eraseIdx i) := by
    have hi2 : i < (l.set i x').length := by rw [List.length_set]; exact hi
    have := erase_perm hi2
    rw [List.getElem_set_self, List.eraseIdx_set_eq] at this
    exact this.symm
  refine ⟨_, E2.perm p2, ⟨fun b o hb ho => M.keep b o (fun q => hb ((hF b).2 (.inl q))) ho, fun b hb => ?_⟩⟩
  rcases hb with hb | hb
  · rcases M.new b hb with q | q
    · exact .inl ((hF b).2 (.inl q))
    · exact .inr q
  · exact .inl ((hF b).2 (.inr hb))
end
def OwnF (e : TypeId) (sz : Nat) (a : Option Addr) (n c : Nat) (xs : List Value) (h : Hp) (F : Nat → Prop) : Prop := OwnS h e sz a n c xs ∧ F = fun b => a = some ⟨b, 0, none⟩
theorem OwnF.fp (e : TypeId) (sz : Nat) (a : Option Addr) (n c : Nat) (xs : List Value) : Fp (OwnF e sz a n c xs) where
  al := by
    rintro h F ⟨⟨_, O⟩, rfl⟩ b hb
    rcases O with ⟨ha, _⟩ | ⟨g, cur, ha, hg, _⟩
    · rw [ha] at hb; cases hb
    · rw [ha] at hb; cases hb; rw [hg]; simp
  keep := by
    rintro h h' F ⟨⟨h1, O⟩, rfl⟩ hk
    refine ⟨⟨h1, ?_⟩, rfl⟩
    rcases O with O | ⟨g, cur, ha, hg, O⟩
    · exact .inl O
    · exact .inr ⟨g, cur, ha, hk g ha _ hg, O⟩
structure Beside (a : Option Addr) (h h' : Hp) : Prop where
  keep : ∀ b o, h b = some o → a ≠ some ⟨b, 0, none⟩ → h' b = some o
theorem Beside.refl (a : Option Addr) (h : Hp) : Beside a h h := ⟨fun b o ho _ => ho⟩
theorem Beside.trans {a : Option Addr} {h h' h'' : Hp} (x : Beside a h h') (y : Beside a h' h'') : Beside a h h'' := ⟨fun b o ho hn => y.keep b o (x.keep b o ho hn) hn⟩
theorem Beside.le {a : Option Addr} {h h' : Hp} (l : h.le h') : Beside a h h' := ⟨fun b o ho _ => l b o ho⟩
theorem Beside.mut {a : Option Addr} {h h' : Hp} (x : Beside a h h') : Mut (fun b => a = some ⟨b, 0, none⟩) h (fun b => a = some ⟨b, 0, none⟩) h' := ⟨fun b o hb ho => x.keep b o ho hb, fun b hb => .inl hb⟩
section
variable {α : Type} {enc : α → List Value} {sz : Nat} {T : TypeId} {h0 h : Hp} {a : Option Addr} {c : Nat} {l : List α}
theorem Vec.putF (he : ∀ x, (enc x).length = sz) (V : Vec enc sz T h0 h a c l) {i : Nat} {x x' : α} (hx : l[i]? = some x) {k : Nat} {vs : List Value} (hv : 0 < vs.length) (hk : k + vs.length ≤ sz) (hx' : enc x' = setL (enc x) k vs) :
    ∃ b o, a = some ⟨b, o, none⟩ ∧ ∀ K : Hp → Prop, (∀ h', Vec enc sz T h0 h' a c (l.set i x') → Beside a h h' → K h') → h.store b (o + i * sz + k) vs K := by
  have hi : i < l.length := (List.getElem?_eq_some_iff.1 hx).1
  have hb : (i + 1) * sz ≤ l.length * sz := Nat.mul_le_mul_right _ hi
  rw [Nat.succ_mul] at hb
  rcases V.own.2 with ⟨ha, hn, _⟩ | ⟨g, cur, ha, _⟩
  · omega
  · refine ⟨g, 0, ha, fun K hK => ?_⟩
    rw [Nat.add_assoc]
    refine OwnV.store V (j := i * sz + k) hv (by omega) ha fun ob V' => hK _ ?_ ⟨fun b o ho hn => ?_⟩
    · unfold Vec
      rw [← setL_flat he hk l i x x' hx hx', List.length_set]
      exact V'
    · have e : b ≠ g := fun q => hn (by rw [ha, q])
      rw [Hp.set_other _ _ e]; exact ho
variable {P : Program}
theorem Vec.appF {t ty : TypeId} {bytes : Nat} (E : ElT P t T sz bytes) (he : ∀ x, (enc x).length = sz) (h1 : ∀ x, ∀ u ∈ enc x, u.oneCell' = true) (V : Vec enc sz T h0 h a c l) (hb : (l.length + 1) * bytes ≤ 140737488355328) (hb2 : l.length + 1 ≤ 140737488355328) {x : α} {b : Nat} (hbn : h b = none) {K : Value → Hp → Prop}
    (hK : ∀ a' c' h', Vec enc sz T h0 h' a' c' (l ++ [x]) → Mut (fun b => a = some ⟨b, 0, none⟩) h (fun b => a' = some ⟨b, 0, none⟩) h' → K (vsl a' (l ++ [x]).length c') h') : SemOK P (Builtin.append_ #[t, t] ty #[vsl a l.length c, vsl (some ⟨b, 0, none⟩) 1 1]) (h.set b (cellsO (enc x) T)) K := by
  refine OwnV.append E (OwnV.set hbn _ V) (HasRow.new _ _ (enc x) _) (m := 1) (by rw [he, Nat.one_mul]) (h1 x) hb hb2 fun a' c' h' O' hk hn => ?_
  have := hK a' c' h' (by
    unfold Vec
    rw [List.length_append, List.flatMap_append, List.flatMap_singleton]
    exact O') ⟨fun b' o hb' ho => hk b' o (by rw [Hp.set_other _ _ (fun q => by subst q; rw [hbn] at ho; cases ho)]; exact ho) hb', fun b' hb' => by
      rcases hn b' hb' with q | q
      · exact .inl (by rw [q]; exact hb')
      · right
        unfold Hp.set at q
        split at q
        · cases q
        · exact q⟩
  rw [List.length_append] at this
  exact this
theorem Vec.ownF (V : Vec enc sz T h0 h a c l) : OwnF T sz a l.length c (l.flatMap enc) h (fun b => a = some ⟨b, 0, none⟩) := ⟨V.own, rfl⟩
end
end Go.Vc
namespace Go.Proofs.YtejefijpcggkfaaGreatDoor
open Go Go.Vc
set_option maxRecDepth 100000
set_option linter.unusedVariables false
def VC_batch_is (u_qAggsa : Option Addr) (u_qAggsn u_qAggsc : Nat) (u_qWherea : Option Addr) (u_qWheren u_qWherec : Nat) (u_qBya : Option Addr) (u_qByn u_qByc : Nat) (u_qSize : Int) (u_qSlide : Int) (u_qDelay : Int) (u_qLate : Int) (u_eTime : Int) (u_eKKind : Int) (u_eKN : Int) (u_eAKind : Int) (u_eAN : Int) (u_eBKind : Int) (u_eBN : Int) (h : Hp) (R : Value → Hp → Prop) : Prop :=
  (∃ (J1 : SV → Hp → Prop), ((decide ((((u_qWheren : Nat) : Int) : Int) = 0)) = false → (CallOK Tryz.prog 54 [(vsl u_qWherea u_qWheren u_qWherec), (vag [(vi u_eTime), (vi u_eKKind), (vi u_eKN), (vi u_eAKind), (vi u_eAN), (vi u_eBKind), (vi u_eBN)])] h fun v2 h3 => ∃ (x4 : Int) (x5 : Int), v2 = (vag [(vi x4), (vi x5)]) ∧ J1 (.t (.ag [.v (vi x4), .v (vi x5)])) h3)) ∧ (¬ ((decide ((((u_qWheren : Nat) : Int) : Int) = 0)) = false) → J1 (.t (.ag [.v (vi 0), .v (vi 0)])) h) ∧ ∀ (h6 : Hp) (x7 : Int) (x8 : Int), J1 (.t (.ag [.v (vi x7), .v (vi x8)])) h6 → (∃ (J9 : SV → Hp → Prop), ((decide ((((u_qWheren : Nat) : Int) : Int) = 0)) = false → (CallOK Tryz.prog 55 [(vb true)] h6 fun v10 h11 => ∃ (x12 : Int) (x13 : Int), v10 = (vag [(vi x12), (vi x13)]) ∧ J9 (.t (.ag [.v (vi x12), .v (vi x13)])) h11)) ∧ (¬ ((decide ((((u_qWheren : Nat) : Int) : Int) = 0)) = false) → J9 (.t (.ag [.v (vi 0), .v (vi 0)])) h6) ∧ ∀ (h14 : Hp) (x15 : Int) (x16 : Int), J9 (.t (.ag [.v (vi x15), .v (vi x16)])) h14 → (∃ (p17 : Bool), ((decide ((((u_qWheren : Nat) : Int) : Int) = 0)) = false → Rd Tryz.prog ((eqGuard .eql 33 (.tmp 13) (.tmp 14) (vag [(vi x7), (vi x8)]) (vag [(vi x15), (vi x16)]) >>= fun _ => binOp .eql 33 (vag [(vi x7), (vi x8)]) (vag [(vi x15), (vi x16)]))) h14 (vb p17)) ∧ R (vb (bif (decide ((((u_qWheren : Nat) : Int) : Int) = 0)) then true else p17)) h14)))
theorem ok_batch_is {u_qAggsa : Option Addr} {u_qAggsn u_qAggsc : Nat} {u_qWherea : Option Addr} {u_qWheren u_qWherec : Nat} {u_qBya : Option Addr} {u_qByn u_qByc : Nat} {u_qSize : Int} {u_qSlide : Int} {u_qDelay : Int} {u_qLate : Int} {u_eTime : Int} {u_eKKind : Int} {u_eKN : Int} {u_eAKind : Int} {u_eAN : Int} {u_eBKind : Int} {u_eBN : Int} {h : Hp} {R : Value → Hp → Prop} (H : VC_batch_is u_qAggsa u_qAggsn u_qAggsc u_qWherea u_qWheren u_qWherec u_qBya u_qByn u_qByc u_qSize u_qSlide u_qDelay u_qLate u_eTime u_eKKind u_eKN u_eAKind u_eAN u_eBKind u_eBN h R) : CallOK Tryz.prog 19 [(vag [(vsl u_qAggsa u_qAggsn u_qAggsc), (vsl u_qWherea u_qWheren u_qWherec), (vsl u_qBya u_qByn u_qByc), (vi u_qSize), (vi u_qSlide), (vi u_qDelay), (vi u_qLate)]), (vag [(vi u_eTime), (vi u_eKKind), (vi u_eKN), (vi u_eAKind), (vi u_eAN), (vi u_eBKind), (vi u_eBN)])] h R :=
  call_of (cfg := ⟨[], [], []⟩) noNG mixed Tryz.func19 [.ag [.v (vsl u_qAggsa u_qAggsn u_qAggsc), .v (vsl u_qWherea u_qWheren u_qWherec), .v (vsl u_qBya u_qByn u_qByc), .v (vi u_qSize), .v (vi u_qSlide), .v (vi u_qDelay), .v (vi u_qLate)], .ag [.v (vi u_eTime), .v (vi u_eKKind), .v (vi u_eKN), .v (vi u_eAKind), .v (vi u_eAN), .v (vi u_eBKind), .v (vi u_eBN)]] (by kernel_rfl) rfl (by kernel_rfl) H
def VC_batch_late (u_la : Option Addr) (u_ln u_lc : Nat) (u_n : Int) (u_start : Int) (u_qAggsa : Option Addr) (u_qAggsn u_qAggsc : Nat) (u_qWherea : Option Addr) (u_qWheren u_qWherec : Nat) (u_qBya : Option Addr) (u_qByn u_qByc : Nat) (u_qSize : Int) (u_qSlide : Int) (u_qDelay : Int) (u_qLate : Int) (h : Hp) (R : Value → Hp → Prop) : Prop :=
  (∃ (a1 : Option Addr) (n1 c1 : Nat), (Rd Tryz.prog (Instr.sliceAt 30 (vsl u_la u_ln u_lc) none (some (vi u_n)) none) h (vsl a1 n1 c1)) ∧ (∃ (I3 : List Value → Hp → Prop) (m4 : List Value → Hp → Nat), I3 [(vi (-1)), (vi 0)] h ∧ ∀ (vs5 : List Value) (h6 : Hp), I3 vs5 h6 → ∃ (x7 : Int) (x8 : Int), vs5 = [(vi x7), (vi x8)] ∧ (((decide ((x8 : Int) < ((n1 : Nat) : Int))) = true → (∃ (b11 o12 : Nat), (a1 = some ⟨b11, o12, none⟩ ∧ (0 : Int) ≤ x8 ∧ x8 < ((n1 : Nat) : Int)) ∧ (∃ (x13 : Int) (x14 : Int) (x15 : Int) (x16 : Int) (x17 : Int) (x18 : Int) (x19 : Int), (Hp.row h6 b11 (o12 + x8.toNat * 7) 7 = some [(vi x13), (vi x14), (vi x15), (vi x16), (vi x17), (vi x18), (vi x19)]) ∧ (∃ (x20 : Int), (Rd Tryz.prog (Builtin.max_ #[3, 3] 3 #[(vi x7), (vi x13)]) h6 (vi x20)) ∧ (∃ (x22 : Int), (IsW x22 (x8 + 1)) ∧ (I3 [(vi x20), (vi x22)] h6 ∧ m4 [(vi x20), (vi x22)] h6 < m4 vs5 h6)))))) ∧ ((decide ((x8 : Int) < ((n1 : Nat) : Int))) = false → (∃ (x23 : Int), ((decide ((x7 : Int) ≥ 0)) = true → IsW x23 (u_start + u_qSize)) ∧ (∃ (x24 : Int), ((decide ((x7 : Int) ≥ 0)) = true → IsW x24 (x23 + u_qLate)) ∧ (∃ (x25 : Int), ((decide ((x7 : Int) ≥ 0)) = true → IsW x25 (x7 - u_qDelay)) ∧ R (vb (bif (decide ((x7 : Int) ≥ 0)) then (decide ((x24 : Int) ≤ x25)) else false)) h6)))))))
theorem ok_batch_late {u_la : Option Addr} {u_ln u_lc : Nat} {u_n : Int} {u_start : Int} {u_qAggsa : Option Addr} {u_qAggsn u_qAggsc : Nat} {u_qWherea : Option Addr} {u_qWheren u_qWherec : Nat} {u_qBya : Option Addr} {u_qByn u_qByc : Nat} {u_qSize : Int} {u_qSlide : Int} {u_qDelay : Int} {u_qLate : Int} {h : Hp} {R : Value → Hp → Prop} (H : VC_batch_late u_la u_ln u_lc u_n u_start u_qAggsa u_qAggsn u_qAggsc u_qWherea u_qWheren u_qWherec u_qBya u_qByn u_qByc u_qSize u_qSlide u_qDelay u_qLate h R) : CallOK Tryz.prog 21 [(vsl u_la u_ln u_lc), (vi u_n), (vi u_start), (vag [(vsl u_qAggsa u_qAggsn u_qAggsc), (vsl u_qWherea u_qWheren u_qWherec), (vsl u_qBya u_qByn u_qByc), (vi u_qSize), (vi u_qSlide), (vi u_qDelay), (vi u_qLate)])] h R :=
  call_of (cfg := ⟨[], [(3, ([9, 16], [.one (.int .i64), .one (.int .i64)], []))], []⟩) noNG mixed Tryz.func21 [.one (.v (vsl u_la u_ln u_lc)), .one (.v (vi u_n)), .one (.v (vi u_start)), .ag [.v (vsl u_qAggsa u_qAggsn u_qAggsc), .v (vsl u_qWherea u_qWheren u_qWherec), .v (vsl u_qBya u_qByn u_qByc), .v (vi u_qSize), .v (vi u_qSlide), .v (vi u_qDelay), .v (vi u_qLate)]] (by kernel_rfl) rfl (by kernel_rfl) H
def VC_batch_key (u_qAggsa : Option Addr) (u_qAggsn u_qAggsc : Nat) (u_qWherea : Option Addr) (u_qWheren u_qWherec : Nat) (u_qBya : Option Addr) (u_qByn u_qByc : Nat) (u_qSize : Int) (u_qSlide : Int) (u_qDelay : Int) (u_qLate : Int) (u_eTime : Int) (u_eKKind : Int) (u_eKN : Int) (u_eAKind : Int) (u_eAN : Int) (u_eBKind : Int) (u_eBN : Int) (h : Hp) (R : Value → Hp → Prop) : Prop :=
  (((decide ((((u_qByn : Nat) : Int) : Int) = 0)) = true → (CallOK Tryz.prog 56 [] h fun v1 h2 => ∃ (x3 : Int) (x4 : Int), v1 = (vag [(vi x3), (vi x4)]) ∧ R (vag [(vi x3), (vi x4)]) h2)) ∧ ((decide ((((u_qByn : Nat) : Int) : Int) = 0)) = false → (CallOK Tryz.prog 54 [(vsl u_qBya u_qByn u_qByc), (vag [(vi u_eTime), (vi u_eKKind), (vi u_eKN), (vi u_eAKind), (vi u_eAN), (vi u_eBKind), (vi u_eBN)])] h fun v6 h7 => ∃ (x8 : Int) (x9 : Int), v6 = (vag [(vi x8), (vi x9)]) ∧ R (vag [(vi x8), (vi x9)]) h7)))
theorem ok_batch_key {u_qAggsa : Option Addr} {u_qAggsn u_qAggsc : Nat} {u_qWherea : Option Addr} {u_qWheren u_qWherec : Nat} {u_qBya : Option Addr} {u_qByn u_qByc : Nat} {u_qSize : Int} {u_qSlide : Int} {u_qDelay : Int} {u_qLate : Int} {u_eTime : Int} {u_eKKind : Int} {u_eKN : Int} {u_eAKind : Int} {u_eAN : Int} {u_eBKind : Int} {u_eBN : Int} {h : Hp} {R : Value → Hp → Prop} (H : VC_batch_key u_qAggsa u_qAggsn u_qAggsc u_qWherea u_qWheren u_qWherec u_qBya u_qByn u_qByc u_qSize u_qSlide u_qDelay u_qLate u_eTime u_eKKind u_eKN u_eAKind u_eAN u_eBKind u_eBN h R) : CallOK Tryz.prog 22 [(vag [(vsl u_qAggsa u_qAggsn u_qAggsc), (vsl u_qWherea u_qWheren u_qWherec), (vsl u_qBya u_qByn u_qByc), (vi u_qSize), (vi u_qSlide), (vi u_qDelay), (vi u_qLate)]), (vag [(vi u_eTime), (vi u_eKKind), (vi u_eKN), (vi u_eAKind), (vi u_eAN), (vi u_eBKind), (vi u_eBN)])] h R :=
  call_of (cfg := ⟨[], [], []⟩) noNG mixed Tryz.func22 [.ag [.v (vsl u_qAggsa u_qAggsn u_qAggsc), .v (vsl u_qWherea u_qWheren u_qWherec), .v (vsl u_qBya u_qByn u_qByc), .v (vi u_qSize), .v (vi u_qSlide), .v (vi u_qDelay), .v (vi u_qLate)], .ag [.v (vi u_eTime), .v (vi u_eKKind), .v (vi u_eKN), .v (vi u_eAKind), .v (vi u_eAN), .v (vi u_eBKind), .v (vi u_eBN)]] (by kernel_rfl) rfl (by kernel_rfl) H
def VC_batch_add (u_accsa : Option Addr) (u_accsn u_accsc : Nat) (u_qAggsa : Option Addr) (u_qAggsn u_qAggsc : Nat) (u_qWherea : Option Addr) (u_qWheren u_qWherec : Nat) (u_qBya : Option Addr) (u_qByn u_qByc : Nat) (u_qSize : Int) (u_qSlide : Int) (u_qDelay : Int) (u_qLate : Int) (u_eTime : Int) (u_eKKind : Int) (u_eKN : Int) (u_eAKind : Int) (u_eAN : Int) (u_eBKind : Int) (u_eBN : Int) (h : Hp) (R : Value → Hp → Prop) : Prop :=
  (∃ (I2 : List Value → Hp → Prop) (m3 : List Value → Hp → Nat), I2 [(vi 0)] h ∧ ∀ (vs4 : List Value) (h5 : Hp), I2 vs4 h5 → ∃ (x6 : Int), vs4 = [(vi x6)] ∧ (((decide ((x6 : Int) < ((u_qAggsn : Nat) : Int))) = true → (∃ (b9 o10 : Nat), (u_qAggsa = some ⟨b9, o10, none⟩ ∧ (0 : Int) ≤ x6 ∧ x6 < ((u_qAggsn : Nat) : Int)) ∧ (∃ (x11 : Int) (a12 : Option Addr) (n12 c12 : Nat), (Hp.row h5 b9 (o10 + x6.toNat * 2) 2 = some [(vi x11), (vsl a12 n12 c12)]) ∧ (CallOK Tryz.prog 56 [] h5 fun v13 h14 => ∃ (x15 : Int) (x16 : Int), v13 = (vag [(vi x15), (vi x16)]) ∧ (let J23 : Int → Int → Hp → Prop := fun (x39 : Int) (x40 : Int) (h41 : Hp) => (∃ (b42 o43 : Nat), (u_accsa = some ⟨b42, o43, none⟩ ∧ (0 : Int) ≤ x6 ∧ x6 < ((u_accsn : Nat) : Int)) ∧ (∃ (x44 : Int) (x45 : Int) (x46 : Int) (x47 : Int), (Hp.row h41 b42 (o43 + x6.toNat * 4) 4 = some [(vi x44), (vi x45), (vi x46), (vi x47)]) ∧ (CallOK Tryz.prog 57 [(vag [(vi x44), (vi x45), (vi x46), (vi x47)]), (vag [(vi x39), (vi x40)])] h41 fun v48 h49 => ∃ (x50 : Int) (x51 : Int) (x52 : Int) (x53 : Int), v48 = (vag [(vi x50), (vi x51), (vi x52), (vi x53)]) ∧ (∃ (b54 o55 : Nat), (u_accsa = some ⟨b54, o55, none⟩ ∧ (0 : Int) ≤ x6 ∧ x6 < ((u_accsn : Nat) : Int)) ∧ (Hp.store h49 b54 (o55 + x6.toNat * 4) [(vi x50), (vi x51), (vi x52), (vi x53)] fun h56 => (∃ (x58 : Int), (IsW x58 (x6 + 1)) ∧ (I2 [(vi x58)] h56 ∧ m3 [(vi x58)] h56 < m3 vs4 h5))))))); (((decide ((x11 : Int) ≠ 1)) = true → (CallOK Tryz.prog 54 [(vsl a12 n12 c12), (vag [(vi u_eTime), (vi u_eKKind), (vi u_eKN), (vi u_eAKind), (vi u_eAN), (vi u_eBKind), (vi u_eBN)])] h14 fun v17 h18 => ∃ (x19 : Int) (x20 : Int), v17 = (vag [(vi x19), (vi x20)]) ∧ (J23 x19 x20 h18))) ∧ ((decide ((x11 : Int) ≠ 1)) = false → (J23 x15 x16 h14)))))))) ∧ ((decide ((x6 : Int) < ((u_qAggsn : Nat) : Int))) = false → R (vsl u_accsa u_accsn u_accsc) h5)))
theorem ok_batch_add {u_accsa : Option Addr} {u_accsn u_accsc : Nat} {u_qAggsa : Option Addr} {u_qAggsn u_qAggsc : Nat} {u_qWherea : Option Addr} {u_qWheren u_qWherec : Nat} {u_qBya : Option Addr} {u_qByn u_qByc : Nat} {u_qSize : Int} {u_qSlide : Int} {u_qDelay : Int} {u_qLate : Int} {u_eTime : Int} {u_eKKind : Int} {u_eKN : Int} {u_eAKind : Int} {u_eAN : Int} {u_eBKind : Int} {u_eBN : Int} {h : Hp} {R : Value → Hp → Prop} (H : VC_batch_add u_accsa u_accsn u_accsc u_qAggsa u_qAggsn u_qAggsc u_qWherea u_qWheren u_qWherec u_qBya u_qByn u_qByc u_qSize u_qSlide u_qDelay u_qLate u_eTime u_eKKind u_eKN u_eAKind u_eAN u_eBKind u_eBN h R) : CallOK Tryz.prog 26 [(vsl u_accsa u_accsn u_accsc), (vag [(vsl u_qAggsa u_qAggsn u_qAggsc), (vsl u_qWherea u_qWheren u_qWherec), (vsl u_qBya u_qByn u_qByc), (vi u_qSize), (vi u_qSlide), (vi u_qDelay), (vi u_qLate)]), (vag [(vi u_eTime), (vi u_eKKind), (vi u_eKN), (vi u_eAKind), (vi u_eAN), (vi u_eBKind), (vi u_eBN)])] h R :=
  call_of (cfg := ⟨[], [(2, ([13], [.one (.int .i64)], []))], [(7, [0, 1, 2, 3, 4, 5, 6, 7, 8, 9])]⟩) noNG mixed Tryz.func26 [.one (.v (vsl u_accsa u_accsn u_accsc)), .ag [.v (vsl u_qAggsa u_qAggsn u_qAggsc), .v (vsl u_qWherea u_qWheren u_qWherec), .v (vsl u_qBya u_qByn u_qByc), .v (vi u_qSize), .v (vi u_qSlide), .v (vi u_qDelay), .v (vi u_qLate)], .ag [.v (vi u_eTime), .v (vi u_eKKind), .v (vi u_eKN), .v (vi u_eAKind), .v (vi u_eAN), .v (vi u_eBKind), .v (vi u_eBN)]] (by kernel_rfl) rfl (by kernel_rfl) H
def VC_batch_Answer_1 (u_pStart : Int) (u_pKeyKind : Int) (u_pKeyN : Int) (u_pAccsa : Option Addr) (u_pAccsn u_pAccsc : Nat) (u_pTold : Bool) (f_0b f_0o : Nat) (f_1b f_1o : Nat) (h : Hp) (R : Value → Hp → Prop) : Prop :=
  (∃ (x1 : Int), (Hp.cell h f_0b f_0o = some (vi x1)) ∧ (∃ (x2 : Int) (x3 : Int), ((decide ((u_pStart : Int) = x1)) = true → Hp.row h f_1b f_1o 2 = some [(vi x2), (vi x3)]) ∧ (∃ (p4 : Bool), ((decide ((u_pStart : Int) = x1)) = true → Rd Tryz.prog ((eqGuard .eql 33 (.tmp 11) (.tmp 12) (vag [(vi u_pKeyKind), (vi u_pKeyN)]) (vag [(vi x2), (vi x3)]) >>= fun _ => binOp .eql 33 (vag [(vi u_pKeyKind), (vi u_pKeyN)]) (vag [(vi x2), (vi x3)]))) h (vb p4)) ∧ R (vb (bif (decide ((u_pStart : Int) = x1)) then p4 else false)) h)))
theorem ok_batch_Answer_1 {u_pStart : Int} {u_pKeyKind : Int} {u_pKeyN : Int} {u_pAccsa : Option Addr} {u_pAccsn u_pAccsc : Nat} {u_pTold : Bool} {f_0b f_0o : Nat} {f_1b f_1o : Nat} {h : Hp} {R : Value → Hp → Prop} (H : VC_batch_Answer_1 u_pStart u_pKeyKind u_pKeyN u_pAccsa u_pAccsn u_pAccsc u_pTold f_0b f_0o f_1b f_1o h R) : CallOK Tryz.prog 24 [(vag [(vi u_pStart), (vi u_pKeyKind), (vi u_pKeyN), (vsl u_pAccsa u_pAccsn u_pAccsc), (vb u_pTold)]), (vhp f_0b f_0o), (vhp f_1b f_1o)] h R :=
  call_of (cfg := ⟨[], [], []⟩) noNG mixed Tryz.func24 [.ag [.v (vi u_pStart), .v (vi u_pKeyKind), .v (vi u_pKeyN), .v (vsl u_pAccsa u_pAccsn u_pAccsc), .v (vb u_pTold)], .one (.hp f_0b f_0o), .one (.hp f_1b f_1o)] (by kernel_rfl) rfl (by kernel_rfl) H
def VC_batch_Answer (u_qAggsa : Option Addr) (u_qAggsn u_qAggsc : Nat) (u_qWherea : Option Addr) (u_qWheren u_qWherec : Nat) (u_qBya : Option Addr) (u_qByn u_qByc : Nat) (u_qSize : Int) (u_qSlide : Int) (u_qDelay : Int) (u_qLate : Int) (u_partsa : Option Addr) (u_partsn u_partsc : Nat) (h : Hp) (R : Value → Hp → Prop) : Prop :=
  (∃ (I2 : List Value → Hp → Prop) (m3 : List Value → Hp → Nat), I2 [(vsl none 0 0), (vi 0), (vi 0)] h ∧ ∀ (vs4 : List Value) (h5 : Hp), I2 vs4 h5 → ∃ (a6 : Option Addr) (n6 c6 : Nat) (x7 : Int) (x8 : Int), vs4 = [(vsl a6 n6 c6), (vi x7), (vi x8)] ∧ (((decide ((x8 : Int) < ((u_partsn : Nat) : Int))) = true → (∃ (b11 o12 : Nat), (u_partsa = some ⟨b11, o12, none⟩ ∧ (0 : Int) ≤ x8 ∧ x8 < ((u_partsn : Nat) : Int)) ∧ (∃ (a13 : Option Addr) (n13 c13 : Nat), (Hp.cell h5 b11 (o12 + x8.toNat * 1) = some (vsl a13 n13 c13)) ∧ (∃ (I15 : List Value → Hp → Prop) (m16 : List Value → Hp → Nat), I15 [(vsl a6 n6 c6), (vi x7), (vi 0)] h5 ∧ ∀ (vs17 : List Value) (h18 : Hp), I15 vs17 h18 → ∃ (a19 : Option Addr) (n19 c19 : Nat) (x20 : Int) (x21 : Int), vs17 = [(vsl a19 n19 c19), (vi x20), (vi x21)] ∧ (((decide ((x21 : Int) < ((n13 : Nat) : Int))) = true → (let J173 : Option Addr → Nat → Nat → Int → Hp → Prop := fun (a179 : Option Addr) (n179 c179 : Nat) (x180 : Int) (h181 : Hp) => (∃ (x182 : Int), (IsW x182 (x21 + 1)) ∧ (I15 [(vsl a179 n179 c179), (vi x180), (vi x182)] h181 ∧ m16 [(vsl a179 n179 c179), (vi x180), (vi x182)] h181 < m16 vs17 h18)); (∃ (b24 o25 : Nat), (a13 = some ⟨b24, o25, none⟩ ∧ (0 : Int) ≤ x21 ∧ x21 < ((n13 : Nat) : Int)) ∧ (∃ (x26 : Int) (x27 : Int) (x28 : Int) (x29 : Int) (x30 : Int) (x31 : Int) (x32 : Int), (Hp.row h18 b24 (o25 + x21.toNat * 7) 7 = some [(vi x26), (vi x27), (vi x28), (vi x29), (vi x30), (vi x31), (vi x32)]) ∧ (CallOK Tryz.prog 19 [(vag [(vsl u_qAggsa u_qAggsn u_qAggsc), (vsl u_qWherea u_qWheren u_qWherec), (vsl u_qBya u_qByn u_qByc), (vi u_qSize), (vi u_qSlide), (vi u_qDelay), (vi u_qLate)]), (vag [(vi x26), (vi x27), (vi x28), (vi x29), (vi x30), (vi x31), (vi x32)])] h18 fun v33 h34 => ∃ (p35 : Bool), v33 = (vb p35) ∧ (((!p35) = true → (J173 a19 n19 c19 x20 h34)) ∧ ((!p35) = false → (CallOK Tryz.prog 20 [(vi x26), (vi u_qSize), (vi u_qSlide)] h34 fun v38 h39 => ∃ (a40 : Option Addr) (n40 c40 : Nat), v38 = (vsl a40 n40 c40) ∧ (∃ (I42 : List Value → Hp → Prop) (m43 : List Value → Hp → Nat), I42 [(vsl a19 n19 c19), (vi x20), (vi 0)] h39 ∧ ∀ (vs44 : List Value) (h45 : Hp), I42 vs44 h45 → ∃ (a46 : Option Addr) (n46 c46 : Nat) (x47 : Int) (x48 : Int), vs44 = [(vsl a46 n46 c46), (vi x47), (vi x48)] ∧ (((decide ((x48 : Int) < ((n40 : Nat) : Int))) = true → (let J163 : Option Addr → Nat → Nat → Int → Hp → Prop := fun (a169 : Option Addr) (n169 c169 : Nat) (x170 : Int) (h171 : Hp) => (∃ (x172 : Int), (IsW x172 (x48 + 1)) ∧ (I42 [(vsl a169 n169 c169), (vi x170), (vi x172)] h171 ∧ m43 [(vsl a169 n169 c169), (vi x170), (vi x172)] h171 < m43 vs44 h45)); (∃ (b51 o52 : Nat), (a40 = some ⟨b51, o52, none⟩ ∧ (0 : Int) ≤ x48 ∧ x48 < ((n40 : Nat) : Int)) ∧ (∃ (x53 : Int), (Hp.cell h45 b51 (o52 + x48.toNat * 1) = some (vi x53)) ∧ (∀ (b54 : Nat), h45 b54 = none → let h55 : Hp := Hp.set h45 b54 (cellsO [(vi 0)] 3); (Hp.store h55 b54 0 [(vi x53)] fun h56 => (∃ (x57 : Int), (Hp.cell h56 b54 0 = some (vi x57)) ∧ (CallOK Tryz.prog 21 [(vsl a13 n13 c13), (vi x21), (vi x57), (vag [(vsl u_qAggsa u_qAggsn u_qAggsc), (vsl u_qWherea u_qWheren u_qWherec), (vsl u_qBya u_qByn u_qByc), (vi u_qSize), (vi u_qSlide), (vi u_qDelay), (vi u_qLate)])] h56 fun v58 h59 => ∃ (p60 : Bool), v58 = (vb p60) ∧ ((p60 = true → (∃ (x61 : Int), (IsW x61 (x47 + 1)) ∧ (J163 a46 n46 c46 x61 h59))) ∧ (p60 = false → (CallOK Tryz.prog 22 [(vag [(vsl u_qAggsa u_qAggsn u_qAggsc), (vsl u_qWherea u_qWheren u_qWherec), (vsl u_qBya u_qByn u_qByc), (vi u_qSize), (vi u_qSlide), (vi u_qDelay), (vi u_qLate)]), (vag [(vi x26), (vi x27), (vi x28), (vi x29), (vi x30), (vi x31), (vi x32)])] h59 fun v64 h65 => ∃ (x66 : Int) (x67 : Int), v64 = (vag [(vi x66), (vi x67)]) ∧ (∀ (b68 : Nat), h65 b68 = none → let h69 : Hp := Hp.set h65 b68 (cellsO [(vi 0), (vi 0)] 33); (Hp.store h69 b68 0 [(vi x66), (vi x67)] fun h70 => (CallOK Tryz.prog 23 [(vsl a46 n46 c46), (Value.func (.func 24) #[] #[(vhp b54 0), (vhp b68 0)])] h70 fun v71 h72 => ∃ (x73 : Int), v71 = (vi x73) ∧ (let J146 : Option Addr → Nat → Nat → Int → Hp → Prop := fun (a150 : Option Addr) (n150 c150 : Nat) (x151 : Int) (h152 : Hp) => (∃ (b153 o154 : Nat), (a150 = some ⟨b153, o154, none⟩ ∧ (0 : Int) ≤ x151 ∧ x151 < ((n150 : Nat) : Int)) ∧ (∃ (a155 : Option Addr) (n155 c155 : Nat), (Hp.cell h152 b153 ((o154 + x151.toNat * 5) + 3) = some (vsl a155 n155 c155)) ∧ (CallOK Tryz.prog 26 [(vsl a155 n155 c155), (vag [(vsl u_qAggsa u_qAggsn u_qAggsc), (vsl u_qWherea u_qWheren u_qWherec), (vsl u_qBya u_qByn u_qByc), (vi u_qSize), (vi u_qSlide), (vi u_qDelay), (vi u_qLate)]), (vag [(vi x26), (vi x27), (vi x28), (vi x29), (vi x30), (vi x31), (vi x32)])] h152 fun v156 h157 => ∃ (a158 : Option Addr) (n158 c158 : Nat), v156 = (vsl a158 n158 c158) ∧ (∃ (b159 o160 : Nat), (a150 = some ⟨b159, o160, none⟩ ∧ (0 : Int) ≤ x151 ∧ x151 < ((n150 : Nat) : Int)) ∧ (Hp.store h157 b159 ((o160 + x151.toNat * 5) + 3) [(vsl a158 n158 c158)] fun h161 => (J163 a150 n150 c150 x47 h161)))))); (((decide ((x73 : Int) < 0)) = true → (∃ (x74 : Int), (Hp.cell h72 b54 0 = some (vi x74)) ∧ (∃ (x75 : Int) (x76 : Int), (Hp.row h72 b68 0 2 = some [(vi x75), (vi x76)]) ∧ (let J107 : Int → Int → Int → Option Addr → Nat → Nat → Bool → Hp → Prop := fun (x133 : Int) (x134 : Int) (x135 : Int) (a136 : Option Addr) (n136 c136 : Nat) (p137 : Bool) (h138 : Hp) => (∀ (b139 : Nat), h138 b139 = none → let h140 : Hp := Hp.set h138 b139 (cellsO [(vi x133), (vi x134), (vi x135), (vsl a136 n136 c136), (vb p137)] 64); (SemOK Tryz.prog (Builtin.append_ #[55, 55] 55 #[(vsl a46 n46 c46), (vsl (some (⟨b139, 0, none⟩ : Addr)) 1 1)]) h140 fun v141 h142 => ∃ (a143 : Option Addr) (n143 c143 : Nat), v141 = (vsl a143 n143 c143) ∧ (J146 a143 n143 c143 ((n46 : Nat) : Int) h142))); (∃ (I78 : List Value → Hp → Prop) (m79 : List Value → Hp → Nat), I78 [(vi 0), (vi x74), (vi x75), (vi x76), (vsl none 0 0), (vb false)] h72 ∧ ∀ (vs80 : List Value) (h81 : Hp), I78 vs80 h81 → ∃ (x82 : Int) (x83 : Int) (x84 : Int) (x85 : Int) (a86 : Option Addr) (n86 c86 : Nat) (p87 : Bool), vs80 = [(vi x82), (vi x83), (vi x84), (vi x85), (vsl a86 n86 c86), (vb p87)] ∧ (((decide ((x82 : Int) < ((u_qAggsn : Nat) : Int))) = true → (∃ (b90 o91 : Nat), (u_qAggsa = some ⟨b90, o91, none⟩ ∧ (0 : Int) ≤ x82 ∧ x82 < ((u_qAggsn : Nat) : Int)) ∧ (∃ (x92 : Int) (a93 : Option Addr) (n93 c93 : Nat), (Hp.row h81 b90 (o91 + x82.toNat * 2) 2 = some [(vi x92), (vsl a93 n93 c93)]) ∧ (CallOK Tryz.prog 25 [(vi x92)] h81 fun v94 h95 => ∃ (x96 : Int) (x97 : Int) (x98 : Int) (x99 : Int), v94 = (vag [(vi x96), (vi x97), (vi x98), (vi x99)]) ∧ (∀ (b100 : Nat), h95 b100 = none → let h101 : Hp := Hp.set h95 b100 (cellsO [(vi x96), (vi x97), (vi x98), (vi x99)] 69); (SemOK Tryz.prog (Builtin.append_ #[62, 62] 62 #[(vsl a86 n86 c86), (vsl (some (⟨b100, 0, none⟩ : Addr)) 1 1)]) h101 fun v102 h103 => ∃ (a104 : Option Addr) (n104 c104 : Nat), v102 = (vsl a104 n104 c104) ∧ (∃ (x106 : Int), (IsW x106 (x82 + 1)) ∧ (I78 [(vi x106), (vi x83), (vi x84), (vi x85), (vsl a104 n104 c104), (vb p87)] h103 ∧ m79 [(vi x106), (vi x83), (vi x84), (vi x85), (vsl a104 n104 c104), (vb p87)] h103 < m79 vs80 h81)))))))) ∧ ((decide ((x82 : Int) < ((u_qAggsn : Nat) : Int))) = false → (J107 x83 x84 x85 a86 n86 c86 p87 h81)))))))) ∧ ((decide ((x73 : Int) < 0)) = false → (J146 a46 n46 c46 x73 h72)))))))))))))))))) ∧ ((decide ((x48 : Int) < ((n40 : Nat) : Int))) = false → (J173 a46 n46 c46 x47 h45)))))))))))) ∧ ((decide ((x21 : Int) < ((n13 : Nat) : Int))) = false → (∃ (x183 : Int), (IsW x183 (x8 + 1)) ∧ (I2 [(vsl a19 n19 c19), (vi x20), (vi x183)] h18 ∧ m3 [(vsl a19 n19 c19), (vi x20), (vi x183)] h18 < m3 vs4 h5)))))))) ∧ ((decide ((x8 : Int) < ((u_partsn : Nat) : Int))) = false → (CallOK Tryz.prog 27 [(vsl a6 n6 c6), (Value.func (.func 28) #[] #[])] h5 fun v184 h185 => v184 = (vtup []) ∧ (∃ (I187 : List Value → Hp → Prop) (m188 : List Value → Hp → Nat), I187 [(vsl none 0 0), (vi 0)] h185 ∧ ∀ (vs189 : List Value) (h190 : Hp), I187 vs189 h190 → ∃ (a191 : Option Addr) (n191 c191 : Nat) (x192 : Int), vs189 = [(vsl a191 n191 c191), (vi x192)] ∧ (((decide ((x192 : Int) < ((n6 : Nat) : Int))) = true → (∃ (b195 o196 : Nat), (a6 = some ⟨b195, o196, none⟩ ∧ (0 : Int) ≤ x192 ∧ x192 < ((n6 : Nat) : Int)) ∧ (∃ (x197 : Int) (x198 : Int) (x199 : Int) (a200 : Option Addr) (n200 c200 : Nat) (p201 : Bool), (Hp.row h190 b195 (o196 + x192.toNat * 5) 5 = some [(vi x197), (vi x198), (vi x199), (vsl a200 n200 c200), (vb p201)]) ∧ (CallOK Tryz.prog 30 [(vag [(vi x197), (vi x198), (vi x199), (vsl a200 n200 c200), (vb p201)])] h190 fun v202 h203 => ∃ (x204 : Int) (x205 : Int) (x206 : Int) (a207 : Option Addr) (n207 c207 : Nat), v202 = (vag [(vi x204), (vi x205), (vi x206), (vsl a207 n207 c207)]) ∧ (∀ (b208 : Nat), h203 b208 = none → let h209 : Hp := Hp.set h203 b208 (cellsO [(vi x204), (vi x205), (vi x206), (vsl a207 n207 c207)] 51); (SemOK Tryz.prog (Builtin.append_ #[36, 36] 36 #[(vsl a191 n191 c191), (vsl (some (⟨b208, 0, none⟩ : Addr)) 1 1)]) h209 fun v210 h211 => ∃ (a212 : Option Addr) (n212 c212 : Nat), v210 = (vsl a212 n212 c212) ∧ (∃ (x214 : Int), (IsW x214 (x192 + 1)) ∧ (I187 [(vsl a212 n212 c212), (vi x214)] h211 ∧ m188 [(vsl a212 n212 c212), (vi x214)] h211 < m188 vs189 h190)))))))) ∧ ((decide ((x192 : Int) < ((n6 : Nat) : Int))) = false → R (vtup [(vsl a191 n191 c191), (vi x7)]) h190)))))))
theorem ok_batch_Answer {u_qAggsa : Option Addr} {u_qAggsn u_qAggsc : Nat} {u_qWherea : Option Addr} {u_qWheren u_qWherec : Nat} {u_qBya : Option Addr} {u_qByn u_qByc : Nat} {u_qSize : Int} {u_qSlide : Int} {u_qDelay : Int} {u_qLate : Int} {u_partsa : Option Addr} {u_partsn u_partsc : Nat} {h : Hp} {R : Value → Hp → Prop} (H : VC_batch_Answer u_qAggsa u_qAggsn u_qAggsc u_qWherea u_qWheren u_qWherec u_qBya u_qByn u_qByc u_qSize u_qSlide u_qDelay u_qLate u_partsa u_partsn u_partsc h R) : CallOK Tryz.prog 9 [(vag [(vsl u_qAggsa u_qAggsn u_qAggsc), (vsl u_qWherea u_qWheren u_qWherec), (vsl u_qBya u_qByn u_qByc), (vi u_qSize), (vi u_qSlide), (vi u_qDelay), (vi u_qLate)]), (vsl u_partsa u_partsn u_partsc)] h R :=
  call_of (cfg := ⟨[13, 14], [(21, ([74], [.one (.int .i64)], [(2, [.int .i64, .int .i64, .int .i64, .slice, .bool])])), (11, ([6, 7, 47], [.one (.slice), .one (.int .i64), .one (.int .i64)], [])), (7, ([6, 7, 30], [.one (.slice), .one (.int .i64), .one (.int .i64)], [])), (4, ([6, 7, 24], [.one (.slice), .one (.int .i64), .one (.int .i64)], [])), (33, ([19, 110], [.one (.slice), .one (.int .i64)], []))], [(23, [0, 1, 2, 3, 4, 5, 6, 7, 8]), (26, [0, 1, 2, 3, 4, 5, 6, 7, 8, 9, 10, 11, 12])]⟩) noNG mixed Tryz.func9 [.ag [.v (vsl u_qAggsa u_qAggsn u_qAggsc), .v (vsl u_qWherea u_qWheren u_qWherec), .v (vsl u_qBya u_qByn u_qByc), .v (vi u_qSize), .v (vi u_qSlide), .v (vi u_qDelay), .v (vi u_qLate)], .one (.v (vsl u_partsa u_partsn u_partsc))] (by kernel_rfl) rfl (by kernel_rfl) H
def VC_slices_IndexFunc_panes_Pane_panes_Pane (u_sa : Option Addr) (u_sn u_sc : Nat) (u_f : Value) (h : Hp) (R : Value → Hp → Prop) : Prop :=
  (∃ (I2 : List Value → Hp → Prop) (m3 : List Value → Hp → Nat), I2 [(vi 0)] h ∧ ∀ (vs4 : List Value) (h5 : Hp), I2 vs4 h5 → ∃ (x6 : Int), vs4 = [(vi x6)] ∧ (((decide ((x6 : Int) < ((u_sn : Nat) : Int))) = true → (∃ (b9 o10 : Nat), (u_sa = some ⟨b9, o10, none⟩ ∧ (0 : Int) ≤ x6 ∧ x6 < ((u_sn : Nat) : Int)) ∧ (∃ (x11 : Int) (x12 : Int) (x13 : Int) (a14 : Option Addr) (n14 c14 : Nat) (p15 : Bool), (Hp.row h5 b9 (o10 + x6.toNat * 5) 5 = some [(vi x11), (vi x12), (vi x13), (vsl a14 n14 c14), (vb p15)]) ∧ (InvOK Tryz.prog u_f [(vag [(vi x11), (vi x12), (vi x13), (vsl a14 n14 c14), (vb p15)])] h5 fun v16 h17 => ∃ (p18 : Bool), v16 = (vb p18) ∧ ((p18 = true → R (vi x6) h17) ∧ (p18 = false → (∃ (x20 : Int), (IsW x20 (x6 + 1)) ∧ (I2 [(vi x20)] h17 ∧ m3 [(vi x20)] h17 < m3 vs4 h5)))))))) ∧ ((decide ((x6 : Int) < ((u_sn : Nat) : Int))) = false → R (vi (-1)) h5)))
theorem ok_slices_IndexFunc_panes_Pane_panes_Pane {u_sa : Option Addr} {u_sn u_sc : Nat} {u_f : Value} {h : Hp} {R : Value → Hp → Prop} (H : VC_slices_IndexFunc_panes_Pane_panes_Pane u_sa u_sn u_sc u_f h R) : CallOK Tryz.prog 23 [(vsl u_sa u_sn u_sc), u_f] h R :=
  call_of (cfg := ⟨[], [(2, ([8], [.one (.int .i64)], []))], []⟩) noNG mixed Tryz.func23 [.one (.v (vsl u_sa u_sn u_sc)), .one (.v u_f)] (by kernel_rfl) rfl (by kernel_rfl) H
def VC_panes_Pane_Out (u_pStart : Int) (u_pKeyKind : Int) (u_pKeyN : Int) (u_pAccsa : Option Addr) (u_pAccsn u_pAccsc : Nat) (u_pTold : Bool) (h : Hp) (R : Value → Hp → Prop) : Prop :=
  (let J30 : Int → Int → Int → Option Addr → Nat → Nat → Hp → Prop := fun (x41 : Int) (x42 : Int) (x43 : Int) (a44 : Option Addr) (n44 c44 : Nat) (h45 : Hp) => R (vag [(vi x41), (vi x42), (vi x43), (vsl a44 n44 c44)]) h45; (∃ (I2 : List Value → Hp → Prop) (m3 : List Value → Hp → Nat), I2 [(vi 0), (vi u_pStart), (vi u_pKeyKind), (vi u_pKeyN), (vsl none 0 0)] h ∧ ∀ (vs4 : List Value) (h5 : Hp), I2 vs4 h5 → ∃ (x6 : Int) (x7 : Int) (x8 : Int) (x9 : Int) (a10 : Option Addr) (n10 c10 : Nat), vs4 = [(vi x6), (vi x7), (vi x8), (vi x9), (vsl a10 n10 c10)] ∧ (((decide ((x6 : Int) < ((u_pAccsn : Nat) : Int))) = true → (∃ (b13 o14 : Nat), (u_pAccsa = some ⟨b13, o14, none⟩ ∧ (0 : Int) ≤ x6 ∧ x6 < ((u_pAccsn : Nat) : Int)) ∧ (∃ (x15 : Int) (x16 : Int) (x17 : Int) (x18 : Int), (Hp.row h5 b13 (o14 + x6.toNat * 4) 4 = some [(vi x15), (vi x16), (vi x17), (vi x18)]) ∧ (CallOK Tryz.prog 62 [(vag [(vi x15), (vi x16), (vi x17), (vi x18)])] h5 fun v19 h20 => ∃ (x21 : Int) (x22 : Int), v19 = (vag [(vi x21), (vi x22)]) ∧ (∀ (b23 : Nat), h20 b23 = none → let h24 : Hp := Hp.set h20 b23 (cellsO [(vi x21), (vi x22)] 33); (SemOK Tryz.prog (Builtin.append_ #[49, 49] 49 #[(vsl a10 n10 c10), (vsl (some (⟨b23, 0, none⟩ : Addr)) 1 1)]) h24 fun v25 h26 => ∃ (a27 : Option Addr) (n27 c27 : Nat), v25 = (vsl a27 n27 c27) ∧ (∃ (x29 : Int), (IsW x29 (x6 + 1)) ∧ (I2 [(vi x29), (vi x7), (vi x8), (vi x9), (vsl a27 n27 c27)] h26 ∧ m3 [(vi x29), (vi x7), (vi x8), (vi x9), (vsl a27 n27 c27)] h26 < m3 vs4 h5)))))))) ∧ ((decide ((x6 : Int) < ((u_pAccsn : Nat) : Int))) = false → (J30 x7 x8 x9 a10 n10 c10 h5)))))
theorem ok_panes_Pane_Out {u_pStart : Int} {u_pKeyKind : Int} {u_pKeyN : Int} {u_pAccsa : Option Addr} {u_pAccsn u_pAccsc : Nat} {u_pTold : Bool} {h : Hp} {R : Value → Hp → Prop} (H : VC_panes_Pane_Out u_pStart u_pKeyKind u_pKeyN u_pAccsa u_pAccsn u_pAccsc u_pTold h R) : CallOK Tryz.prog 30 [(vag [(vi u_pStart), (vi u_pKeyKind), (vi u_pKeyN), (vsl u_pAccsa u_pAccsn u_pAccsc), (vb u_pTold)])] h R :=
  call_of (cfg := ⟨[], [(3, ([14], [.one (.int .i64)], [(2, [.int .i64, .int .i64, .int .i64, .slice])]))], [(5, [0, 1, 2, 3, 4, 5, 6, 7])]⟩) noNG mixed Tryz.func30 [.ag [.v (vi u_pStart), .v (vi u_pKeyKind), .v (vi u_pKeyN), .v (vsl u_pAccsa u_pAccsn u_pAccsc), .v (vb u_pTold)]] (by kernel_rfl) rfl (by kernel_rfl) H
end Go.Proofs.YtejefijpcggkfaaGreatDoor
namespace Go.Proofs.YtejefijpcggkfaaGreatDoor
open Go Go.Vc Go.Txt
set_option linter.unusedVariables false
theorem eval_ok {l : List Nd} (hx : exprF l = 0) {a : Option Addr} {n c : Nat} {h : Hp} (S : SlP encN h a n l) {e : EvL} {R : Value → Hp → Prop} (hK : ∀ h', h.le h' → R (vag (encV (valE e l))) h') : CallOK Tryz.prog 54 [vsl a n c, vag (encE e)] h R := by
  obtain ⟨O, hl⟩ := exprF_ok hx
  exact expr_Eval_ok S O.wf (by have := O.pos; omega) (by omega) hK
section
variable {q : Qy} {a1 : Option Addr} {n1 c1 : Nat} {a2 : Option Addr} {n2 c2 : Nat} {a3 : Option Addr} {n3 c3 : Nat} {h : Hp} {R : Value → Hp → Prop}
theorem batch_is_ok {e : EvL} (Q : QAt h q a1 n1 a2 n2 a3 n3) (B : QOk q) (hK : ∀ h', h.le h' → R (vb (asksQ q e)) h') : CallOK Tryz.prog 19 [qV a1 n1 c1 a2 n2 c2 a3 n3 c3 q, vag (encE e)] h R := by
  refine ok_batch_is ?_
  unfold VC_batch_is
  have hn : (decide ((((n2 : Nat) : Int) : Int) = 0)) = decide (q.wh = []) := by
    rw [Q.w.1]
    refine decide_eq_decide.2 ⟨fun h => ?_, fun h => by rw [h]; rfl⟩
    exact List.length_eq_zero_iff.1 (by omega)
  rw [hn]
  refine ⟨fun x hh => h.le hh ∧ (q.wh ≠ [] → x = .t (.ag [.v (vi (valE e q.wh).1), .v (vi (valE e q.wh).2)])) , fun e1 => ?_, fun e1 => ⟨Hp.le_refl h, fun hw => absurd (decide_eq_false hw) e1⟩, ?_⟩
  · have hw := of_decide_eq_false e1
    exact eval_ok (B.w hw) Q.w fun h' l' => ⟨_, _, rfl, l', fun _ => rfl⟩
  rintro h6 x7 x8 ⟨l6, e6⟩
  refine ⟨fun x hh => h.le hh ∧ (q.wh ≠ [] → x = .t (.ag [.v (vi (truthV true).1), .v (vi (truthV true).2)])), fun e1 => value_Truth_ok ⟨_, _, rfl, l6, fun _ => rfl⟩, fun e1 => ⟨l6, fun hw => absurd (decide_eq_false hw) e1⟩, ?_⟩
  rintro h14 x15 x16 ⟨l14, e14⟩
  refine ⟨decide (valE e q.wh = truthV true), fun e1 => ?_, ?_⟩
  · have hw := of_decide_eq_false e1
    have e6 := e6 hw
    have e14 := e14 hw
    cases e6
    cases e14
    exact rd_eqV
  · have := hK h14 l14
    unfold asksQ at this
    by_cases hw : q.wh = []
    · rw [decide_eq_true hw] at this ⊢; exact this
    · rw [decide_eq_false hw] at this ⊢; exact this
theorem batch_key_ok {e : EvL} (Q : QAt h q a1 n1 a2 n2 a3 n3) (B : QOk q) (hK : ∀ h', h.le h' → R (vag (encV (keyQ q e))) h') : CallOK Tryz.prog 22 [qV a1 n1 c1 a2 n2 c2 a3 n3 c3 q, vag (encE e)] h R := by
  refine ok_batch_key ?_
  unfold VC_batch_key
  unfold keyQ at hK
  have hn := Q.b.1
  refine ⟨fun e1 => value_Null_ok ⟨_, _, rfl, ?_⟩, fun e1 => ?_⟩
  · have e1 := of_decide_eq_true e1
    have hb : q.by_ = [] := List.length_eq_zero_iff.1 (by omega)
    have := hK h (Hp.le_refl h)
    rw [if_pos hb] at this
    exact this
  · have e1 := of_decide_eq_false e1
    have hb : q.by_ ≠ [] := fun e2 => e1 (by rw [hn, e2]; rfl)
    refine eval_ok (B.b hb) Q.b fun h' l' => ⟨_, _, rfl, ?_⟩
    have := hK h' l'
    rw [if_neg hb] at this
    exact this
theorem batch_late_ok {l : List EvL} {la : Option Addr} {n c : Nat} {i : Nat} {s : Int} (S : SlP encE h la n l) (hi : i ≤ n) (hc : n ≤ c) (hn : n ≤ 1048576) (he : ∀ e ∈ l, 0 ≤ e.1 ∧ e.1 ≤ 9999) (hs : -1048576 ≤ s ∧ s ≤ 1048576) (B : QOk q) (hK : R (vb (lateQ q (farL (l.take i)) s)) h) : CallOK Tryz.prog 21 [vsl la n c, vi i, vi s, qV a1 n1 c1 a2 n2 c2 a3 n3 c3 q] h R := by
  refine ok_batch_late ?_
  unfold VC_batch_late
  have h1 := B.s
  have h2 := B.t
  have h3 := B.d
  have hln := S.1
  refine ⟨la, i, c, ?_, ?_⟩
  · have := rd_slice_h (P := Tryz.prog) (h := h) (t := 30) (e := 35) (by kernel_rfl) (by kernel_rfl) (a := la) (n := n) (c := c) (x := (i : Int)) (by omega) (by omega)
    simpa using this
  have S' := S.take (sz := 7) (fun _ => rfl) hi
  have hfb : ∀ j, -1 ≤ farL (l.take j) ∧ farL (l.take j) ≤ 9999 := by
    intro j
    have key : ∀ (m : List EvL) (x : Int), (∀ e ∈ m, 0 ≤ e.1 ∧ e.1 ≤ 9999) → -1 ≤ x → x ≤ 9999 → -1 ≤ m.foldl (fun m e => max m e.1) x ∧ m.foldl (fun m e => max m e.1) x ≤ 9999 := by
      intro m
      induction m with
      | nil => intro x _ h1 h2; exact ⟨h1, h2⟩
      | cons e m ih =>
        intro x hm h1 h2
        have := hm e (List.mem_cons_self ..)
        exact ih (max x e.1) (fun y hy => hm y (List.mem_cons_of_mem _ hy)) (by omega) (by omega)
    exact key _ (-1) (fun e he' => he e (List.mem_of_mem_take he')) (by omega) (by omega)
  refine ⟨fun vs hh => hh = h ∧ ∃ j : Nat, vs = [vi (farL (l.take j)), vi j] ∧ j ≤ i, fun vs hh => i - (vint vs 1).toNat, ⟨rfl, 0, rfl, Nat.zero_le _⟩, ?_⟩
  rintro vs hh ⟨rfl, j, rfl, hj⟩
  refine ⟨_, _, rfl, fun e => ?_, fun e => ?_⟩
  · have hlt : j < i := by have := of_decide_eq_true e; omega
    have hx : l[j]? = some l[j] := List.getElem?_eq_getElem (by omega)
    have hx' : (l.take i)[j]? = some l[j] := by rw [List.getElem?_take_of_lt hlt, hx]
    obtain ⟨b, o, ea, hr⟩ := S'.get (sz := 7) (fun _ => rfl) (by decide) hx'
    refine ⟨b, o, ⟨ea, by omega, by omega⟩, _, _, _, _, _, _, _, by rw [Int.toNat_natCast]; exact hr, _, rd_max, _, isW (by unfold InR; omega), ⟨rfl, j + 1, ?_, by omega⟩, by simp [vint]; omega⟩
    have tk : l.take (j + 1) = l.take j ++ [l[j]] := List.take_succ_eq_append_getElem (by omega)
    unfold farL
    rw [tk, List.foldl_append]
    rfl
  · have hge : j = i := by have := of_decide_eq_false e; omega
    subst hge
    have hf := hfb j
    refine ⟨_, fun _ => isW (by unfold InR; omega), _, fun _ => isW (by unfold InR; omega), _, fun _ => isW (by unfold InR; omega), ?_⟩
    have e2 : (bif (decide ((farL (l.take j) : Int) ≥ 0)) then (decide (s + q.size + q.late ≤ farL (l.take j) - q.delay)) else false) = lateQ q (farL (l.take j)) s := by
      unfold lateQ
      by_cases h5 : 0 ≤ farL (l.take j)
      · rw [decide_eq_true (show farL (l.take j) ≥ 0 from h5)]; rfl
      · rw [decide_eq_false (show ¬ farL (l.take j) ≥ 0 from h5)]; rfl
    rw [e2]
    exact hK
end
end Go.Proofs.YtejefijpcggkfaaGreatDoor
namespace Go.Proofs.YtejefijpcggkfaaGreatDoor
open Go Go.Vc
set_option linter.unusedVariables false
structure EvOK (e : EvL) : Prop where
  t : 0 ≤ e.1 ∧ e.1 ≤ 9999
  k : goodV e.2.1 ∧ e.2.1.1 ≠ 2
  a : goodV e.2.2.1 ∧ e.2.2.1.1 ≠ 2
  b : goodV e.2.2.2 ∧ e.2.2.2.1 ≠ 2
theorem chkV_ok {v : Int × Int} (h : chkV v = 0) : goodV v ∧ v.1 ≠ 2 := by
  unfold chkV at h
  split at h
  · cases h
  · rename_i h1
    constructor
    · exact Classical.byContradiction fun q => h1 (.inl q)
    · exact fun q => h1 (.inr q)
theorem chkE_ok {e : EvL} (h : chkE e = 0) : EvOK e := by
  unfold chkE at h
  split at h
  · cases h
  · rename_i h0
    simp only [chkL] at h
    split at h
    · rename_i h1
      split at h
      · rename_i h2
        split at h
        · rename_i h3
          exact ⟨by omega, chkV_ok h1, chkV_ok h2, chkV_ok h3⟩
        · rename_i h3; exact absurd h h3
      · rename_i h2; exact absurd h h2
    · rename_i h1; exact absurd h h1
abbrev ev0 : EvL := (0, (0, 0), (0, 0), (0, 0))
theorem good_num (n : Int) : goodV (numV n) ∧ (numV n).1 ≠ 2 := by
  unfold numV goodV
  split
  · simp
  · simp; omega
theorem good_truth (b : Bool) : goodV (truthV b) := by
  unfold truthV goodV
  cases b <;> simp
theorem good_null : goodV (0, 0) := by unfold goodV; simp
theorem good_and (a b : Int × Int) : goodV (andV a b) ∧ (andV a b).1 ≠ 1 := by
  unfold andV goodV
  split
  · simp
  · split <;> simp
theorem good_not (a : Int × Int) : goodV (notV a) ∧ (notV a).1 ≠ 1 := by
  unfold notV
  split
  · exact ⟨good_truth _, by unfold truthV; simp⟩
  · exact ⟨good_null, by simp⟩
theorem good_neg (a : Int × Int) : goodV (negV a) ∧ (negV a).1 ≠ 2 := by
  unfold negV
  split
  · exact good_num _
  · exact ⟨good_null, by simp⟩
def opV (op : Int) (a b : Int × Int) : Int × Int := if op = 3 then negV a else if op = 4 then notV a else if op = 5 then truthV (decide (a.1 = 0)) else doV op a b
def outT (op : Int) : Int := if op = 5 ∨ op = 11 ∨ op = 12 then 2 else wantT op
theorem tyG_out {op : Int} {a b : Option Int} {t : Int} (h : tyG op a b = some t) : t = outT op := by
  unfold outT
  cases a with
  | none => cases b <;> cases h
  | some a =>
    cases b with
    | none => cases h
    | some b =>
      unfold tyG at h
      simp only at h
      split at h
      · rename_i h1; rw [if_pos (.inl h1)]; simpa using h.symm
      · split at h
        · cases h
        · split at h
          · rename_i h1 _ h2; rw [if_pos (.inr h2)]; simpa using h.symm
          · rename_i h1 _ h2; rw [if_neg (by omega)]; simpa using h.symm
theorem opV_good {op : Int} (ho : 3 ≤ op ∧ op ≤ 12) (a b : Int × Int) : goodV (opV op a b) ∧ ((opV op a b).1 = 0 ∨ (opV op a b).1 = outT op) := by
  have key : ∀ v : Int × Int, goodV v → v.1 = 0 ∨ v.1 = 1 ∨ v.1 = 2 := by
    intro v h
    unfold goodV at h
    omega
  unfold opV outT wantT
  split
  · rename_i h; have := good_neg a; have := key _ this.1; exact ⟨(good_neg a).1, by subst h; simp; omega⟩
  · split
    · rename_i _ h; have := good_not a; have := key _ this.1; exact ⟨(good_not a).1, by subst h; simp; omega⟩
    · split
      · rename_i _ _ h; exact ⟨good_truth _, by subst h; simp [truthV]⟩
      · unfold doV
        split
        · rename_i h; have := good_and a b; have := key _ this.1; exact ⟨(good_and a b).1, by subst h; simp; omega⟩
        · split
          · rename_i h; have := good_not (andV (notV a) (notV b)); have := key _ this.1; exact ⟨(good_not _).1, by subst h; simp; omega⟩
          · split
            · split
              · rename_i h; have := good_num (w64 (a.2 + b.2)); have := key _ this.1; exact ⟨(good_num _).1, by subst h; simp; omega⟩
              · split
                · rename_i h; have := good_num (w64 (a.2 - b.2)); have := key _ this.1; exact ⟨(good_num _).1, by subst h; simp; omega⟩
                · split
                  · rename_i h; have := good_num (w64 (a.2 * b.2)); have := key _ this.1; exact ⟨(good_num _).1, by subst h; simp; omega⟩
                  · split
                    · rename_i h; exact ⟨good_truth _, by subst h; simp [truthV]⟩
                    · split
                      · rename_i h; exact ⟨good_truth _, by subst h; simp [truthV]⟩
                      · exact ⟨good_null, .inl rfl⟩
            · exact ⟨good_null, .inl rfl⟩
theorem stepF_op (e : EvL) {n : Nd} (h1 : ¬ n.op = 1) (h2 : ¬ n.op = 2) (a b : Int × Int) : stepF e n a b = opV n.op a b := by
  unfold stepF opV
  rw [if_neg h1, if_neg h2]
theorem field_good {e : EvL} (E : EvOK e) (n : Int) : goodV (fieldV e n) ∧ (fieldV e n).1 ≠ 2 := by
  unfold fieldV
  split
  · exact good_num _
  · split
    · exact E.k
    · split
      · exact E.a
      · exact E.b
theorem nodeF_vF {n : Nd} (h : nodeF n = 0) : goodV n.v := by
  unfold nodeF at h
  split at h
  · cases h
  · split at h
    · cases h
    · split at h
      · cases h
      · split at h
        · cases h
        · rename_i hg; exact Classical.byContradiction fun q => hg q
theorem val_good {l : List Nd} (O : OkE l) {e : EvL} (E : EvOK e) {i : Nat} (hi : i < l.length) : goodV (vAt e l i) ∧ ∀ t, tAt l i = some t → (vAt e l i).1 = 0 ∨ (vAt e l i).1 = t := by
  have hx : l[i]? = some l[i] := List.getElem?_eq_getElem hi
  have W := O.wf i _ hx
  have h0 := O.n _ (List.getElem_mem hi)
  have hv : vAt e l i = _ := fAt_wf (own_stepF e) hx W
  have ht : tAt l i = _ := fAt_wf own_tyF hx W
  rw [hv, ht]
  generalize l[i] = n at *
  have ar := ar0 W.a
  by_cases h1 : n.op = 1
  · have e1 : ∀ a b, stepF e n a b = n.v := fun a b => if_pos h1
    have e2 : ∀ a b, tyF n a b = some n.v.1 := fun a b => if_pos h1
    rw [e1, e2]
    exact ⟨nodeF_vF h0, fun t ht => by cases ht; exact .inr rfl⟩
  · by_cases h2 : n.op = 2
    · have e1 : ∀ a b, stepF e n a b = fieldV e n.n := fun a b => by unfold stepF; rw [if_neg h1, if_pos h2]
      have e2 : ∀ a b, tyF n a b = some 1 := fun a b => by unfold tyF; rw [if_neg h1, if_pos h2]
      rw [e1, e2]
      have := field_good E n.n
      refine ⟨this.1, fun t ht => ?_⟩
      cases ht
      have h := this.1
      unfold goodV at h
      omega
    · rw [stepF_op e h1 h2, tyF_op h1 h2]
      have ho : 3 ≤ n.op ∧ n.op ≤ 12 := by rcases arI_range W.a with q | q | q <;> omega
      have := opV_good ho
      exact ⟨(this _ _).1, fun t ht => by rw [tyG_out ht]; exact (this _ _).2⟩
structure Rep (P : EvL → Int × Int) (T : Option Int) (k : Nat) (z : List Nd) : Prop where
  ok : OkE z
  len : z.length ≤ k
  val : ∀ e, EvOK e → valE e z = P e
  ty : ∀ t, T = some t → ∃ t', tAt z (z.length - 1) = some t' ∧ (t' = 0 ∨ t' = t)
abbrev cst (v : Int × Int) : List Nd := [⟨1, 0, 0, 0, v⟩]
end Go.Proofs.YtejefijpcggkfaaGreatDoor
namespace Go.Proofs.YtejefijpcggkfaaGreatDoor
open Go Go.Vc Go.Txt
set_option linter.unusedVariables false
def encAc (a : AcS) : List Value := encA a.1 a.2
theorem encAc_len (a : AcS) : (encAc a).length = 4 := rfl
theorem one_ac (a : AcS) : ∀ u ∈ encAc a, u.oneCell' = true := by
  intro u hu
  simp only [encAc, encA, List.mem_cons, List.not_mem_nil, or_false] at hu
  rcases hu with rfl | rfl | rfl | rfl <;> rfl
def AcB (a : AcS) : Prop := 0 ≤ a.2.1 ∧ a.2.1 ≤ 1000000000 ∧ -1000000000000000000 ≤ a.2.2.1 ∧ a.2.2.1 ≤ 1000000000000000000
theorem valsQ_small {q : Qy} (B : QOk q) {e : EvL} (E : EvOK e) : ∀ v ∈ valsQ q e, smallV v := by
  intro v hv
  unfold valsQ at hv
  obtain ⟨a, ha, rfl⟩ := List.mem_map.1 hv
  split
  · unfold smallV; decide
  · rename_i h1
    obtain ⟨O, _⟩ := exprF_ok ((B.g a ha).2.2.1 h1)
    exact (val_good O E (by have := O.pos; omega)).1.small
theorem accsOf_small {ks : List Int} {rs : List (List Vl)} (hl : ∀ r ∈ rs, r.length = ks.length) (hv : ∀ r ∈ rs, ∀ v ∈ r, smallV v) (hn : rs.length ≤ 1000000000) : ∀ a ∈ accsOf ks rs, AcB a := by
  have hcol : ∀ (rs : List (List Vl)), (∀ r ∈ rs, ∀ v ∈ r, smallV v) → ∀ c ∈ colsOf ks.length rs, c.length ≤ rs.length ∧ ∀ v ∈ c, smallV v := by
    intro rs
    induction rs using snocInd with
    | h0 =>
      intro _ c hc
      rw [List.eq_of_mem_replicate hc]
      exact ⟨Nat.le_refl _, fun v hv => by cases hv⟩
    | h1 rs r ih =>
      intro hv c hc
      have ih := ih fun x hx => hv x (List.mem_append_left _ hx)
      rw [colsOf_snoc] at hc
      unfold colP at hc
      obtain ⟨i, hi, rfl⟩ := List.mem_iff_getElem.1 hc
      rw [List.length_zipWith] at hi
      rw [List.getElem_zipWith]
      obtain ⟨h1, h2⟩ := ih _ (List.getElem_mem (by omega : i < (colsOf ks.length rs).length))
      refine ⟨by simp; omega, fun v hv2 => ?_⟩
      rcases List.mem_append.1 hv2 with h3 | h3
      · exact h2 v h3
      · rw [List.mem_singleton.1 h3]
        exact hv r (by simp) _ (List.getElem_mem _)
  intro a ha
  rw [acc_cols ks hl] at ha
  obtain ⟨i, hi, rfl⟩ := List.mem_iff_getElem.1 ha
  rw [List.length_zipWith] at hi
  rw [List.getElem_zipWith]
  obtain ⟨h1, h2⟩ := hcol rs hv _ (List.getElem_mem (by omega : i < (colsOf ks.length rs).length))
  generalize (colsOf ks.length rs)[i] = c at h1 h2
  have := gfold_bound (k := ks[i]) c (0, 0, 0) h2 (Int.le_refl _)
  unfold AcB accF
  simp only at this ⊢
  omega
theorem store_mono {h : Hp} {b o : Nat} {vs : List Value} {K K' : Hp → Prop} (H : h.store b o vs K) (hk : ∀ h', K h' → K' h') : h.store b o vs K' := by
  obtain ⟨c, e, h1, h2, h3⟩ := H
  exact ⟨c, e, h1, h2, hk _ h3⟩
theorem elAcc : ElT Tryz.prog 62 69 4 32 := .of (by kernel_rfl) (by kernel_rfl) (by decide)
theorem accP_len {acs : List AcS} {r : List Vl} (h : r.length = acs.length) : (accP acs r).length = acs.length := by unfold accP; rw [List.length_zipWith]; omega
abbrev VecA := Vec encAc 4 69
theorem batch_add_ok {q : Qy} {a1 : Option Addr} {n1 c1 : Nat} {a2 : Option Addr} {n2 c2 : Nat} {a3 : Option Addr} {n3 c3 : Nat} {h0 h : Hp} {R : Value → Hp → Prop} {e : EvL} {aa : Option Addr} {ca : Nat} {acs : List AcS} (Q : QAt h0 q a1 n1 a2 n2 a3 n3) (B : QOk q) (E : EvOK e)
    (V : VecA h0 h aa ca acs) (hk : acs.map (·.1) = kindsQ q) (hb : ∀ a ∈ acs, AcB a)
    (hK : ∀ h', VecA h0 h' aa ca (accP acs (valsQ q e)) → Beside aa h h' → R (vsl aa acs.length ca) h') : CallOK Tryz.prog 26 [vsl aa acs.length ca, qV a1 n1 c1 a2 n2 c2 a3 n3 c3 q, vag (encE e)] h R := by
  refine ok_batch_add ?_
  unfold VC_batch_add
  have hlen : acs.length = q.aggs.length := by
    have := congrArg List.length hk
    unfold kindsQ at this
    rw [List.length_map, List.length_map] at this
    exact this
  have hvl : (valsQ q e).length = acs.length := by unfold valsQ; rw [List.length_map, hlen]
  have hnl := accP_len hvl
  have hn1 : n1 = acs.length := by rw [hlen]; exact Q.g.len
  have hn4 := B.n2
  refine ⟨fun vs hh => ∃ i : Nat, vs = [vi i] ∧ i ≤ acs.length ∧ VecA h0 hh aa ca ((accP acs (valsQ q e)).take i ++ acs.drop i) ∧ Beside aa h hh, fun vs hh => acs.length - (vint vs 0).toNat, ⟨0, rfl, Nat.zero_le _, by simpa using V, Beside.refl _ _⟩, ?_⟩
  rintro vs hh ⟨i, rfl, hi, V5, F5⟩
  refine ⟨i, rfl, fun e1 => ?_, fun e1 => ?_⟩
  · have hlt : i < acs.length := by have := of_decide_eq_true e1; omega
    have hx : q.aggs[i]? = some q.aggs[i] := List.getElem?_eq_getElem (by omega)
    have hvi : (valsQ q e)[i]'(by omega) = if (q.aggs[i]'(by omega)).1 = 1 then (0, 0) else valE e (q.aggs[i]'(by omega)).2 := by unfold valsQ; rw [List.getElem_map]
    have hki : (acs[i]).1 = (q.aggs[i]'(by omega)).1 := by
      have h3 : (acs.map (·.1))[i]? = (kindsQ q)[i]? := by rw [hk]
      unfold kindsQ at h3
      rw [List.getElem?_map, List.getElem?_map, hx, List.getElem?_eq_getElem hlt] at h3
      simpa using h3
    have hsm := valsQ_small B E _ (List.getElem_mem (by omega : i < (valsQ q e).length))
    have hai := hb _ (List.getElem_mem hlt)
    have hmem := List.getElem_mem (by omega : i < q.aggs.length)
    have hni : (accP acs (valsQ q e))[i]'(by omega) = (acs[i].1, gStep acs[i].1 acs[i].2 ((valsQ q e)[i]'(by omega))) := by unfold accP; rw [List.getElem_zipWith]
    have h5 : h0.le hh := V5.le0
    -- behind the value
    have tail : ∀ (v : Int × Int) (h41 : Hp), hh.le h41 → v = (valsQ q e)[i]'(by omega) → ∃ b o, aa = some ⟨b, o, none⟩ ∧ (∃ x44 x45 x46 x47, Hp.row h41 b (o + i * 4) 4 = some [vi x44, vi x45, vi x46, vi x47] ∧ CallOK Tryz.prog 57 [vag [vi x44, vi x45, vi x46, vi x47], vag [vi v.1, vi v.2]] h41 fun v48 h49 => ∃ x50 x51 x52 x53, v48 = vag [vi x50, vi x51, vi x52, vi x53] ∧ Hp.store h49 b (o + i * 4) [vi x50, vi x51, vi x52, vi x53] fun h56 => VecA h0 h56 aa ca ((accP acs (valsQ q e)).take (i + 1) ++ acs.drop (i + 1)) ∧ Beside aa h h56) := by
      intro v h41 l41 hv
      have V41 := V5.keep0 l41
      have hxi : ((accP acs (valsQ q e)).take i ++ acs.drop i)[i]? = some acs[i] := by
        rw [List.getElem?_append_right (by rw [List.length_take]; omega), List.length_take, Nat.min_eq_left (by omega), Nat.sub_self, List.getElem?_drop, Nat.add_zero, List.getElem?_eq_getElem hlt]
      obtain ⟨b, o, ea, hr⟩ := (V41.slp encAc_len (by decide)).get encAc_len (by decide) hxi
      have hset : ((accP acs (valsQ q e)).take i ++ acs.drop i).set i ((accP acs (valsQ q e))[i]'(by omega)) = (accP acs (valsQ q e)).take (i + 1) ++ acs.drop (i + 1) := by
        rw [List.set_append_right _ _ (by rw [List.length_take]; omega), List.length_take, Nat.min_eq_left (by omega), Nat.sub_self, List.drop_eq_getElem_cons hlt, List.set_cons_zero, List.take_succ_eq_append_getElem (by omega : i < (accP acs (valsQ q e)).length), List.append_assoc]
        rfl
      refine ⟨b, o, ea, _, _, _, _, hr, ?_⟩
      rw [hv]
      refine gather_Add_ok (k := acs[i].1) (s := acs[i].2) (v := (valsQ q e)[i]'(by omega)) (by unfold AcB at hai; unfold InR; omega) (by unfold AcB at hai; unfold smallV at hsm; unfold InR; omega) ⟨_, _, _, _, rfl, ?_⟩
      obtain ⟨b', o', ea', H⟩ := V41.putF encAc_len hxi (x' := (accP acs (valsQ q e))[i]'(by omega)) (k := 0) (vs := encAc ((accP acs (valsQ q e))[i]'(by omega))) (by rw [encAc_len]; decide) (by rw [encAc_len]; decide) (by simp [setL, encAc, encA])
      rw [ea] at ea'
      cases ea'
      have := H (fun h56 => VecA h0 h56 aa ca ((accP acs (valsQ q e)).take (i + 1) ++ acs.drop (i + 1)) ∧ Beside aa h h56) (fun h' V' F' => ⟨by rw [← hset]; exact V', F5.trans ((Beside.le l41).trans F')⟩)
      rw [hni] at this
      exact this
    obtain ⟨b, o, a', c', ha, hrow, hS⟩ := (Q.g.le h5).row aggRw_len (by decide) hx
    refine ⟨b, o, ⟨ha, by omega, by omega⟩, (q.aggs[i]'(by omega)).1, a', (q.aggs[i]'(by omega)).2.length, c', by rw [Int.toNat_natCast]; exact hrow, value_Null_ok ⟨0, 0, rfl, ?_⟩⟩
    intro J
    have hJ : ∀ (v : Int × Int) (h41 : Hp), hh.le h41 → v = (valsQ q e)[i]'(by omega) → J v.1 v.2 h41 := by
      intro v h41 l41 hv
      obtain ⟨b, o, ea, x44, x45, x46, x47, hr, hc⟩ := tail v h41 l41 hv
      refine ⟨b, o, ⟨ea, by omega, by omega⟩, x44, x45, x46, x47, by rw [Int.toNat_natCast]; exact hr, hc.mono ?_⟩
      rintro v48 h49 ⟨x50, x51, x52, x53, e48, hs⟩
      refine ⟨x50, x51, x52, x53, e48, b, o, ⟨ea, by omega, by omega⟩, ?_⟩
      rw [Int.toNat_natCast]
      refine store_mono hs ?_
      rintro h56 ⟨V', F'⟩
      exact ⟨_, isW (by unfold InR; omega), ⟨i + 1, rfl, by omega, V', F'⟩, by simp [vint]; omega⟩
    clear_value J
    refine ⟨fun e2 => ?_, fun e2 => ?_⟩
    · have e2 := of_decide_eq_true e2
      refine eval_ok ((B.g _ hmem).2.2.1 e2) hS fun h' l' => ⟨_, _, rfl, hJ _ h' l' ?_⟩
      rw [hvi, if_neg e2]
    · have e2 := Decidable.not_not.1 (of_decide_eq_false e2)
      refine hJ (0, 0) hh (Hp.le_refl _) ?_
      rw [hvi, if_pos e2]
  · have hge : i = acs.length := by have := of_decide_eq_false e1; omega
    rw [hge, List.drop_length, List.append_nil, List.take_of_length_le (by omega)] at V5
    exact hK hh V5 F5
end Go.Proofs.YtejefijpcggkfaaGreatDoor
namespace Go.Vd
open Go.Vc
open Go
structure Fr (h h' : Hp) (w w' : World) : Prop where
  os : w'.os = w.os
  tape : w'.tape = w.tape
  output : w'.output = w.output
  size : w.heap.size ≤ w'.heap.size
  drawn : w.drawn ≤ w'.drawn
  keep : ∀ b, b < w.heap.size → h b = none → w'.heap[b]? = w.heap[b]? ∧ h' b = none
def CallOK (P : Program) (f : FuncId) (args : List Value) (h : Hp) (K : Value → Hp → Prop) : Prop :=
  ∀ w, Sub h w → Calls P f args.toArray w fun e w' => ∃ v h', e = .returned v ∧ Sub h' w' ∧ Fr h h' w w' ∧ K v h'
def SemOK (P : Program) (m : Sem Value) (h : Hp) (K : Value → Hp → Prop) : Prop :=
  ∀ w, Sub h w → ∃ v w' h', m.run P w = .ok v w' ∧ Sub h' w' ∧ Fr h h' w w' ∧ K v h'
def SemOKu (P : Program) (m : Sem Unit) (h : Hp) (K : Hp → Prop) : Prop :=
  ∀ w, Sub h w → ∃ w' h', m.run P w = .ok () w' ∧ Sub h' w' ∧ Fr h h' w w' ∧ K h'
def ExtOK (P : Program) (f : FuncId) (args : List Value) (h : Hp) (K : Value → Hp → Prop) : Prop :=
  ∀ w, Sub h w → ∃ v w' h', (callFunc f args.toArray).run P w = .ok (.value v) w' ∧ Sub h' w' ∧ Fr h h' w w' ∧ K v h'
def InvOK (P : Program) (fv : Value) (args : List Value) (h : Hp) (K : Value → Hp → Prop) : Prop :=
  ∃ f pre post, fv = .func (.func f) pre post ∧ (∃ fn, P.funcs[f]? = some fn ∧ (fn.name == "runtime.NumGoroutine") = false ∧ fn.body.isNone = false) ∧ CallOK P f (pre.toList ++ args ++ post.toList) h K
section
variable (P : Program)
end
def vcE (P : Program) (cfg : Cfg) (o : Oper) (ch : List (Nat × Bool)) (st : St) (h : Hp) (K : SV → List Box → Hp → Prop) : Prop :=
  match o.op with
  | .alloc T => match zeroL P T with
    | some z => newBox cfg o st h T z K
    | none => False
  | .box T x => match st.ev ch x with
    | .t w => newBox cfg o st h T w.cells K
    | _ => False
  | .buildSlice T n parts =>
    match P.underlying T, partsL st ch parts.toList with
    | some (.slice e), some ps =>
      match zeroL P e with
      | some z =>
        bif (Nat.ble 1 (szT P e) && Nat.beq z.length (szT P e) && Nat.ble (n * szT P e) 4096) then
          match fillL (fun i => some (i * szT P e, szT P e)) ((List.replicate n z).flatten) ps with
          | some cs => bif allOneT cs then ∀ b, h b = none → K (.t (.one (.v (.slice (some ⟨b, 0, none⟩) n n)))) st.b (h.set b (.cells (tvals cs).toArray e (0, 0))) else False
          | none => False
        else False
      | none => False
    | _, _ => False
  | .store T x y =>
    match st.ev ch x, st.ev ch y with
    | .bp i o, .t w =>
      match st.b[i]? with
      | some bx => bif (Nat.ble 1 (szT P T) && Nat.beq w.cells.length (szT P T) && Nat.ble (o + w.cells.length) bx.c.length && allOneT w.cells) then K .any (setAt st.b i ⟨bx.ty, setL bx.c o w.cells, bx.st + 1⟩) h else False
      | none => False
    | .t (.one (.hp b o)), .t w => bif (Nat.ble 1 (szT P T) && Nat.beq w.cells.length (szT P T) && allOneT w.cells) then h.store b o (tvals w.cells) (fun h' => K .any st.b h') else False
    | _, _ => False
  | .call { callee := .value (.func g), args := args, .. } =>
    match st.evs ch args.toList with
    | some vs =>
      match (P.funcs[g]?).map (·.body.isSome) with
      | some true => CallOK P g vs h fun v h' => res (shp P o.type) v fun x => K x st.b h'
      | some false => ExtOK P g vs h fun v h' => res (shp P o.type) v fun x => K x st.b h'
      | none => False
    | none => False
  | .call { callee := .value (.tmp t), args := args, .. } =>
    match st.evs ch args.toList, (st.ev ch (.tmp t)).val? with
    | some vs, some fv => InvOK P fv vs h fun v h' => res (shp P o.type) v fun x => K x st.b h'
    | _, _ => False
  | .call { callee := .builtin b, args := args, argTypes := ts } =>
    match st.evs ch args.toList with
    | some vs =>
      let go (m : Sem Value) : Prop := SemOK P m h fun v h' => res (shp P o.type) v fun x => K x st.b h'
      match b with
      | .append => go (Builtin.append_ ts o.type vs.toArray)
      | .copy => go (Builtin.copy_ ts o.type vs.toArray)
      | .delete => go (Builtin.delete_ ts o.type vs.toArray)
      | .clear => go (Builtin.clear_ ts o.type vs.toArray)
      | _ => False
    | none => False
  | .makeMap T none => SemOK P (Instr.makeMap T none) h fun v h' => res (shp P o.type) v fun x => K x st.b h'
  | .makeSlice T l c => match (st.ev ch l).val?, (st.ev ch c).val? with
    | some l, some c => SemOK P (Instr.makeSlice T l c) h fun v h' => res (shp P o.type) v fun x => K x st.b h'
    | _, _ => False
  | .convert src dst x => match (st.ev ch x).val? with
    | some a => SemOK P (convert src dst a) h fun v h' => res (shp P o.type) v fun x => K x st.b h'
    | none => False
  | .mapUpdate T m k x => match (st.ev ch m).val?, (st.ev ch k).val?, (st.ev ch x).val? with
    | some m, some k, some x => SemOKu P (Instr.mapUpdate T m k x) h fun h' => K .any st.b h'
    | _, _, _ => False
  | .insert T m k x => match (st.ev ch m).val?, (st.ev ch k).val?, (st.ev ch x).val? with
    | some m, some k, some x => SemOKu P (Instr.mapUpdate T m k x) h fun h' => K .any st.b h'
    | _, _, _ => False
  | .range T x => match (st.ev ch x).val? with
    | some a => SemOK P (Instr.range T a) h fun v h' => K (.t (.one (.v v))) st.b h'
    | none => False
  | .next it s => match (st.ev ch it).val? with
    | some a => SemOK P (Instr.next a s o.type) h fun v h' => res (shp P o.type) v fun x => K x st.b h'
    | none => False
  | _ => False
def vcOp (P : Program) (cfg : Cfg) (ops : Array Oper) (o : Oper) (st : St) (h : Hp) (K : St → Hp → Prop) : Prop :=
  match o.guard with
  | none =>
    bif isE P o.op then vcE P cfg o [] st h fun sv b h' => St.put ⟨st.n, st.t, st.g, b⟩ o.dst none sv fun st' => K st' h'
    else vcV P o [] (fun p => p) st h fun sv => st.put o.dst none sv fun st' => K st' h
  | some (j, p) =>
    match (ops[j]?).bind (·.dst) with
    | none => False
    | some s =>
      bif okGd st 8 s then
        bif isE P o.op then
          (bif isCall o.op then
            ∃ J : SV → Hp → Prop, (condP st 8 s p → vcE P cfg o (chain st 8 s p) st h fun sv _ h' => J sv h') ∧ (¬ condP st 8 s p → J (dfl (shp P o.type)) h) ∧
              ∀ h' : Hp, alS (shp P o.type) fun x => J x h' → st.put o.dst (some (s, p)) x fun st' => K st' h'
          else
            (condP st 8 s p → vcE P cfg o (chain st 8 s p) st h fun sv b h' => St.put ⟨st.n, st.t, st.g, b⟩ o.dst none sv fun st' => K st' h') ∧
            (¬ condP st 8 s p → st.put o.dst (some (s, p)) (dfl (shp P o.type)) fun st' => K st' h))
        else vcV P o (chain st 8 s p) (fun q => condP st 8 s p → q) st h fun sv => st.put o.dst (some (s, p)) sv fun st' => K st' h
      else False
def vcOps (P : Program) (cfg : Cfg) (ops : Array Oper) : List Oper → St → Hp → (St → Hp → Prop) → Prop
  | [], st, h, K => K st h
  | o :: l, st, h, K => vcOp P cfg ops o st h fun st' h' => vcOps P cfg ops l st' h' K
def vcD (P : Program) (cfg : Cfg) (ops : Array Oper) (ms : List Nat) : List Nat → List Fg → St → Hp → (St → Hp → Prop) → Prop
  | [], _, st, h, K => K st h
  | i :: l, fl, st, h, K =>
    match ops[i]? with
    | none => False
    | some o =>
      bif isE P o.op then
        (bif isA o.op then vcOp P cfg ops o st h fun st' h' => vcD P cfg ops ms l fl st' h' K
         else vcOp P cfg ops o st h fun st' h' => agn (ms.getD i 0) st.b st'.b h' fl (vcD P cfg ops ms l fl st' h' K))
      else vcDV P ops i o st h fl fun fl' st' => vcD P cfg ops ms l fl' st' h K
def vcC (P : Program) (cfg : Cfg) : Code → St → Hp → (Ex → St → Hp → Prop) → Prop
  | .skip, st, h, Q => Q .nrm st h
  | .region id ops draw, st, h, Q => bif draw then
      (match lookN id cfg.ord with
        | some l => bif (chkOrd P cfg ops (befM ops.toList []) [] l && allIn ops.size l) then vcD P cfg ops (befM ops.toList []) l [] st h fun st' h' => Q .nrm (endR (dstsL ops.toList) st') h' else False
        | none => False)
    else vcOps P cfg ops ops.toList st h fun st' h' => Q .nrm (endR (dstsL ops.toList) st') h'
  | .seq a b, st, h, Q => vcC P cfg a st h fun e st' h' => match e with
    | .nrm => vcC P cfg b st' h' Q
    | e => Q e st' h'
  | .cond c a b, st, h, Q => match st.ev [] c with
    | .t (.one (.v (.bool t))) => (t = true → vcC P cfg a st h Q) ∧ (t = false → vcC P cfg b st h Q)
    | _ => False
  | .block id a, st, h, Q => vcC P cfg a st h fun e st' h' => match e with
    | .ext i => bif Nat.beq i id then Q .nrm st' h' else Q (.ext i) st' h'
    | e => Q e st' h'
  | .loop a, st, h, Q =>
    match (firstR a).bind fun r => lookN r cfg.ann with
    | none => False
    | some (slots, shs, bxs) =>
      match loopVals st slots bxs, (Nat.beq shs.length slots.length && chkLens st bxs && subN slots (dstsC a)) with
      | none, _ => False
      | _, false => False
      | some vs0, true => ∃ (I : List Value → Hp → Prop) (μ : List Value → Hp → Nat), I vs0 h ∧ ∀ vs h', I vs h' → ex0L shs fun xs => exLL bxs fun ys => vs = twals xs ++ tvalsL ys ∧
          vcC P cfg a (loopSt st (dstsC a) slots bxs xs ys) h' fun e st' h'' => match e with
            | .nrm => match loopVals st' slots bxs with
              | some vs' => bif (sameB 0 st.b st'.b bxs && chkLens st' bxs) then (I vs' h'' ∧ μ vs' h'' < μ vs h') else False
              | none => False
            | e => Q e st' h''
  | .exit id, st, h, Q => Q (.ext id) st h
  | .ret, st, h, Q => Q .ret st h
  | .rangeFunc _ _ _ _, _, _, _ => False
  | _, _, _, _ => False
def vcFn (P : Program) (cfg : Cfg) (fn : Func) (args : List TW) (h : Hp) (R : Value → Hp → Prop) : Prop :=
  match fn.body with
  | none => False
  | some c => vcC P cfg c ⟨fn.ntmps, argSlots args, fun _ => false, []⟩ h fun e st' h' => match e with
    | .ext _ => False
    | _ => vcRes P st' h' fn.results.toList fun vs => match vs with
      | [v] => R v h'
      | vs => R (.tuple vs.toArray) h'
end Go.Vd
set_option linter.unusedVariables false
namespace Go.Vd
open Go.Vc
open Go
structure RelR (ρ : Nat → Option Nat) (w0 : World) (h0 : Hp) (st : St) (h : Hp) (a : Act) (w : World) : Prop where
  n : a.tmps.size = st.n
  d : MarksD a.defers w0 w h
  fr : ∀ i, (st.t i).ok ρ a.tmps (a.tmps.getD i undef)
  gd : ∀ i s p x, st.t i = .gd s p x → st.g s = true
  sub : Sub h w
  F : Fr h0 h w0 w
  box : ∀ i bx, st.b[i]? = some bx → ∃ b, ρ i = some b ∧ w.heap[b]? = some (.cells (tvals bx.c).toArray bx.ty (0, 0)) ∧ h b = none ∧ w0.heap.size ≤ b
  dom : ∀ i b, ρ i = some b → i < st.b.length
  inj : ∀ i j b, ρ i = some b → ρ j = some b → i = j
def Rel (w0 : World) (h0 : Hp) (st : St) (h : Hp) (a : Act) (w : World) : Prop := ∃ ρ, RelR ρ w0 h0 st h a w
theorem RelR.toVc {ρ : Nat → Option Nat} {w0 : World} {h0 : Hp} {st : St} {h : Hp} {a : Act} {w : World} (R : RelR ρ w0 h0 st h a w) : Vc.RelR ρ w0 h0 st h a w := ⟨R.n, R.d, R.fr, R.gd, R.sub, ⟨R.F.os, R.F.tape, R.F.output, R.F.size, R.F.keep⟩, R.box, R.dom, R.inj⟩
section
variable {ρ : Nat → Option Nat} {w0 : World} {h0 : Hp} {st : St} {h : Hp} {a : Act} {w : World}
theorem ev_ok (R : RelR ρ w0 h0 st h a w) {ch : List (Nat × Bool)} (hch : ∀ s p, (s, p) ∈ ch → a.tmps.getD s undef = .bool p) (x : Operand) : (st.ev ch x).ok ρ (a.eval x) := Vc.ev_ok R.toVc hch x
theorem val_ok (R : RelR ρ w0 h0 st h a w) {ch : List (Nat × Bool)} (hch : ∀ s p, (s, p) ∈ ch → a.tmps.getD s undef = .bool p) {x : Operand} {v : Value} (hv : (st.ev ch x).val? = some v) : a.eval x = v := Vc.val_ok R.toVc hch hv
theorem evs_ok (R : RelR ρ w0 h0 st h a w) {ch : List (Nat × Bool)} (hch : ∀ s p, (s, p) ∈ ch → a.tmps.getD s undef = .bool p) : ∀ {l : List Operand} {vs : List Value}, st.evs ch l = some vs → l.map a.eval = vs := Vc.evs_ok R.toVc hch
theorem partsL_ok (R : RelR ρ w0 h0 st h a w) {ch : List (Nat × Bool)} (hch : ∀ s p, (s, p) ∈ ch → a.tmps.getD s undef = .bool p) : ∀ {l : List (Nat × Operand)} {vs : List (Nat × TW)}, partsL st ch l = some vs → l.map (fun q => (q.1, a.eval q.2)) = vs.map (fun q => (q.1, q.2.val)) := Vc.partsL_ok R.toVc hch
end
end Go.Vd
set_option linter.unusedVariables false
namespace Go.Vd
open Go.Vc
open Go
section
variable {P : Program} {ρ : Nat → Option Nat} {w0 : World} {h0 : Hp} {st : St} {h : Hp} {a : Act} {w : World} {ch : List (Nat × Bool)} {G : Prop → Prop} {K : SV → Prop}
theorem vcV_ok (R : RelR ρ w0 h0 st h a w) (hch : ∀ s p, (s, p) ∈ ch → a.tmps.getD s undef = .bool p) (hG : ∀ p, G p → p) {o : Oper} (H : vcV P o ch G st h K) :
    ∃ sv, K sv ∧ VRun P o ρ a w sv := Vc.vcV_ok R.toVc hch hG H
end
end Go.Vd
