/-
  Laws and contracts on which the statement's proof stands, part 4. Conditions: those stated at each.
-/
import Derived.Shelf.Strings.Builder1
import Derived.Shelf.Strings.Builder2
import Derived.Shelf.Strings.OnBuilder
import Derived.Shelf.Small.Strs
import Derived.Shelf.Strings.BuilderF
import Derived.Shelf.Strings.BuilderK
import Derived.Shelf.Strings.Builder2Cap
import Derived.Shelf.Strconv.Atoi
import Derived.Shelf.Strconv.Itoa0
import Derived.Shelf.Strconv.Itoa1
import Derived.Shelf.LaysM
import Derived.Shelf.Strconv.Itoa2
import Derived.Shelf.Strconv.Itoa3
import Derived.Shelf.Strconv.AtoiErrFast
import Derived.Shelf.Strconv.ParseIntEmpty
import Derived.Shelf.Strconv.AtoiFail
import Derived.Shelf.Strconv.Clone
import Derived.Shelf.Strconv.SyntaxError
import Derived.Shelf.LaysC
import Derived.Shelf.Strconv.ToError
import Derived.Shelf.Strconv.AtoiErr
import Derived.Shelf.Strconv.ErrVar
import Derived.Shelf.Strconv.Lower
import Derived.Shelf.Strconv.ParseUint10
import Derived.Shelf.Strconv.ParseUint10Empty
import Derived.Shelf.Strconv.ParseUint10Any
import Derived.Shelf.Strconv.ParseInt10
import Derived.Shelf.Strconv.AtoiLong
import Derived.Shelf.Strconv.AtoiInnerAll
import Derived.Shelf.Strconv.RangeError
import Derived.Shelf.Strconv.ToErrorRange
import Derived.Shelf.Strconv.AtoiAll
import Derived.Shelf.Strconv.ErrVarAll
import Derived.Shelf.Strconv.ParseUintEmpty
import Derived.Shelf.Strconv.ParseUint10b64
import Derived.Shelf.Strconv.ParseUint10b32
import Derived.Shelf.Strconv.ParseUint10b16
import Derived.Shelf.Strconv.ParseUint10b8
import Derived.Shelf.Strconv.ParseUint10At
import Derived.Shelf.Strconv.ParseInt10At64
import Derived.Shelf.Strconv.ParseInt10At32
import Derived.Shelf.Strconv.ParseInt10At16
import Derived.Shelf.Strconv.ParseInt10At8
import Derived.Shelf.Strconv.ParseInt10All
import Derived.Shelf.Strings.Search1
import Derived.Shelf.Strings.BuilderCap
import Derived.Shelf.Slices.Turned
import Derived.Test.YtonlacplogbodaaGreatDoorProg
import Derived.WalkKit
import Derived.Deep.RegionWith
import Derived.Lib.ItoaNum
import Derived.Below
import Derived.Lib.AtoiErrMem
import Derived.Test.YtonlacplogbodaaGreatDoorQb3
/-
  DERIVED: THE SHELF's CONTRACTS AT THIS DUMP, IN PLAIN WORDS (tools/lay-plain.mjs out of 'TryzShelf.lean', which tools/lay-shelf.mjs wrote): THE SAME DECLARATIONS UNDER THE SAME NAMES: 'import', 'namespace', 'open', 'def', 'theorem' AND NOTHING ELSE: no command of the shelf's: FOR A HAND-IN. Each laying: the table of numbers ('.._ren') and one theorem, a field a fact of the dump's own or the kernel's comparison; each contract: ONE APPLICATION.
-/
namespace Go.Proofs
open Go.Shelf
def Tryz.lays169_ren : Go.Shelf.Ren := ⟨fun | 169 => 45 | n => n, fun | 70 => 86 | 9 => 9 | 0 => 0 | 72 => 89 | 37 => 87 | 127 => 105 | 3 => 3 | 5 => 5 | n => n, fun | n => n⟩
theorem Tryz.lays169 : Go.Proofs.Lays.n169 Tryz.prog Tryz.lays169_ren := {
  mixed := by kernel_rfl
  f169 := Tryz.func45.trans (congrArg some (by kernel_rfl))
  t0 := Tryz.underlying0
  a0 := Tryz.isAgg0
  z0 := Tryz.sizeOf0
  v0 := Tryz.zeroValue0
  t3 := Tryz.underlying3
  a3 := Tryz.isAgg3
  z3 := Tryz.sizeOf3
  v3 := Tryz.zeroValue3
  t9 := Tryz.underlying9
  a9 := Tryz.isAgg9
  z9 := Tryz.sizeOf9
  v9 := Tryz.zeroValue9
  t37 := Tryz.underlying87
  a37 := Tryz.isAgg87
  z37 := Tryz.sizeOf87
  v37 := Tryz.zeroValue87
  t70 := Tryz.underlying86
  a70 := Tryz.isAgg86
  z70 := Tryz.sizeOf86
  v70 := Tryz.zeroValue86
  t72 := Tryz.underlying89
  a72 := Tryz.isAgg89
  z72 := Tryz.sizeOf89
  v72 := Tryz.zeroValue89
  t127 := Tryz.underlying105
  a127 := Tryz.isAgg105
  z127 := Tryz.sizeOf105
  v127 := Tryz.zeroValue105 }
theorem Tryz.Builder_Extra_169 : Builder.Extra Tryz.prog Tryz.lays169_ren := {
  sizeBuilder := by kernel_rfl
  liesBuilder := by kernel_rfl
  t5 := Tryz.underlying5
  a5 := Tryz.isAgg5
  z5 := Tryz.sizeOf5
  v5 := Tryz.zeroValue5
  infoByte := by kernel_rfl
  cellsByte := by kernel_rfl
  sizeByte := by kernel_rfl
  neB5 := by decide }
open Go.RowKit in
/-- (*strings.Builder).String: "String returns the accumulated string.": OF A BUILDER THAT HOLDS AT LEAST ONE BYTE. ✋ THE MODEL FREEZES THOSE BYTES IN THE BUFFER (unsafe.String): a later write INTO them ends the model's run without an answer; a later append BEHIND them goes on. The statement's order of evaluation is drawn: one draw. (LAID: no walk: one application.) -/
theorem Tryz.Builder_String (B b : Nat) (l : List UInt8) (w : World) (h : Lib.IsBuilder 89 5 B b (Lib.byteCells l) w) (h0 : l ≠ []) :
    Calls Tryz.prog 45 #[.pointer (some ⟨b, 0, none⟩)] w fun e w' => e = .returned (.string ⟨l.toArray⟩) ∧ Below B w w' := Any.Builder_String Tryz.lays169 Tryz.Builder_Extra_169 B b l w h h0
open Go.RowKit in
/-- (*strings.Builder).String OF A BUILDER THAT HOLDS NO BYTE: the empty string. (Its buffer is nil, or a row of which it has taken nothing yet; where that row has NO capacity the model lays one new block for unsafe.SliceData's 'some address'.) One draw. (LAID: no walk: one application.) -/
theorem Tryz.Builder_String_empty (B b : Nat) (w : World) (h : Lib.IsBuilder 89 5 B b [] w) (hBw : B ≤ w.heap.size) :
    Calls Tryz.prog 45 #[.pointer (some ⟨b, 0, none⟩)] w fun e w' => e = .returned (.string ⟨#[]⟩) ∧ Below B w w' := Any.Builder_String_empty Tryz.lays169 Tryz.Builder_Extra_169 B b w h hBw
open Go.RowKit in
/-- (*strings.Builder).String: "String returns the accumulated string.": WHATEVER THE BUILDER HOLDS. (LAID: no walk: one application.) -/
theorem Tryz.Builder_String_any (B b : Nat) (l : List UInt8) (w : World) (h : Lib.IsBuilder 89 5 B b (Lib.byteCells l) w) (hBw : B ≤ w.heap.size) :
    Calls Tryz.prog 45 #[.pointer (some ⟨b, 0, none⟩)] w fun e w' => e = .returned (.string ⟨l.toArray⟩) ∧ Below B w w' := Any.Builder_String_any Tryz.lays169 Tryz.Builder_Extra_169 B b l w h hBw
def Tryz.lays241_ren : Go.Shelf.Ren := ⟨fun | 241 => 70 | 277 => 81 | n => n, fun | 70 => 86 | 3 => 3 | 0 => 0 | 72 => 89 | 37 => 87 | 5 => 5 | n => n, fun | n => n⟩
theorem Tryz.lays241 : Go.Proofs.Lays.n241 Tryz.prog Tryz.lays241_ren := {
  mixed := by kernel_rfl
  f241 := Tryz.func70.trans (congrArg some (by kernel_rfl))
  f277 := Tryz.func81.trans (congrArg some (by kernel_rfl))
  t0 := Tryz.underlying0
  a0 := Tryz.isAgg0
  z0 := Tryz.sizeOf0
  v0 := Tryz.zeroValue0
  t3 := Tryz.underlying3
  a3 := Tryz.isAgg3
  z3 := Tryz.sizeOf3
  v3 := Tryz.zeroValue3
  t37 := Tryz.underlying87
  a37 := Tryz.isAgg87
  z37 := Tryz.sizeOf87
  v37 := Tryz.zeroValue87
  t70 := Tryz.underlying86
  a70 := Tryz.isAgg86
  z70 := Tryz.sizeOf86
  v70 := Tryz.zeroValue86
  t72 := Tryz.underlying89
  a72 := Tryz.isAgg89
  z72 := Tryz.sizeOf89
  v72 := Tryz.zeroValue89 }
theorem Tryz.Builder_Extra_241 : Builder.Extra Tryz.prog Tryz.lays241_ren := {
  sizeBuilder := by kernel_rfl
  liesBuilder := by kernel_rfl
  t5 := Tryz.underlying5
  a5 := Tryz.isAgg5
  z5 := Tryz.sizeOf5
  v5 := Tryz.zeroValue5
  infoByte := by kernel_rfl
  cellsByte := by kernel_rfl
  sizeByte := by kernel_rfl
  neB5 := by decide }
open Go.RowKit in
/-- (*strings.Builder).grow (no doc but "grow copies the buffer to a new, larger buffer so that there are at least n bytes of capacity beyond len(b.buf)."): AT A BUILDER WITHOUT A BUFFER: a new row of whatever bytes for its buffer, none of them its own yet. Three draws. (LAID: no walk: one application.) -/
theorem Tryz.Builder_grow_fresh (B b n : Nat) (w : World) (hB : B ≤ b) (hbk : w.heap[b]? = some (.cells #[.pointer (some ⟨b, 0, none⟩), .slice none 0 0] 89 (0, 0))) (hBw : B ≤ w.heap.size) (hn : n ≤ 281474976710656) :
    Calls Tryz.prog 70 #[.pointer (some ⟨b, 0, none⟩), .int .i64 n] w fun e w' => e = .returned (.tuple #[]) ∧ (Lib.BuilderAt 89 5 B b (.pointer (some ⟨b, 0, none⟩)) [] w' ∧ Below B w w') := Any.Builder_grow_fresh Tryz.lays241 Tryz.Builder_Extra_241 B b n w hB hbk hBw hn
def Tryz.lays165_ren : Go.Shelf.Ren := ⟨fun | 165 => 43 | 240 => 69 | 241 => 70 | 276 => 80 | 277 => 81 | n => n, fun | 70 => 86 | 3 => 3 | 0 => 0 | 4 => 4 | 9 => 9 | 20 => 20 | 72 => 89 | 37 => 87 | 164 => 113 | 5 => 5 | n => n, fun | n => n⟩
theorem Tryz.lays165 : Go.Proofs.Lays.n165 Tryz.prog Tryz.lays165_ren := {
  mixed := by kernel_rfl
  f165 := Tryz.func43.trans (congrArg some (by kernel_rfl))
  f240 := Tryz.func69.trans (congrArg some (by kernel_rfl))
  f241 := Tryz.func70.trans (congrArg some (by kernel_rfl))
  f276 := Tryz.func80.trans (congrArg some (by kernel_rfl))
  f277 := Tryz.func81.trans (congrArg some (by kernel_rfl))
  t0 := Tryz.underlying0
  a0 := Tryz.isAgg0
  z0 := Tryz.sizeOf0
  v0 := Tryz.zeroValue0
  t3 := Tryz.underlying3
  a3 := Tryz.isAgg3
  z3 := Tryz.sizeOf3
  v3 := Tryz.zeroValue3
  t4 := Tryz.underlying4
  a4 := Tryz.isAgg4
  z4 := Tryz.sizeOf4
  v4 := Tryz.zeroValue4
  t9 := Tryz.underlying9
  a9 := Tryz.isAgg9
  z9 := Tryz.sizeOf9
  v9 := Tryz.zeroValue9
  t20 := Tryz.underlying20
  a20 := Tryz.isAgg20
  z20 := Tryz.sizeOf20
  v20 := Tryz.zeroValue20
  t37 := Tryz.underlying87
  a37 := Tryz.isAgg87
  z37 := Tryz.sizeOf87
  v37 := Tryz.zeroValue87
  t70 := Tryz.underlying86
  a70 := Tryz.isAgg86
  z70 := Tryz.sizeOf86
  v70 := Tryz.zeroValue86
  t72 := Tryz.underlying89
  a72 := Tryz.isAgg89
  z72 := Tryz.sizeOf89
  v72 := Tryz.zeroValue89
  t164 := Tryz.underlying113
  a164 := Tryz.isAgg113
  z164 := Tryz.sizeOf113
  v164 := Tryz.zeroValue113 }
theorem Tryz.Builder_Extra_165 : Builder.Extra Tryz.prog Tryz.lays165_ren := {
  sizeBuilder := by kernel_rfl
  liesBuilder := by kernel_rfl
  t5 := Tryz.underlying5
  a5 := Tryz.isAgg5
  z5 := Tryz.sizeOf5
  v5 := Tryz.zeroValue5
  infoByte := by kernel_rfl
  cellsByte := by kernel_rfl
  sizeByte := by kernel_rfl
  neB5 := by decide }
open Go.RowKit in
/-- (*strings.Builder).Grow AT A BUILDER THAT HAS NOT BEEN WRITTEN ('var b strings.Builder; b.Grow(n)'): "Grow grows b's capacity, if necessary, to guarantee space for another n bytes.": it holds no byte behind it as before it. (LAID: no walk: one application.) -/
theorem Tryz.Builder_Grow_fresh (B b n : Nat) (w : World) (hB : B ≤ b) (hbk : w.heap[b]? = some (.cells #[.pointer none, .slice none 0 0] 89 (0, 0))) (hBw : B ≤ w.heap.size) (hn : n ≤ 281474976710656) :
    Calls Tryz.prog 43 #[.pointer (some ⟨b, 0, none⟩), .int .i64 n] w fun e w' => e = .returned (.tuple #[]) ∧ (Lib.BuilderAt 89 5 B b (.pointer (some ⟨b, 0, none⟩)) [] w' ∧ Below B w w') := Any.Builder_Grow_fresh Tryz.lays165 Tryz.Builder_Extra_165 B b n w hB hbk hBw hn
def Tryz.lays156_ren : Go.Shelf.Ren := ⟨fun | 156 => 19 | 165 => 43 | 166 => 44 | 169 => 45 | 240 => 69 | 241 => 70 | 276 => 80 | 277 => 81 | n => n, fun | 31 => 47 | 9 => 9 | 3 => 3 | 4 => 4 | 0 => 0 | 20 => 20 | 72 => 89 | 76 => 77 | 70 => 86 | 37 => 87 | 75 => 31 | 127 => 105 | 164 => 113 | 5 => 5 | 80 => 91 | n => n, fun | n => n⟩
theorem Tryz.lays156 : Go.Proofs.Lays.n156 Tryz.prog Tryz.lays156_ren := {
  mixed := by kernel_rfl
  f156 := Tryz.func19.trans (congrArg some (by kernel_rfl))
  f165 := Tryz.func43.trans (congrArg some (by kernel_rfl))
  f166 := Tryz.func44.trans (congrArg some (by kernel_rfl))
  f169 := Tryz.func45.trans (congrArg some (by kernel_rfl))
  f240 := Tryz.func69.trans (congrArg some (by kernel_rfl))
  f241 := Tryz.func70.trans (congrArg some (by kernel_rfl))
  f276 := Tryz.func80.trans (congrArg some (by kernel_rfl))
  f277 := Tryz.func81.trans (congrArg some (by kernel_rfl))
  t0 := Tryz.underlying0
  a0 := Tryz.isAgg0
  z0 := Tryz.sizeOf0
  v0 := Tryz.zeroValue0
  t3 := Tryz.underlying3
  a3 := Tryz.isAgg3
  z3 := Tryz.sizeOf3
  v3 := Tryz.zeroValue3
  t4 := Tryz.underlying4
  a4 := Tryz.isAgg4
  z4 := Tryz.sizeOf4
  v4 := Tryz.zeroValue4
  t9 := Tryz.underlying9
  a9 := Tryz.isAgg9
  z9 := Tryz.sizeOf9
  v9 := Tryz.zeroValue9
  t20 := Tryz.underlying20
  a20 := Tryz.isAgg20
  z20 := Tryz.sizeOf20
  v20 := Tryz.zeroValue20
  t31 := Tryz.underlying47
  a31 := Tryz.isAgg47
  z31 := Tryz.sizeOf47
  v31 := Tryz.zeroValue47
  t37 := Tryz.underlying87
  a37 := Tryz.isAgg87
  z37 := Tryz.sizeOf87
  v37 := Tryz.zeroValue87
  t70 := Tryz.underlying86
  a70 := Tryz.isAgg86
  z70 := Tryz.sizeOf86
  v70 := Tryz.zeroValue86
  t72 := Tryz.underlying89
  a72 := Tryz.isAgg89
  z72 := Tryz.sizeOf89
  v72 := Tryz.zeroValue89
  t75 := Tryz.underlying31
  a75 := Tryz.isAgg31
  z75 := Tryz.sizeOf31
  v75 := Tryz.zeroValue31
  t76 := Tryz.underlying77
  a76 := Tryz.isAgg77
  z76 := Tryz.sizeOf77
  v76 := Tryz.zeroValue77
  t127 := Tryz.underlying105
  a127 := Tryz.isAgg105
  z127 := Tryz.sizeOf105
  v127 := Tryz.zeroValue105
  t164 := Tryz.underlying113
  a164 := Tryz.isAgg113
  z164 := Tryz.sizeOf113
  v164 := Tryz.zeroValue113 }
theorem Tryz.Builder_Extra_156 : Builder.Extra Tryz.prog Tryz.lays156_ren := {
  sizeBuilder := by kernel_rfl
  liesBuilder := by kernel_rfl
  t5 := Tryz.underlying5
  a5 := Tryz.isAgg5
  z5 := Tryz.sizeOf5
  v5 := Tryz.zeroValue5
  infoByte := by kernel_rfl
  cellsByte := by kernel_rfl
  sizeByte := by kernel_rfl
  neB5 := by decide }
open Go.RowKit in
/-- No element: the empty string; the world is as it was. (Whatever the slice's address and capacity: a nil slice too.) (LAID: no walk: one application.) -/
theorem Tryz.strings_Join_none (a : Option Addr) (c : Nat) (sep : ByteArray) (w : World) :
    Calls Tryz.prog 19 #[.slice a 0 c, .string sep] w fun e w' => e = .returned (.string ⟨#[]⟩) ∧ w' = w := Any.strings_Join_none Tryz.lays156 Tryz.Builder_Extra_156 a c sep w
open Go.RowKit in
/-- strings.Join: "Join concatenates the elements of its first argument to create a single string. The separator string sep is placed between elements in the resulting string.": HOWEVER MANY ELEMENTS. Below the heap's end the world is as it was. (LAID: no walk: one application.) -/
theorem Tryz.strings_Join (bk o c : Nat) (xs : List ByteArray) (sep : ByteArray) (w : World) (hcells : ∀ (j : Nat) x, xs[j]? = some x → w.cell? ⟨bk, o + j, none⟩ = some (.string x)) (hbk : bk < w.heap.size) (hN : xs.length ≤ 140737488355328) (hcap : xs.length ≤ c) (hlen : (Lib.join (xs.map (·.data.toList)) sep.data.toList).length ≤ 140737488355328) :
    Calls Tryz.prog 19 #[.slice (some ⟨bk, o, none⟩) xs.length c, .string sep] w fun e w' => e = .returned (.string ⟨(Lib.join (xs.map (·.data.toList)) sep.data.toList).toArray⟩) ∧ Below w.heap.size w w' := Any.strings_Join Tryz.lays156 Tryz.Builder_Extra_156 bk o c xs sep w hcells hbk hN hcap hlen
def Tryz.lays137_ren : Go.Shelf.Ren := ⟨fun | 137 => 72 | 217 => 86 | 266 => 102 | n => n, fun | 9 => 9 | 5 => 5 | 3 => 3 | n => n, fun | n => n⟩
theorem Tryz.lays137 : Go.Proofs.Lays.n137 Tryz.prog Tryz.lays137_ren := {
  mixed := by kernel_rfl
  f137 := Tryz.func72.trans (congrArg some (by kernel_rfl))
  f217 := Tryz.func86.trans (congrArg some (by kernel_rfl))
  f266 := Tryz.func102.trans (congrArg some (by kernel_rfl))
  t3 := Tryz.underlying3
  a3 := Tryz.isAgg3
  z3 := Tryz.sizeOf3
  v3 := Tryz.zeroValue3
  t5 := Tryz.underlying5
  a5 := Tryz.isAgg5
  z5 := Tryz.sizeOf5
  v5 := Tryz.zeroValue5
  t9 := Tryz.underlying9
  a9 := Tryz.isAgg9
  z9 := Tryz.sizeOf9
  v9 := Tryz.zeroValue9 }
open Go.RowKit in
/-- strings.IndexByte: "IndexByte returns the index of the first instance of c in s, or -1 if c is not present in s.": IT RETURNS 'Lib.indexByte s c'; the world is as it was. (LAID: no walk: one application.) -/
theorem Tryz.strings_IndexByte (s : ByteArray) (c : Int) (w : World) :
    Calls Tryz.prog 72 #[.string s, .int .u8 c] w fun e w' => e = .returned (.int .i64 (Lib.indexByte s.data.toList c.toNat.toUInt8)) ∧ w' = w := Any.strings_IndexByte Tryz.lays137 s c w
open Go.RowKit in
/-- (*strings.Builder).String: "String returns the accumulated string.": OF A BUILDER THAT HOLDS AT LEAST ONE BYTE. ✋ THE MODEL FREEZES THOSE BYTES IN THE BUFFER (unsafe.String): a later write INTO them ends the model's run without an answer; a later append BEHIND them goes on. The statement's order of evaluation is drawn: one draw. THE FORM '_f': IT SAYS BESIDES THAT THE BUILDER IS A BUILDER STILL ('Lib.IsBuilderF', the same bytes): SO IT CAN BE WRITTEN ON: 'b.WriteString(b.String()[:k])'. (LAID: no walk: one application.) -/
theorem Tryz.Builder_String_f (B b : Nat) (l : List UInt8) (w : World) (h : Lib.IsBuilderF 89 5 B b (Lib.byteCells l) w) (h0 : l ≠ []) :
    Calls Tryz.prog 45 #[.pointer (some ⟨b, 0, none⟩)] w fun e w' => e = .returned (.string ⟨l.toArray⟩) ∧ (Lib.IsBuilderF 89 5 B b (Lib.byteCells l) w' ∧ Below B w w') := Any.Builder_String_f Tryz.lays169 Tryz.Builder_Extra_169 B b l w h h0
open Go.RowKit in
/-- (*strings.Builder).String OF A BUILDER THAT HOLDS NO BYTE: the empty string; THE FORM '_f': a builder still. (LAID: no walk: one application.) -/
theorem Tryz.Builder_String_empty_f (B b : Nat) (w : World) (h : Lib.IsBuilderF 89 5 B b [] w) (hBw : B ≤ w.heap.size) :
    Calls Tryz.prog 45 #[.pointer (some ⟨b, 0, none⟩)] w fun e w' => e = .returned (.string ⟨#[]⟩) ∧ (Lib.IsBuilderF 89 5 B b [] w' ∧ Below B w w') := Any.Builder_String_empty_f Tryz.lays169 Tryz.Builder_Extra_169 B b w h hBw
open Go.RowKit in
/-- (*strings.Builder).String: "String returns the accumulated string.": WHATEVER THE BUILDER HOLDS; THE FORM '_f': OF A BUILDER THAT MAY HAVE BEEN READ BEFORE; AND IT IS A BUILDER STILL, holding the same bytes: it can be written on. (LAID: no walk: one application.) -/
theorem Tryz.Builder_String_any_f (B b : Nat) (l : List UInt8) (w : World) (h : Lib.IsBuilderF 89 5 B b (Lib.byteCells l) w) (hBw : B ≤ w.heap.size) :
    Calls Tryz.prog 45 #[.pointer (some ⟨b, 0, none⟩)] w fun e w' => e = .returned (.string ⟨l.toArray⟩) ∧ (Lib.IsBuilderF 89 5 B b (Lib.byteCells l) w' ∧ Below B w w') := Any.Builder_String_any_f Tryz.lays169 Tryz.Builder_Extra_169 B b l w h hBw
open Go.RowKit in
/-- (*strings.Builder).String: "String returns the accumulated string.": OF A BUILDER THAT HOLDS AT LEAST ONE BYTE. ✋ THE MODEL FREEZES THOSE BYTES IN THE BUFFER (unsafe.String): a later write INTO them ends the model's run without an answer; a later append BEHIND them goes on. The statement's order of evaluation is drawn: one draw. THE FORM '_k': OVER 'Lib.IsBuilderF' (a builder that 'String()' may have read), AND WITH THE FRAME THAT REACHES ABOVE THE BUILDER: 'Lib.OthersKept': every block that is not b and is no row of uint8's stands as it stood: the iterator of a range among them. (LAID: no walk: one application.) -/
theorem Tryz.Builder_String_k (B b : Nat) (l : List UInt8) (w : World) (h : Lib.IsBuilderF 89 5 B b (Lib.byteCells l) w) (h0 : l ≠ []) :
    Calls Tryz.prog 45 #[.pointer (some ⟨b, 0, none⟩)] w fun e w' => e = .returned (.string ⟨l.toArray⟩) ∧ (Lib.IsBuilderF 89 5 B b (Lib.byteCells l) w' ∧ Below B w w' ∧ Lib.OthersKept 5 (some b) w w') := Any.Builder_String_k Tryz.lays169 Tryz.Builder_Extra_169 B b l w h h0
open Go.RowKit in
/-- (*strings.Builder).String OF A BUILDER THAT HOLDS NO BYTE: the empty string; THE FORM '_k': OVER 'Lib.IsBuilderF' (a builder that 'String()' may have read), AND WITH THE FRAME THAT REACHES ABOVE THE BUILDER: 'Lib.OthersKept': every block that is not b and is no row of uint8's stands as it stood: the iterator of a range among them. (LAID: no walk: one application.) -/
theorem Tryz.Builder_String_empty_k (B b : Nat) (w : World) (h : Lib.IsBuilderF 89 5 B b [] w) (hBw : B ≤ w.heap.size) :
    Calls Tryz.prog 45 #[.pointer (some ⟨b, 0, none⟩)] w fun e w' => e = .returned (.string ⟨#[]⟩) ∧ (Lib.IsBuilderF 89 5 B b [] w' ∧ Below B w w' ∧ Lib.OthersKept 5 (some b) w w') := Any.Builder_String_empty_k Tryz.lays169 Tryz.Builder_Extra_169 B b w h hBw
open Go.RowKit in
/-- (*strings.Builder).String: "String returns the accumulated string.": WHATEVER THE BUILDER HOLDS; THE FORM '_k': OVER 'Lib.IsBuilderF' (a builder that 'String()' may have read), AND WITH THE FRAME THAT REACHES ABOVE THE BUILDER: 'Lib.OthersKept': every block that is not b and is no row of uint8's stands as it stood: the iterator of a range among them. (LAID: no walk: one application.) -/
theorem Tryz.Builder_String_any_k (B b : Nat) (l : List UInt8) (w : World) (h : Lib.IsBuilderF 89 5 B b (Lib.byteCells l) w) (hBw : B ≤ w.heap.size) :
    Calls Tryz.prog 45 #[.pointer (some ⟨b, 0, none⟩)] w fun e w' => e = .returned (.string ⟨l.toArray⟩) ∧ (Lib.IsBuilderF 89 5 B b (Lib.byteCells l) w' ∧ Below B w w' ∧ Lib.OthersKept 5 (some b) w w') := Any.Builder_String_any_k Tryz.lays169 Tryz.Builder_Extra_169 B b l w h hBw
open Go.RowKit in
/-- (*strings.Builder).grow (no doc but "grow copies the buffer to a new, larger buffer so that there are at least n bytes of capacity beyond len(b.buf)."): AT A BUILDER WITHOUT A BUFFER: a new row of whatever bytes for its buffer, none of them its own yet. Three draws. (LAID: no walk: one application.) -/
theorem Tryz.Builder_grow_fresh_cap (B b n : Nat) (w : World) (hB : B ≤ b) (hbk : w.heap[b]? = some (.cells #[.pointer (some ⟨b, 0, none⟩), .slice none 0 0] 89 (0, 0))) (hBw : B ≤ w.heap.size) (hn : n ≤ 281474976710656) :
    Calls Tryz.prog 70 #[.pointer (some ⟨b, 0, none⟩), .int .i64 n] w fun e w' => e = .returned (.tuple #[]) ∧ (Lib.BuilderAt 89 5 B b (.pointer (some ⟨b, 0, none⟩)) [] w' ∧ Below B w w') ∧ ∃ p cap, w'.cell? ⟨b, 1, none⟩ = some (.slice p 0 cap) ∧ n ≤ cap := Any.Builder_grow_fresh_cap Tryz.lays241 Tryz.Builder_Extra_241 B b n w hB hbk hBw hn
open Go.RowKit in
/-- (*strings.Builder).Grow AT A BUILDER THAT HAS NOT BEEN WRITTEN ('var b strings.Builder; b.Grow(n)'): "Grow grows b's capacity, if necessary, to guarantee space for another n bytes.": it holds no byte behind it as before it. (LAID: no walk: one application.) -/
theorem Tryz.Builder_Grow_fresh_cap (B b n : Nat) (w : World) (hB : B ≤ b) (hbk : w.heap[b]? = some (.cells #[.pointer none, .slice none 0 0] 89 (0, 0))) (hBw : B ≤ w.heap.size) (hn : n ≤ 281474976710656) :
    Calls Tryz.prog 43 #[.pointer (some ⟨b, 0, none⟩), .int .i64 n] w fun e w' => e = .returned (.tuple #[]) ∧ (Lib.BuilderAt 89 5 B b (.pointer (some ⟨b, 0, none⟩)) [] w' ∧ Below B w w') ∧ ∃ p cap, w'.cell? ⟨b, 1, none⟩ = some (.slice p 0 cap) ∧ n ≤ cap := Any.Builder_Grow_fresh_cap Tryz.lays165 Tryz.Builder_Extra_165 B b n w hB hbk hBw hn
def Tryz.lays244_ren : Go.Shelf.Ren := ⟨fun | 244 => 75 | 247 => 91 | 287 => 105 | 321 => 111 | 322 => 112 | n => n, fun | 9 => 9 | 3 => 3 | 75 => 31 | 4 => 4 | 5 => 5 | 167 => 124 | 37 => 87 | 0 => 0 | 85 => 125 | 2 => 2 | 53 => 117 | 175 => 139 | 46 => 136 | 21 => 21 | 80 => 91 | n => n, fun | n => n⟩
theorem Tryz.lays244 : Go.Proofs.Lays.n244 Tryz.prog Tryz.lays244_ren := {
  mixed := by kernel_rfl
  f244 := Tryz.func75.trans (congrArg some (by kernel_rfl))
  f247 := Tryz.func91.trans (congrArg some (by kernel_rfl))
  f287 := Tryz.func105.trans (congrArg some (by kernel_rfl))
  f321 := Tryz.func111.trans (congrArg some (by kernel_rfl))
  f322 := Tryz.func112.trans (congrArg some (by kernel_rfl))
  t0 := Tryz.underlying0
  a0 := Tryz.isAgg0
  z0 := Tryz.sizeOf0
  v0 := Tryz.zeroValue0
  t2 := Tryz.underlying2
  a2 := Tryz.isAgg2
  z2 := Tryz.sizeOf2
  v2 := Tryz.zeroValue2
  t3 := Tryz.underlying3
  a3 := Tryz.isAgg3
  z3 := Tryz.sizeOf3
  v3 := Tryz.zeroValue3
  t4 := Tryz.underlying4
  a4 := Tryz.isAgg4
  z4 := Tryz.sizeOf4
  v4 := Tryz.zeroValue4
  t5 := Tryz.underlying5
  a5 := Tryz.isAgg5
  z5 := Tryz.sizeOf5
  v5 := Tryz.zeroValue5
  t9 := Tryz.underlying9
  a9 := Tryz.isAgg9
  z9 := Tryz.sizeOf9
  v9 := Tryz.zeroValue9
  t21 := Tryz.underlying21
  a21 := Tryz.isAgg21
  z21 := Tryz.sizeOf21
  v21 := Tryz.zeroValue21
  t37 := Tryz.underlying87
  a37 := Tryz.isAgg87
  z37 := Tryz.sizeOf87
  v37 := Tryz.zeroValue87
  t46 := Tryz.underlying136
  a46 := Tryz.isAgg136
  z46 := Tryz.sizeOf136
  v46 := Tryz.zeroValue136
  t53 := Tryz.underlying117
  a53 := Tryz.isAgg117
  z53 := Tryz.sizeOf117
  v53 := Tryz.zeroValue117
  t75 := Tryz.underlying31
  a75 := Tryz.isAgg31
  z75 := Tryz.sizeOf31
  v75 := Tryz.zeroValue31
  t85 := Tryz.underlying125
  a85 := Tryz.isAgg125
  z85 := Tryz.sizeOf125
  v85 := Tryz.zeroValue125
  t167 := Tryz.underlying124
  a167 := Tryz.isAgg124
  z167 := Tryz.sizeOf124
  v167 := Tryz.zeroValue124
  t175 := Tryz.underlying139
  a175 := Tryz.isAgg139
  z175 := Tryz.sizeOf139
  v175 := Tryz.zeroValue139 }
open Go.RowKit in
/-- internal/strconv.Atoi, at a decimal numeral of at most 18 bytes: ITS VALUE, AND NO ERROR. The world behind the call: the one new row that '[]byte(s)' lays. (LAID: no walk: one application.) -/
theorem Tryz.internal_strconv_Atoi (s : ByteArray) (n : Int) (hl : s.size ≤ 18) (h : Lib.atoi s.data.toList = some n) (w : World) :
    Calls Tryz.prog 75 #[.string s] w fun e w' => e = .returned (.tuple #[.int .i64 n, .nilIface]) ∧ ∃ t, w' = Lib.bytesWorld w 5 t := Any.internal_strconv_Atoi Tryz.lays244 s n hl h w
def Tryz.lays172_ren : Go.Shelf.Ren := ⟨fun | 172 => 55 | 244 => 75 | 245 => 76 | 247 => 91 | 279 => 92 | 280 => 93 | 281 => 94 | 282 => 95 | 287 => 105 | 316 => 106 | 171 => 20 | 205 => 107 | 321 => 111 | 322 => 112 | 243 => 46 | 246 => 71 | 283 => 82 | 284 => 83 | 285 => 84 | 286 => 85 | 129 => 98 | 317 => 97 | 318 => 99 | 319 => 100 | 320 => 101 | 337 => 108 | 338 => 109 | n => n, fun | 9 => 9 | 3 => 3 | 75 => 31 | 76 => 77 | 4 => 4 | 5 => 5 | 167 => 124 | 37 => 87 | 0 => 0 | 85 => 125 | 2 => 2 | 168 => 127 | 53 => 117 | 175 => 139 | 46 => 136 | 210 => 143 | 127 => 105 | 145 => 148 | 143 => 146 | 21 => 21 | 171 => 116 | 173 => 120 | 212 => 132 | 51 => 133 | 20 => 20 | 213 => 134 | 232 => 149 | 233 => 150 | 80 => 91 | n => n, fun | 15 => 4 | 16 => 5 | 17 => 3 | 18 => 6 | 19 => 7 | n => n⟩
theorem Tryz.lays172 : Go.Proofs.Lays.n172 Tryz.prog Tryz.lays172_ren := {
  mixed := by kernel_rfl
  f129 := Tryz.func98.trans (congrArg some (by kernel_rfl))
  f171 := Tryz.func20.trans (congrArg some (by kernel_rfl))
  f172 := Tryz.func55.trans (congrArg some (by kernel_rfl))
  f205 := Tryz.func107.trans (congrArg some (by kernel_rfl))
  f243 := Tryz.func46.trans (congrArg some (by kernel_rfl))
  f244 := Tryz.func75.trans (congrArg some (by kernel_rfl))
  f245 := Tryz.func76.trans (congrArg some (by kernel_rfl))
  f246 := Tryz.func71.trans (congrArg some (by kernel_rfl))
  f247 := Tryz.func91.trans (congrArg some (by kernel_rfl))
  f279 := Tryz.func92.trans (congrArg some (by kernel_rfl))
  f280 := Tryz.func93.trans (congrArg some (by kernel_rfl))
  f281 := Tryz.func94.trans (congrArg some (by kernel_rfl))
  f282 := Tryz.func95.trans (congrArg some (by kernel_rfl))
  f283 := Tryz.func82.trans (congrArg some (by kernel_rfl))
  f284 := Tryz.func83.trans (congrArg some (by kernel_rfl))
  f285 := Tryz.func84.trans (congrArg some (by kernel_rfl))
  f286 := Tryz.func85.trans (congrArg some (by kernel_rfl))
  f287 := Tryz.func105.trans (congrArg some (by kernel_rfl))
  f316 := Tryz.func106.trans (congrArg some (by kernel_rfl))
  f317 := Tryz.func97.trans (congrArg some (by kernel_rfl))
  f318 := Tryz.func99.trans (congrArg some (by kernel_rfl))
  f319 := Tryz.func100.trans (congrArg some (by kernel_rfl))
  f320 := Tryz.func101.trans (congrArg some (by kernel_rfl))
  f321 := Tryz.func111.trans (congrArg some (by kernel_rfl))
  f322 := Tryz.func112.trans (congrArg some (by kernel_rfl))
  f337 := Tryz.func108.trans (congrArg some (by kernel_rfl))
  f338 := Tryz.func109.trans (congrArg some (by kernel_rfl))
  t0 := Tryz.underlying0
  a0 := Tryz.isAgg0
  z0 := Tryz.sizeOf0
  v0 := Tryz.zeroValue0
  t2 := Tryz.underlying2
  a2 := Tryz.isAgg2
  z2 := Tryz.sizeOf2
  v2 := Tryz.zeroValue2
  t3 := Tryz.underlying3
  a3 := Tryz.isAgg3
  z3 := Tryz.sizeOf3
  v3 := Tryz.zeroValue3
  t4 := Tryz.underlying4
  a4 := Tryz.isAgg4
  z4 := Tryz.sizeOf4
  v4 := Tryz.zeroValue4
  t5 := Tryz.underlying5
  a5 := Tryz.isAgg5
  z5 := Tryz.sizeOf5
  v5 := Tryz.zeroValue5
  t9 := Tryz.underlying9
  a9 := Tryz.isAgg9
  z9 := Tryz.sizeOf9
  v9 := Tryz.zeroValue9
  t20 := Tryz.underlying20
  a20 := Tryz.isAgg20
  z20 := Tryz.sizeOf20
  v20 := Tryz.zeroValue20
  t21 := Tryz.underlying21
  a21 := Tryz.isAgg21
  z21 := Tryz.sizeOf21
  v21 := Tryz.zeroValue21
  t37 := Tryz.underlying87
  a37 := Tryz.isAgg87
  z37 := Tryz.sizeOf87
  v37 := Tryz.zeroValue87
  t46 := Tryz.underlying136
  a46 := Tryz.isAgg136
  z46 := Tryz.sizeOf136
  v46 := Tryz.zeroValue136
  t51 := Tryz.underlying133
  a51 := Tryz.isAgg133
  z51 := Tryz.sizeOf133
  v51 := Tryz.zeroValue133
  t53 := Tryz.underlying117
  a53 := Tryz.isAgg117
  z53 := Tryz.sizeOf117
  v53 := Tryz.zeroValue117
  t75 := Tryz.underlying31
  a75 := Tryz.isAgg31
  z75 := Tryz.sizeOf31
  v75 := Tryz.zeroValue31
  t76 := Tryz.underlying77
  a76 := Tryz.isAgg77
  z76 := Tryz.sizeOf77
  v76 := Tryz.zeroValue77
  t85 := Tryz.underlying125
  a85 := Tryz.isAgg125
  z85 := Tryz.sizeOf125
  v85 := Tryz.zeroValue125
  t127 := Tryz.underlying105
  a127 := Tryz.isAgg105
  z127 := Tryz.sizeOf105
  v127 := Tryz.zeroValue105
  t143 := Tryz.underlying146
  a143 := Tryz.isAgg146
  z143 := Tryz.sizeOf146
  v143 := Tryz.zeroValue146
  t145 := Tryz.underlying148
  a145 := Tryz.isAgg148
  z145 := Tryz.sizeOf148
  v145 := Tryz.zeroValue148
  t167 := Tryz.underlying124
  a167 := Tryz.isAgg124
  z167 := Tryz.sizeOf124
  v167 := Tryz.zeroValue124
  t168 := Tryz.underlying127
  a168 := Tryz.isAgg127
  z168 := Tryz.sizeOf127
  v168 := Tryz.zeroValue127
  t171 := Tryz.underlying116
  a171 := Tryz.isAgg116
  z171 := Tryz.sizeOf116
  v171 := Tryz.zeroValue116
  t173 := Tryz.underlying120
  a173 := Tryz.isAgg120
  z173 := Tryz.sizeOf120
  v173 := Tryz.zeroValue120
  t175 := Tryz.underlying139
  a175 := Tryz.isAgg139
  z175 := Tryz.sizeOf139
  v175 := Tryz.zeroValue139
  t210 := Tryz.underlying143
  a210 := Tryz.isAgg143
  z210 := Tryz.sizeOf143
  v210 := Tryz.zeroValue143
  t212 := Tryz.underlying132
  a212 := Tryz.isAgg132
  z212 := Tryz.sizeOf132
  v212 := Tryz.zeroValue132
  t213 := Tryz.underlying134
  a213 := Tryz.isAgg134
  z213 := Tryz.sizeOf134
  t232 := Tryz.underlying149
  a232 := Tryz.isAgg149
  z232 := Tryz.sizeOf149
  v232 := Tryz.zeroValue149
  t233 := Tryz.underlying150
  a233 := Tryz.isAgg150
  z233 := Tryz.sizeOf150
  v233 := Tryz.zeroValue150
  g15 := by kernel_rfl
  g16 := by kernel_rfl
  g17 := by kernel_rfl
  g18 := by kernel_rfl
  g19 := by kernel_rfl }
open Go.RowKit in
/-- strconv.Atoi: "Atoi is equivalent to ParseInt(s, 10, 0), converted to type int.": AT A DECIMAL NUMERAL OF AT MOST 18 BYTES: its value, and a nil error. The world behind the call: the one new row that the library's '[]byte(s)' lays. (LAID: no walk: one application.) -/
theorem Tryz.strconv_Atoi (s : ByteArray) (n : Int) (hl : s.size ≤ 18) (h : Lib.atoi s.data.toList = some n) (w : World) :
    Calls Tryz.prog 55 #[.string s] w fun e w' => e = .returned (.tuple #[.int .i64 n, .nilIface]) ∧ ∃ t, w' = Lib.bytesWorld w 5 t := Any.strconv_Atoi Tryz.lays172 s n hl h w
def Tryz.lays129_ren : Go.Shelf.Ren := ⟨fun | 129 => 98 | n => n, fun | 53 => 117 | 3 => 3 | 4 => 4 | 46 => 136 | 5 => 5 | 9 => 9 | n => n, fun | n => n⟩
theorem Tryz.lays129 : Go.Proofs.Lays.n129 Tryz.prog Tryz.lays129_ren := {
  mixed := by kernel_rfl
  f129 := Tryz.func98.trans (congrArg some (by kernel_rfl))
  t3 := Tryz.underlying3
  a3 := Tryz.isAgg3
  z3 := Tryz.sizeOf3
  v3 := Tryz.zeroValue3
  t4 := Tryz.underlying4
  a4 := Tryz.isAgg4
  z4 := Tryz.sizeOf4
  v4 := Tryz.zeroValue4
  t5 := Tryz.underlying5
  a5 := Tryz.isAgg5
  z5 := Tryz.sizeOf5
  v5 := Tryz.zeroValue5
  t9 := Tryz.underlying9
  a9 := Tryz.isAgg9
  z9 := Tryz.sizeOf9
  v9 := Tryz.zeroValue9
  t46 := Tryz.underlying136
  a46 := Tryz.isAgg136
  z46 := Tryz.sizeOf136
  v46 := Tryz.zeroValue136
  t53 := Tryz.underlying117
  a53 := Tryz.isAgg117
  z53 := Tryz.sizeOf117
  v53 := Tryz.zeroValue117 }
/-- bits.Len64: "Len64 returns the minimum number of bits required to represent x; the result is 0 for x == 0.": IT RETURNS 'Lib.bitLen x'; the world is as it was. ('h0', 'h1': x is a uint64.) (LAID: no walk: one application.) -/
theorem Tryz.bits_Len64 (x : Int) (w : World) (h0 : 0 ≤ x) (h1 : x ≤ 18446744073709551615) :
    Calls Tryz.prog 98 #[.int .u64 x] w fun e w' => e = .returned (.int .i64 (Lib.bitLen x.toNat)) ∧ w' = w := Any.bits_Len64 Tryz.lays129 x w h0 h1
def Tryz.lays317_ren : Go.Shelf.Ren := ⟨fun | 317 => 97 | n => n, fun | 3 => 3 | 46 => 136 | n => n, fun | n => n⟩
theorem Tryz.lays317 : Go.Proofs.Lays.n317 Tryz.prog Tryz.lays317_ren := {
  mixed := by kernel_rfl
  f317 := Tryz.func97.trans (congrArg some (by kernel_rfl))
  t3 := Tryz.underlying3
  a3 := Tryz.isAgg3
  z3 := Tryz.sizeOf3
  v3 := Tryz.zeroValue3
  t46 := Tryz.underlying136
  a46 := Tryz.isAgg136
  z46 := Tryz.sizeOf136
  v46 := Tryz.zeroValue136 }
open Go.Lib in
/-- internal/strconv.log10Pow2: "log10Pow2(x) returns ⌊log₁₀ 2**x⌋ = ⌊x * log₁₀ 2⌋.": '(x * 78913) >> 18', at an x up to 64 (a length in bits). The world is as it was. (LAID: no walk: one application.) -/
theorem Tryz.internal_strconv_log10Pow2 (x : Nat) (h : x ≤ 64) (w : World) :
    Calls Tryz.prog 97 #[.int .i64 x] w fun e w' => e = .returned (.int .i64 (Lib.l10 x)) ∧ w' = w := Any.internal_strconv_log10Pow2 Tryz.lays317 x h w
def Tryz.lays318_ren : Go.Shelf.Ren := ⟨fun | 318 => 99 | n => n, fun | 3 => 3 | 4 => 4 | n => n, fun | n => n⟩
theorem Tryz.lays318 : Go.Proofs.Lays.n318 Tryz.prog Tryz.lays318_ren := {
  mixed := by kernel_rfl
  f318 := Tryz.func99.trans (congrArg some (by kernel_rfl))
  t3 := Tryz.underlying3
  a3 := Tryz.isAgg3
  z3 := Tryz.sizeOf3
  v3 := Tryz.zeroValue3
  t4 := Tryz.underlying4
  a4 := Tryz.isAgg4
  z4 := Tryz.sizeOf4
  v4 := Tryz.zeroValue4 }
open Go.Lib in
/-- internal/strconv.bool2: "bool2 converts b to an integer: 1 for true, 0 for false." The world is as it was. (LAID: no walk: one application.) -/
theorem Tryz.internal_strconv_bool2_int (b : Bool) (w : World) :
    Calls Tryz.prog 99 #[.bool b] w fun e w' => e = .returned (.int .i64 (if b then 1 else 0)) ∧ w' = w := Any.internal_strconv_bool2_int Tryz.lays318 b w
def Tryz.lays283_ren : Go.Shelf.Ren := ⟨fun | 283 => 82 | n => n, fun | 3 => 3 | 9 => 9 | 4 => 4 | n => n, fun | n => n⟩
theorem Tryz.lays283 : Go.Proofs.Lays.n283 Tryz.prog Tryz.lays283_ren := {
  mixed := by kernel_rfl
  f283 := Tryz.func82.trans (congrArg some (by kernel_rfl))
  t3 := Tryz.underlying3
  a3 := Tryz.isAgg3
  z3 := Tryz.sizeOf3
  v3 := Tryz.zeroValue3
  t4 := Tryz.underlying4
  a4 := Tryz.isAgg4
  z4 := Tryz.sizeOf4
  v4 := Tryz.zeroValue4
  t9 := Tryz.underlying9
  a9 := Tryz.isAgg9
  z9 := Tryz.sizeOf9
  v9 := Tryz.zeroValue9 }
open Go.Lib in
/-- internal/strconv.small: "small returns the string for an i with 0 <= i < nSmalls.": i's decimal numeral. The world is as it was. (LAID: no walk: one application.) -/
theorem Tryz.internal_strconv_small (i : Nat) (h : i < 100) (w : World) :
    Calls Tryz.prog 82 #[.int .i64 i] w fun e w' => e = .returned (.string ⟨(Lib.decDigits i).toArray⟩) ∧ w' = w := Any.internal_strconv_small Tryz.lays283 i h w
def Tryz.laysM284_ren : Go.Shelf.Ren := ⟨fun | 284 => 83 | 129 => 98 | 317 => 97 | 318 => 99 | n => n, fun | 53 => 117 | 3 => 3 | 212 => 132 | 0 => 0 | 4 => 4 | 46 => 136 | 5 => 5 | 9 => 9 | n => n, fun | 17 => 3 | n => n⟩
theorem Tryz.laysM284 : Go.Proofs.LaysM.n284 Tryz.prog Tryz.laysM284_ren := {
  mixed := by kernel_rfl
  f129 := Tryz.func98.trans (congrArg some (by kernel_rfl))
  f284 := Tryz.func83.trans (congrArg some (by kernel_rfl))
  f317 := Tryz.func97.trans (congrArg some (by kernel_rfl))
  f318 := Tryz.func99.trans (congrArg some (by kernel_rfl))
  t0 := Tryz.underlying0
  a0 := Tryz.isAgg0
  z0 := Tryz.sizeOf0
  v0 := Tryz.zeroValue0
  t3 := Tryz.underlying3
  a3 := Tryz.isAgg3
  z3 := Tryz.sizeOf3
  v3 := Tryz.zeroValue3
  t4 := Tryz.underlying4
  a4 := Tryz.isAgg4
  z4 := Tryz.sizeOf4
  v4 := Tryz.zeroValue4
  t5 := Tryz.underlying5
  a5 := Tryz.isAgg5
  z5 := Tryz.sizeOf5
  v5 := Tryz.zeroValue5
  t9 := Tryz.underlying9
  a9 := Tryz.isAgg9
  z9 := Tryz.sizeOf9
  v9 := Tryz.zeroValue9
  t46 := Tryz.underlying136
  a46 := Tryz.isAgg136
  z46 := Tryz.sizeOf136
  v46 := Tryz.zeroValue136
  t53 := Tryz.underlying117
  a53 := Tryz.isAgg117
  z53 := Tryz.sizeOf117
  v53 := Tryz.zeroValue117
  t212 := Tryz.underlying132
  a212 := Tryz.isAgg132
  z212 := Tryz.sizeOf132
  v212 := Tryz.zeroValue132
  g17 := by kernel_rfl
  i0 := by kernel_rfl
  i3 := by kernel_rfl
  i4 := by kernel_rfl
  i5 := by kernel_rfl
  i9 := by kernel_rfl
  i46 := by kernel_rfl
  i53 := by kernel_rfl
  i212 := by kernel_rfl
  m17 := by kernel_rfl }
open Go.Lib in
/-- internal/strconv.numDigits, at a d that is not 0: THE NUMBER OF d's DECIMAL DIGITS. The world is as it was. (LAID: no walk: one application.) -/
theorem Tryz.internal_strconv_numDigits (u : Nat) (h1 : 1 ≤ u) (h2 : u < 18446744073709551616) (w : World) (htab : Lib.TabIs Tryz.prog w "internal/strconv.uint64pow10" .u64 Lib.pow10Tab) :
    Calls Tryz.prog 83 #[.int .u64 u] w fun e w' => e = .returned (.int .i64 (Lib.nDigits u)) ∧ w' = w := Any.internal_strconv_numDigits Tryz.laysM284 u h1 h2 w htab
def Tryz.lays285_ren : Go.Shelf.Ren := ⟨fun | 285 => 84 | n => n, fun | 37 => 87 | 53 => 117 | 3 => 3 | 4 => 4 | 51 => 133 | 9 => 9 | 5 => 5 | 0 => 0 | n => n, fun | n => n⟩
theorem Tryz.lays285 : Go.Proofs.Lays.n285 Tryz.prog Tryz.lays285_ren := {
  mixed := by kernel_rfl
  f285 := Tryz.func84.trans (congrArg some (by kernel_rfl))
  t0 := Tryz.underlying0
  a0 := Tryz.isAgg0
  z0 := Tryz.sizeOf0
  v0 := Tryz.zeroValue0
  t3 := Tryz.underlying3
  a3 := Tryz.isAgg3
  z3 := Tryz.sizeOf3
  v3 := Tryz.zeroValue3
  t4 := Tryz.underlying4
  a4 := Tryz.isAgg4
  z4 := Tryz.sizeOf4
  v4 := Tryz.zeroValue4
  t5 := Tryz.underlying5
  a5 := Tryz.isAgg5
  z5 := Tryz.sizeOf5
  v5 := Tryz.zeroValue5
  t9 := Tryz.underlying9
  a9 := Tryz.isAgg9
  z9 := Tryz.sizeOf9
  v9 := Tryz.zeroValue9
  t37 := Tryz.underlying87
  a37 := Tryz.isAgg87
  z37 := Tryz.sizeOf87
  v37 := Tryz.zeroValue87
  t51 := Tryz.underlying133
  a51 := Tryz.isAgg133
  z51 := Tryz.sizeOf133
  v51 := Tryz.zeroValue133
  t53 := Tryz.underlying117
  a53 := Tryz.isAgg117
  z53 := Tryz.sizeOf117
  v53 := Tryz.zeroValue117 }
open Go.RowKit Go.Sort Go.Lib in
/-- internal/strconv.formatBase10: "formatBase10 formats the decimal representation of u into a. The caller is responsible for ensuring that a is big enough to hold u. If a is too big, leading zeros will be filled in as needed.": THE ROW HOLDS u's DIGITS ('FmtInv .. 0 ..': every place t holds 'dg u (len - 1 - t)'); all else is as it was but for the count of draws. (LAID: no walk: one application.) -/
theorem Tryz.internal_strconv_formatBase10 (blk off cap : Nat) (u : Nat) (d : Array UInt8) (w : World) (hH : Holds (fun (b : UInt8) => Value.int .u8 (b.toNat : Int)) w blk off d) (hu : u < 10 ^ d.size) (hu64 : u < 18446744073709551616) (hsz : d.size < 4611686018427387904) :
    Calls Tryz.prog 84 #[.slice (some ⟨blk, off, none⟩) d.size cap, .int .u64 u] w fun e w' =>
      e = .returned (.tuple #[]) ∧ ∃ (n v' : Nat) (dk : Array UInt8), w' = (putRow (fun (b : UInt8) => Value.int .u8 (b.toNat : Int)) w blk off dk).drewN n ∧ FmtInv d.size u 0 v' dk := Any.internal_strconv_formatBase10 Tryz.lays285 blk off cap u d w hH hu hu64 hsz
def Tryz.laysM246_ren : Go.Shelf.Ren := ⟨fun | 246 => 71 | 283 => 82 | 284 => 83 | 285 => 84 | 286 => 85 | 129 => 98 | 317 => 97 | 318 => 99 | 319 => 100 | 320 => 101 | 337 => 108 | 338 => 109 | n => n, fun | 2 => 2 | 3 => 3 | 9 => 9 | 4 => 4 | 171 => 116 | 0 => 0 | 53 => 117 | 37 => 87 | 5 => 5 | 173 => 120 | 212 => 132 | 51 => 133 | 20 => 20 | 213 => 134 | 46 => 136 | 232 => 149 | 233 => 150 | n => n, fun | 17 => 3 | 18 => 6 | 19 => 7 | n => n⟩
theorem Tryz.laysM246 : Go.Proofs.LaysM.n246 Tryz.prog Tryz.laysM246_ren := {
  mixed := by kernel_rfl
  f129 := Tryz.func98.trans (congrArg some (by kernel_rfl))
  f246 := Tryz.func71.trans (congrArg some (by kernel_rfl))
  f283 := Tryz.func82.trans (congrArg some (by kernel_rfl))
  f284 := Tryz.func83.trans (congrArg some (by kernel_rfl))
  f285 := Tryz.func84.trans (congrArg some (by kernel_rfl))
  f286 := Tryz.func85.trans (congrArg some (by kernel_rfl))
  f317 := Tryz.func97.trans (congrArg some (by kernel_rfl))
  f318 := Tryz.func99.trans (congrArg some (by kernel_rfl))
  f319 := Tryz.func100.trans (congrArg some (by kernel_rfl))
  f320 := Tryz.func101.trans (congrArg some (by kernel_rfl))
  f337 := Tryz.func108.trans (congrArg some (by kernel_rfl))
  f338 := Tryz.func109.trans (congrArg some (by kernel_rfl))
  t0 := Tryz.underlying0
  a0 := Tryz.isAgg0
  z0 := Tryz.sizeOf0
  v0 := Tryz.zeroValue0
  t2 := Tryz.underlying2
  a2 := Tryz.isAgg2
  z2 := Tryz.sizeOf2
  v2 := Tryz.zeroValue2
  t3 := Tryz.underlying3
  a3 := Tryz.isAgg3
  z3 := Tryz.sizeOf3
  v3 := Tryz.zeroValue3
  t4 := Tryz.underlying4
  a4 := Tryz.isAgg4
  z4 := Tryz.sizeOf4
  v4 := Tryz.zeroValue4
  t5 := Tryz.underlying5
  a5 := Tryz.isAgg5
  z5 := Tryz.sizeOf5
  v5 := Tryz.zeroValue5
  t9 := Tryz.underlying9
  a9 := Tryz.isAgg9
  z9 := Tryz.sizeOf9
  v9 := Tryz.zeroValue9
  t20 := Tryz.underlying20
  a20 := Tryz.isAgg20
  z20 := Tryz.sizeOf20
  v20 := Tryz.zeroValue20
  t37 := Tryz.underlying87
  a37 := Tryz.isAgg87
  z37 := Tryz.sizeOf87
  v37 := Tryz.zeroValue87
  t46 := Tryz.underlying136
  a46 := Tryz.isAgg136
  z46 := Tryz.sizeOf136
  v46 := Tryz.zeroValue136
  t51 := Tryz.underlying133
  a51 := Tryz.isAgg133
  z51 := Tryz.sizeOf133
  v51 := Tryz.zeroValue133
  t53 := Tryz.underlying117
  a53 := Tryz.isAgg117
  z53 := Tryz.sizeOf117
  v53 := Tryz.zeroValue117
  t171 := Tryz.underlying116
  a171 := Tryz.isAgg116
  z171 := Tryz.sizeOf116
  v171 := Tryz.zeroValue116
  t173 := Tryz.underlying120
  a173 := Tryz.isAgg120
  z173 := Tryz.sizeOf120
  v173 := Tryz.zeroValue120
  t212 := Tryz.underlying132
  a212 := Tryz.isAgg132
  z212 := Tryz.sizeOf132
  v212 := Tryz.zeroValue132
  t213 := Tryz.underlying134
  a213 := Tryz.isAgg134
  z213 := Tryz.sizeOf134
  t232 := Tryz.underlying149
  a232 := Tryz.isAgg149
  z232 := Tryz.sizeOf149
  v232 := Tryz.zeroValue149
  t233 := Tryz.underlying150
  a233 := Tryz.isAgg150
  z233 := Tryz.sizeOf150
  v233 := Tryz.zeroValue150
  g17 := by kernel_rfl
  g18 := by kernel_rfl
  g19 := by kernel_rfl
  i0 := by kernel_rfl
  i2 := by kernel_rfl
  i3 := by kernel_rfl
  i4 := by kernel_rfl
  i5 := by kernel_rfl
  i9 := by kernel_rfl
  i20 := by kernel_rfl
  i37 := by kernel_rfl
  i46 := by kernel_rfl
  i51 := by kernel_rfl
  i53 := by kernel_rfl
  i171 := by kernel_rfl
  i173 := by kernel_rfl
  i212 := by kernel_rfl
  i232 := by kernel_rfl
  i233 := by kernel_rfl
  m17 := by kernel_rfl
  m18 := by kernel_rfl
  m19 := by kernel_rfl }
open Go.RowKit Go.Sort Go.Lib in
/-- internal/strconv.FormatInt: "FormatInt returns the string representation of i in the given base": AT BASE 10: i's decimal numeral, for every int64. The world behind the call: the world before it, new blocks behind the heap, draws. (LAID: no walk: one application.) -/
theorem Tryz.internal_strconv_FormatInt_10 (n : Int) (h0 : -9223372036854775808 ≤ n) (h1 : n ≤ 9223372036854775807) (w : World) (htab : Lib.TabIs Tryz.prog w "internal/strconv.uint64pow10" .u64 Lib.pow10Tab) :
    Calls Tryz.prog 71 #[.int .i64 n, .int .i64 10] w fun e w' => e = .returned (.string ⟨(Lib.itoa n).toArray⟩) ∧ ∃ k os, w' = grow (w.drewN k) os := Any.internal_strconv_FormatInt_10 Tryz.laysM246 n h0 h1 w htab
def Tryz.lays246_ren : Go.Shelf.Ren := ⟨fun | 246 => 71 | 283 => 82 | 284 => 83 | 285 => 84 | 286 => 85 | 129 => 98 | 317 => 97 | 318 => 99 | 319 => 100 | 320 => 101 | 337 => 108 | 338 => 109 | n => n, fun | 2 => 2 | 3 => 3 | 9 => 9 | 4 => 4 | 171 => 116 | 0 => 0 | 53 => 117 | 37 => 87 | 5 => 5 | 173 => 120 | 212 => 132 | 51 => 133 | 20 => 20 | 213 => 134 | 46 => 136 | 232 => 149 | 233 => 150 | n => n, fun | 17 => 3 | 18 => 6 | 19 => 7 | n => n⟩
theorem Tryz.lays246 : Go.Proofs.Lays.n246 Tryz.prog Tryz.lays246_ren := {
  mixed := by kernel_rfl
  f129 := Tryz.func98.trans (congrArg some (by kernel_rfl))
  f246 := Tryz.func71.trans (congrArg some (by kernel_rfl))
  f283 := Tryz.func82.trans (congrArg some (by kernel_rfl))
  f284 := Tryz.func83.trans (congrArg some (by kernel_rfl))
  f285 := Tryz.func84.trans (congrArg some (by kernel_rfl))
  f286 := Tryz.func85.trans (congrArg some (by kernel_rfl))
  f317 := Tryz.func97.trans (congrArg some (by kernel_rfl))
  f318 := Tryz.func99.trans (congrArg some (by kernel_rfl))
  f319 := Tryz.func100.trans (congrArg some (by kernel_rfl))
  f320 := Tryz.func101.trans (congrArg some (by kernel_rfl))
  f337 := Tryz.func108.trans (congrArg some (by kernel_rfl))
  f338 := Tryz.func109.trans (congrArg some (by kernel_rfl))
  t0 := Tryz.underlying0
  a0 := Tryz.isAgg0
  z0 := Tryz.sizeOf0
  v0 := Tryz.zeroValue0
  t2 := Tryz.underlying2
  a2 := Tryz.isAgg2
  z2 := Tryz.sizeOf2
  v2 := Tryz.zeroValue2
  t3 := Tryz.underlying3
  a3 := Tryz.isAgg3
  z3 := Tryz.sizeOf3
  v3 := Tryz.zeroValue3
  t4 := Tryz.underlying4
  a4 := Tryz.isAgg4
  z4 := Tryz.sizeOf4
  v4 := Tryz.zeroValue4
  t5 := Tryz.underlying5
  a5 := Tryz.isAgg5
  z5 := Tryz.sizeOf5
  v5 := Tryz.zeroValue5
  t9 := Tryz.underlying9
  a9 := Tryz.isAgg9
  z9 := Tryz.sizeOf9
  v9 := Tryz.zeroValue9
  t20 := Tryz.underlying20
  a20 := Tryz.isAgg20
  z20 := Tryz.sizeOf20
  v20 := Tryz.zeroValue20
  t37 := Tryz.underlying87
  a37 := Tryz.isAgg87
  z37 := Tryz.sizeOf87
  v37 := Tryz.zeroValue87
  t46 := Tryz.underlying136
  a46 := Tryz.isAgg136
  z46 := Tryz.sizeOf136
  v46 := Tryz.zeroValue136
  t51 := Tryz.underlying133
  a51 := Tryz.isAgg133
  z51 := Tryz.sizeOf133
  v51 := Tryz.zeroValue133
  t53 := Tryz.underlying117
  a53 := Tryz.isAgg117
  z53 := Tryz.sizeOf117
  v53 := Tryz.zeroValue117
  t171 := Tryz.underlying116
  a171 := Tryz.isAgg116
  z171 := Tryz.sizeOf116
  v171 := Tryz.zeroValue116
  t173 := Tryz.underlying120
  a173 := Tryz.isAgg120
  z173 := Tryz.sizeOf120
  v173 := Tryz.zeroValue120
  t212 := Tryz.underlying132
  a212 := Tryz.isAgg132
  z212 := Tryz.sizeOf132
  v212 := Tryz.zeroValue132
  t213 := Tryz.underlying134
  a213 := Tryz.isAgg134
  z213 := Tryz.sizeOf134
  t232 := Tryz.underlying149
  a232 := Tryz.isAgg149
  z232 := Tryz.sizeOf149
  v232 := Tryz.zeroValue149
  t233 := Tryz.underlying150
  a233 := Tryz.isAgg150
  z233 := Tryz.sizeOf150
  v233 := Tryz.zeroValue150
  g17 := by kernel_rfl
  g18 := by kernel_rfl
  g19 := by kernel_rfl }
open Go.RowKit Go.Sort Go.Lib in
/-- THE ROAD WITHOUT THE TABLE: 0 <= i < 100: two constants are read, nothing is laid: no premise on the world, and the world is as it was. (LAID: no walk: one application.) -/
theorem Tryz.internal_strconv_FormatInt_10_small (i : Nat) (hi : i < 100) (w : World) :
    Calls Tryz.prog 71 #[.int .i64 i, .int .i64 10] w fun e w' => e = .returned (.string ⟨(Lib.decDigits i).toArray⟩) ∧ w' = w := Any.internal_strconv_FormatInt_10_small Tryz.lays246 i hi w
def Tryz.laysM243_ren : Go.Shelf.Ren := ⟨fun | 243 => 46 | 246 => 71 | 283 => 82 | 284 => 83 | 285 => 84 | 286 => 85 | 129 => 98 | 317 => 97 | 318 => 99 | 319 => 100 | 320 => 101 | 337 => 108 | 338 => 109 | n => n, fun | 3 => 3 | 9 => 9 | 2 => 2 | 4 => 4 | 171 => 116 | 0 => 0 | 53 => 117 | 37 => 87 | 5 => 5 | 173 => 120 | 212 => 132 | 51 => 133 | 20 => 20 | 213 => 134 | 46 => 136 | 232 => 149 | 233 => 150 | n => n, fun | 17 => 3 | 18 => 6 | 19 => 7 | n => n⟩
theorem Tryz.laysM243 : Go.Proofs.LaysM.n243 Tryz.prog Tryz.laysM243_ren := {
  mixed := by kernel_rfl
  f129 := Tryz.func98.trans (congrArg some (by kernel_rfl))
  f243 := Tryz.func46.trans (congrArg some (by kernel_rfl))
  f246 := Tryz.func71.trans (congrArg some (by kernel_rfl))
  f283 := Tryz.func82.trans (congrArg some (by kernel_rfl))
  f284 := Tryz.func83.trans (congrArg some (by kernel_rfl))
  f285 := Tryz.func84.trans (congrArg some (by kernel_rfl))
  f286 := Tryz.func85.trans (congrArg some (by kernel_rfl))
  f317 := Tryz.func97.trans (congrArg some (by kernel_rfl))
  f318 := Tryz.func99.trans (congrArg some (by kernel_rfl))
  f319 := Tryz.func100.trans (congrArg some (by kernel_rfl))
  f320 := Tryz.func101.trans (congrArg some (by kernel_rfl))
  f337 := Tryz.func108.trans (congrArg some (by kernel_rfl))
  f338 := Tryz.func109.trans (congrArg some (by kernel_rfl))
  t0 := Tryz.underlying0
  a0 := Tryz.isAgg0
  z0 := Tryz.sizeOf0
  v0 := Tryz.zeroValue0
  t2 := Tryz.underlying2
  a2 := Tryz.isAgg2
  z2 := Tryz.sizeOf2
  v2 := Tryz.zeroValue2
  t3 := Tryz.underlying3
  a3 := Tryz.isAgg3
  z3 := Tryz.sizeOf3
  v3 := Tryz.zeroValue3
  t4 := Tryz.underlying4
  a4 := Tryz.isAgg4
  z4 := Tryz.sizeOf4
  v4 := Tryz.zeroValue4
  t5 := Tryz.underlying5
  a5 := Tryz.isAgg5
  z5 := Tryz.sizeOf5
  v5 := Tryz.zeroValue5
  t9 := Tryz.underlying9
  a9 := Tryz.isAgg9
  z9 := Tryz.sizeOf9
  v9 := Tryz.zeroValue9
  t20 := Tryz.underlying20
  a20 := Tryz.isAgg20
  z20 := Tryz.sizeOf20
  v20 := Tryz.zeroValue20
  t37 := Tryz.underlying87
  a37 := Tryz.isAgg87
  z37 := Tryz.sizeOf87
  v37 := Tryz.zeroValue87
  t46 := Tryz.underlying136
  a46 := Tryz.isAgg136
  z46 := Tryz.sizeOf136
  v46 := Tryz.zeroValue136
  t51 := Tryz.underlying133
  a51 := Tryz.isAgg133
  z51 := Tryz.sizeOf133
  v51 := Tryz.zeroValue133
  t53 := Tryz.underlying117
  a53 := Tryz.isAgg117
  z53 := Tryz.sizeOf117
  v53 := Tryz.zeroValue117
  t171 := Tryz.underlying116
  a171 := Tryz.isAgg116
  z171 := Tryz.sizeOf116
  v171 := Tryz.zeroValue116
  t173 := Tryz.underlying120
  a173 := Tryz.isAgg120
  z173 := Tryz.sizeOf120
  v173 := Tryz.zeroValue120
  t212 := Tryz.underlying132
  a212 := Tryz.isAgg132
  z212 := Tryz.sizeOf132
  v212 := Tryz.zeroValue132
  t213 := Tryz.underlying134
  a213 := Tryz.isAgg134
  z213 := Tryz.sizeOf134
  t232 := Tryz.underlying149
  a232 := Tryz.isAgg149
  z232 := Tryz.sizeOf149
  v232 := Tryz.zeroValue149
  t233 := Tryz.underlying150
  a233 := Tryz.isAgg150
  z233 := Tryz.sizeOf150
  v233 := Tryz.zeroValue150
  g17 := by kernel_rfl
  g18 := by kernel_rfl
  g19 := by kernel_rfl
  i0 := by kernel_rfl
  i2 := by kernel_rfl
  i3 := by kernel_rfl
  i4 := by kernel_rfl
  i5 := by kernel_rfl
  i9 := by kernel_rfl
  i20 := by kernel_rfl
  i37 := by kernel_rfl
  i46 := by kernel_rfl
  i51 := by kernel_rfl
  i53 := by kernel_rfl
  i171 := by kernel_rfl
  i173 := by kernel_rfl
  i212 := by kernel_rfl
  i232 := by kernel_rfl
  i233 := by kernel_rfl
  m17 := by kernel_rfl
  m18 := by kernel_rfl
  m19 := by kernel_rfl }
open Go.RowKit Go.Sort Go.Lib in
/-- internal/strconv.Itoa: "Itoa is equivalent to FormatInt(int64(i), 10).": i's decimal numeral, for every int. (LAID: no walk: one application.) -/
theorem Tryz.internal_strconv_Itoa (n : Int) (h0 : -9223372036854775808 ≤ n) (h1 : n ≤ 9223372036854775807) (w : World) (htab : Lib.TabIs Tryz.prog w "internal/strconv.uint64pow10" .u64 Lib.pow10Tab) :
    Calls Tryz.prog 46 #[.int .i64 n] w fun e w' => e = .returned (.string ⟨(Lib.itoa n).toArray⟩) ∧ ∃ k os, w' = grow (w.drewN k) os := Any.internal_strconv_Itoa Tryz.laysM243 n h0 h1 w htab
def Tryz.lays243_ren : Go.Shelf.Ren := ⟨fun | 243 => 46 | 246 => 71 | 283 => 82 | 284 => 83 | 285 => 84 | 286 => 85 | 129 => 98 | 317 => 97 | 318 => 99 | 319 => 100 | 320 => 101 | 337 => 108 | 338 => 109 | n => n, fun | 3 => 3 | 9 => 9 | 2 => 2 | 4 => 4 | 171 => 116 | 0 => 0 | 53 => 117 | 37 => 87 | 5 => 5 | 173 => 120 | 212 => 132 | 51 => 133 | 20 => 20 | 213 => 134 | 46 => 136 | 232 => 149 | 233 => 150 | n => n, fun | 17 => 3 | 18 => 6 | 19 => 7 | n => n⟩
theorem Tryz.lays243 : Go.Proofs.Lays.n243 Tryz.prog Tryz.lays243_ren := {
  mixed := by kernel_rfl
  f129 := Tryz.func98.trans (congrArg some (by kernel_rfl))
  f243 := Tryz.func46.trans (congrArg some (by kernel_rfl))
  f246 := Tryz.func71.trans (congrArg some (by kernel_rfl))
  f283 := Tryz.func82.trans (congrArg some (by kernel_rfl))
  f284 := Tryz.func83.trans (congrArg some (by kernel_rfl))
  f285 := Tryz.func84.trans (congrArg some (by kernel_rfl))
  f286 := Tryz.func85.trans (congrArg some (by kernel_rfl))
  f317 := Tryz.func97.trans (congrArg some (by kernel_rfl))
  f318 := Tryz.func99.trans (congrArg some (by kernel_rfl))
  f319 := Tryz.func100.trans (congrArg some (by kernel_rfl))
  f320 := Tryz.func101.trans (congrArg some (by kernel_rfl))
  f337 := Tryz.func108.trans (congrArg some (by kernel_rfl))
  f338 := Tryz.func109.trans (congrArg some (by kernel_rfl))
  t0 := Tryz.underlying0
  a0 := Tryz.isAgg0
  z0 := Tryz.sizeOf0
  v0 := Tryz.zeroValue0
  t2 := Tryz.underlying2
  a2 := Tryz.isAgg2
  z2 := Tryz.sizeOf2
  v2 := Tryz.zeroValue2
  t3 := Tryz.underlying3
  a3 := Tryz.isAgg3
  z3 := Tryz.sizeOf3
  v3 := Tryz.zeroValue3
  t4 := Tryz.underlying4
  a4 := Tryz.isAgg4
  z4 := Tryz.sizeOf4
  v4 := Tryz.zeroValue4
  t5 := Tryz.underlying5
  a5 := Tryz.isAgg5
  z5 := Tryz.sizeOf5
  v5 := Tryz.zeroValue5
  t9 := Tryz.underlying9
  a9 := Tryz.isAgg9
  z9 := Tryz.sizeOf9
  v9 := Tryz.zeroValue9
  t20 := Tryz.underlying20
  a20 := Tryz.isAgg20
  z20 := Tryz.sizeOf20
  v20 := Tryz.zeroValue20
  t37 := Tryz.underlying87
  a37 := Tryz.isAgg87
  z37 := Tryz.sizeOf87
  v37 := Tryz.zeroValue87
  t46 := Tryz.underlying136
  a46 := Tryz.isAgg136
  z46 := Tryz.sizeOf136
  v46 := Tryz.zeroValue136
  t51 := Tryz.underlying133
  a51 := Tryz.isAgg133
  z51 := Tryz.sizeOf133
  v51 := Tryz.zeroValue133
  t53 := Tryz.underlying117
  a53 := Tryz.isAgg117
  z53 := Tryz.sizeOf117
  v53 := Tryz.zeroValue117
  t171 := Tryz.underlying116
  a171 := Tryz.isAgg116
  z171 := Tryz.sizeOf116
  v171 := Tryz.zeroValue116
  t173 := Tryz.underlying120
  a173 := Tryz.isAgg120
  z173 := Tryz.sizeOf120
  v173 := Tryz.zeroValue120
  t212 := Tryz.underlying132
  a212 := Tryz.isAgg132
  z212 := Tryz.sizeOf132
  v212 := Tryz.zeroValue132
  t213 := Tryz.underlying134
  a213 := Tryz.isAgg134
  z213 := Tryz.sizeOf134
  t232 := Tryz.underlying149
  a232 := Tryz.isAgg149
  z232 := Tryz.sizeOf149
  v232 := Tryz.zeroValue149
  t233 := Tryz.underlying150
  a233 := Tryz.isAgg150
  z233 := Tryz.sizeOf150
  v233 := Tryz.zeroValue150
  g17 := by kernel_rfl
  g18 := by kernel_rfl
  g19 := by kernel_rfl }
open Go.RowKit Go.Sort Go.Lib in
/-- THE ROAD WITHOUT THE TABLE: 0 <= i < 100. (LAID: no walk: one application.) -/
theorem Tryz.internal_strconv_Itoa_small (i : Nat) (hi : i < 100) (w : World) :
    Calls Tryz.prog 46 #[.int .i64 i] w fun e w' => e = .returned (.string ⟨(Lib.decDigits i).toArray⟩) ∧ w' = w := Any.internal_strconv_Itoa_small Tryz.lays243 i hi w
def Tryz.laysM171_ren : Go.Shelf.Ren := ⟨fun | 171 => 20 | 243 => 46 | 246 => 71 | 283 => 82 | 284 => 83 | 285 => 84 | 286 => 85 | 129 => 98 | 317 => 97 | 318 => 99 | 319 => 100 | 320 => 101 | 337 => 108 | 338 => 109 | n => n, fun | 3 => 3 | 9 => 9 | 2 => 2 | 4 => 4 | 171 => 116 | 0 => 0 | 53 => 117 | 37 => 87 | 5 => 5 | 173 => 120 | 212 => 132 | 51 => 133 | 20 => 20 | 213 => 134 | 46 => 136 | 232 => 149 | 233 => 150 | n => n, fun | 17 => 3 | 18 => 6 | 19 => 7 | n => n⟩
theorem Tryz.laysM171 : Go.Proofs.LaysM.n171 Tryz.prog Tryz.laysM171_ren := {
  mixed := by kernel_rfl
  f129 := Tryz.func98.trans (congrArg some (by kernel_rfl))
  f171 := Tryz.func20.trans (congrArg some (by kernel_rfl))
  f243 := Tryz.func46.trans (congrArg some (by kernel_rfl))
  f246 := Tryz.func71.trans (congrArg some (by kernel_rfl))
  f283 := Tryz.func82.trans (congrArg some (by kernel_rfl))
  f284 := Tryz.func83.trans (congrArg some (by kernel_rfl))
  f285 := Tryz.func84.trans (congrArg some (by kernel_rfl))
  f286 := Tryz.func85.trans (congrArg some (by kernel_rfl))
  f317 := Tryz.func97.trans (congrArg some (by kernel_rfl))
  f318 := Tryz.func99.trans (congrArg some (by kernel_rfl))
  f319 := Tryz.func100.trans (congrArg some (by kernel_rfl))
  f320 := Tryz.func101.trans (congrArg some (by kernel_rfl))
  f337 := Tryz.func108.trans (congrArg some (by kernel_rfl))
  f338 := Tryz.func109.trans (congrArg some (by kernel_rfl))
  t0 := Tryz.underlying0
  a0 := Tryz.isAgg0
  z0 := Tryz.sizeOf0
  v0 := Tryz.zeroValue0
  t2 := Tryz.underlying2
  a2 := Tryz.isAgg2
  z2 := Tryz.sizeOf2
  v2 := Tryz.zeroValue2
  t3 := Tryz.underlying3
  a3 := Tryz.isAgg3
  z3 := Tryz.sizeOf3
  v3 := Tryz.zeroValue3
  t4 := Tryz.underlying4
  a4 := Tryz.isAgg4
  z4 := Tryz.sizeOf4
  v4 := Tryz.zeroValue4
  t5 := Tryz.underlying5
  a5 := Tryz.isAgg5
  z5 := Tryz.sizeOf5
  v5 := Tryz.zeroValue5
  t9 := Tryz.underlying9
  a9 := Tryz.isAgg9
  z9 := Tryz.sizeOf9
  v9 := Tryz.zeroValue9
  t20 := Tryz.underlying20
  a20 := Tryz.isAgg20
  z20 := Tryz.sizeOf20
  v20 := Tryz.zeroValue20
  t37 := Tryz.underlying87
  a37 := Tryz.isAgg87
  z37 := Tryz.sizeOf87
  v37 := Tryz.zeroValue87
  t46 := Tryz.underlying136
  a46 := Tryz.isAgg136
  z46 := Tryz.sizeOf136
  v46 := Tryz.zeroValue136
  t51 := Tryz.underlying133
  a51 := Tryz.isAgg133
  z51 := Tryz.sizeOf133
  v51 := Tryz.zeroValue133
  t53 := Tryz.underlying117
  a53 := Tryz.isAgg117
  z53 := Tryz.sizeOf117
  v53 := Tryz.zeroValue117
  t171 := Tryz.underlying116
  a171 := Tryz.isAgg116
  z171 := Tryz.sizeOf116
  v171 := Tryz.zeroValue116
  t173 := Tryz.underlying120
  a173 := Tryz.isAgg120
  z173 := Tryz.sizeOf120
  v173 := Tryz.zeroValue120
  t212 := Tryz.underlying132
  a212 := Tryz.isAgg132
  z212 := Tryz.sizeOf132
  v212 := Tryz.zeroValue132
  t213 := Tryz.underlying134
  a213 := Tryz.isAgg134
  z213 := Tryz.sizeOf134
  t232 := Tryz.underlying149
  a232 := Tryz.isAgg149
  z232 := Tryz.sizeOf149
  v232 := Tryz.zeroValue149
  t233 := Tryz.underlying150
  a233 := Tryz.isAgg150
  z233 := Tryz.sizeOf150
  v233 := Tryz.zeroValue150
  g17 := by kernel_rfl
  g18 := by kernel_rfl
  g19 := by kernel_rfl
  i0 := by kernel_rfl
  i2 := by kernel_rfl
  i3 := by kernel_rfl
  i4 := by kernel_rfl
  i5 := by kernel_rfl
  i9 := by kernel_rfl
  i20 := by kernel_rfl
  i37 := by kernel_rfl
  i46 := by kernel_rfl
  i51 := by kernel_rfl
  i53 := by kernel_rfl
  i171 := by kernel_rfl
  i173 := by kernel_rfl
  i212 := by kernel_rfl
  i232 := by kernel_rfl
  i233 := by kernel_rfl
  m17 := by kernel_rfl
  m18 := by kernel_rfl
  m19 := by kernel_rfl }
open Go.RowKit Go.Sort Go.Lib in
/-- strconv.Itoa: "Itoa is equivalent to FormatInt(int64(i), 10).": i's DECIMAL NUMERAL ('Lib.itoa': a '-' where i is negative, then the digits), FOR EVERY int. The world behind the call: the world before it, new blocks behind the heap (the library's 'var a [24]byte'), draws. (LAID: no walk: one application.) -/
theorem Tryz.strconv_Itoa (n : Int) (h0 : -9223372036854775808 ≤ n) (h1 : n ≤ 9223372036854775807) (w : World) (htab : Lib.TabIs Tryz.prog w "internal/strconv.uint64pow10" .u64 Lib.pow10Tab) :
    Calls Tryz.prog 20 #[.int .i64 n] w fun e w' => e = .returned (.string ⟨(Lib.itoa n).toArray⟩) ∧ ∃ k os, w' = grow (w.drewN k) os := Any.strconv_Itoa Tryz.laysM171 n h0 h1 w htab
def Tryz.lays171_ren : Go.Shelf.Ren := ⟨fun | 171 => 20 | 243 => 46 | 246 => 71 | 283 => 82 | 284 => 83 | 285 => 84 | 286 => 85 | 129 => 98 | 317 => 97 | 318 => 99 | 319 => 100 | 320 => 101 | 337 => 108 | 338 => 109 | n => n, fun | 3 => 3 | 9 => 9 | 2 => 2 | 4 => 4 | 171 => 116 | 0 => 0 | 53 => 117 | 37 => 87 | 5 => 5 | 173 => 120 | 212 => 132 | 51 => 133 | 20 => 20 | 213 => 134 | 46 => 136 | 232 => 149 | 233 => 150 | n => n, fun | 17 => 3 | 18 => 6 | 19 => 7 | n => n⟩
theorem Tryz.lays171 : Go.Proofs.Lays.n171 Tryz.prog Tryz.lays171_ren := {
  mixed := by kernel_rfl
  f129 := Tryz.func98.trans (congrArg some (by kernel_rfl))
  f171 := Tryz.func20.trans (congrArg some (by kernel_rfl))
  f243 := Tryz.func46.trans (congrArg some (by kernel_rfl))
  f246 := Tryz.func71.trans (congrArg some (by kernel_rfl))
  f283 := Tryz.func82.trans (congrArg some (by kernel_rfl))
  f284 := Tryz.func83.trans (congrArg some (by kernel_rfl))
  f285 := Tryz.func84.trans (congrArg some (by kernel_rfl))
  f286 := Tryz.func85.trans (congrArg some (by kernel_rfl))
  f317 := Tryz.func97.trans (congrArg some (by kernel_rfl))
  f318 := Tryz.func99.trans (congrArg some (by kernel_rfl))
  f319 := Tryz.func100.trans (congrArg some (by kernel_rfl))
  f320 := Tryz.func101.trans (congrArg some (by kernel_rfl))
  f337 := Tryz.func108.trans (congrArg some (by kernel_rfl))
  f338 := Tryz.func109.trans (congrArg some (by kernel_rfl))
  t0 := Tryz.underlying0
  a0 := Tryz.isAgg0
  z0 := Tryz.sizeOf0
  v0 := Tryz.zeroValue0
  t2 := Tryz.underlying2
  a2 := Tryz.isAgg2
  z2 := Tryz.sizeOf2
  v2 := Tryz.zeroValue2
  t3 := Tryz.underlying3
  a3 := Tryz.isAgg3
  z3 := Tryz.sizeOf3
  v3 := Tryz.zeroValue3
  t4 := Tryz.underlying4
  a4 := Tryz.isAgg4
  z4 := Tryz.sizeOf4
  v4 := Tryz.zeroValue4
  t5 := Tryz.underlying5
  a5 := Tryz.isAgg5
  z5 := Tryz.sizeOf5
  v5 := Tryz.zeroValue5
  t9 := Tryz.underlying9
  a9 := Tryz.isAgg9
  z9 := Tryz.sizeOf9
  v9 := Tryz.zeroValue9
  t20 := Tryz.underlying20
  a20 := Tryz.isAgg20
  z20 := Tryz.sizeOf20
  v20 := Tryz.zeroValue20
  t37 := Tryz.underlying87
  a37 := Tryz.isAgg87
  z37 := Tryz.sizeOf87
  v37 := Tryz.zeroValue87
  t46 := Tryz.underlying136
  a46 := Tryz.isAgg136
  z46 := Tryz.sizeOf136
  v46 := Tryz.zeroValue136
  t51 := Tryz.underlying133
  a51 := Tryz.isAgg133
  z51 := Tryz.sizeOf133
  v51 := Tryz.zeroValue133
  t53 := Tryz.underlying117
  a53 := Tryz.isAgg117
  z53 := Tryz.sizeOf117
  v53 := Tryz.zeroValue117
  t171 := Tryz.underlying116
  a171 := Tryz.isAgg116
  z171 := Tryz.sizeOf116
  v171 := Tryz.zeroValue116
  t173 := Tryz.underlying120
  a173 := Tryz.isAgg120
  z173 := Tryz.sizeOf120
  v173 := Tryz.zeroValue120
  t212 := Tryz.underlying132
  a212 := Tryz.isAgg132
  z212 := Tryz.sizeOf132
  v212 := Tryz.zeroValue132
  t213 := Tryz.underlying134
  a213 := Tryz.isAgg134
  z213 := Tryz.sizeOf134
  t232 := Tryz.underlying149
  a232 := Tryz.isAgg149
  z232 := Tryz.sizeOf149
  v232 := Tryz.zeroValue149
  t233 := Tryz.underlying150
  a233 := Tryz.isAgg150
  z233 := Tryz.sizeOf150
  v233 := Tryz.zeroValue150
  g17 := by kernel_rfl
  g18 := by kernel_rfl
  g19 := by kernel_rfl }
open Go.RowKit Go.Sort Go.Lib in
/-- THE ROAD WITHOUT THE TABLE: 0 <= i < 100: NO PREMISE ON THE WORLD, AND THE WORLD IS AS IT WAS: a row that keeps its argument in that range need list no table ('laid = []'). (LAID: no walk: one application.) -/
theorem Tryz.strconv_Itoa_small (i : Nat) (hi : i < 100) (w : World) :
    Calls Tryz.prog 20 #[.int .i64 i] w fun e w' => e = .returned (.string ⟨(Lib.decDigits i).toArray⟩) ∧ w' = w := Any.strconv_Itoa_small Tryz.lays171 i hi w
open Go.RowKit in
/-- internal/strconv.Atoi, at a string of 1 to 18 bytes THAT IS NO DECIMAL NUMERAL: 0, AND ErrSyntax (the package's own error number 2). The world behind the call: as it was, or with the one new row that '[]byte(s)' lays. (LAID: no walk: one application.) -/
theorem Tryz.internal_strconv_Atoi_err (s : ByteArray) (hl0 : 1 ≤ s.size) (hl : s.size ≤ 18) (h : Lib.atoi s.data.toList = none) (w : World) :
    Calls Tryz.prog 75 #[.string s] w fun e w' => e = .returned (.tuple #[.int .i64 0, (.iface 124 (.int .i64 2))]) ∧ (w' = w ∨ ∃ t, w' = Lib.bytesWorld w 5 t) := Any.internal_strconv_Atoi_err Tryz.lays244 s hl0 hl h w
def Tryz.lays247_ren : Go.Shelf.Ren := ⟨fun | 247 => 91 | 287 => 105 | 321 => 111 | 322 => 112 | n => n, fun | 9 => 9 | 3 => 3 | 2 => 2 | 75 => 31 | 4 => 4 | 167 => 124 | 5 => 5 | 53 => 117 | 175 => 139 | 46 => 136 | 37 => 87 | 0 => 0 | 21 => 21 | 80 => 91 | n => n, fun | n => n⟩
theorem Tryz.lays247 : Go.Proofs.Lays.n247 Tryz.prog Tryz.lays247_ren := {
  mixed := by kernel_rfl
  f247 := Tryz.func91.trans (congrArg some (by kernel_rfl))
  f287 := Tryz.func105.trans (congrArg some (by kernel_rfl))
  f321 := Tryz.func111.trans (congrArg some (by kernel_rfl))
  f322 := Tryz.func112.trans (congrArg some (by kernel_rfl))
  t0 := Tryz.underlying0
  a0 := Tryz.isAgg0
  z0 := Tryz.sizeOf0
  v0 := Tryz.zeroValue0
  t2 := Tryz.underlying2
  a2 := Tryz.isAgg2
  z2 := Tryz.sizeOf2
  v2 := Tryz.zeroValue2
  t3 := Tryz.underlying3
  a3 := Tryz.isAgg3
  z3 := Tryz.sizeOf3
  v3 := Tryz.zeroValue3
  t4 := Tryz.underlying4
  a4 := Tryz.isAgg4
  z4 := Tryz.sizeOf4
  v4 := Tryz.zeroValue4
  t5 := Tryz.underlying5
  a5 := Tryz.isAgg5
  z5 := Tryz.sizeOf5
  v5 := Tryz.zeroValue5
  t9 := Tryz.underlying9
  a9 := Tryz.isAgg9
  z9 := Tryz.sizeOf9
  v9 := Tryz.zeroValue9
  t21 := Tryz.underlying21
  a21 := Tryz.isAgg21
  z21 := Tryz.sizeOf21
  v21 := Tryz.zeroValue21
  t37 := Tryz.underlying87
  a37 := Tryz.isAgg87
  z37 := Tryz.sizeOf87
  v37 := Tryz.zeroValue87
  t46 := Tryz.underlying136
  a46 := Tryz.isAgg136
  z46 := Tryz.sizeOf136
  v46 := Tryz.zeroValue136
  t53 := Tryz.underlying117
  a53 := Tryz.isAgg117
  z53 := Tryz.sizeOf117
  v53 := Tryz.zeroValue117
  t75 := Tryz.underlying31
  a75 := Tryz.isAgg31
  z75 := Tryz.sizeOf31
  v75 := Tryz.zeroValue31
  t167 := Tryz.underlying124
  a167 := Tryz.isAgg124
  z167 := Tryz.sizeOf124
  v167 := Tryz.zeroValue124
  t175 := Tryz.underlying139
  a175 := Tryz.isAgg139
  z175 := Tryz.sizeOf139
  v175 := Tryz.zeroValue139 }
open Go.RowKit in
/-- internal/strconv.ParseInt at "": 'if s == "" { return 0, ErrSyntax }'. The world is as it was. (LAID: no walk: one application.) -/
theorem Tryz.internal_strconv_ParseInt_empty (base bits : Int) (w : World) :
    Calls Tryz.prog 91 #[.string ⟨#[]⟩, .int .i64 base, .int .i64 bits] w fun e w' => e = .returned (.tuple #[.int .i64 0, (.iface 124 (.int .i64 2))]) ∧ w' = w := Any.internal_strconv_ParseInt_empty Tryz.lays247 base bits w
open Go.RowKit in
/-- internal/strconv.Atoi at "". (LAID: no walk: one application.) -/
theorem Tryz.internal_strconv_Atoi_empty (w : World) :
    Calls Tryz.prog 75 #[.string ⟨#[]⟩] w fun e w' => e = .returned (.tuple #[.int .i64 0, (.iface 124 (.int .i64 2))]) ∧ w' = w := Any.internal_strconv_Atoi_empty Tryz.lays244 w
open Go.RowKit in
/-- internal/strconv.Atoi, AT EVERY STRING OF AT MOST 18 BYTES THAT IS NO DECIMAL NUMERAL: 0, and ErrSyntax. (LAID: no walk: one application.) -/
theorem Tryz.internal_strconv_Atoi_fail (s : ByteArray) (hl : s.size ≤ 18) (h : Lib.atoi s.data.toList = none) (w : World) :
    Calls Tryz.prog 75 #[.string s] w fun e w' => e = .returned (.tuple #[.int .i64 0, (.iface 124 (.int .i64 2))]) ∧ (w' = w ∨ ∃ t, w' = Lib.bytesWorld w 5 t) := Any.internal_strconv_Atoi_fail Tryz.lays244 s hl h w
def Tryz.laysM316_ren : Go.Shelf.Ren := ⟨fun | 316 => 106 | n => n, fun | 9 => 9 | 3 => 3 | 4 => 4 | 37 => 87 | 0 => 0 | 127 => 105 | 5 => 5 | n => n, fun | n => n⟩
theorem Tryz.laysM316 : Go.Proofs.LaysM.n316 Tryz.prog Tryz.laysM316_ren := {
  mixed := by kernel_rfl
  f316 := Tryz.func106.trans (congrArg some (by kernel_rfl))
  t0 := Tryz.underlying0
  a0 := Tryz.isAgg0
  z0 := Tryz.sizeOf0
  v0 := Tryz.zeroValue0
  t3 := Tryz.underlying3
  a3 := Tryz.isAgg3
  z3 := Tryz.sizeOf3
  v3 := Tryz.zeroValue3
  t4 := Tryz.underlying4
  a4 := Tryz.isAgg4
  z4 := Tryz.sizeOf4
  v4 := Tryz.zeroValue4
  t9 := Tryz.underlying9
  a9 := Tryz.isAgg9
  z9 := Tryz.sizeOf9
  v9 := Tryz.zeroValue9
  t37 := Tryz.underlying87
  a37 := Tryz.isAgg87
  z37 := Tryz.sizeOf87
  v37 := Tryz.zeroValue87
  t127 := Tryz.underlying105
  a127 := Tryz.isAgg105
  z127 := Tryz.sizeOf105
  v127 := Tryz.zeroValue105
  t5 := Tryz.underlying5
  a5 := Tryz.isAgg5
  z5 := Tryz.sizeOf5
  v5 := Tryz.zeroValue5
  i0 := by kernel_rfl
  i3 := by kernel_rfl
  i4 := by kernel_rfl
  i5 := by kernel_rfl
  i9 := by kernel_rfl
  i37 := by kernel_rfl
  i127 := by kernel_rfl }
open Go.RowKit in
/-- internal/stringslite.Clone (what strings.Clone calls): "Clone returns a fresh copy of s.": THE SAME BYTES. Of what was there nothing has turned (a new row is laid, and frozen, where s is not empty). (LAID: no walk: one application.) -/
theorem Tryz.stringslite_Clone (s : ByteArray) (w : World) (hlim : s.size ≤ 281474976710656) :
    Calls Tryz.prog 106 #[.string s] w fun e w' => e = .returned (.string s) ∧ Below w.heap.size w w' := Any.stringslite_Clone Tryz.laysM316 s w hlim
def Tryz.laysM279_ren : Go.Shelf.Ren := ⟨fun | 279 => 92 | 316 => 106 | n => n, fun | 9 => 9 | 168 => 127 | 75 => 31 | 210 => 143 | 3 => 3 | 4 => 4 | 37 => 87 | 0 => 0 | 127 => 105 | 80 => 91 | 5 => 5 | n => n, fun | 15 => 4 | n => n⟩
theorem Tryz.laysM279 : Go.Proofs.LaysM.n279 Tryz.prog Tryz.laysM279_ren := {
  mixed := by kernel_rfl
  f279 := Tryz.func92.trans (congrArg some (by kernel_rfl))
  f316 := Tryz.func106.trans (congrArg some (by kernel_rfl))
  t0 := Tryz.underlying0
  a0 := Tryz.isAgg0
  z0 := Tryz.sizeOf0
  v0 := Tryz.zeroValue0
  t3 := Tryz.underlying3
  a3 := Tryz.isAgg3
  z3 := Tryz.sizeOf3
  v3 := Tryz.zeroValue3
  t4 := Tryz.underlying4
  a4 := Tryz.isAgg4
  z4 := Tryz.sizeOf4
  v4 := Tryz.zeroValue4
  t9 := Tryz.underlying9
  a9 := Tryz.isAgg9
  z9 := Tryz.sizeOf9
  v9 := Tryz.zeroValue9
  t37 := Tryz.underlying87
  a37 := Tryz.isAgg87
  z37 := Tryz.sizeOf87
  v37 := Tryz.zeroValue87
  t75 := Tryz.underlying31
  a75 := Tryz.isAgg31
  z75 := Tryz.sizeOf31
  v75 := Tryz.zeroValue31
  t127 := Tryz.underlying105
  a127 := Tryz.isAgg105
  z127 := Tryz.sizeOf105
  v127 := Tryz.zeroValue105
  t168 := Tryz.underlying127
  a168 := Tryz.isAgg127
  z168 := Tryz.sizeOf127
  v168 := Tryz.zeroValue127
  t210 := Tryz.underlying143
  a210 := Tryz.isAgg143
  z210 := Tryz.sizeOf143
  v210 := Tryz.zeroValue143
  g15 := by kernel_rfl
  t5 := Tryz.underlying5
  a5 := Tryz.isAgg5
  z5 := Tryz.sizeOf5
  v5 := Tryz.zeroValue5
  t80 := Tryz.underlying91
  a80 := Tryz.isAgg91
  z80 := Tryz.sizeOf91
  v80 := Tryz.zeroValue91
  i0 := by kernel_rfl
  i3 := by kernel_rfl
  i4 := by kernel_rfl
  i5 := by kernel_rfl
  i9 := by kernel_rfl
  i37 := by kernel_rfl
  i75 := by kernel_rfl
  i80 := by kernel_rfl
  i127 := by kernel_rfl
  i168 := by kernel_rfl
  i210 := by kernel_rfl
  m15 := by kernel_rfl }
open Go.RowKit in
/-- strconv.syntaxError: '&NumError{fn, stringslite.Clone(str), ErrSyntax}': A POINTER TO A NEW BLOCK that holds fn, str's bytes, and what the variable ErrSyntax holds. Of what was there nothing has turned. (LAID: no walk: one application.) -/
theorem Tryz.strconv_syntaxError (fn s : ByteArray) (ev : Value) (w : World) (hlim : s.size ≤ 281474976710656) (hv : w.cell? ⟨4, 0, none⟩ = some ev) (hev : ev = .nilIface ∨ ∃ te pe, ev = .iface te pe) :
    Calls Tryz.prog 92 #[.string fn, .string s] w fun e w' => ∃ N, e = .returned (.pointer (some ⟨N, 0, none⟩)) ∧ w.heap.size ≤ N ∧ w'.heap[N]? = some (.cells #[.string fn, .string s, ev] 143 (0, 0)) ∧ Below w.heap.size w w' := Any.strconv_syntaxError Tryz.laysM279 fn s ev w hlim hv hev
def Tryz.laysC245_ren : Go.Shelf.Ren := ⟨fun | 245 => 76 | 279 => 92 | 280 => 93 | 281 => 94 | 282 => 95 | 316 => 106 | 171 => 20 | 205 => 107 | 243 => 46 | 246 => 71 | 283 => 82 | 284 => 83 | 285 => 84 | 286 => 85 | 129 => 98 | 317 => 97 | 318 => 99 | 319 => 100 | 320 => 101 | 337 => 108 | 338 => 109 | n => n, fun | 9 => 9 | 3 => 3 | 75 => 31 | 167 => 124 | 4 => 4 | 168 => 127 | 210 => 143 | 37 => 87 | 0 => 0 | 127 => 105 | 145 => 148 | 143 => 146 | 2 => 2 | 171 => 116 | 53 => 117 | 5 => 5 | 173 => 120 | 212 => 132 | 51 => 133 | 20 => 20 | 213 => 134 | 46 => 136 | 232 => 149 | 233 => 150 | 80 => 91 | n => n, fun | 15 => 4 | 16 => 5 | 17 => 3 | 18 => 6 | 19 => 7 | n => n⟩
theorem Tryz.laysC245 : Go.Proofs.LaysC.n245 Tryz.prog Tryz.laysC245_ren := {
  mixed := by kernel_rfl
  f129 := Tryz.func98.trans (congrArg some (by kernel_rfl))
  f171 := Tryz.func20.trans (congrArg some (by kernel_rfl))
  f205 := Tryz.func107.trans (congrArg some (by kernel_rfl))
  f243 := Tryz.func46.trans (congrArg some (by kernel_rfl))
  f245 := Tryz.func76.trans (congrArg some (by kernel_rfl))
  f246 := Tryz.func71.trans (congrArg some (by kernel_rfl))
  f279 := Tryz.func92.trans (congrArg some (by kernel_rfl))
  f280 := Tryz.func93.trans (congrArg some (by kernel_rfl))
  f281 := Tryz.func94.trans (congrArg some (by kernel_rfl))
  f282 := Tryz.func95.trans (congrArg some (by kernel_rfl))
  f283 := Tryz.func82.trans (congrArg some (by kernel_rfl))
  f284 := Tryz.func83.trans (congrArg some (by kernel_rfl))
  f285 := Tryz.func84.trans (congrArg some (by kernel_rfl))
  f286 := Tryz.func85.trans (congrArg some (by kernel_rfl))
  f316 := Tryz.func106.trans (congrArg some (by kernel_rfl))
  f317 := Tryz.func97.trans (congrArg some (by kernel_rfl))
  f318 := Tryz.func99.trans (congrArg some (by kernel_rfl))
  f319 := Tryz.func100.trans (congrArg some (by kernel_rfl))
  f320 := Tryz.func101.trans (congrArg some (by kernel_rfl))
  f337 := Tryz.func108.trans (congrArg some (by kernel_rfl))
  f338 := Tryz.func109.trans (congrArg some (by kernel_rfl))
  t0 := Tryz.underlying0
  a0 := Tryz.isAgg0
  z0 := Tryz.sizeOf0
  v0 := Tryz.zeroValue0
  t2 := Tryz.underlying2
  a2 := Tryz.isAgg2
  z2 := Tryz.sizeOf2
  v2 := Tryz.zeroValue2
  t3 := Tryz.underlying3
  a3 := Tryz.isAgg3
  z3 := Tryz.sizeOf3
  v3 := Tryz.zeroValue3
  t4 := Tryz.underlying4
  a4 := Tryz.isAgg4
  z4 := Tryz.sizeOf4
  v4 := Tryz.zeroValue4
  t5 := Tryz.underlying5
  a5 := Tryz.isAgg5
  z5 := Tryz.sizeOf5
  v5 := Tryz.zeroValue5
  t9 := Tryz.underlying9
  a9 := Tryz.isAgg9
  z9 := Tryz.sizeOf9
  v9 := Tryz.zeroValue9
  t20 := Tryz.underlying20
  a20 := Tryz.isAgg20
  z20 := Tryz.sizeOf20
  v20 := Tryz.zeroValue20
  t37 := Tryz.underlying87
  a37 := Tryz.isAgg87
  z37 := Tryz.sizeOf87
  v37 := Tryz.zeroValue87
  t46 := Tryz.underlying136
  a46 := Tryz.isAgg136
  z46 := Tryz.sizeOf136
  v46 := Tryz.zeroValue136
  t51 := Tryz.underlying133
  a51 := Tryz.isAgg133
  z51 := Tryz.sizeOf133
  v51 := Tryz.zeroValue133
  t53 := Tryz.underlying117
  a53 := Tryz.isAgg117
  z53 := Tryz.sizeOf117
  v53 := Tryz.zeroValue117
  t75 := Tryz.underlying31
  a75 := Tryz.isAgg31
  z75 := Tryz.sizeOf31
  v75 := Tryz.zeroValue31
  t127 := Tryz.underlying105
  a127 := Tryz.isAgg105
  z127 := Tryz.sizeOf105
  v127 := Tryz.zeroValue105
  t143 := Tryz.underlying146
  a143 := Tryz.isAgg146
  z143 := Tryz.sizeOf146
  v143 := Tryz.zeroValue146
  t145 := Tryz.underlying148
  a145 := Tryz.isAgg148
  z145 := Tryz.sizeOf148
  v145 := Tryz.zeroValue148
  t167 := Tryz.underlying124
  a167 := Tryz.isAgg124
  z167 := Tryz.sizeOf124
  v167 := Tryz.zeroValue124
  t168 := Tryz.underlying127
  a168 := Tryz.isAgg127
  z168 := Tryz.sizeOf127
  v168 := Tryz.zeroValue127
  t171 := Tryz.underlying116
  a171 := Tryz.isAgg116
  z171 := Tryz.sizeOf116
  v171 := Tryz.zeroValue116
  t173 := Tryz.underlying120
  a173 := Tryz.isAgg120
  z173 := Tryz.sizeOf120
  v173 := Tryz.zeroValue120
  t210 := Tryz.underlying143
  a210 := Tryz.isAgg143
  z210 := Tryz.sizeOf143
  v210 := Tryz.zeroValue143
  t212 := Tryz.underlying132
  a212 := Tryz.isAgg132
  z212 := Tryz.sizeOf132
  v212 := Tryz.zeroValue132
  t213 := Tryz.underlying134
  a213 := Tryz.isAgg134
  z213 := Tryz.sizeOf134
  t232 := Tryz.underlying149
  a232 := Tryz.isAgg149
  z232 := Tryz.sizeOf149
  v232 := Tryz.zeroValue149
  t233 := Tryz.underlying150
  a233 := Tryz.isAgg150
  z233 := Tryz.sizeOf150
  v233 := Tryz.zeroValue150
  g15 := by kernel_rfl
  g16 := by kernel_rfl
  g17 := by kernel_rfl
  g18 := by kernel_rfl
  g19 := by kernel_rfl
  t80 := Tryz.underlying91
  a80 := Tryz.isAgg91
  z80 := Tryz.sizeOf91
  v80 := Tryz.zeroValue91
  i0 := by kernel_rfl
  i2 := by kernel_rfl
  i3 := by kernel_rfl
  i4 := by kernel_rfl
  i5 := by kernel_rfl
  i9 := by kernel_rfl
  i20 := by kernel_rfl
  i37 := by kernel_rfl
  i46 := by kernel_rfl
  i51 := by kernel_rfl
  i53 := by kernel_rfl
  i75 := by kernel_rfl
  i80 := by kernel_rfl
  i127 := by kernel_rfl
  i143 := by kernel_rfl
  i145 := by kernel_rfl
  i167 := by kernel_rfl
  i168 := by kernel_rfl
  i171 := by kernel_rfl
  i173 := by kernel_rfl
  i210 := by kernel_rfl
  i212 := by kernel_rfl
  i232 := by kernel_rfl
  i233 := by kernel_rfl
  m15 := by kernel_rfl
  m16 := by kernel_rfl
  m17 := by kernel_rfl
  m18 := by kernel_rfl
  m19 := by kernel_rfl
  c0 := by kernel_rfl
  c2 := by kernel_rfl
  c3 := by kernel_rfl
  c4 := by kernel_rfl
  c5 := by kernel_rfl
  c9 := by kernel_rfl
  c20 := by kernel_rfl
  c37 := by kernel_rfl
  c46 := by kernel_rfl
  c51 := by kernel_rfl
  c53 := by kernel_rfl
  c75 := by kernel_rfl
  c80 := by kernel_rfl
  c127 := by kernel_rfl
  c143 := by kernel_rfl
  c145 := by kernel_rfl
  c167 := by kernel_rfl
  c168 := by kernel_rfl
  c171 := by kernel_rfl
  c173 := by kernel_rfl
  c210 := by kernel_rfl
  c212 := by kernel_rfl
  c213 := by kernel_rfl
  c232 := by kernel_rfl
  c233 := by kernel_rfl }
open Go.RowKit in
/-- strconv.toError, at the inner package's ErrSyntax: 'syntaxError(fn, s)' as an error: A *NumError IN A NEW BLOCK. (LAID: no walk: one application.) -/
theorem Tryz.strconv_toError_syntax (fn s : ByteArray) (base bits : Int) (ev : Value) (w : World) (hlim : s.size ≤ 281474976710656) (hv : w.cell? ⟨4, 0, none⟩ = some ev) (hev : ev = .nilIface ∨ ∃ te pe, ev = .iface te pe) :
    Calls Tryz.prog 76 #[.string fn, .string s, .int .i64 base, .int .i64 bits, .iface 124 (.int .i64 2)] w fun e w' => ∃ N, e = .returned (.iface 127 (.pointer (some ⟨N, 0, none⟩))) ∧ w.heap.size ≤ N ∧ w'.heap[N]? = some (.cells #[.string fn, .string s, ev] 143 (0, 0)) ∧ Below w.heap.size w w' := Any.strconv_toError_syntax Tryz.laysC245 fn s base bits ev w hlim hv hev
def Tryz.laysC172_ren : Go.Shelf.Ren := ⟨fun | 172 => 55 | 244 => 75 | 245 => 76 | 247 => 91 | 279 => 92 | 280 => 93 | 281 => 94 | 282 => 95 | 287 => 105 | 316 => 106 | 171 => 20 | 205 => 107 | 321 => 111 | 322 => 112 | 243 => 46 | 246 => 71 | 283 => 82 | 284 => 83 | 285 => 84 | 286 => 85 | 129 => 98 | 317 => 97 | 318 => 99 | 319 => 100 | 320 => 101 | 337 => 108 | 338 => 109 | n => n, fun | 9 => 9 | 3 => 3 | 75 => 31 | 76 => 77 | 4 => 4 | 5 => 5 | 167 => 124 | 37 => 87 | 0 => 0 | 85 => 125 | 2 => 2 | 168 => 127 | 53 => 117 | 175 => 139 | 46 => 136 | 210 => 143 | 127 => 105 | 145 => 148 | 143 => 146 | 21 => 21 | 171 => 116 | 173 => 120 | 212 => 132 | 51 => 133 | 20 => 20 | 213 => 134 | 232 => 149 | 233 => 150 | 80 => 91 | n => n, fun | 15 => 4 | 16 => 5 | 17 => 3 | 18 => 6 | 19 => 7 | n => n⟩
theorem Tryz.laysC172 : Go.Proofs.LaysC.n172 Tryz.prog Tryz.laysC172_ren := {
  mixed := by kernel_rfl
  f129 := Tryz.func98.trans (congrArg some (by kernel_rfl))
  f171 := Tryz.func20.trans (congrArg some (by kernel_rfl))
  f172 := Tryz.func55.trans (congrArg some (by kernel_rfl))
  f205 := Tryz.func107.trans (congrArg some (by kernel_rfl))
  f243 := Tryz.func46.trans (congrArg some (by kernel_rfl))
  f244 := Tryz.func75.trans (congrArg some (by kernel_rfl))
  f245 := Tryz.func76.trans (congrArg some (by kernel_rfl))
  f246 := Tryz.func71.trans (congrArg some (by kernel_rfl))
  f247 := Tryz.func91.trans (congrArg some (by kernel_rfl))
  f279 := Tryz.func92.trans (congrArg some (by kernel_rfl))
  f280 := Tryz.func93.trans (congrArg some (by kernel_rfl))
  f281 := Tryz.func94.trans (congrArg some (by kernel_rfl))
  f282 := Tryz.func95.trans (congrArg some (by kernel_rfl))
  f283 := Tryz.func82.trans (congrArg some (by kernel_rfl))
  f284 := Tryz.func83.trans (congrArg some (by kernel_rfl))
  f285 := Tryz.func84.trans (congrArg some (by kernel_rfl))
  f286 := Tryz.func85.trans (congrArg some (by kernel_rfl))
  f287 := Tryz.func105.trans (congrArg some (by kernel_rfl))
  f316 := Tryz.func106.trans (congrArg some (by kernel_rfl))
  f317 := Tryz.func97.trans (congrArg some (by kernel_rfl))
  f318 := Tryz.func99.trans (congrArg some (by kernel_rfl))
  f319 := Tryz.func100.trans (congrArg some (by kernel_rfl))
  f320 := Tryz.func101.trans (congrArg some (by kernel_rfl))
  f321 := Tryz.func111.trans (congrArg some (by kernel_rfl))
  f322 := Tryz.func112.trans (congrArg some (by kernel_rfl))
  f337 := Tryz.func108.trans (congrArg some (by kernel_rfl))
  f338 := Tryz.func109.trans (congrArg some (by kernel_rfl))
  t0 := Tryz.underlying0
  a0 := Tryz.isAgg0
  z0 := Tryz.sizeOf0
  v0 := Tryz.zeroValue0
  t2 := Tryz.underlying2
  a2 := Tryz.isAgg2
  z2 := Tryz.sizeOf2
  v2 := Tryz.zeroValue2
  t3 := Tryz.underlying3
  a3 := Tryz.isAgg3
  z3 := Tryz.sizeOf3
  v3 := Tryz.zeroValue3
  t4 := Tryz.underlying4
  a4 := Tryz.isAgg4
  z4 := Tryz.sizeOf4
  v4 := Tryz.zeroValue4
  t5 := Tryz.underlying5
  a5 := Tryz.isAgg5
  z5 := Tryz.sizeOf5
  v5 := Tryz.zeroValue5
  t9 := Tryz.underlying9
  a9 := Tryz.isAgg9
  z9 := Tryz.sizeOf9
  v9 := Tryz.zeroValue9
  t20 := Tryz.underlying20
  a20 := Tryz.isAgg20
  z20 := Tryz.sizeOf20
  v20 := Tryz.zeroValue20
  t21 := Tryz.underlying21
  a21 := Tryz.isAgg21
  z21 := Tryz.sizeOf21
  v21 := Tryz.zeroValue21
  t37 := Tryz.underlying87
  a37 := Tryz.isAgg87
  z37 := Tryz.sizeOf87
  v37 := Tryz.zeroValue87
  t46 := Tryz.underlying136
  a46 := Tryz.isAgg136
  z46 := Tryz.sizeOf136
  v46 := Tryz.zeroValue136
  t51 := Tryz.underlying133
  a51 := Tryz.isAgg133
  z51 := Tryz.sizeOf133
  v51 := Tryz.zeroValue133
  t53 := Tryz.underlying117
  a53 := Tryz.isAgg117
  z53 := Tryz.sizeOf117
  v53 := Tryz.zeroValue117
  t75 := Tryz.underlying31
  a75 := Tryz.isAgg31
  z75 := Tryz.sizeOf31
  v75 := Tryz.zeroValue31
  t76 := Tryz.underlying77
  a76 := Tryz.isAgg77
  z76 := Tryz.sizeOf77
  v76 := Tryz.zeroValue77
  t85 := Tryz.underlying125
  a85 := Tryz.isAgg125
  z85 := Tryz.sizeOf125
  v85 := Tryz.zeroValue125
  t127 := Tryz.underlying105
  a127 := Tryz.isAgg105
  z127 := Tryz.sizeOf105
  v127 := Tryz.zeroValue105
  t143 := Tryz.underlying146
  a143 := Tryz.isAgg146
  z143 := Tryz.sizeOf146
  v143 := Tryz.zeroValue146
  t145 := Tryz.underlying148
  a145 := Tryz.isAgg148
  z145 := Tryz.sizeOf148
  v145 := Tryz.zeroValue148
  t167 := Tryz.underlying124
  a167 := Tryz.isAgg124
  z167 := Tryz.sizeOf124
  v167 := Tryz.zeroValue124
  t168 := Tryz.underlying127
  a168 := Tryz.isAgg127
  z168 := Tryz.sizeOf127
  v168 := Tryz.zeroValue127
  t171 := Tryz.underlying116
  a171 := Tryz.isAgg116
  z171 := Tryz.sizeOf116
  v171 := Tryz.zeroValue116
  t173 := Tryz.underlying120
  a173 := Tryz.isAgg120
  z173 := Tryz.sizeOf120
  v173 := Tryz.zeroValue120
  t175 := Tryz.underlying139
  a175 := Tryz.isAgg139
  z175 := Tryz.sizeOf139
  v175 := Tryz.zeroValue139
  t210 := Tryz.underlying143
  a210 := Tryz.isAgg143
  z210 := Tryz.sizeOf143
  v210 := Tryz.zeroValue143
  t212 := Tryz.underlying132
  a212 := Tryz.isAgg132
  z212 := Tryz.sizeOf132
  v212 := Tryz.zeroValue132
  t213 := Tryz.underlying134
  a213 := Tryz.isAgg134
  z213 := Tryz.sizeOf134
  t232 := Tryz.underlying149
  a232 := Tryz.isAgg149
  z232 := Tryz.sizeOf149
  v232 := Tryz.zeroValue149
  t233 := Tryz.underlying150
  a233 := Tryz.isAgg150
  z233 := Tryz.sizeOf150
  v233 := Tryz.zeroValue150
  g15 := by kernel_rfl
  g16 := by kernel_rfl
  g17 := by kernel_rfl
  g18 := by kernel_rfl
  g19 := by kernel_rfl
  t80 := Tryz.underlying91
  a80 := Tryz.isAgg91
  z80 := Tryz.sizeOf91
  v80 := Tryz.zeroValue91
  i0 := by kernel_rfl
  i2 := by kernel_rfl
  i3 := by kernel_rfl
  i4 := by kernel_rfl
  i5 := by kernel_rfl
  i9 := by kernel_rfl
  i20 := by kernel_rfl
  i21 := by kernel_rfl
  i37 := by kernel_rfl
  i46 := by kernel_rfl
  i51 := by kernel_rfl
  i53 := by kernel_rfl
  i75 := by kernel_rfl
  i76 := by kernel_rfl
  i80 := by kernel_rfl
  i85 := by kernel_rfl
  i127 := by kernel_rfl
  i143 := by kernel_rfl
  i145 := by kernel_rfl
  i167 := by kernel_rfl
  i168 := by kernel_rfl
  i171 := by kernel_rfl
  i173 := by kernel_rfl
  i175 := by kernel_rfl
  i210 := by kernel_rfl
  i212 := by kernel_rfl
  i232 := by kernel_rfl
  i233 := by kernel_rfl
  m15 := by kernel_rfl
  m16 := by kernel_rfl
  m17 := by kernel_rfl
  m18 := by kernel_rfl
  m19 := by kernel_rfl
  c0 := by kernel_rfl
  c2 := by kernel_rfl
  c3 := by kernel_rfl
  c4 := by kernel_rfl
  c5 := by kernel_rfl
  c9 := by kernel_rfl
  c20 := by kernel_rfl
  c21 := by kernel_rfl
  c37 := by kernel_rfl
  c46 := by kernel_rfl
  c51 := by kernel_rfl
  c53 := by kernel_rfl
  c75 := by kernel_rfl
  c76 := by kernel_rfl
  c80 := by kernel_rfl
  c85 := by kernel_rfl
  c127 := by kernel_rfl
  c143 := by kernel_rfl
  c145 := by kernel_rfl
  c167 := by kernel_rfl
  c168 := by kernel_rfl
  c171 := by kernel_rfl
  c173 := by kernel_rfl
  c175 := by kernel_rfl
  c210 := by kernel_rfl
  c212 := by kernel_rfl
  c213 := by kernel_rfl
  c232 := by kernel_rfl
  c233 := by kernel_rfl }
open Go.RowKit in
/-- strconv.Atoi, AT EVERY STRING OF AT MOST 18 BYTES THAT IS NO DECIMAL NUMERAL (the empty one too): 0, AND AN ERROR THAT IS NOT nil: a *NumError in a new block N: {Func: "Atoi", Num: s's bytes, Err: what the variable ErrSyntax holds}. Of what was there nothing has turned. (LAID: no walk: one application.) -/
theorem Tryz.strconv_Atoi_err (s : ByteArray) (hl : s.size ≤ 18) (h : Lib.atoi s.data.toList = none) (ev : Value) (w : World) (hv : w.cell? ⟨4, 0, none⟩ = some ev) (hev : ev = .nilIface ∨ ∃ te pe, ev = .iface te pe) :
    Calls Tryz.prog 55 #[.string s] w fun e w' => ∃ N, e = .returned (.tuple #[.int .i64 0, .iface 127 (.pointer (some ⟨N, 0, none⟩))]) ∧ w.heap.size ≤ N ∧ w'.heap[N]? = some (.cells #[.string ⟨#[65, 116, 111, 105]⟩, .string s, ev] 143 (0, 0)) ∧ Below w.heap.size w w' := Any.strconv_Atoi_err Tryz.laysC172 s hl h ev w hv hev
open Go.RowKit in
theorem Tryz.strconv_Atoi_err_var (s : ByteArray) (hl : s.size ≤ 18) (h : Lib.atoi s.data.toList = none) (tp : TypeId) (p : Value) (w : World) (hvar : w.var? Tryz.prog "strconv.ErrSyntax" = some #[.iface tp p]) :
    Calls Tryz.prog 55 #[.string s] w fun e w' => ∃ N, e = .returned (.tuple #[.int .i64 0, .iface 127 (.pointer (some ⟨N, 0, none⟩))]) ∧ w.heap.size ≤ N ∧ w'.heap[N]? = some (.cells #[.string ⟨#[65, 116, 111, 105]⟩, .string s, .iface tp p] 143 (0, 0)) ∧ Below w.heap.size w w' := Any.strconv_Atoi_err_var Tryz.laysC172 s hl h tp p w hvar
def Tryz.lays321_ren : Go.Shelf.Ren := ⟨fun | 321 => 111 | n => n, fun | 5 => 5 | n => n, fun | n => n⟩
theorem Tryz.lays321 : Go.Proofs.Lays.n321 Tryz.prog Tryz.lays321_ren := {
  mixed := by kernel_rfl
  f321 := Tryz.func111.trans (congrArg some (by kernel_rfl))
  t5 := Tryz.underlying5
  a5 := Tryz.isAgg5
  z5 := Tryz.sizeOf5
  v5 := Tryz.zeroValue5 }
open Go.RowKit in
/-- internal/strconv.lower: 'c | ('x' - 'X')': the bit 32 set. The world is as it was. (LAID: no walk: one application.) -/
theorem Tryz.internal_strconv_lower (c : Int) (w : World) :
    Calls Tryz.prog 111 #[.int .u8 c] w fun e w' => e = .returned (.int .u8 (bits .or .u8 c 32)) ∧ w' = w := Any.internal_strconv_lower Tryz.lays321 c w
def Tryz.lays287_ren : Go.Shelf.Ren := ⟨fun | 287 => 105 | 321 => 111 | 322 => 112 | n => n, fun | 9 => 9 | 3 => 3 | 53 => 117 | 75 => 31 | 4 => 4 | 167 => 124 | 5 => 5 | 46 => 136 | 37 => 87 | 0 => 0 | 21 => 21 | 80 => 91 | n => n, fun | n => n⟩
theorem Tryz.lays287 : Go.Proofs.Lays.n287 Tryz.prog Tryz.lays287_ren := {
  mixed := by kernel_rfl
  f287 := Tryz.func105.trans (congrArg some (by kernel_rfl))
  f321 := Tryz.func111.trans (congrArg some (by kernel_rfl))
  f322 := Tryz.func112.trans (congrArg some (by kernel_rfl))
  t0 := Tryz.underlying0
  a0 := Tryz.isAgg0
  z0 := Tryz.sizeOf0
  v0 := Tryz.zeroValue0
  t3 := Tryz.underlying3
  a3 := Tryz.isAgg3
  z3 := Tryz.sizeOf3
  v3 := Tryz.zeroValue3
  t4 := Tryz.underlying4
  a4 := Tryz.isAgg4
  z4 := Tryz.sizeOf4
  v4 := Tryz.zeroValue4
  t5 := Tryz.underlying5
  a5 := Tryz.isAgg5
  z5 := Tryz.sizeOf5
  v5 := Tryz.zeroValue5
  t9 := Tryz.underlying9
  a9 := Tryz.isAgg9
  z9 := Tryz.sizeOf9
  v9 := Tryz.zeroValue9
  t21 := Tryz.underlying21
  a21 := Tryz.isAgg21
  z21 := Tryz.sizeOf21
  v21 := Tryz.zeroValue21
  t37 := Tryz.underlying87
  a37 := Tryz.isAgg87
  z37 := Tryz.sizeOf87
  v37 := Tryz.zeroValue87
  t46 := Tryz.underlying136
  a46 := Tryz.isAgg136
  z46 := Tryz.sizeOf136
  v46 := Tryz.zeroValue136
  t53 := Tryz.underlying117
  a53 := Tryz.isAgg117
  z53 := Tryz.sizeOf117
  v53 := Tryz.zeroValue117
  t75 := Tryz.underlying31
  a75 := Tryz.isAgg31
  z75 := Tryz.sizeOf31
  v75 := Tryz.zeroValue31
  t167 := Tryz.underlying124
  a167 := Tryz.isAgg124
  z167 := Tryz.sizeOf124
  v167 := Tryz.zeroValue124 }
open Go.RowKit in
/-- internal/strconv.ParseUint(s, 10, 0), s NOT EMPTY: 'Lib.parseUint10 0' OF ITS BYTES: the number; or (0, ErrSyntax); or (the greatest uint64, ErrRange). The world behind the call: the one new row that '[]byte(s)' lays. (LAID: no walk: one application.) -/
theorem Tryz.internal_strconv_ParseUint_10 (t : ByteArray) (hne : t.size ≠ 0) (hmax : t.size ≤ 9223372036854775806) (w : World) :
    Calls Tryz.prog 105 #[.string t, .int .i64 10, .int .i64 0] w fun e w' => e = .returned (Lib.uintTuple 124 (Lib.parseUint10 0 t.data.toList)) ∧ w' = Lib.bytesWorld w 5 t := Any.internal_strconv_ParseUint_10 Tryz.lays287 t hne hmax w
open Go.RowKit in
/-- internal/strconv.ParseUint(s, 10, 0): 'Lib.parseMag' OF ITS BYTES. The world: as it was (the empty string), or with the one new row that '[]byte(s)' lays. (LAID: no walk: one application.) -/
theorem Tryz.internal_strconv_ParseUint_10_any (t : ByteArray) (hmax : t.size ≤ 9223372036854775806) (w : World) :
    Calls Tryz.prog 105 #[.string t, .int .i64 10, .int .i64 0] w fun e w' => e = .returned (Lib.uintTuple 124 (Lib.parseMag t.data.toList)) ∧ (w' = w ∨ w' = Lib.bytesWorld w 5 t) := Any.internal_strconv_ParseUint_10_any Tryz.lays287 t hmax w
def Tryz.laysC247_ren : Go.Shelf.Ren := ⟨fun | 247 => 91 | 287 => 105 | 321 => 111 | 322 => 112 | n => n, fun | 9 => 9 | 3 => 3 | 2 => 2 | 75 => 31 | 4 => 4 | 167 => 124 | 5 => 5 | 53 => 117 | 175 => 139 | 46 => 136 | 37 => 87 | 0 => 0 | 21 => 21 | 80 => 91 | n => n, fun | n => n⟩
theorem Tryz.laysC247 : Go.Proofs.LaysC.n247 Tryz.prog Tryz.laysC247_ren := {
  mixed := by kernel_rfl
  f247 := Tryz.func91.trans (congrArg some (by kernel_rfl))
  f287 := Tryz.func105.trans (congrArg some (by kernel_rfl))
  f321 := Tryz.func111.trans (congrArg some (by kernel_rfl))
  f322 := Tryz.func112.trans (congrArg some (by kernel_rfl))
  t0 := Tryz.underlying0
  a0 := Tryz.isAgg0
  z0 := Tryz.sizeOf0
  v0 := Tryz.zeroValue0
  t2 := Tryz.underlying2
  a2 := Tryz.isAgg2
  z2 := Tryz.sizeOf2
  v2 := Tryz.zeroValue2
  t3 := Tryz.underlying3
  a3 := Tryz.isAgg3
  z3 := Tryz.sizeOf3
  v3 := Tryz.zeroValue3
  t4 := Tryz.underlying4
  a4 := Tryz.isAgg4
  z4 := Tryz.sizeOf4
  v4 := Tryz.zeroValue4
  t5 := Tryz.underlying5
  a5 := Tryz.isAgg5
  z5 := Tryz.sizeOf5
  v5 := Tryz.zeroValue5
  t9 := Tryz.underlying9
  a9 := Tryz.isAgg9
  z9 := Tryz.sizeOf9
  v9 := Tryz.zeroValue9
  t21 := Tryz.underlying21
  a21 := Tryz.isAgg21
  z21 := Tryz.sizeOf21
  v21 := Tryz.zeroValue21
  t37 := Tryz.underlying87
  a37 := Tryz.isAgg87
  z37 := Tryz.sizeOf87
  v37 := Tryz.zeroValue87
  t46 := Tryz.underlying136
  a46 := Tryz.isAgg136
  z46 := Tryz.sizeOf136
  v46 := Tryz.zeroValue136
  t53 := Tryz.underlying117
  a53 := Tryz.isAgg117
  z53 := Tryz.sizeOf117
  v53 := Tryz.zeroValue117
  t75 := Tryz.underlying31
  a75 := Tryz.isAgg31
  z75 := Tryz.sizeOf31
  v75 := Tryz.zeroValue31
  t167 := Tryz.underlying124
  a167 := Tryz.isAgg124
  z167 := Tryz.sizeOf124
  v167 := Tryz.zeroValue124
  t175 := Tryz.underlying139
  a175 := Tryz.isAgg139
  z175 := Tryz.sizeOf139
  v175 := Tryz.zeroValue139
  t80 := Tryz.underlying91
  a80 := Tryz.isAgg91
  z80 := Tryz.sizeOf91
  v80 := Tryz.zeroValue91
  i0 := by kernel_rfl
  i2 := by kernel_rfl
  i3 := by kernel_rfl
  i4 := by kernel_rfl
  i5 := by kernel_rfl
  i9 := by kernel_rfl
  i21 := by kernel_rfl
  i37 := by kernel_rfl
  i46 := by kernel_rfl
  i53 := by kernel_rfl
  i75 := by kernel_rfl
  i80 := by kernel_rfl
  i167 := by kernel_rfl
  i175 := by kernel_rfl
  c0 := by kernel_rfl
  c2 := by kernel_rfl
  c3 := by kernel_rfl
  c4 := by kernel_rfl
  c5 := by kernel_rfl
  c9 := by kernel_rfl
  c21 := by kernel_rfl
  c37 := by kernel_rfl
  c46 := by kernel_rfl
  c53 := by kernel_rfl
  c75 := by kernel_rfl
  c80 := by kernel_rfl
  c167 := by kernel_rfl
  c175 := by kernel_rfl }
open Go.RowKit in
/-- internal/strconv.ParseInt(s, 10, 0), s NOT EMPTY: 'Lib.atoiAll' OF ITS BYTES: (the number, nil); (0, ErrSyntax); (the greatest or the least int64 by the sign, ErrRange). The world: as it was, or with the one new row that '[]byte(..)' lays. (LAID: no walk: one application.) -/
theorem Tryz.internal_strconv_ParseInt_10 (s : ByteArray) (hne : s.size ≠ 0) (hmax : s.size ≤ 9223372036854775806) (w : World) :
    Calls Tryz.prog 91 #[.string s, .int .i64 10, .int .i64 0] w fun e w' => e = .returned (Lib.intTuple 124 (Lib.atoiSat s.data.toList) (Lib.atoiAll s.data.toList)) ∧ (w' = w ∨ ∃ t, w' = Lib.bytesWorld w 5 t) := Any.internal_strconv_ParseInt_10 Tryz.laysC247 s hne hmax w
def Tryz.laysC244_ren : Go.Shelf.Ren := ⟨fun | 244 => 75 | 247 => 91 | 287 => 105 | 321 => 111 | 322 => 112 | n => n, fun | 9 => 9 | 3 => 3 | 75 => 31 | 4 => 4 | 5 => 5 | 167 => 124 | 37 => 87 | 0 => 0 | 85 => 125 | 2 => 2 | 53 => 117 | 175 => 139 | 46 => 136 | 21 => 21 | 80 => 91 | n => n, fun | n => n⟩
theorem Tryz.laysC244 : Go.Proofs.LaysC.n244 Tryz.prog Tryz.laysC244_ren := {
  mixed := by kernel_rfl
  f244 := Tryz.func75.trans (congrArg some (by kernel_rfl))
  f247 := Tryz.func91.trans (congrArg some (by kernel_rfl))
  f287 := Tryz.func105.trans (congrArg some (by kernel_rfl))
  f321 := Tryz.func111.trans (congrArg some (by kernel_rfl))
  f322 := Tryz.func112.trans (congrArg some (by kernel_rfl))
  t0 := Tryz.underlying0
  a0 := Tryz.isAgg0
  z0 := Tryz.sizeOf0
  v0 := Tryz.zeroValue0
  t2 := Tryz.underlying2
  a2 := Tryz.isAgg2
  z2 := Tryz.sizeOf2
  v2 := Tryz.zeroValue2
  t3 := Tryz.underlying3
  a3 := Tryz.isAgg3
  z3 := Tryz.sizeOf3
  v3 := Tryz.zeroValue3
  t4 := Tryz.underlying4
  a4 := Tryz.isAgg4
  z4 := Tryz.sizeOf4
  v4 := Tryz.zeroValue4
  t5 := Tryz.underlying5
  a5 := Tryz.isAgg5
  z5 := Tryz.sizeOf5
  v5 := Tryz.zeroValue5
  t9 := Tryz.underlying9
  a9 := Tryz.isAgg9
  z9 := Tryz.sizeOf9
  v9 := Tryz.zeroValue9
  t21 := Tryz.underlying21
  a21 := Tryz.isAgg21
  z21 := Tryz.sizeOf21
  v21 := Tryz.zeroValue21
  t37 := Tryz.underlying87
  a37 := Tryz.isAgg87
  z37 := Tryz.sizeOf87
  v37 := Tryz.zeroValue87
  t46 := Tryz.underlying136
  a46 := Tryz.isAgg136
  z46 := Tryz.sizeOf136
  v46 := Tryz.zeroValue136
  t53 := Tryz.underlying117
  a53 := Tryz.isAgg117
  z53 := Tryz.sizeOf117
  v53 := Tryz.zeroValue117
  t75 := Tryz.underlying31
  a75 := Tryz.isAgg31
  z75 := Tryz.sizeOf31
  v75 := Tryz.zeroValue31
  t85 := Tryz.underlying125
  a85 := Tryz.isAgg125
  z85 := Tryz.sizeOf125
  v85 := Tryz.zeroValue125
  t167 := Tryz.underlying124
  a167 := Tryz.isAgg124
  z167 := Tryz.sizeOf124
  v167 := Tryz.zeroValue124
  t175 := Tryz.underlying139
  a175 := Tryz.isAgg139
  z175 := Tryz.sizeOf139
  v175 := Tryz.zeroValue139
  t80 := Tryz.underlying91
  a80 := Tryz.isAgg91
  z80 := Tryz.sizeOf91
  v80 := Tryz.zeroValue91
  i0 := by kernel_rfl
  i2 := by kernel_rfl
  i3 := by kernel_rfl
  i4 := by kernel_rfl
  i5 := by kernel_rfl
  i9 := by kernel_rfl
  i21 := by kernel_rfl
  i37 := by kernel_rfl
  i46 := by kernel_rfl
  i53 := by kernel_rfl
  i75 := by kernel_rfl
  i80 := by kernel_rfl
  i85 := by kernel_rfl
  i167 := by kernel_rfl
  i175 := by kernel_rfl
  c0 := by kernel_rfl
  c2 := by kernel_rfl
  c3 := by kernel_rfl
  c4 := by kernel_rfl
  c5 := by kernel_rfl
  c9 := by kernel_rfl
  c21 := by kernel_rfl
  c37 := by kernel_rfl
  c46 := by kernel_rfl
  c53 := by kernel_rfl
  c75 := by kernel_rfl
  c80 := by kernel_rfl
  c85 := by kernel_rfl
  c167 := by kernel_rfl
  c175 := by kernel_rfl }
open Go.RowKit in
/-- internal/strconv.Atoi, AT EVERY STRING OF 19 BYTES OR MORE: 'Lib.atoiAll' OF ITS BYTES: (the number, nil); (0, ErrSyntax); (the greatest or the least int by the sign, ErrRange). (LAID: no walk: one application.) -/
theorem Tryz.internal_strconv_Atoi_long (s : ByteArray) (h19 : 19 ≤ s.size) (hmax : s.size ≤ 9223372036854775806) (w : World) :
    Calls Tryz.prog 75 #[.string s] w fun e w' => e = .returned (Lib.intTuple 124 (Lib.atoiSat s.data.toList) (Lib.atoiAll s.data.toList)) ∧ (w' = w ∨ ∃ t, w' = Lib.bytesWorld w 5 t) := Any.internal_strconv_Atoi_long Tryz.laysC244 s h19 hmax w
open Go.RowKit in
/-- internal/strconv.Atoi, AT EVERY STRING: 'Lib.atoiAll' OF ITS BYTES: (the number, nil); (0, ErrSyntax); (the greatest or the least int by the sign, ErrRange). The world: as it was, or with the one new row that '[]byte(..)' lays. (LAID: no walk: one application.) -/
theorem Tryz.internal_strconv_Atoi_all (s : ByteArray) (hmax : s.size ≤ 9223372036854775806) (w : World) :
    Calls Tryz.prog 75 #[.string s] w fun e w' => e = .returned (Lib.intTuple 124 (Lib.atoiSat s.data.toList) (Lib.atoiAll s.data.toList)) ∧ (w' = w ∨ ∃ t, w' = Lib.bytesWorld w 5 t) := Any.internal_strconv_Atoi_all Tryz.laysC244 s hmax w
def Tryz.laysM280_ren : Go.Shelf.Ren := ⟨fun | 280 => 93 | 316 => 106 | n => n, fun | 9 => 9 | 168 => 127 | 75 => 31 | 210 => 143 | 3 => 3 | 4 => 4 | 37 => 87 | 0 => 0 | 127 => 105 | 80 => 91 | 5 => 5 | n => n, fun | 16 => 5 | n => n⟩
theorem Tryz.laysM280 : Go.Proofs.LaysM.n280 Tryz.prog Tryz.laysM280_ren := {
  mixed := by kernel_rfl
  f280 := Tryz.func93.trans (congrArg some (by kernel_rfl))
  f316 := Tryz.func106.trans (congrArg some (by kernel_rfl))
  t0 := Tryz.underlying0
  a0 := Tryz.isAgg0
  z0 := Tryz.sizeOf0
  v0 := Tryz.zeroValue0
  t3 := Tryz.underlying3
  a3 := Tryz.isAgg3
  z3 := Tryz.sizeOf3
  v3 := Tryz.zeroValue3
  t4 := Tryz.underlying4
  a4 := Tryz.isAgg4
  z4 := Tryz.sizeOf4
  v4 := Tryz.zeroValue4
  t9 := Tryz.underlying9
  a9 := Tryz.isAgg9
  z9 := Tryz.sizeOf9
  v9 := Tryz.zeroValue9
  t37 := Tryz.underlying87
  a37 := Tryz.isAgg87
  z37 := Tryz.sizeOf87
  v37 := Tryz.zeroValue87
  t75 := Tryz.underlying31
  a75 := Tryz.isAgg31
  z75 := Tryz.sizeOf31
  v75 := Tryz.zeroValue31
  t127 := Tryz.underlying105
  a127 := Tryz.isAgg105
  z127 := Tryz.sizeOf105
  v127 := Tryz.zeroValue105
  t168 := Tryz.underlying127
  a168 := Tryz.isAgg127
  z168 := Tryz.sizeOf127
  v168 := Tryz.zeroValue127
  t210 := Tryz.underlying143
  a210 := Tryz.isAgg143
  z210 := Tryz.sizeOf143
  v210 := Tryz.zeroValue143
  g16 := by kernel_rfl
  t5 := Tryz.underlying5
  a5 := Tryz.isAgg5
  z5 := Tryz.sizeOf5
  v5 := Tryz.zeroValue5
  t80 := Tryz.underlying91
  a80 := Tryz.isAgg91
  z80 := Tryz.sizeOf91
  v80 := Tryz.zeroValue91
  i0 := by kernel_rfl
  i3 := by kernel_rfl
  i4 := by kernel_rfl
  i5 := by kernel_rfl
  i9 := by kernel_rfl
  i37 := by kernel_rfl
  i75 := by kernel_rfl
  i80 := by kernel_rfl
  i127 := by kernel_rfl
  i168 := by kernel_rfl
  i210 := by kernel_rfl
  m16 := by kernel_rfl }
open Go.RowKit in
/-- strconv.rangeError: '&NumError{fn, stringslite.Clone(str), ErrRange}': A POINTER TO A NEW BLOCK that holds fn, str's bytes, and what the variable ErrRange holds. Of what was there nothing has turned. (LAID: no walk: one application.) -/
theorem Tryz.strconv_rangeError (fn s : ByteArray) (ev : Value) (w : World) (hlim : s.size ≤ 281474976710656) (hv : w.cell? ⟨5, 0, none⟩ = some ev) (hev : ev = .nilIface ∨ ∃ te pe, ev = .iface te pe) :
    Calls Tryz.prog 93 #[.string fn, .string s] w fun e w' => ∃ N, e = .returned (.pointer (some ⟨N, 0, none⟩)) ∧ w.heap.size ≤ N ∧ w'.heap[N]? = some (.cells #[.string fn, .string s, ev] 143 (0, 0)) ∧ Below w.heap.size w w' := Any.strconv_rangeError Tryz.laysM280 fn s ev w hlim hv hev
open Go.RowKit in
/-- strconv.toError, at the inner package's ErrRange: 'rangeError(fn, s)' as an error: A *NumError IN A NEW BLOCK. (LAID: no walk: one application.) -/
theorem Tryz.strconv_toError_range (fn s : ByteArray) (base bits : Int) (ev : Value) (w : World) (hlim : s.size ≤ 281474976710656) (hv : w.cell? ⟨5, 0, none⟩ = some ev) (hev : ev = .nilIface ∨ ∃ te pe, ev = .iface te pe) :
    Calls Tryz.prog 76 #[.string fn, .string s, .int .i64 base, .int .i64 bits, .iface 124 (.int .i64 1)] w fun e w' => ∃ N, e = .returned (.iface 127 (.pointer (some ⟨N, 0, none⟩))) ∧ w.heap.size ≤ N ∧ w'.heap[N]? = some (.cells #[.string fn, .string s, ev] 143 (0, 0)) ∧ Below w.heap.size w w' := Any.strconv_toError_range Tryz.laysC245 fn s base bits ev w hlim hv hev
open Go.RowKit in
/-- strconv.Atoi, AT EVERY STRING THAT SPELLS AN int ('Lib.atoiAll .. = .ok v'; of whatever length: leading zeros count): v, AND NO ERROR. The world: as it was, or with the one new row that '[]byte(..)' lays. (LAID: no walk: one application.) -/
theorem Tryz.strconv_Atoi_ok (s : ByteArray) (hmax : s.size ≤ 9223372036854775806) (v : Int) (h : Lib.atoiAll s.data.toList = .ok v) (w : World) :
    Calls Tryz.prog 55 #[.string s] w fun e w' => e = .returned (.tuple #[.int .i64 v, .nilIface]) ∧ (w' = w ∨ ∃ t, w' = Lib.bytesWorld w 5 t) := Any.strconv_Atoi_ok Tryz.laysC172 s hmax v h w
open Go.RowKit in
/-- strconv.Atoi, AT EVERY NUMERAL THAT NO int HOLDS ('.range'): THE GREATEST OR THE LEAST int, BY THE SIGN ('Lib.atoiSat'), AND AN ERROR THAT IS NOT nil: a *NumError in a new block N: {Func: "Atoi", Num: s's bytes, Err: what the variable ErrRange holds}. Of what was there nothing has turned. (LAID: no walk: one application.) -/
theorem Tryz.strconv_Atoi_range (s : ByteArray) (hlim : s.size ≤ 281474976710656) (h : Lib.atoiAll s.data.toList = .range) (ev : Value) (w : World) (hv : w.cell? ⟨5, 0, none⟩ = some ev) (hev : ev = .nilIface ∨ ∃ te pe, ev = .iface te pe) :
    Calls Tryz.prog 55 #[.string s] w fun e w' => ∃ N, e = .returned (.tuple #[.int .i64 (Lib.atoiSat s.data.toList), .iface 127 (.pointer (some ⟨N, 0, none⟩))]) ∧ w.heap.size ≤ N ∧ w'.heap[N]? = some (.cells #[.string ⟨#[65, 116, 111, 105]⟩, .string s, ev] 143 (0, 0)) ∧ Below w.heap.size w w' := Any.strconv_Atoi_range Tryz.laysC172 s hlim h ev w hv hev
open Go.RowKit in
theorem Tryz.strconv_Atoi_range_var (s : ByteArray) (hlim : s.size ≤ 281474976710656) (h : Lib.atoiAll s.data.toList = .range) (tp : TypeId) (p : Value) (w : World) (hvar : w.var? Tryz.prog "strconv.ErrRange" = some #[.iface tp p]) :
    Calls Tryz.prog 55 #[.string s] w fun e w' => ∃ N, e = .returned (.tuple #[.int .i64 (Lib.atoiSat s.data.toList), .iface 127 (.pointer (some ⟨N, 0, none⟩))]) ∧ w.heap.size ≤ N ∧ w'.heap[N]? = some (.cells #[.string ⟨#[65, 116, 111, 105]⟩, .string s, .iface tp p] 143 (0, 0)) ∧ Below w.heap.size w w' := Any.strconv_Atoi_range_var Tryz.laysC172 s hlim h tp p w hvar
open Go.RowKit in
/-- internal/strconv.ParseUint("", base, bitSize): (0, ErrSyntax): the first test of the text. The world is as it was. (LAID: no walk: one application.) -/
theorem Tryz.internal_strconv_ParseUint_empty (base bits : Int) (w : World) :
    Calls Tryz.prog 105 #[.string ⟨#[]⟩, .int .i64 base, .int .i64 bits] w fun e w' => e = .returned (.tuple #[.int .u64 0, .iface 124 (.int .i64 2)]) ∧ w' = w := Any.internal_strconv_ParseUint_empty Tryz.lays287 base bits w
open Go.RowKit in
/-- internal/strconv.ParseUint(s, 10, 64), s NOT EMPTY: 'Lib.parseUint10 0' OF ITS BYTES: the number; or (0, ErrSyntax); or (the greatest uint64, ErrRange). The world behind the call: the one new row that '[]byte(s)' lays. (LAID: no walk: one application.) -/
theorem Tryz.internal_strconv_ParseUint_10_b64 (t : ByteArray) (hne : t.size ≠ 0) (hmax : t.size ≤ 9223372036854775806) (w : World) :
    Calls Tryz.prog 105 #[.string t, .int .i64 10, .int .i64 64] w fun e w' => e = .returned (Lib.uintTuple 124 (Lib.parseUint10 0 t.data.toList)) ∧ w' = Lib.bytesWorld w 5 t := Any.internal_strconv_ParseUint_10_b64 Tryz.lays287 t hne hmax w
open Go.RowKit in
/-- internal/strconv.ParseUint(s, 10, 32), s NOT EMPTY: 'Lib.parseUintM 4294967295 0' OF ITS BYTES: the number; or (0, ErrSyntax); or (the greatest uint32, ErrRange). The world behind the call: the one new row that '[]byte(s)' lays. (LAID: no walk: one application.) -/
theorem Tryz.internal_strconv_ParseUint_10_b32 (t : ByteArray) (hne : t.size ≠ 0) (hmax : t.size ≤ 9223372036854775806) (w : World) :
    Calls Tryz.prog 105 #[.string t, .int .i64 10, .int .i64 32] w fun e w' => e = .returned (Lib.uintTupleM 124 4294967295 (Lib.parseUintM 4294967295 0 t.data.toList)) ∧ w' = Lib.bytesWorld w 5 t := Any.internal_strconv_ParseUint_10_b32 Tryz.lays287 t hne hmax w
open Go.RowKit in
/-- internal/strconv.ParseUint(s, 10, 16), s NOT EMPTY: 'Lib.parseUintM 65535 0' OF ITS BYTES: the number; or (0, ErrSyntax); or (the greatest uint16, ErrRange). The world behind the call: the one new row that '[]byte(s)' lays. (LAID: no walk: one application.) -/
theorem Tryz.internal_strconv_ParseUint_10_b16 (t : ByteArray) (hne : t.size ≠ 0) (hmax : t.size ≤ 9223372036854775806) (w : World) :
    Calls Tryz.prog 105 #[.string t, .int .i64 10, .int .i64 16] w fun e w' => e = .returned (Lib.uintTupleM 124 65535 (Lib.parseUintM 65535 0 t.data.toList)) ∧ w' = Lib.bytesWorld w 5 t := Any.internal_strconv_ParseUint_10_b16 Tryz.lays287 t hne hmax w
open Go.RowKit in
/-- internal/strconv.ParseUint(s, 10, 8), s NOT EMPTY: 'Lib.parseUintM 255 0' OF ITS BYTES: the number; or (0, ErrSyntax); or (the greatest uint8, ErrRange). The world behind the call: the one new row that '[]byte(s)' lays. (LAID: no walk: one application.) -/
theorem Tryz.internal_strconv_ParseUint_10_b8 (t : ByteArray) (hne : t.size ≠ 0) (hmax : t.size ≤ 9223372036854775806) (w : World) :
    Calls Tryz.prog 105 #[.string t, .int .i64 10, .int .i64 8] w fun e w' => e = .returned (Lib.uintTupleM 124 255 (Lib.parseUintM 255 0 t.data.toList)) ∧ w' = Lib.bytesWorld w 5 t := Any.internal_strconv_ParseUint_10_b8 Tryz.lays287 t hne hmax w
open Go.RowKit in
/-- internal/strconv.ParseUint(s, 10, 0): 'Lib.parseUintB 64' OF ITS BYTES. The world: as it was (the empty string), or with the one new row that '[]byte(s)' lays. (LAID: no walk: one application.) -/
theorem Tryz.internal_strconv_ParseUint_10_at0 (t : ByteArray) (hmax : t.size ≤ 9223372036854775806) (w : World) :
    Calls Tryz.prog 105 #[.string t, .int .i64 10, .int .i64 0] w fun e w' => e = .returned (Lib.uintTupleM 124 18446744073709551615 (Lib.parseUintB 64 t.data.toList)) ∧ (w' = w ∨ w' = Lib.bytesWorld w 5 t) := Any.internal_strconv_ParseUint_10_at0 Tryz.lays287 t hmax w
open Go.RowKit in
/-- internal/strconv.ParseUint(s, 10, 64): 'Lib.parseUintB 64' OF ITS BYTES. The world: as it was (the empty string), or with the one new row that '[]byte(s)' lays. (LAID: no walk: one application.) -/
theorem Tryz.internal_strconv_ParseUint_10_at64 (t : ByteArray) (hmax : t.size ≤ 9223372036854775806) (w : World) :
    Calls Tryz.prog 105 #[.string t, .int .i64 10, .int .i64 64] w fun e w' => e = .returned (Lib.uintTupleM 124 18446744073709551615 (Lib.parseUintB 64 t.data.toList)) ∧ (w' = w ∨ w' = Lib.bytesWorld w 5 t) := Any.internal_strconv_ParseUint_10_at64 Tryz.lays287 t hmax w
open Go.RowKit in
/-- internal/strconv.ParseUint(s, 10, 32): 'Lib.parseUintB 32' OF ITS BYTES. The world: as it was (the empty string), or with the one new row that '[]byte(s)' lays. (LAID: no walk: one application.) -/
theorem Tryz.internal_strconv_ParseUint_10_at32 (t : ByteArray) (hmax : t.size ≤ 9223372036854775806) (w : World) :
    Calls Tryz.prog 105 #[.string t, .int .i64 10, .int .i64 32] w fun e w' => e = .returned (Lib.uintTupleM 124 4294967295 (Lib.parseUintB 32 t.data.toList)) ∧ (w' = w ∨ w' = Lib.bytesWorld w 5 t) := Any.internal_strconv_ParseUint_10_at32 Tryz.lays287 t hmax w
open Go.RowKit in
/-- internal/strconv.ParseUint(s, 10, 16): 'Lib.parseUintB 16' OF ITS BYTES. The world: as it was (the empty string), or with the one new row that '[]byte(s)' lays. (LAID: no walk: one application.) -/
theorem Tryz.internal_strconv_ParseUint_10_at16 (t : ByteArray) (hmax : t.size ≤ 9223372036854775806) (w : World) :
    Calls Tryz.prog 105 #[.string t, .int .i64 10, .int .i64 16] w fun e w' => e = .returned (Lib.uintTupleM 124 65535 (Lib.parseUintB 16 t.data.toList)) ∧ (w' = w ∨ w' = Lib.bytesWorld w 5 t) := Any.internal_strconv_ParseUint_10_at16 Tryz.lays287 t hmax w
open Go.RowKit in
/-- internal/strconv.ParseUint(s, 10, 8): 'Lib.parseUintB 8' OF ITS BYTES. The world: as it was (the empty string), or with the one new row that '[]byte(s)' lays. (LAID: no walk: one application.) -/
theorem Tryz.internal_strconv_ParseUint_10_at8 (t : ByteArray) (hmax : t.size ≤ 9223372036854775806) (w : World) :
    Calls Tryz.prog 105 #[.string t, .int .i64 10, .int .i64 8] w fun e w' => e = .returned (Lib.uintTupleM 124 255 (Lib.parseUintB 8 t.data.toList)) ∧ (w' = w ∨ w' = Lib.bytesWorld w 5 t) := Any.internal_strconv_ParseUint_10_at8 Tryz.lays287 t hmax w
open Go.RowKit in
/-- internal/strconv.ParseInt(s, 10, 64), s NOT EMPTY: 'Lib.parseIntB 64' OF ITS BYTES: (the number, nil); (0, ErrSyntax); (the greatest or the least int64 by the sign, ErrRange). The world: as it was, or with the one new row that '[]byte(..)' lays. (LAID: no walk: one application.) -/
theorem Tryz.internal_strconv_ParseInt_10_at64 (s : ByteArray) (hne : s.size ≠ 0) (hmax : s.size ≤ 9223372036854775806) (w : World) :
    Calls Tryz.prog 91 #[.string s, .int .i64 10, .int .i64 64] w fun e w' => e = .returned (Lib.intTuple 124 (Lib.intSat 64 s.data.toList) (Lib.parseIntB 64 s.data.toList)) ∧ (w' = w ∨ ∃ t, w' = Lib.bytesWorld w 5 t) := Any.internal_strconv_ParseInt_10_at64 Tryz.laysC247 s hne hmax w
open Go.RowKit in
/-- internal/strconv.ParseInt(s, 10, 32), s NOT EMPTY: 'Lib.parseIntB 32' OF ITS BYTES: (the number, nil); (0, ErrSyntax); (the greatest or the least int32 by the sign, ErrRange). The world: as it was, or with the one new row that '[]byte(..)' lays. (LAID: no walk: one application.) -/
theorem Tryz.internal_strconv_ParseInt_10_at32 (s : ByteArray) (hne : s.size ≠ 0) (hmax : s.size ≤ 9223372036854775806) (w : World) :
    Calls Tryz.prog 91 #[.string s, .int .i64 10, .int .i64 32] w fun e w' => e = .returned (Lib.intTuple 124 (Lib.intSat 32 s.data.toList) (Lib.parseIntB 32 s.data.toList)) ∧ (w' = w ∨ ∃ t, w' = Lib.bytesWorld w 5 t) := Any.internal_strconv_ParseInt_10_at32 Tryz.laysC247 s hne hmax w
open Go.RowKit in
/-- internal/strconv.ParseInt(s, 10, 16), s NOT EMPTY: 'Lib.parseIntB 16' OF ITS BYTES: (the number, nil); (0, ErrSyntax); (the greatest or the least int16 by the sign, ErrRange). The world: as it was, or with the one new row that '[]byte(..)' lays. (LAID: no walk: one application.) -/
theorem Tryz.internal_strconv_ParseInt_10_at16 (s : ByteArray) (hne : s.size ≠ 0) (hmax : s.size ≤ 9223372036854775806) (w : World) :
    Calls Tryz.prog 91 #[.string s, .int .i64 10, .int .i64 16] w fun e w' => e = .returned (Lib.intTuple 124 (Lib.intSat 16 s.data.toList) (Lib.parseIntB 16 s.data.toList)) ∧ (w' = w ∨ ∃ t, w' = Lib.bytesWorld w 5 t) := Any.internal_strconv_ParseInt_10_at16 Tryz.laysC247 s hne hmax w
open Go.RowKit in
/-- internal/strconv.ParseInt(s, 10, 8), s NOT EMPTY: 'Lib.parseIntB 8' OF ITS BYTES: (the number, nil); (0, ErrSyntax); (the greatest or the least int8 by the sign, ErrRange). The world: as it was, or with the one new row that '[]byte(..)' lays. (LAID: no walk: one application.) -/
theorem Tryz.internal_strconv_ParseInt_10_at8 (s : ByteArray) (hne : s.size ≠ 0) (hmax : s.size ≤ 9223372036854775806) (w : World) :
    Calls Tryz.prog 91 #[.string s, .int .i64 10, .int .i64 8] w fun e w' => e = .returned (Lib.intTuple 124 (Lib.intSat 8 s.data.toList) (Lib.parseIntB 8 s.data.toList)) ∧ (w' = w ∨ ∃ t, w' = Lib.bytesWorld w 5 t) := Any.internal_strconv_ParseInt_10_at8 Tryz.laysC247 s hne hmax w
open Go.RowKit in
/-- internal/strconv.ParseInt(s, 10, 0), AT EVERY STRING: 'Lib.parseIntB 64' OF ITS BYTES. (LAID: no walk: one application.) -/
theorem Tryz.internal_strconv_ParseInt_10_all0 (s : ByteArray) (hmax : s.size ≤ 9223372036854775806) (w : World) :
    Calls Tryz.prog 91 #[.string s, .int .i64 10, .int .i64 0] w fun e w' => e = .returned (Lib.intTuple 124 (Lib.intSat 64 s.data.toList) (Lib.parseIntB 64 s.data.toList)) ∧ (w' = w ∨ ∃ t, w' = Lib.bytesWorld w 5 t) := Any.internal_strconv_ParseInt_10_all0 Tryz.laysC247 s hmax w
open Go.RowKit in
/-- internal/strconv.ParseInt(s, 10, 64), AT EVERY STRING: 'Lib.parseIntB 64' OF ITS BYTES. (LAID: no walk: one application.) -/
theorem Tryz.internal_strconv_ParseInt_10_all64 (s : ByteArray) (hmax : s.size ≤ 9223372036854775806) (w : World) :
    Calls Tryz.prog 91 #[.string s, .int .i64 10, .int .i64 64] w fun e w' => e = .returned (Lib.intTuple 124 (Lib.intSat 64 s.data.toList) (Lib.parseIntB 64 s.data.toList)) ∧ (w' = w ∨ ∃ t, w' = Lib.bytesWorld w 5 t) := Any.internal_strconv_ParseInt_10_all64 Tryz.laysC247 s hmax w
open Go.RowKit in
/-- internal/strconv.ParseInt(s, 10, 32), AT EVERY STRING: 'Lib.parseIntB 32' OF ITS BYTES. (LAID: no walk: one application.) -/
theorem Tryz.internal_strconv_ParseInt_10_all32 (s : ByteArray) (hmax : s.size ≤ 9223372036854775806) (w : World) :
    Calls Tryz.prog 91 #[.string s, .int .i64 10, .int .i64 32] w fun e w' => e = .returned (Lib.intTuple 124 (Lib.intSat 32 s.data.toList) (Lib.parseIntB 32 s.data.toList)) ∧ (w' = w ∨ ∃ t, w' = Lib.bytesWorld w 5 t) := Any.internal_strconv_ParseInt_10_all32 Tryz.laysC247 s hmax w
open Go.RowKit in
/-- internal/strconv.ParseInt(s, 10, 16), AT EVERY STRING: 'Lib.parseIntB 16' OF ITS BYTES. (LAID: no walk: one application.) -/
theorem Tryz.internal_strconv_ParseInt_10_all16 (s : ByteArray) (hmax : s.size ≤ 9223372036854775806) (w : World) :
    Calls Tryz.prog 91 #[.string s, .int .i64 10, .int .i64 16] w fun e w' => e = .returned (Lib.intTuple 124 (Lib.intSat 16 s.data.toList) (Lib.parseIntB 16 s.data.toList)) ∧ (w' = w ∨ ∃ t, w' = Lib.bytesWorld w 5 t) := Any.internal_strconv_ParseInt_10_all16 Tryz.laysC247 s hmax w
open Go.RowKit in
/-- internal/strconv.ParseInt(s, 10, 8), AT EVERY STRING: 'Lib.parseIntB 8' OF ITS BYTES. (LAID: no walk: one application.) -/
theorem Tryz.internal_strconv_ParseInt_10_all8 (s : ByteArray) (hmax : s.size ≤ 9223372036854775806) (w : World) :
    Calls Tryz.prog 91 #[.string s, .int .i64 10, .int .i64 8] w fun e w' => e = .returned (Lib.intTuple 124 (Lib.intSat 8 s.data.toList) (Lib.parseIntB 8 s.data.toList)) ∧ (w' = w ∨ ∃ t, w' = Lib.bytesWorld w 5 t) := Any.internal_strconv_ParseInt_10_all8 Tryz.laysC247 s hmax w
def Tryz.lays217_ren : Go.Shelf.Ren := ⟨fun | 217 => 86 | 266 => 102 | n => n, fun | 9 => 9 | 5 => 5 | 3 => 3 | n => n, fun | n => n⟩
theorem Tryz.lays217 : Go.Proofs.Lays.n217 Tryz.prog Tryz.lays217_ren := {
  mixed := by kernel_rfl
  f217 := Tryz.func86.trans (congrArg some (by kernel_rfl))
  f266 := Tryz.func102.trans (congrArg some (by kernel_rfl))
  t3 := Tryz.underlying3
  a3 := Tryz.isAgg3
  z3 := Tryz.sizeOf3
  v3 := Tryz.zeroValue3
  t5 := Tryz.underlying5
  a5 := Tryz.isAgg5
  z5 := Tryz.sizeOf5
  v5 := Tryz.zeroValue5
  t9 := Tryz.underlying9
  a9 := Tryz.isAgg9
  z9 := Tryz.sizeOf9
  v9 := Tryz.zeroValue9 }
open Go.RowKit Go.Lib in
/-- internal/stringslite.IndexByte (what strings.IndexByte calls): IT RETURNS 'Lib.indexByte s c'; the world is as it was. (LAID: no walk: one application.) -/
theorem Tryz.stringslite_IndexByte (s : ByteArray) (c : Int) (w : World) :
    Calls Tryz.prog 86 #[.string s, .int .u8 c] w fun e w' => e = .returned (.int .i64 (Lib.indexByte s.data.toList c.toNat.toUInt8)) ∧ w' = w := Any.stringslite_IndexByte Tryz.lays217 s c w
def Tryz.lays109_ren : Go.Shelf.Ren := ⟨fun | 109 => 51 | n => n, fun | 31 => 47 | 9 => 9 | 3 => 3 | 0 => 0 | 4 => 4 | n => n, fun | n => n⟩
theorem Tryz.lays109 : Go.Proofs.Lays.n109 Tryz.prog Tryz.lays109_ren := {
  mixed := by kernel_rfl
  f109 := Tryz.func51.trans (congrArg some (by kernel_rfl))
  t0 := Tryz.underlying0
  a0 := Tryz.isAgg0
  z0 := Tryz.sizeOf0
  v0 := Tryz.zeroValue0
  t3 := Tryz.underlying3
  a3 := Tryz.isAgg3
  z3 := Tryz.sizeOf3
  v3 := Tryz.zeroValue3
  t4 := Tryz.underlying4
  a4 := Tryz.isAgg4
  z4 := Tryz.sizeOf4
  v4 := Tryz.zeroValue4
  t9 := Tryz.underlying9
  a9 := Tryz.isAgg9
  z9 := Tryz.sizeOf9
  v9 := Tryz.zeroValue9
  t31 := Tryz.underlying47
  a31 := Tryz.isAgg47
  z31 := Tryz.sizeOf47
  v31 := Tryz.zeroValue47 }
open Go.Lib in
/-- slices.Index at []string: "Index returns the index of the first occurrence of v in s, or -1 if not present.": IT RETURNS 'Lib.idxOfS (the elements) v'; the world is as it was. 'zs': what the cells behind the slice's address hold (its spare capacity too, if you have it); 'zs.take n': its elements. (LAID: no walk: one application.) -/
theorem Tryz.slices_Index_string (b off n c : Nat) (zs : List ByteArray) (x : ByteArray) (w : World) (hz : n ≤ zs.length) (hbig : n ≤ 9223372036854775807) (hc : ∀ j, j < zs.length → w.cell? ⟨b, off + j, none⟩ = some (.string (zs.getD j ByteArray.empty))) :
    Calls Tryz.prog 51 #[.slice (some ⟨b, off, none⟩) n c, .string x] w fun e w' => e = .returned (.int .i64 (Lib.idxOfS (zs.take n) x)) ∧ w' = w := Any.slices_Index_string Tryz.lays109 b off n c zs x w hz hbig hc
open Go.Lib in
/-- The same at a slice of length 0, a nil one too: no cell is known, none is asked for. (LAID: no walk: one application.) -/
theorem Tryz.slices_Index_string_empty (a : Option Addr) (c : Nat) (x : ByteArray) (w : World) :
    Calls Tryz.prog 51 #[.slice a 0 c, .string x] w fun e w' => e = .returned (.int .i64 (Lib.idxOfS [] x)) ∧ w' = w := Any.slices_Index_string_empty Tryz.lays109 a c x w
def Tryz.lays110_ren : Go.Shelf.Ren := ⟨fun | 110 => 52 | 109 => 51 | n => n, fun | 31 => 47 | 9 => 9 | 4 => 4 | 3 => 3 | 0 => 0 | n => n, fun | n => n⟩
theorem Tryz.lays110 : Go.Proofs.Lays.n110 Tryz.prog Tryz.lays110_ren := {
  mixed := by kernel_rfl
  f109 := Tryz.func51.trans (congrArg some (by kernel_rfl))
  f110 := Tryz.func52.trans (congrArg some (by kernel_rfl))
  t0 := Tryz.underlying0
  a0 := Tryz.isAgg0
  z0 := Tryz.sizeOf0
  v0 := Tryz.zeroValue0
  t3 := Tryz.underlying3
  a3 := Tryz.isAgg3
  z3 := Tryz.sizeOf3
  v3 := Tryz.zeroValue3
  t4 := Tryz.underlying4
  a4 := Tryz.isAgg4
  z4 := Tryz.sizeOf4
  v4 := Tryz.zeroValue4
  t9 := Tryz.underlying9
  a9 := Tryz.isAgg9
  z9 := Tryz.sizeOf9
  v9 := Tryz.zeroValue9
  t31 := Tryz.underlying47
  a31 := Tryz.isAgg47
  z31 := Tryz.sizeOf47
  v31 := Tryz.zeroValue47 }
open Go.Lib in
/-- slices.Contains at []string: "Contains reports whether v is present in s.": IT RETURNS 'Lib.containsS (the elements) v', which is true just where v is among them ('Lib.containsS_iff'); the world is as it was. ITS CALLEE slices.Index IS MET BY ITS OWN CONTRACT OFF THE SHELF (lay that first): no loop is walked here. (LAID: no walk: one application.) -/
theorem Tryz.slices_Contains_string (b off n c : Nat) (zs : List ByteArray) (x : ByteArray) (w : World) (hz : n ≤ zs.length) (hbig : n ≤ 9223372036854775807) (hc : ∀ j, j < zs.length → w.cell? ⟨b, off + j, none⟩ = some (.string (zs.getD j ByteArray.empty))) :
    Calls Tryz.prog 52 #[.slice (some ⟨b, off, none⟩) n c, .string x] w fun e w' => e = .returned (.bool (Lib.containsS (zs.take n) x)) ∧ w' = w := Any.slices_Contains_string Tryz.lays110 b off n c zs x w hz hbig hc
open Go.Lib in
/-- The same at a slice of length 0, a nil one too. (LAID: no walk: one application.) -/
theorem Tryz.slices_Contains_string_empty (a : Option Addr) (c : Nat) (x : ByteArray) (w : World) :
    Calls Tryz.prog 52 #[.slice a 0 c, .string x] w fun e w' => e = .returned (.bool false) ∧ w' = w := Any.slices_Contains_string_empty Tryz.lays110 a c x w
end Go.Proofs
/-
  The framework, part Y: slices cut to their room; append to one that has none. No program in sight. Conditions: none.
-/
namespace Go.Vc
open Go
set_option linter.unusedVariables false

section
variable {P : Program}
theorem rd_slice_hm {h : Hp} {t e : TypeId} (ht : P.underlying t = some (.slice e)) (hi : (P.info? e).isSome = true) {a : Option Addr} {n c : Nat} {x y : Int} (h0 : 0 ≤ x) (h1 : x ≤ y) (h2 : y ≤ c) : Rd P (Instr.sliceAt t (vsl a n c) none (some (vi x)) (some (vi y))) h (vsl a x.toNat y.toNat) := by
  intro w _
  have he : P.elem t = e := by simp [Program.elem, ht]
  obtain ⟨i, hi⟩ := Option.isSome_iff_exists.1 hi
  rw [run_sliceAt_slice w t _ _ _ _ (by rw [he]; exact ht), run_slice_hm w t a n c (by rw [he]; exact ht) _ _ x y h0 h1 h2, he]
  simp [sizeOf, typeInfo, hi, sliced]
  intro _
  cases a <;> simp [Addr.add]
/-- 'append' to a slice without room: a new one. -/
theorem sem_append_full {h : Hp} {t ty e : TypeId} {sz bytes : Nat} (T : ElT P t e sz bytes) {a : Option Addr} {n : Nat} {xs : List Value} (H : HasRow h a xs) (hxs : xs.length = n * sz) (ha : a = none → n = 0)
    {a2 : Option Addr} {m c2 : Nat} {news : List Value} (H2 : HasRow h a2 news) (hl : news.length = m * sz) (hm0 : 0 < m)
    (hb : (n + m) * bytes ≤ 140737488355328) (hm : n + m ≤ 140737488355328) {K : Value → Hp → Prop}
    (hK : ∀ a' c' h', OwnV h h' e sz a' (n + m) c' (xs ++ news) → K (vsl a' (n + m) c') h') :
    SemOK P (Builtin.append_ #[t, t] ty #[vsl a n n, vsl a2 m c2]) h K := by
  intro w hs
  obtain ⟨i, z, hi, hz, rfl, rfl, hzs⟩ := T.el
  have hlen : (xs ++ news).length = (n + m) * i.size := by rw [List.length_append, hxs, hl, Nat.add_mul]
  have h63 : n + m ≤ maxLen := by simp only [maxLen]; omega
  have hnn : news ≠ [] := fun e => by
    subst e
    have h0 : m * i.size = 0 := by simpa using hl.symm
    rcases Nat.mul_eq_zero.1 h0 with h2 | h2
    · omega
    · have := T.pos; omega
  obtain ⟨b2, o2, rfl, hr2⟩ := (show ∃ b o, a2 = some ⟨b, o, none⟩ ∧ h.row b o news.length = some news from H2.resolve_left hnn)
  have hnews := HasRow.cells hs (a := ⟨b2, o2, none⟩) H2
  have hno : h w.heap.size = none := Sub.none hs
  have grown : ∀ old, old < n + m → OwnV h (h.set w.heap.size (.cells (xs.toArray ++ news.toArray ++ Builtin.zeroCells z.cells (grownCap w (n + m) old e - (n + m))) e (0, 0))) e i.size (some ⟨w.heap.size, 0, none⟩) (n + m) (grownCap w (n + m) old e) (xs ++ news) := by
    intro old ho
    have hge := grownCap_ge w (n + m) old e
    have hcm : grownCap w (n + m) old e ≤ maxLen := grownCap_le_maxLen w (n + m) old e h63
    refine ⟨Hp.le_set (Hp.le_refl h) hno _, ⟨hlen, .inr ⟨w.heap.size, _, rfl, Hp.set_same _ _ _, hge, hcm, ?_, ?_⟩⟩, fun g hg => ?_⟩
    · simp only [Array.size_append, List.size_toArray, size_zeroCells, hzs, hxs, hl, ← Nat.add_mul]
      congr 1
      omega
    · simp only [Array.toList_append, List.append_assoc]
      rw [← List.append_assoc, ← hlen]
      exact List.take_left
    · cases hg; exact hno
  cases a with
  | none =>
    obtain rfl := ha rfl
    have hx : xs = [] := List.eq_nil_of_length_eq_zero (by simpa using hxs)
    subst hx
    have hr := run_append_nil (P := P) w t ty e i z T.sl hi hz ⟨b2, o2, none⟩ m c2 news hl hnews (by omega) (by omega) (by simp only [Nat.zero_add] at hb; omega)
    have hgr := grown 0 (by omega)
    simp only [Nat.zero_add, List.nil_append, Array.empty_append] at hgr hK ⊢
    exact ⟨_, _, _, hr, drew_alloc_Sub hs _, drew_alloc_Fr h w _, hK _ _ _ hgr⟩
  | some g =>
    have holds : ∀ j u, xs[j]? = some u → w.cell? (g.add j) = some u := HasRow.cells hs H
    have hr := run_append_grow (P := P) w t ty e i z T.sl hi hz g n n xs hxs holds ⟨b2, o2, none⟩ m c2 news hl hnews (by omega) (by omega) (growslice_fits (by omega) hb)
    exact ⟨_, _, _, hr, drew_alloc_Sub hs _, drew_alloc_Fr h w _, hK _ _ _ (grown n (by omega))⟩
end
end Go.Vc
/-
  Contracts: a number's digits, as the document has them. Conditions: that the number is not too great.
-/
namespace Go.Proofs.YtonlacplogbodaaGreatDoor
open Go Go.Vc Go.RowKit
set_option linter.unusedVariables false
set_option maxRecDepth 100000

def decM (n : Int) : Nat := if n < 0 then 2 * n.natAbs + 1 else 2 * n.natAbs
theorem decM_neg {n : Int} (h : n < 0) : decM (-n) < decM n := by
  unfold decM
  rw [if_pos h, if_neg (by omega)]
  omega
theorem decM_div {n : Int} (h : ¬ n < 10) : decM (n.tdiv 10) < decM n := by
  unfold decM
  have h0 : (0 : Int) ≤ n.tdiv 10 := Int.tdiv_nonneg (by omega) (by decide)
  have h1 : n.tdiv 10 = n / 10 := Int.tdiv_eq_ediv_of_nonneg (by omega)
  rw [if_neg (by omega), if_neg (by omega), h1]
  omega
theorem conv1 (W : World) (b : Nat) (x : Int) (hx : 0 ≤ x ∧ x < 256) (hc : W.heap[b]? = some (.cells #[.int .u8 x] 5 (0, 0))) : (convert 87 9 (.slice (some ⟨b, 0, none⟩) 1 1)).run Tryz.prog W = .ok (.string ⟨#[UInt8.ofNat x.toNat]⟩) W := by
  have h := run_convert_bytes_back (P := Tryz.prog) W 87 9 5 ⟨b, 0, none⟩ 1 [UInt8.ofNat x.toNat] (by kernel_rfl) (by kernel_rfl) (by kernel_rfl) (fun j hj => by
    have hj0 : j = 0 := by simp at hj; omega
    subst hj0
    have e : ((UInt8.ofNat x.toNat).toNat : Int) = x := by simp; omega
    simp only [List.getElem_cons_zero]
    rw [e]
    simp [Addr.add, World.cell?, hc])
  exact h
theorem conv1b (W : World) (b : Nat) (x : Int) (hx : 0 ≤ x ∧ x < 256) (hc : W.cell? ⟨b, 0, none⟩ = some (.int .u8 x)) : (convert 87 9 (.slice (some ⟨b, 0, none⟩) 1 1)).run Tryz.prog W = .ok (.string ⟨#[UInt8.ofNat x.toNat]⟩) W :=
  run_convert_bytes_back (P := Tryz.prog) W 87 9 5 ⟨b, 0, none⟩ 1 [UInt8.ofNat x.toNat] (by kernel_rfl) (by kernel_rfl) (by kernel_rfl) (fun j hj => by
    have hj0 : j = 0 := by simp at hj; omega
    subst hj0
    have e : ((UInt8.ofNat x.toNat).toNat : Int) = x := by simp; omega
    simp only [List.getElem_cons_zero]
    rw [e]
    exact hc)
theorem cell_behind {w w' : World} {x : Value} {t : TypeId} (hB : Below (w.alloc (.cells #[x] t)).drew.heap.size (w.alloc (.cells #[x] t)).drew w') : w'.cell? ⟨w.heap.size, 0, none⟩ = some x := by
  have h1 : w.heap.size < (w.alloc (.cells #[x] t)).drew.heap.size := by
    show w.heap.size < (w.heap.push _).size
    rw [Array.size_push]
    omega
  have h2 : (w.alloc (.cells #[x] t)).drew.heap[w.heap.size]? = some (.cells #[x] t) := by
    show (w.heap.push _)[w.heap.size]? = _
    rw [Array.getElem?_push_size]
  have := hB.block w.heap.size h1
  rw [h2] at this
  unfold World.cell?
  rw [this]
  rfl
theorem below_one {w w' : World} {o : Obj} (hB : Below w.drew.heap.size w.drew w') : Below w.heap.size w (w'.alloc o) :=
  (Below.trans (⟨hB.os, hB.tape, hB.output, hB.size, hB.block⟩ : Below w.heap.size w w') (Below.alloc (Below.refl _ _) hB.size o))
theorem below_two {w w' : World} {o : Obj} (hB : Below (w.alloc o).drew.heap.size (w.alloc o).drew w') : Below w.heap.size w w' :=
  Below.trans (Below.alloc (Below.refl _ _) (Nat.le_refl _) o) ⟨hB.os, hB.tape, hB.output, hB.size, fun k hk => hB.block k (by show k < (w.heap.push o).size; rw [Array.size_push]; omega)⟩
set_option maxHeartbeats 1600000 in
theorem dec_last (n q c : Int) (S : ByteArray) (h10 : 10 ≤ n) (hq : IntKind.i64.wrap (n.tdiv 10) = q) (hc : IntKind.u8.wrap (IntKind.i64.wrap (48 + n.tmod 10)) = c) (hc0 : 0 ≤ c ∧ c < 256) (hS : S.size + 1 ≤ maxLen)
    (hC : ∀ W, Calls Tryz.prog 22 #[.int .i64 q] W fun e w' => e = .returned (.string S) ∧ Below W.heap.size W w') (w : World) :
    Calls Tryz.prog 22 #[.int .i64 n] w fun e w' => e = .returned (.string (S ++ ⟨#[UInt8.ofNat c.toNat]⟩)) ∧ Below w.heap.size w w' := by
  have mixed := mixed
  have hn : ¬ n < 0 := by omega
  have hn10 : ¬ n < 10 := by omega
  have hcv := fun W b => conv1b W b c hc0
  go_enter Tryz.func22, Tryz.ntmps22
  have hm2 : ¬ (9223372036854775807 < S.size + 1) := by unfold maxLen at hS; omega
  go_wp2_with (fail)
  go_region_with (go_at_call 22; refine (hC _).mono ?_; rintro e w' ⟨rfl, hB⟩; try have hcell := cell_behind hB)
  all_goals go_wp2_with (fail)
  all_goals go_ret
  · exact ⟨rfl, below_one hB⟩
  · exact ⟨rfl, below_two hB⟩
  · exact ⟨rfl, below_two hB⟩
theorem nDigits_le : ∀ (k u : Nat), u < 10 ^ (k + 1) → Lib.nDigits u ≤ k + 1
  | 0, u, h => by rw [Lib.nDigits_small (by simpa using h)]; exact Nat.le_refl _
  | k + 1, u, h => by
    by_cases h10 : u < 10
    · rw [Lib.nDigits_small h10]; omega
    · rw [Lib.nDigits_big h10]
      have := nDigits_le k (u / 10) (by rw [Nat.div_lt_iff_lt_mul (by decide)]; rw [Nat.pow_succ] at h; exact h)
      omega
theorem itoa_len {n : Int} (h0 : -1000000000000 ≤ n) (h1 : n ≤ 1000000000000) : (Lib.itoa n).length ≤ 14 := by
  unfold Lib.itoa
  split
  · rw [List.length_cons, Lib.decDigits_length]
    have := nDigits_le 12 n.natAbs (by omega)
    omega
  · rw [Lib.decDigits_length]
    have := nDigits_le 12 n.toNat (by omega)
    omega
theorem itoa_minus {n : Int} (h : n < 0) : Lib.itoa n = 45 :: Lib.itoa (-n) := by
  unfold Lib.itoa
  rw [if_pos h, if_neg (by omega)]
  congr 2
  omega
theorem itoa_one {n : Int} (h0 : ¬ n < 0) (h : n < 10) : Lib.itoa n = [UInt8.ofNat (48 + n).toNat] := by
  unfold Lib.itoa
  rw [if_neg h0, Lib.decDigits_one (by omega)]
  congr 2
  omega
theorem itoa_more {n : Int} (h : ¬ n < 10) : Lib.itoa n = Lib.itoa (n.tdiv 10) ++ [UInt8.ofNat (48 + n.tmod 10).toNat] := by
  have h1 : n.tdiv 10 = n / 10 := Int.tdiv_eq_ediv_of_nonneg (by omega)
  have h2 : n.tmod 10 = n % 10 := Int.tmod_eq_emod_of_nonneg (by omega)
  rw [h1, h2]
  unfold Lib.itoa
  rw [if_neg (by omega), if_neg (by omega), Lib.decDigits, dif_neg (by omega)]
  congr 2
  · omega
  · congr 1; omega
theorem dec_calls : ∀ (m : Nat) (n : Int), decM n = m → -1000000000000 ≤ n → n ≤ 1000000000000 → ∀ w, Calls Tryz.prog 22 #[.int .i64 n] w fun e w' => e = .returned (.string ⟨(Lib.itoa n).toArray⟩) ∧ Below w.heap.size w w' := by
  intro m
  induction m using Nat.strongRecOn with
  | _ m ih =>
    intro n hm h0 h1 w
    have mixed := mixed
    by_cases hn : n < 0
    · have hC := fun W => ih _ (by rw [← hm]; exact decM_neg hn) (-n) rfl (by omega) (by omega) W
      have hl := itoa_len (n := -n) (by omega) (by omega)
      have hl2 : ¬ (9223372036854775807 < 1 + (Lib.itoa (-n)).length) := by omega
      clear ih
      rw [itoa_minus hn]
      generalize Lib.itoa (-n) = S at *
      go_enter Tryz.func22, Tryz.ntmps22
      go_wp2_with (go_at_call 22; refine (hC _).mono ?_; rintro e w' ⟨rfl, hB⟩)
      go_ret
      refine ⟨?_, hB⟩
      congr 2
    by_cases h10 : n < 10
    · clear ih
      have hcv := fun W b => conv1b W b (48 + n) (by omega)
      rw [itoa_one hn h10]
      go_enter Tryz.func22, Tryz.ntmps22
      go_wp2_with (fail)
      go_ret
      exact ⟨rfl, Below.alloc (Below.refl _ _) (Nat.le_refl _) _⟩
    · have h2 : 0 ≤ n.tmod 10 ∧ n.tmod 10 < 10 := ⟨Int.tmod_nonneg _ (by omega), Int.tmod_lt_of_pos _ (by decide)⟩
      have h3 : n.tdiv 10 = n / 10 := Int.tdiv_eq_ediv_of_nonneg (by omega)
      have hC := fun W => ih _ (by rw [← hm]; exact decM_div h10) (n.tdiv 10) rfl (by omega) (by omega) W
      have hl := itoa_len (n := n.tdiv 10) (by omega) (by omega)
      have e1 : IntKind.i64.wrap (n.tdiv 10) = n.tdiv 10 := IntWalk.i64_in _ (by omega)
      have e2 : IntKind.u8.wrap (IntKind.i64.wrap (48 + n.tmod 10)) = 48 + n.tmod 10 := by
        rw [show IntKind.i64.wrap (48 + n.tmod 10) = 48 + n.tmod 10 from IntWalk.i64_in _ (by omega)]
        rw [IntKind.wrap_u8]
        omega
      have := dec_last n _ _ ⟨(Lib.itoa (n.tdiv 10)).toArray⟩ (by omega) e1 e2 (by omega) (by simp [ByteArray.size, maxLen]; omega) hC w
      refine this.mono ?_
      rintro e w' ⟨rfl, hB⟩
      refine ⟨?_, hB⟩
      rw [itoa_more h10]
      congr 2
theorem callOK_below {f : FuncId} {args : List Value} {h : Hp} {K : Value → Hp → Prop} (H : ∀ w, Sub h w → Calls Tryz.prog f args.toArray w fun e w' => ∃ v, e = .returned v ∧ Below w.heap.size w w' ∧ K v h) : CallOK Tryz.prog f args h K := by
  intro w hs
  refine (H w hs).mono ?_
  rintro e w' ⟨v, he, hB, hK⟩
  refine ⟨v, h, he, fun b o hb => ?_, ⟨hB.os, hB.tape, hB.output, hB.size, fun b hb hn => ⟨hB.block b hb, hn⟩⟩, hK⟩
  have := hs b o hb
  have hlt := (Array.getElem?_eq_some_iff.1 this).1
  rw [hB.block b hlt]
  exact this
theorem R_Decimal_ok {n : Int} (h0 : -1000000000000 ≤ n) (h1 : n ≤ 1000000000000) {h : Hp} {R : Value → Hp → Prop} (hK : R (vs (bs (Lib.itoa n))) h) : CallOK Tryz.prog 22 [vi n] h R :=
  callOK_below fun w _ => (dec_calls _ n rfl h0 h1 w).mono fun e w' ⟨he, hB⟩ => ⟨_, he, hB, hK⟩
end Go.Proofs.YtonlacplogbodaaGreatDoor
/-
  Contracts: numbers as texts, off the library's own: strconv.Itoa, strconv.Atoi. Conditions: that the tables and errors of the library lie as the program's text lays them.
-/
namespace Go.Proofs.YtonlacplogbodaaGreatDoor
open Go Go.Vc Go.RowKit
set_option linter.unusedVariables false
set_option maxRecDepth 100000

/-- The table of powers lies there. -/
def TabP (h : Hp) : Prop := ∀ w, Sub h w → Lib.TabIs Tryz.prog w "internal/strconv.uint64pow10" .u64 Lib.pow10Tab
theorem sub_le {h h' : Hp} {w : World} (hl : h.le h') (hs : Sub h' w) : Sub h w := fun b o ho => hs b o (hl b o ho)
theorem TabP.le {h h' : Hp} (T : TabP h) (hl : h.le h') : TabP h' := fun w hs => T w (sub_le hl hs)
theorem vars_sub {W w : World} {name : String} {cs : Array Value} (hT : W.var? Tryz.prog name = some cs) (hs : Sub (hpOf W) w) : w.var? Tryz.prog name = some cs := by
  unfold World.var? at *
  cases hg : Tryz.prog.globalNamed name with
  | none => rw [hg] at hT; cases hT
  | some g =>
    rw [hg] at hT
    simp only [Option.bind_some] at hT ⊢
    cases hb : W.heap[g]? with
    | none => rw [hb] at hT; cases hT
    | some o =>
      rw [hs g o hb]
      rw [hb] at hT
      exact hT
theorem var_sub {W w : World} {name : String} {k : IntKind} {zs : List Int} (hT : Lib.TabIs Tryz.prog W name k zs) (hs : Sub (hpOf W) w) : Lib.TabIs Tryz.prog w name k zs := vars_sub hT hs
theorem below_grow (w : World) (k : Nat) (os : Array Obj) : Below w.heap.size w (Go.Sort.grow (w.drewN k) os) := by
  refine ⟨rfl, rfl, rfl, ?_, fun i hi => ?_⟩
  · show w.heap.size ≤ (w.heap ++ os).size
    rw [Array.size_append]
    omega
  · show (w.heap ++ os)[i]? = w.heap[i]?
    rw [Array.getElem?_append_left hi]
theorem strconv_Itoa_ok {n : Int} (hn : InR n) {h : Hp} (T : TabP h) {R : Value → Hp → Prop} (hK : R (vs (bs (Lib.itoa n))) h) : CallOK Tryz.prog 20 [vi n] h R :=
  callOK_below fun w hs => (Tryz.strconv_Itoa n hn.1 hn.2 w (T w hs)).mono fun e w' ⟨he, k, os, hw⟩ => ⟨_, he, by rw [hw]; exact below_grow w k os, hK⟩
end Go.Proofs.YtonlacplogbodaaGreatDoor
/-
  What functions of the program ask, in words: each is what the framework reckons from the loaded code (the kernel holds the two together), and gives the function's call. Conditions: none.
-/
namespace Go.Proofs.YtonlacplogbodaaGreatDoor
open Go Go.Vc
set_option maxRecDepth 100000
set_option linter.unusedVariables false
/-- What 'penstock/value.Text' asks. -/
def VC_value_Text (u_vKind : Int) (u_vN : Int) (h : Hp) (R : Value → Hp → Prop) : Prop :=
  (((decide ((u_vKind : Int) = 0)) = true → R (vs ⟨#[110, 117, 108, 108]⟩) h) ∧ ((decide ((u_vKind : Int) = 0)) = false → (((decide ((u_vKind : Int) = 1)) = true → (CallOK Tryz.prog 20 [(vi u_vN)] h fun v1 h2 => ∃ (s3 : ByteArray), v1 = (vs s3) ∧ R (vs s3) h2)) ∧ ((decide ((u_vKind : Int) = 1)) = false → (((decide ((u_vN : Int) = 0)) = true → R (vs ⟨#[102, 97, 108, 115, 101]⟩) h) ∧ ((decide ((u_vN : Int) = 0)) = false → R (vs ⟨#[116, 114, 117, 101]⟩) h))))))
theorem ok_value_Text {u_vKind : Int} {u_vN : Int} {h : Hp} {R : Value → Hp → Prop} (H : VC_value_Text u_vKind u_vN h R) : CallOK Tryz.prog 41 [(vag [(vi u_vKind), (vi u_vN)])] h R :=
  call_of (cfg := ⟨[], [], []⟩) noNG mixed Tryz.func41 [.ag [.v (vi u_vKind), .v (vi u_vN)]] (by kernel_rfl) rfl (by kernel_rfl) H

/-- What 'penstock/value.Parse' asks. -/
def VC_value_Parse (u_s : ByteArray) (h : Hp) (R : Value → Hp → Prop) : Prop :=
  (∃ (p1 : Bool), (Rd Tryz.prog ((eqGuard .eql 9 (.tmp 6) (.const (vs ⟨#[110, 117, 108, 108]⟩)) (vs u_s) (vs ⟨#[110, 117, 108, 108]⟩) >>= fun _ => binOp .eql 9 (vs u_s) (vs ⟨#[110, 117, 108, 108]⟩))) h (vb p1)) ∧ ((p1 = true → (CallOK Tryz.prog 117 [] h fun v2 h3 => ∃ (x4 : Int) (x5 : Int), v2 = (vag [(vi x4), (vi x5)]) ∧ R (vtup [(vag [(vi x4), (vi x5)]), (ifv none)]) h3)) ∧ (p1 = false → (∃ (p6 : Bool), (Rd Tryz.prog ((eqGuard .eql 9 (.tmp 6) (.const (vs ⟨#[116, 114, 117, 101]⟩)) (vs u_s) (vs ⟨#[116, 114, 117, 101]⟩) >>= fun _ => binOp .eql 9 (vs u_s) (vs ⟨#[116, 114, 117, 101]⟩))) h (vb p6)) ∧ (let J10 : Bool → Prop := fun (p11 : Bool) => ((p11 = true → (∃ (p12 : Bool), (Rd Tryz.prog ((eqGuard .eql 9 (.tmp 13) (.const (vs ⟨#[116, 114, 117, 101]⟩)) (vs u_s) (vs ⟨#[116, 114, 117, 101]⟩) >>= fun _ => binOp .eql 9 (vs u_s) (vs ⟨#[116, 114, 117, 101]⟩))) h (vb p12)) ∧ (CallOK Tryz.prog 118 [(vb p12)] h fun v13 h14 => ∃ (x15 : Int) (x16 : Int), v13 = (vag [(vi x15), (vi x16)]) ∧ R (vtup [(vag [(vi x15), (vi x16)]), (ifv none)]) h14))) ∧ (p11 = false → (CallOK Tryz.prog 55 [(vs u_s)] h fun v18 h19 => ∃ (x20 : Int) (e21 : Option (TypeId × Value)), v18 = (vtup [(vi x20), (ifv e21)]) ∧ (∃ (J22 : SV → Hp → Prop), ((Option.isSome e21) = false → (CallOK Tryz.prog 20 [(vi x20)] h19 fun v23 h24 => ∃ (s25 : ByteArray), v23 = (vs s25) ∧ J22 (.t (.one (.v (vs s25)))) h24)) ∧ (¬ ((Option.isSome e21) = false) → J22 (.t (.one (.v (vs ⟨#[]⟩)))) h19) ∧ ∀ (h26 : Hp) (s27 : ByteArray), J22 (.t (.one (.v (vs s27)))) h26 → (∃ (p28 : Bool), ((Option.isSome e21) = false → Rd Tryz.prog ((eqGuard .neq 9 (.tmp 25) (.tmp 26) (vs s27) (vs u_s) >>= fun _ => binOp .neq 9 (vs s27) (vs u_s))) h26 (vb p28)) ∧ (((bif (bif (bif (Option.isSome e21) then true else p28) then true else (decide ((x20 : Int) < (-1000000000)))) then true else (decide ((x20 : Int) > 1000000000))) = true → R (vtup [(vag [(vi 0), (vi 0)]), (ifv (some (44, (vi 4))))]) h26) ∧ ((bif (bif (bif (Option.isSome e21) then true else p28) then true else (decide ((x20 : Int) < (-1000000000)))) then true else (decide ((x20 : Int) > 1000000000))) = false → (CallOK Tryz.prog 116 [(vi x20)] h26 fun v30 h31 => ∃ (x32 : Int) (x33 : Int), v30 = (vag [(vi x32), (vi x33)]) ∧ R (vtup [(vag [(vi x32), (vi x33)]), (ifv none)]) h31)))))))); ((p6 = true → (J10 p6)) ∧ (p6 = false → (∃ (p8 : Bool), (Rd Tryz.prog ((eqGuard .eql 9 (.tmp 6) (.const (vs ⟨#[102, 97, 108, 115, 101]⟩)) (vs u_s) (vs ⟨#[102, 97, 108, 115, 101]⟩) >>= fun _ => binOp .eql 9 (vs u_s) (vs ⟨#[102, 97, 108, 115, 101]⟩))) h (vb p8)) ∧ (J10 p8)))))))))
theorem ok_value_Parse {u_s : ByteArray} {h : Hp} {R : Value → Hp → Prop} (H : VC_value_Parse u_s h R) : CallOK Tryz.prog 115 [(vs u_s)] h R :=
  call_of (cfg := ⟨[], [], []⟩) noNG mixed Tryz.func115 [.one (.v (vs u_s))] (by kernel_rfl) rfl (by kernel_rfl) H

end Go.Proofs.YtonlacplogbodaaGreatDoor
/-
  What functions of the program ask, in words: each is what the framework reckons from the loaded code (the kernel holds the two together), and gives the function's call. Conditions: none.
-/
namespace Go.Proofs.YtonlacplogbodaaGreatDoor
open Go Go.Vc
set_option maxRecDepth 100000
set_option linter.unusedVariables false
/-- What 'penstock/penstockref.ValueOf' asks. -/
def VC_R_ValueOf (u_s : ByteArray) (h : Hp) (R : Value → Hp → Prop) : Prop :=
  (∃ (p1 : Bool), (Rd Tryz.prog ((eqGuard .eql 9 (.tmp 6) (.const (vs ⟨#[110, 117, 108, 108]⟩)) (vs u_s) (vs ⟨#[110, 117, 108, 108]⟩) >>= fun _ => binOp .eql 9 (vs u_s) (vs ⟨#[110, 117, 108, 108]⟩))) h (vb p1)) ∧ ((p1 = true → R (vtup [(vag [(vi 0), (vi 0)]), (vi 0)]) h) ∧ (p1 = false → (∃ (p3 : Bool), (Rd Tryz.prog ((eqGuard .eql 9 (.tmp 9) (.const (vs ⟨#[116, 114, 117, 101]⟩)) (vs u_s) (vs ⟨#[116, 114, 117, 101]⟩) >>= fun _ => binOp .eql 9 (vs u_s) (vs ⟨#[116, 114, 117, 101]⟩))) h (vb p3)) ∧ (∃ (p4 : Bool), (p3 = false → Rd Tryz.prog ((eqGuard .eql 9 (.tmp 12) (.const (vs ⟨#[102, 97, 108, 115, 101]⟩)) (vs u_s) (vs ⟨#[102, 97, 108, 115, 101]⟩) >>= fun _ => binOp .eql 9 (vs u_s) (vs ⟨#[102, 97, 108, 115, 101]⟩))) h (vb p4)) ∧ (((bif p3 then true else p4) = true → (∃ (p5 : Bool), (Rd Tryz.prog ((eqGuard .eql 9 (.tmp 15) (.const (vs ⟨#[116, 114, 117, 101]⟩)) (vs u_s) (vs ⟨#[116, 114, 117, 101]⟩) >>= fun _ => binOp .eql 9 (vs u_s) (vs ⟨#[116, 114, 117, 101]⟩))) h (vb p5)) ∧ (CallOK Tryz.prog 96 [(vb p5)] h fun v6 h7 => ∃ (x8 : Int) (x9 : Int), v6 = (vag [(vi x8), (vi x9)]) ∧ R (vtup [(vag [(vi x8), (vi x9)]), (vi 0)]) h7))) ∧ ((bif p3 then true else p4) = false → (∃ (x11 : Int), ((decide ((((ByteArray.size u_s : Nat) : Int) : Int) > 1)) = true → Rd Tryz.prog (Instr.index 9 (vs u_s) (vi 0)) h (vk .u8 x11)) ∧ (let J15 : ByteArray → Prop := fun (s16 : ByteArray) => (CallOK Tryz.prog 62 [(vs s16), (vi 1000000000), (vb true)] h fun v17 h18 => ∃ (x19 : Int), v17 = (vi x19) ∧ (((bif (decide ((x19 : Int) < 0)) then true else (bif (decide ((((ByteArray.size s16 : Nat) : Int) : Int) < ((ByteArray.size u_s : Nat) : Int))) then (decide ((x19 : Int) = 0)) else false)) = true → R (vtup [(vag [(vi 0), (vi 0)]), (vi 4)]) h18) ∧ ((bif (decide ((x19 : Int) < 0)) then true else (bif (decide ((((ByteArray.size s16 : Nat) : Int) : Int) < ((ByteArray.size u_s : Nat) : Int))) then (decide ((x19 : Int) = 0)) else false)) = false → (let J24 : Int → Prop := fun (x25 : Int) => (CallOK Tryz.prog 78 [(vi x25)] h18 fun v26 h27 => ∃ (x28 : Int) (x29 : Int), v26 = (vag [(vi x28), (vi x29)]) ∧ R (vtup [(vag [(vi x28), (vi x29)]), (vi 0)]) h27); (((decide ((((ByteArray.size s16 : Nat) : Int) : Int) < ((ByteArray.size u_s : Nat) : Int))) = true → (∃ (x21 : Int), (IsW x21 (-x19)) ∧ (J24 x21))) ∧ ((decide ((((ByteArray.size s16 : Nat) : Int) : Int) < ((ByteArray.size u_s : Nat) : Int))) = false → (J24 x19))))))); (((bif (decide ((((ByteArray.size u_s : Nat) : Int) : Int) > 1)) then (decide ((x11 : Int) = 45)) else false) = true → (∃ (s12 : ByteArray), (Rd Tryz.prog (Instr.sliceAt 9 (vs u_s) (some (vi 1)) none none) h (vs s12)) ∧ (J15 s12))) ∧ ((bif (decide ((((ByteArray.size u_s : Nat) : Int) : Int) > 1)) then (decide ((x11 : Int) = 45)) else false) = false → (J15 u_s))))))))))))
theorem ok_R_ValueOf {u_s : ByteArray} {h : Hp} {R : Value → Hp → Prop} (H : VC_R_ValueOf u_s h R) : CallOK Tryz.prog 77 [(vs u_s)] h R :=
  call_of (cfg := ⟨[], [], []⟩) noNG mixed Tryz.func77 [.one (.v (vs u_s))] (by kernel_rfl) rfl (by kernel_rfl) H

/-- What 'penstock/penstockref.natural' asks. -/
def VC_R_natural (u_s : ByteArray) (u_most : Int) (u_plain : Bool) (h : Hp) (R : Value → Hp → Prop) : Prop :=
  (∃ (x1 : Int), (((decide ((((ByteArray.size u_s : Nat) : Int) : Int) < 1)) = false ∧ u_plain = true) → Rd Tryz.prog (Instr.index 9 (vs u_s) (vi 0)) h (vk .u8 x1)) ∧ (((bif (decide ((((ByteArray.size u_s : Nat) : Int) : Int) < 1)) then true else (bif (bif u_plain then (decide ((x1 : Int) = 48)) else false) then (decide ((((ByteArray.size u_s : Nat) : Int) : Int) > 1)) else false)) = true → R (vi (-1)) h) ∧ ((bif (decide ((((ByteArray.size u_s : Nat) : Int) : Int) < 1)) then true else (bif (bif u_plain then (decide ((x1 : Int) = 48)) else false) then (decide ((((ByteArray.size u_s : Nat) : Int) : Int) > 1)) else false)) = false → (∃ (I4 : List Value → Hp → Prop) (m5 : List Value → Hp → Nat), I4 [(vi 0), (vi 0)] h ∧ ∀ (vs6 : List Value) (h7 : Hp), I4 vs6 h7 → ∃ (x8 : Int) (x9 : Int), vs6 = [(vi x8), (vi x9)] ∧ (((decide ((x9 : Int) < ((ByteArray.size u_s : Nat) : Int))) = true → (∃ (x12 : Int), (Rd Tryz.prog (Instr.index 9 (vs u_s) (vi x9)) h7 (vk .u8 x12)) ∧ (∃ (x13 : Int), ((decide ((x12 : Int) < 48)) = false → Rd Tryz.prog (Instr.index 9 (vs u_s) (vi x9)) h7 (vk .u8 x13)) ∧ (((bif (decide ((x12 : Int) < 48)) then true else (decide ((x13 : Int) > 57))) = true → R (vi (-1)) h7) ∧ ((bif (decide ((x12 : Int) < 48)) then true else (decide ((x13 : Int) > 57))) = false → (∃ (x15 : Int), (IsW x15 (10 * x8)) ∧ (∃ (x16 : Int), (Rd Tryz.prog (Instr.index 9 (vs u_s) (vi x9)) h7 (vk .u8 x16)) ∧ (∃ (x17 : Int), (Rd Tryz.prog (binOp .sub 5 (vk .u8 x16) (vk .u8 48)) h7 (vk .u8 x17)) ∧ (∃ (x18 : Int), (IsW x18 (x15 + (IntKind.wrap .i64 x17))) ∧ (((decide ((x18 : Int) > u_most)) = true → R (vi (-1)) h7) ∧ ((decide ((x18 : Int) > u_most)) = false → (∃ (x20 : Int), (IsW x20 (x9 + 1)) ∧ (I4 [(vi x18), (vi x20)] h7 ∧ m5 [(vi x18), (vi x20)] h7 < m5 vs6 h7))))))))))))) ∧ ((decide ((x9 : Int) < ((ByteArray.size u_s : Nat) : Int))) = false → R (vi x8) h7))))))
theorem ok_R_natural {u_s : ByteArray} {u_most : Int} {u_plain : Bool} {h : Hp} {R : Value → Hp → Prop} (H : VC_R_natural u_s u_most u_plain h R) : CallOK Tryz.prog 62 [(vs u_s), (vi u_most), (vb u_plain)] h R :=
  call_of (cfg := ⟨[], [(5, ([7, 8], [.one (.int .i64), .one (.int .i64)], []))], []⟩) noNG mixed Tryz.func62 [.one (.v (vs u_s)), .one (.v (vi u_most)), .one (.v (vb u_plain))] (by kernel_rfl) rfl (by kernel_rfl) H

-- FAIL penstock/penstockref.Decimal Fail   no one order: 8 behind 2
/-- What 'penstock/penstockref.ValueText' asks. -/
def VC_R_ValueText (u_vKind : Int) (u_vN : Int) (h : Hp) (R : Value → Hp → Prop) : Prop :=
  (((decide ((u_vKind : Int) = 0)) = true → R (vs ⟨#[110, 117, 108, 108]⟩) h) ∧ ((decide ((u_vKind : Int) = 0)) = false → (((decide ((u_vKind : Int) = 1)) = true → (CallOK Tryz.prog 22 [(vi u_vN)] h fun v2 h3 => ∃ (s4 : ByteArray), v2 = (vs s4) ∧ R (vs s4) h3)) ∧ ((decide ((u_vKind : Int) = 1)) = false → (((decide ((u_vN : Int) = 1)) = true → R (vs ⟨#[116, 114, 117, 101]⟩) h) ∧ ((decide ((u_vN : Int) = 1)) = false → R (vs ⟨#[102, 97, 108, 115, 101]⟩) h))))))
theorem ok_R_ValueText {u_vKind : Int} {u_vN : Int} {h : Hp} {R : Value → Hp → Prop} (H : VC_R_ValueText u_vKind u_vN h R) : CallOK Tryz.prog 47 [(vag [(vi u_vKind), (vi u_vN)])] h R :=
  call_of (cfg := ⟨[], [], []⟩) noNG mixed Tryz.func47 [.ag [.v (vi u_vKind), .v (vi u_vN)]] (by kernel_rfl) rfl (by kernel_rfl) H

end Go.Proofs.YtonlacplogbodaaGreatDoor
/-
  Contracts: values as texts: Text, Parse; and as the document has them. Conditions: that the tables and errors of the library lie as the program's text lays them; that the text is not too long.
-/
namespace Go.Proofs.YtonlacplogbodaaGreatDoor
open Go Go.Vc Go.Txt
set_option linter.unusedVariables false
set_option maxRecDepth 100000

/-- The library's two errors lie there. -/
structure TabE (h : Hp) : Prop where
  a : ∃ tp p, ∀ w, Sub h w → w.var? Tryz.prog "strconv.ErrSyntax" = some #[.iface tp p]
  b : ∃ tp p, ∀ w, Sub h w → w.var? Tryz.prog "strconv.ErrRange" = some #[.iface tp p]
theorem TabE.le {h h' : Hp} (T : TabE h) (hl : h.le h') : TabE h' := by
  obtain ⟨⟨t, p, a⟩, ⟨u, q, b⟩⟩ := T
  exact ⟨⟨t, p, fun w hs => a w (sub_le hl hs)⟩, ⟨u, q, fun w hs => b w (sub_le hl hs)⟩⟩
theorem strconv_Atoi_ok {l : List UInt8} (hl : l.length ≤ 1000000) {h : Hp} (E : TabE h) {R : Value → Hp → Prop} (hY : ∀ v, Lib.atoiAll l = .ok v → R (vtup [vi v, ifv none]) h) (hN : (∀ v, Lib.atoiAll l ≠ .ok v) → ∀ x e, R (vtup [vi x, ifv (some e)]) h) :
    CallOK Tryz.prog 55 [vs (bs l)] h R := by
  have hsz : (bs l).size = l.length := bs_size l
  have hdl : (bs l).data.toList = l := by simp [bs]
  obtain ⟨⟨t, p, ha⟩, ⟨u, q, hb⟩⟩ := E
  refine callOK_below fun w hs => ?_
  cases hA : Lib.atoiAll l
  · rename_i v
    refine (Tryz.strconv_Atoi_ok (bs l) (by omega) v (by rw [hdl]; exact hA) w).mono ?_
    rintro e w' ⟨he, hw⟩
    refine ⟨_, he, ?_, hY v hA⟩
    rcases hw with rfl | ⟨t, rfl⟩
    · exact RowKit.Below.refl _ _
    · exact Lib.bytesWorld_below _ _ _
  · refine (Any.strconv_Atoi_syntax_var Tryz.laysC172 (bs l) (by omega) (by rw [hdl]; exact hA) t p w (ha w hs)).mono ?_
    rintro e w' ⟨N, he, _, _, hB⟩
    exact ⟨_, he, hB, hN (fun v e => by rw [hA] at e; cases e) _ (_, _)⟩
  · refine (Any.strconv_Atoi_range_var Tryz.laysC172 (bs l) (by omega) (by rw [hdl]; exact hA) u q w (hb w hs)).mono ?_
    rintro e w' ⟨N, he, _, _, hB⟩
    exact ⟨_, he, hB, hN (fun v e => by rw [hA] at e; cases e) _ (_, _)⟩
/-- What is written of a value. -/
def textV (v : Int × Int) : List UInt8 := if v.1 = 0 then wNull else if v.1 = 1 then Lib.itoa v.2 else if v.2 = 0 then wFalse else wTrue
theorem value_Text_ok {v : Int × Int} (hn : InR v.2) {h : Hp} (T : TabP h) {R : Value → Hp → Prop} (hK : R (vs (bs (textV v))) h) : CallOK Tryz.prog 41 [vag (encV v)] h R := by
  refine ok_value_Text ?_
  unfold VC_value_Text
  unfold textV at hK
  refine ⟨fun g => ?_, fun g1 => ⟨fun g => ?_, fun g2 => ⟨fun g => ?_, fun g3 => ?_⟩⟩⟩
  · rw [if_pos (of_decide_eq_true g)] at hK; exact hK
  · rw [if_neg (of_decide_eq_false g1), if_pos (of_decide_eq_true g)] at hK
    exact strconv_Itoa_ok hn T ⟨_, rfl, hK⟩
  · rw [if_neg (of_decide_eq_false g1), if_neg (of_decide_eq_false g2), if_pos (of_decide_eq_true g)] at hK; exact hK
  · rw [if_neg (of_decide_eq_false g1), if_neg (of_decide_eq_false g2), if_neg (of_decide_eq_false g3)] at hK; exact hK
theorem R_ValueText_ok {v : Int × Int} (hv : goodV v) {h : Hp} {R : Value → Hp → Prop} (hK : R (vs (bs (textV v))) h) : CallOK Tryz.prog 47 [vag (encV v)] h R := by
  refine ok_R_ValueText ?_
  unfold VC_R_ValueText
  unfold textV at hK
  unfold goodV at hv
  refine ⟨fun g => ?_, fun g1 => ⟨fun g => ?_, fun g2 => ⟨fun g => ?_, fun g3 => ?_⟩⟩⟩
  · rw [if_pos (of_decide_eq_true g)] at hK; exact hK
  · rw [if_neg (of_decide_eq_false g1), if_pos (of_decide_eq_true g)] at hK
    have := of_decide_eq_true g
    exact R_Decimal_ok (by omega) (by omega) ⟨_, rfl, hK⟩
  · have g1 := of_decide_eq_false g1
    have g2 := of_decide_eq_false g2
    have g := of_decide_eq_true g
    rw [if_neg g1, if_neg g2, if_neg (by omega)] at hK; exact hK
  · have g1 := of_decide_eq_false g1
    have g2 := of_decide_eq_false g2
    have g3 := of_decide_eq_false g3
    rw [if_neg g1, if_neg g2, if_pos (by omega)] at hK; exact hK
/-- What is read of a text: a value, and 0; or none, and 4. -/
def readV (l : List UInt8) : (Int × Int) × Int :=
  if l = wNull then ((0, 0), 0) else if l = wTrue ∨ l = wFalse then (truthV (decide (l = wTrue)), 0) else
    match Lib.atoiAll l with
    | .ok v => if Lib.itoa v = l ∧ -1000000000 ≤ v ∧ v ≤ 1000000000 then (numV v, 0) else ((0, 0), 4)
    | _ => ((0, 0), 4)
theorem value_Parse_ok {l : List UInt8} (hl : l.length ≤ 1000000) {h : Hp} (T : TabP h) (E : TabE h) {R : Value → Hp → Prop} (hK : R (vtup [vag (encV (readV l).1), ifv (errV (readV l).2)]) h) : CallOK Tryz.prog 115 [vs (bs l)] h R := by
  refine ok_value_Parse ?_
  unfold VC_value_Parse
  refine ⟨_, rd_eqBs (b := wNull), fun g => ?_, fun g1 => ?_⟩
  · have g := of_decide_eq_true g
    have : readV l = ((0, 0), 0) := by unfold readV; rw [if_pos g]
    rw [this] at hK
    exact value_Null_ok ⟨_, _, rfl, hK⟩
  have g1 := of_decide_eq_false g1
  refine ⟨_, rd_eqBs (b := wTrue), ?_⟩
  intro J10
  have yes : l = wTrue ∨ l = wFalse → J10 true := by
    intro hw
    refine ⟨fun _ => ⟨_, rd_eqBs (b := wTrue), ?_⟩, fun g => by cases g⟩
    have : readV l = (truthV (decide (l = wTrue)), 0) := by unfold readV; rw [if_neg g1, if_pos hw]
    rw [this] at hK
    exact value_Truth_ok ⟨_, _, rfl, hK⟩
  have no : ¬ (l = wTrue ∨ l = wFalse) → J10 false := by
    intro hw
    refine ⟨fun g => by (cases g), fun _ => ?_⟩
    have hr : readV l = match Lib.atoiAll l with
      | .ok v => if Lib.itoa v = l ∧ -1000000000 ≤ v ∧ v ≤ 1000000000 then (numV v, 0) else ((0, 0), 4)
      | _ => ((0, 0), 4) := by unfold readV; rw [if_neg g1, if_neg hw]
    refine strconv_Atoi_ok hl E (fun v hv => ⟨_, _, rfl, ?_⟩) fun hn x e => ⟨_, _, rfl, ?_⟩
    · rw [hv] at hr
      simp only at hr
      have hb := Lib.atoiAll_bounds hv
      refine ⟨fun x h' => h' = h ∧ x = .t (.one (.v (vs (bs (Lib.itoa v))))), fun _ => strconv_Itoa_ok (by unfold InR; omega) T ⟨_, rfl, rfl, rfl⟩, fun g => absurd rfl g, ?_⟩
      rintro h26 s27 ⟨rfl, e⟩
      cases e
      refine ⟨_, fun _ => rd_neBs (a := Lib.itoa v) (b := l), fun g => ?_, fun g => ?_⟩
      · have : ¬ (Lib.itoa v = l ∧ -1000000000 ≤ v ∧ v ≤ 1000000000) := by
          rintro ⟨h1, h2, h3⟩
          rw [decide_eq_true h1, decide_eq_false (show ¬ v < -1000000000 by omega), decide_eq_false (show ¬ v > 1000000000 by omega)] at g
          cases g
        rw [hr, if_neg this] at hK
        exact hK
      · have : Lib.itoa v = l ∧ -1000000000 ≤ v ∧ v ≤ 1000000000 := by
          obtain ⟨g, g3⟩ := bor_false g
          obtain ⟨g, g2⟩ := bor_false g
          obtain ⟨_, g⟩ := bor_false g
          have g3 := of_decide_eq_false g3
          have g2 := of_decide_eq_false g2
          exact ⟨by simpa using g, by omega, by omega⟩
        rw [hr, if_pos this] at hK
        exact value_Number_ok ⟨_, _, rfl, hK⟩
    · have hr2 : readV l = ((0, 0), 4) := by
        rw [hr]
        cases hA : Lib.atoiAll l
        · exact absurd hA (hn _)
        · rfl
        · rfl
      rw [hr2] at hK
      refine ⟨fun x h' => h' = h ∧ ∃ s, x = .t (.one (.v (vs s))), fun g => by (cases g), fun _ => ⟨rfl, _, rfl⟩, ?_⟩
      rintro h26 s27 ⟨rfl, s, e⟩
      cases e
      exact ⟨false, fun g => by (cases g), fun _ => hK, fun g => by cases g⟩
  clear_value J10
  refine ⟨fun g => ?_, fun g2 => ⟨_, rd_eqBs (b := wFalse), ?_⟩⟩
  · rw [g]; exact yes (.inl (of_decide_eq_true g))
  · have g2 := of_decide_eq_false g2
    by_cases hf : l = wFalse
    · rw [decide_eq_true hf]; exact yes (.inr hf)
    · rw [decide_eq_false hf]; exact no (by rintro (h | h); exact g2 h; exact hf h)
theorem rd_subU8 {t : TypeId} {h : Hp} {a : Int} (h0 : 48 ≤ a) (h1 : a ≤ 255) : Rd Tryz.prog (binOp .sub t (vk .u8 a) (vk .u8 48)) h (vk .u8 (a - 48)) := by
  intro w _
  have e : IntKind.u8.wrap (a - 48) = a - 48 := by rw [IntKind.wrap_u8]; omega
  simp [binOp, Op.intArith, e]
theorem R_natural_ok {l : List UInt8} (hl : l.length ≤ 1000000) {most : Int} (hm : 0 ≤ most) (hm2 : most ≤ 1000000000000) {plain : Bool} {h : Hp} {R : Value → Hp → Prop} (hK : R (vi (natF l most plain)) h) : CallOK Tryz.prog 62 [vs (bs l), vi most, vb plain] h R := by
  refine ok_R_natural ?_
  unfold VC_R_natural
  rw [bs_size]
  refine ⟨((l.getD (0 : Int).toNat 0).toNat : Int), fun g => rd_idx (by kernel_rfl) (by decide) (by have := of_decide_eq_false g.1; omega), ?_⟩
  have hh : ∀ c r, l = c :: r → l.getD (0 : Int).toNat 0 = c := by rintro c r rfl; rfl
  have e48 : ∀ c : UInt8, (c.toNat : Int) = 48 ↔ c = 48 := by
    intro c
    constructor
    · intro e
      have : c.toNat = 48 := by omega
      have h2 := congrArg UInt8.ofNat this
      simpa using h2
    · rintro rfl; rfl
  have ep : ∀ (p : Prop) [Decidable p], (bif plain then decide p else false) = decide (plain = true ∧ p) := by
    intro p _
    cases plain <;> simp
  have key : (bif (decide ((l.length : Int) < 1)) then true else (bif (bif plain then (decide (((l.getD (0 : Int).toNat 0).toNat : Int) = 48)) else false) then (decide ((l.length : Int) > 1)) else false)) = decide (l = [] ∨ (plain = true ∧ l.head? = some 48 ∧ 1 < l.length)) := by
    rw [ep, cand, cor]
    refine decide_eq_decide.2 ?_
    match l, hh with
    | [], _ => exact ⟨fun _ => .inl rfl, fun _ => .inl (by decide)⟩
    | c :: r, hh =>
      rw [hh c r rfl, e48]
      constructor
      · rintro (h | ⟨⟨h1, h2⟩, h3⟩)
        · exfalso
          have : (c :: r).length = r.length + 1 := rfl
          omega
        · exact .inr ⟨h1, by rw [h2]; rfl, by omega⟩
      · rintro (h | ⟨h1, h2, h3⟩)
        · exact absurd h (by simp)
        · exact .inr ⟨⟨h1, by simpa using h2⟩, by omega⟩
  rw [key]
  clear key hh
  refine ⟨fun g => ?_, fun g => ?_⟩
  · have : natF l most plain = -1 := by unfold natF; rw [if_pos (of_decide_eq_true g)]
    rw [this] at hK; exact hK
  have : natF l most plain = natGo most 0 l := by unfold natF; rw [if_neg (of_decide_eq_false g)]
  rw [this] at hK
  clear this g
  refine ⟨fun vs hh => hh = h ∧ ∃ (a : Int) (i : Nat), vs = [vi a, vi i] ∧ i ≤ l.length ∧ natGo most 0 l = natGo most a (l.drop i) ∧ 0 ≤ a ∧ a ≤ most, fun vs hh => l.length - (vint vs 1).toNat, ⟨rfl, 0, 0, rfl, Nat.zero_le _, rfl, Int.le_refl _, hm⟩, ?_⟩
  rintro vs hh ⟨rfl, a, i, rfl, hi, hc, ha, ham⟩
  refine ⟨a, i, rfl, fun g => ?_, fun g => ?_⟩
  · have hlt : i < l.length := by have := of_decide_eq_true g; omega
    have hg : l.getD (i : Int).toNat 0 = l[i] := by rw [Int.toNat_natCast, List.getD_eq_getElem?_getD, List.getElem?_eq_getElem hlt]; rfl
    have hr : Rd Tryz.prog (Instr.index 9 (vs (bs l)) (vi i)) hh (vk .u8 ((l[i]).toNat : Nat)) := by
      have := rd_idx (P := Tryz.prog) (h := hh) (t := 9) (l := l) (i := (i : Int)) (by kernel_rfl) (by omega) (by omega)
      rw [hg] at this
      exact this
    rw [List.drop_eq_getElem_cons hlt, natGo] at hc
    have hb := UInt8.toNat_lt l[i]
    generalize l[i] = c at *
    refine ⟨_, hr, _, fun _ => hr, fun q => ?_, fun q => ?_⟩
    · rw [cor] at q
      have q := of_decide_eq_true q
      rw [if_pos (by omega)] at hc
      rw [hc] at hK; exact hK
    · rw [cor] at q
      have q := of_decide_eq_false q
      rw [if_neg (by omega)] at hc
      have e64 : IntKind.wrap .i64 ((c.toNat : Int) - 48) = (c.toNat : Int) - 48 := IntWalk.i64_in _ (by omega)
      refine ⟨_, isW (by unfold InR; omega), _, hr, _, rd_subU8 (by omega) (by omega), ?_⟩
      rw [e64]
      refine ⟨_, isW (by unfold InR; omega), fun q2 => ?_, fun q2 => ?_⟩
      · rw [if_pos (of_decide_eq_true q2)] at hc
        rw [hc] at hK; exact hK
      · have q2 := of_decide_eq_false q2
        rw [if_neg q2] at hc
        exact ⟨_, isW (by unfold InR; omega), ⟨rfl, _, i + 1, rfl, by omega, hc, by omega, by omega⟩, by simp [vint]; omega⟩
  · have hge : i = l.length := by have := of_decide_eq_false g; omega
    subst hge
    rw [List.drop_eq_nil_of_le (Nat.le_refl _), natGo] at hc
    rw [hc] at hK; exact hK
/-- A text behind its sign. -/
def tailV (l : List UInt8) : List UInt8 := if 1 < l.length ∧ l.head? = some 45 then l.drop 1 else l
/-- What the document reads. -/
def readR (l : List UInt8) : (Int × Int) × Int :=
  if l = wNull then ((0, 0), 0) else if l = wTrue ∨ l = wFalse then (truthV (decide (l = wTrue)), 0) else
    if natF (tailV l) 1000000000 true < 0 ∨ ((tailV l).length < l.length ∧ natF (tailV l) 1000000000 true = 0) then ((0, 0), 4)
    else (numV (if (tailV l).length < l.length then - natF (tailV l) 1000000000 true else natF (tailV l) 1000000000 true), 0)
theorem natF_le {l : List UInt8} {most : Int} (hm : 0 ≤ most) : natF l most true ≤ most := by
  by_cases h : 0 ≤ natF l most true
  · exact (natF_inv hm h).2
  · omega
theorem natF_ge {l : List UInt8} {most : Int} (hm : 0 ≤ most) : -1 ≤ natF l most true := by
  unfold natF
  split
  · omega
  · have := natGo_spec most l 0 hm
    simp only [Int.natCast_zero] at this
    rw [this]
    split <;> omega
theorem R_ValueOf_ok {l : List UInt8} (hl : l.length ≤ 1000000) {h : Hp} {R : Value → Hp → Prop} (hK : R (vtup [vag (encV (readR l).1), vi (readR l).2]) h) : CallOK Tryz.prog 77 [vs (bs l)] h R := by
  refine ok_R_ValueOf ?_
  unfold VC_R_ValueOf
  rw [bs_size]
  refine ⟨_, rd_eqBs (b := wNull), fun g => ?_, fun g1 => ⟨_, rd_eqBs (b := wTrue), _, fun _ => rd_eqBs (b := wFalse), ?_⟩⟩
  · have : readR l = ((0, 0), 0) := by unfold readR; rw [if_pos (of_decide_eq_true g)]
    rw [this] at hK; exact hK
  have g1 := of_decide_eq_false g1
  rw [cor]
  refine ⟨fun g => ⟨_, rd_eqBs (b := wTrue), R_Truth_ok ⟨_, _, rfl, ?_⟩⟩, fun g2 => ?_⟩
  · have : readR l = (truthV (decide (l = wTrue)), 0) := by unfold readR; rw [if_neg g1, if_pos (of_decide_eq_true g)]
    rw [this] at hK; exact hK
  have g2 := of_decide_eq_false g2
  have hr : readR l = if natF (tailV l) 1000000000 true < 0 ∨ ((tailV l).length < l.length ∧ natF (tailV l) 1000000000 true = 0) then ((0, 0), 4)
    else (numV (if (tailV l).length < l.length then - natF (tailV l) 1000000000 true else natF (tailV l) 1000000000 true), 0) := by unfold readR; rw [if_neg g1, if_neg g2]
  rw [hr] at hK
  clear hr
  refine ⟨((l.getD (0 : Int).toNat 0).toNat : Int), fun g => rd_idx (by kernel_rfl) (by decide) (by have := of_decide_eq_true g; omega), ?_⟩
  intro J15
  have hJ : ∀ t, t = tailV l → t.length ≤ l.length → J15 (bs t) := by
    intro t ht htl
    refine R_natural_ok (by omega) (by decide) (by decide) ⟨_, rfl, ?_⟩
    rw [← ht] at hK
    have hb1 := natF_le (l := t) (most := 1000000000) (by decide)
    have hb2 := natF_ge (l := t) (most := 1000000000) (by decide)
    generalize natF t 1000000000 true = n at *
    rw [bs_size]
    have e : (bif (decide ((n : Int) < 0)) then true else (bif (decide (((t.length : Nat) : Int) < ((l.length : Nat) : Int))) then (decide ((n : Int) = 0)) else false)) = decide (n < 0 ∨ (t.length < l.length ∧ n = 0)) := by
      rw [cand, cor]
      exact decide_eq_decide.2 (by omega)
    rw [e]
    refine ⟨fun g => ?_, fun g => ?_⟩
    · rw [if_pos (of_decide_eq_true g)] at hK; exact hK
    · rw [if_neg (of_decide_eq_false g)] at hK
      refine ⟨fun g => ⟨_, isW (by unfold InR; omega), R_Num_ok ⟨_, _, rfl, ?_⟩⟩, fun g => R_Num_ok ⟨_, _, rfl, ?_⟩⟩
      · rw [if_pos (by have := of_decide_eq_true g; omega)] at hK; exact hK
      · rw [if_neg (by have := of_decide_eq_false g; omega)] at hK; exact hK
  clear_value J15
  have e45 : (bif (decide ((l.length : Int) > 1)) then (decide (((l.getD (0 : Int).toNat 0).toNat : Int) = 45)) else false) = decide (1 < l.length ∧ l.head? = some 45) := by
    rw [cand]
    refine decide_eq_decide.2 ?_
    match l with
    | [] => simp
    | c :: r =>
      have e : (c.toNat : Int) = 45 ↔ c = 45 := by
        constructor
        · intro e
          have : c.toNat = 45 := by omega
          have h2 := congrArg UInt8.ofNat this
          simpa using h2
        · rintro rfl; rfl
      show _ ∧ (c.toNat : Int) = 45 ↔ _
      rw [e]
      simp
      omega
  rw [e45]
  refine ⟨fun g => ⟨_, rd_cutL (by kernel_rfl) (by decide) (by have := (of_decide_eq_true g).1; omega), ?_⟩, fun g => ?_⟩
  · refine hJ _ ?_ (by simp)
    unfold tailV
    rw [if_pos (of_decide_eq_true g)]
    rfl
  · refine hJ _ ?_ (Nat.le_refl _)
    unfold tailV
    rw [if_neg (of_decide_eq_false g)]
/-- Both read the same. -/
theorem read_same (l : List UInt8) : readV l = readR l := by
  unfold readV readR
  split
  · rfl
  · split
    · rfl
    · have hi := fun h => natF_inv (l := tailV l) (most := 1000000000) (by decide) h
      have hle := natF_le (l := tailV l) (most := 1000000000) (by decide)
      by_cases hc : natF (tailV l) 1000000000 true < 0 ∨ ((tailV l).length < l.length ∧ natF (tailV l) 1000000000 true = 0)
      · rw [if_pos hc]
        cases hA : Lib.atoiAll l with
        | ok v =>
          simp only
          rw [if_neg]
          rintro ⟨h1, h2, h3⟩
          by_cases hv : v < 0
          · have e := itoa_minus hv
            rw [h1] at e
            have hd := dec_spec (-v).toNat
            have ei : Lib.itoa (-v) = Lib.decDigits (-v).toNat := by unfold Lib.itoa; rw [if_neg (by omega)]
            rw [ei] at e
            have ht : tailV l = Lib.decDigits (-v).toNat := by
              unfold tailV
              have := List.length_pos_iff.2 hd.2.2.1
              rw [if_pos (by rw [e]; exact ⟨by simp; omega, rfl⟩), e]
              rfl
            have hn := natF_dec (k := (-v).toNat) (most := 1000000000) (by omega) (by decide)
            rw [← ht] at hn
            omega
          · have ei : Lib.itoa v = Lib.decDigits v.toNat := by unfold Lib.itoa; rw [if_neg hv]
            rw [ei] at h1
            have hd := dec_spec v.toNat
            have ht : tailV l = l := by
              unfold tailV
              rw [if_neg]
              rintro ⟨_, h4⟩
              rw [← h1] at h4
              have hm : (45 : UInt8) ∈ Lib.decDigits v.toNat := by
                match hx : Lib.decDigits v.toNat with
                | [] => rw [hx] at h4; cases h4
                | c :: r => rw [hx] at h4; simp at h4; subst h4; exact List.mem_cons_self ..
              have := hd.1 _ hm
              unfold isD at this
              simp at this
            have hn := natF_dec (k := v.toNat) (most := 1000000000) (by omega) (by decide)
            rw [h1, ← ht] at hn
            rw [ht] at hc
            rw [ht] at hn
            omega
        | _ => rfl
      · rw [if_neg hc]
        have h0 : 0 ≤ natF (tailV l) 1000000000 true := by omega
        obtain ⟨e1, _⟩ := hi h0
        generalize natF (tailV l) 1000000000 true = n at *
        have hl : ∃ m : Int, m = (if (tailV l).length < l.length then -n else n) ∧ Lib.itoa m = l ∧ -1000000000 ≤ m ∧ m ≤ 1000000000 := by
          refine ⟨_, rfl, ?_, ?_, ?_⟩
          · split
            · rename_i hlt
              have hs : 1 < l.length ∧ l.head? = some 45 := by
                unfold tailV at hlt
                split at hlt
                · assumption
                · omega
              have el : l = 45 :: tailV l := by
                unfold tailV
                rw [if_pos hs]
                match l, hs with
                | c :: r, hs => simp at hs ⊢; exact hs.2
              have hn0 : n ≠ 0 := fun e => hc (.inr ⟨hlt, e⟩)
              rw [itoa_minus (by omega)]
              have ei : Lib.itoa (- -n) = Lib.decDigits n.toNat := by
                unfold Lib.itoa
                rw [if_neg (by omega)]
                congr 1
                omega
              rw [ei, ← e1]
              exact el.symm
            · rename_i hlt
              have : tailV l = l := by
                unfold tailV at hlt ⊢
                split
                · rename_i h
                  rw [if_pos h] at hlt
                  simp at hlt
                  omega
                · rfl
              rw [this] at e1
              have ei : Lib.itoa n = Lib.decDigits n.toNat := by unfold Lib.itoa; rw [if_neg (by omega)]
              rw [ei, ← e1]
          · split <;> omega
          · split <;> omega
        obtain ⟨m, em, h1, h2, h3⟩ := hl
        rw [← em]
        have := atoi_itoa (n := m) (by omega) (by omega)
        rw [h1] at this
        rw [this]
        simp only
        rw [if_pos ⟨h1, h2, h3⟩]
end Go.Proofs.YtonlacplogbodaaGreatDoor
/-
  Contracts: the document's reader of words. Conditions: those stated at each.
-/
namespace Go.Proofs.YtonlacplogbodaaGreatDoor
open Go Go.Vc Go.Txt
set_option linter.unusedVariables false
set_option maxRecDepth 100000

/-- The document's reader: all words, where it is, what is wrong. -/
structure RrAt (h0 h : Hp) (g : Nat) (W : List Wd) (s : RS) : Prop where
  b : ∃ (a : Option Addr) (c i : Nat), h g = some (cellsO [vsl a W.length c, vi i, vi s.deep, vi s.f] 67) ∧ SlB h0 a W.length W ∧ i ≤ W.length ∧ s.ws = (if s.f = 0 then W.drop i else [])
  l : h0.le h
  z : h0 g = none
  f0 : 0 ≤ s.f
  n : W.length ≤ 1000
  w : ∀ x ∈ W, x.length ≤ 1000000
theorem RrAt.al {h0 h : Hp} {g : Nat} {W : List Wd} {s : RS} (D : RrAt h0 h g W s) : h g ≠ none := by
  obtain ⟨a, c, i, hb, _⟩ := D.b
  rw [hb]; simp
theorem RrAt.le {h0 h h' : Hp} {g : Nat} {W : List Wd} {s : RS} (D : RrAt h0 h g W s) (l : h.le h') : RrAt h0 h' g W s := by
  obtain ⟨a, c, i, hb, hS, hi, hw⟩ := D.b
  exact ⟨⟨a, c, i, l g _ hb, hS, hi, hw⟩, Hp.le_trans D.l l, D.z, D.f0, D.n, D.w⟩
theorem RrAt.good {h0 h : Hp} {g : Nat} {W : List Wd} {s : RS} (D : RrAt h0 h g W s) : s.good := by
  obtain ⟨a, c, i, hb, hS, hi, hw⟩ := D.b
  intro hf
  rw [hw, if_neg hf]
theorem RrAt.c2 {h0 h : Hp} {g : Nat} {W : List Wd} {s : RS} (D : RrAt h0 h g W s) : h.cell g (0 + 2) = some (vi s.deep) := by
  obtain ⟨a, c, i, hb, _⟩ := D.b
  exact cell_cells hb rfl
theorem RrAt.c3 {h0 h : Hp} {g : Nat} {W : List Wd} {s : RS} (D : RrAt h0 h g W s) : h.cell g (0 + 3) = some (vi s.f) := by
  obtain ⟨a, c, i, hb, _⟩ := D.b
  exact cell_cells hb rfl
/-- A word is taken. -/
theorem RrAt.adv {h0 h : Hp} {g : Nat} {W : List Wd} {s : RS} (D : RrAt h0 h g W s) {w : Wd} {r : List Wd} (hs : s.ws = w :: r) : ∃ i : Nat, h.cell g (0 + 1) = some (vi i) ∧ (i : Int) + 1 ≤ 1001 ∧ ∀ {K : Hp → Prop}, (∀ h', RrAt h0 h' g W ⟨r, s.deep, s.f⟩ → Mut (At g) h (At g) h' → K h') → h.store g (0 + 1) [vi ((i : Int) + 1)] K := by
  obtain ⟨a, c, i, hb, hS, hi, hw⟩ := D.b
  have hf : s.f = 0 := by
    rcases Decidable.em (s.f = 0) with q | q
    · exact q
    · rw [hs, if_neg q] at hw; cases hw
  rw [hs, if_pos hf] at hw
  have hlt : i < W.length := by
    rcases Nat.lt_or_ge i W.length with q | q
    · exact q
    · rw [List.drop_eq_nil_of_le q] at hw; cases hw
  have hr : r = W.drop (i + 1) := by
    rw [List.drop_eq_getElem_cons hlt] at hw
    exact (List.cons.inj hw).2
  refine ⟨i, cell_cells hb rfl, by have := D.n; omega, fun hK => ?_⟩
  refine store_cells hb (by simp) (hK _ ⟨⟨a, c, i + 1, Hp.set_same _ _ _, hS, by omega, ?_⟩, le_put D.l D.z _, D.z, D.f0, D.n, D.w⟩ (mut_set _ _ _))
  show r = if s.f = 0 then W.drop (i + 1) else []
  rw [if_pos hf, hr]
theorem RrAt.put2 {h0 h : Hp} {g : Nat} {W : List Wd} {s : RS} (D : RrAt h0 h g W s) {d : Int} {K : Hp → Prop} (hK : ∀ h', RrAt h0 h' g W ⟨s.ws, d, s.f⟩ → Mut (At g) h (At g) h' → K h') : h.store g (0 + 2) [vi d] K := by
  obtain ⟨a, c, i, hb, hS, hi, hw⟩ := D.b
  exact store_cells hb (by simp) (hK _ ⟨⟨a, c, i, Hp.set_same _ _ _, hS, hi, hw⟩, le_put D.l D.z _, D.z, D.f0, D.n, D.w⟩ (mut_set _ _ _))
theorem rd_fail_ok {h0 h : Hp} {g : Nat} {W : List Wd} {s : RS} (D : RrAt h0 h g W s) {f : Int} (hf : 0 < f) {R : Value → Hp → Prop} (hK : ∀ h', RrAt h0 h' g W (s.fail f) → Mut (At g) h (At g) h' → R (vtup []) h') : CallOK Tryz.prog 33 [vhp g 0, vi f] h R := by
  refine ok_R_rd_fail ?_
  unfold VC_R_rd_fail
  have gd := D.good
  refine ⟨_, D.c3, fun e => ?_, fun e => ?_⟩
  · have e : s.f = 0 := of_decide_eq_true e
    obtain ⟨a, c, i, hb, hS, hi, hw⟩ := D.b
    have ef : s.fail f = ⟨[], s.deep, f⟩ := by unfold RS.fail; rw [if_pos e]
    rw [ef] at hK
    refine store_cells hb (by simp) (hK _ ⟨⟨a, c, i, Hp.set_same _ _ _, hS, hi, ?_⟩, le_put D.l D.z _, D.z, by show 0 ≤ f; omega, D.n, D.w⟩ (mut_set _ _ _))
    show [] = if f = 0 then W.drop i else []
    rw [if_neg (by omega)]
  · have e : s.f ≠ 0 := of_decide_eq_false e
    have ef : s.fail f = s := by
      unfold RS.fail
      rw [if_neg e, ← gd e]
    rw [ef] at hK
    exact hK h D (Mut.of_le (Hp.le_refl _))
/-- What comes next. -/
def nextW (s : RS) : Wd := s.ws.headD []
theorem rd_next_ok {h0 h : Hp} {g : Nat} {W : List Wd} {s : RS} (D : RrAt h0 h g W s) {R : Value → Hp → Prop} (hK : R (vs (bs (nextW s))) h) : CallOK Tryz.prog 56 [vhp g 0] h R := by
  refine ok_R_rd_next ?_
  unfold VC_R_rd_next
  have f0 := D.f0
  unfold nextW at hK
  obtain ⟨a, c, i, hb, hS, hi, hw⟩ := D.b
  have c0 : h.cell g 0 = some (vsl a W.length c) := cell_cells hb rfl
  have c1 : h.cell g (0 + 1) = some (vi i) := cell_cells hb rfl
  have c3 : h.cell g (0 + 3) = some (vi s.f) := cell_cells hb rfl
  refine ⟨_, c3, _, fun _ => c1, _, _, _, fun _ => c0, ?_⟩
  rw [cor]
  refine ⟨fun e => ?_, fun e => ?_⟩
  · have e := of_decide_eq_true e
    have : s.ws = [] := by
      rw [hw]
      split
      · exact List.drop_eq_nil_of_le (by omega)
      · rfl
    rw [this] at hK
    exact hK
  · have e := of_decide_eq_false e
    have hlt : i < W.length := by omega
    obtain ⟨b, o, ha, hc⟩ := SlP.get1 (SlP.le D.l hS) hlt
    refine ⟨_, _, _, c0, _, c1, b, o, ⟨ha, by omega, by omega⟩, _, hc, ?_⟩
    rw [hw, if_pos (by omega), List.drop_eq_getElem_cons hlt] at hK
    rw [List.getD_eq_getElem?_getD, List.getElem?_eq_getElem hlt]
    exact hK
theorem next_one {s : RS} {w : Wd} (hw : w ≠ []) : ((s.is [w]).1 ≠ [] ↔ nextW s = w) ∧ (nextW s = w → ∃ r, s.ws = w :: r ∧ (s.is [w]).2 = ⟨r, s.deep, s.f⟩) ∧ (nextW s ≠ w → (s.is [w]).2 = s) := by
  unfold nextW RS.is
  cases h : s.ws with
  | nil => exact ⟨⟨fun q => absurd rfl q, fun q => absurd q.symm hw⟩, fun q => absurd q.symm hw, fun _ => rfl⟩
  | cons v r =>
    by_cases e : v = w
    · subst e
      refine ⟨⟨fun _ => rfl, fun _ => ?_⟩, fun _ => ⟨r, rfl, ?_⟩, fun q => absurd rfl q⟩
      · simpa using hw
      · simp
    · refine ⟨⟨fun q => ?_, fun q => absurd q e⟩, fun q => absurd q e, fun _ => ?_⟩
      · simp [e] at q
      · simp [e]
theorem rd_take_ok {h0 h : Hp} {g : Nat} {W : List Wd} {s : RS} (D : RrAt h0 h g W s) {w : Wd} (hw : w ≠ []) {R : Value → Hp → Prop} (hK : ∀ h', RrAt h0 h' g W (s.is [w]).2 → Mut (At g) h (At g) h' → R (vb (decide ((s.is [w]).1 ≠ []))) h') : CallOK Tryz.prog 32 [vhp g 0, vs (bs w)] h R := by
  refine ok_R_rd_take ?_
  unfold VC_R_rd_take
  obtain ⟨n1, n2, n3⟩ := next_one (s := s) hw
  refine rd_next_ok D ⟨_, rfl, _, rd_eqBs (b := []), _, fun _ => rd_neBs, ?_⟩
  have hc : (bif decide (nextW s = []) then true else (!decide (nextW s = w))) = !decide (nextW s = w) := by
    by_cases e : nextW s = []
    · rw [decide_eq_true e, decide_eq_false (by rw [e]; exact fun h => hw h.symm)]; rfl
    · rw [decide_eq_false e]; rfl
  rw [hc]
  refine ⟨fun e => ?_, fun e => ?_⟩
  · have e : nextW s ≠ w := by simpa using e
    have := hK h (by rw [n3 e]; exact D) (Mut.of_le (Hp.le_refl _))
    rw [decide_eq_false (fun q => e (n1.1 q))] at this
    exact this
  · have e : nextW s = w := by simpa using e
    obtain ⟨r, hr, hr2⟩ := n2 e
    obtain ⟨i, hc, hi, hst⟩ := D.adv hr
    refine ⟨_, hc, _, isW (by unfold InR; omega), hst fun h' D' M' => ?_⟩
    have := hK h' (by rw [hr2]; exact D') M'
    rw [decide_eq_true (n1.2 e)] at this
    exact this
theorem rd_must_ok {h0 h : Hp} {g : Nat} {W : List Wd} {s : RS} (D : RrAt h0 h g W s) {w : Wd} (hw : w ≠ []) {R : Value → Hp → Prop} (hK : ∀ h', RrAt h0 h' g W (s.must w) → Mut (At g) h (At g) h' → R (vtup []) h') : CallOK Tryz.prog 31 [vhp g 0, vs (bs w)] h R := by
  refine ok_R_rd_must ?_
  unfold VC_R_rd_must
  unfold RS.must at hK
  refine rd_take_ok D hw fun h2 D2 M2 => ⟨_, rfl, fun e => ?_, fun e => ?_⟩
  · have e : (s.is [w]).1 = [] := by simpa using e
    rw [if_pos e] at hK
    exact rd_fail_ok D2 (by decide) fun h5 D5 M5 => ⟨rfl, hK h5 D5 (M2.trans M5)⟩
  · have e : (s.is [w]).1 ≠ [] := by simpa using e
    rw [if_neg e] at hK
    exact hK h2 D2 M2
theorem rd_number_ok {h0 h : Hp} {g : Nat} {W : List Wd} {s : RS} (D : RrAt h0 h g W s) {most : Int} (hm : 0 ≤ most) (hm2 : most ≤ 1000000000000) {R : Value → Hp → Prop} (hK : ∀ h', RrAt h0 h' g W (s.number most).2 → Mut (At g) h (At g) h' → R (vi (s.number most).1) h') : CallOK Tryz.prog 35 [vhp g 0, vi most] h R := by
  refine ok_R_rd_number ?_
  unfold VC_R_rd_number
  have hlen : (nextW s).length ≤ 1000000 := by
    unfold nextW
    cases h : s.ws with
    | nil => decide
    | cons w r =>
      obtain ⟨a, c, i, hb, hS, hi, hw⟩ := D.b
      refine D.w w (List.mem_of_mem_drop (i := i) ?_)
      rw [h] at hw
      split at hw
      · rw [← hw]; exact List.mem_cons_self ..
      · cases hw
  have hfail : s.number most = (0, s.fail 4) → CallOK Tryz.prog 33 [vhp g 0, vi 4] h fun v7 h8 => v7 = vtup [] ∧ R (vi 0) h8 := by
    intro e
    rw [e] at hK
    exact rd_fail_ok D (by decide) fun h' D' M => ⟨rfl, hK h' D' M⟩
  refine rd_next_ok D ⟨_, rfl, R_natural_ok hlen hm hm2 ⟨_, rfl, fun e => ?_, fun e => ?_⟩⟩
  · have e := of_decide_eq_true e
    refine hfail ?_
    unfold RS.number
    unfold nextW at e
    cases h : s.ws with
    | nil => rfl
    | cons w r => rw [h] at e; exact if_pos e
  · have e := of_decide_eq_false e
    unfold nextW at e ⊢
    cases hws : s.ws with
    | nil =>
      rw [hws] at e
      exact absurd (show natF [] most false < 0 by unfold natF; simp) e
    | cons w r =>
      rw [hws] at e
      have hn : s.number most = (natF w most false, ⟨r, s.deep, s.f⟩) := by
        unfold RS.number
        rw [hws]
        exact if_neg e
      rw [hn] at hK
      obtain ⟨i, hc, hi, hst⟩ := D.adv hws
      exact ⟨_, hc, _, isW (by unfold InR; omega), hst fun h' D' M' => hK h' D' M'⟩
/-- One deeper; it may be too deep. -/
def inS (s : RS) : RS := if s.deep + 1 > 12 then (⟨s.ws, s.deep + 1, s.f⟩ : RS).fail 2 else ⟨s.ws, s.deep + 1, s.f⟩
theorem downP_in (p : Ps) (s : RS) : downP p s = ((p (inS s)).1, ⟨(p (inS s)).2.ws, (p (inS s)).2.deep - 1, (p (inS s)).2.f⟩) := rfl
theorem rd_in_ok {h0 h : Hp} {g : Nat} {W : List Wd} {s : RS} (D : RrAt h0 h g W s) (hd0 : 0 ≤ s.deep) (hd1 : s.deep ≤ 1000000) {R : Value → Hp → Prop} (hK : ∀ h', RrAt h0 h' g W (inS s) → Mut (At g) h (At g) h' → R (vtup []) h') : CallOK Tryz.prog 58 [vhp g 0] h R := by
  refine ok_R_rd_in ?_
  unfold VC_R_rd_in
  unfold inS at hK
  refine ⟨_, D.c2, _, isW (by unfold InR; omega), D.put2 fun h3 D3 M3 => ⟨_, D3.c2, fun e => ?_, fun e => ?_⟩⟩
  · have e : s.deep + 1 > 12 := of_decide_eq_true e
    rw [if_pos e] at hK
    exact rd_fail_ok D3 (by decide) fun h' D' M' => ⟨rfl, hK h' D' (M3.trans M')⟩
  · have e : ¬ s.deep + 1 > 12 := of_decide_eq_false e
    rw [if_neg e] at hK
    exact hK h3 D3 M3
end Go.Proofs.YtonlacplogbodaaGreatDoor
/-
  The plain law of numbers that are read by the library, and by the document. No program in sight. Conditions: none.
-/
namespace Go.Txt
open Go.Lib
set_option linter.unusedVariables false

theorem parse_inv : ∀ (l : List UInt8) (a u : Nat), parseUint10 a l = .ok u → (∀ c ∈ l, isD c) ∧ u = valF a l
  | [], a, u, h => by
    rw [parseUint10] at h
    injection h with h
    exact ⟨by simp, h.symm⟩
  | c :: l, a, u, h => by
    rw [parseUint10] at h
    split at h
    · rename_i hc
      split at h
      · cases h
      · split at h
        · cases h
        · obtain ⟨h1, h2⟩ := parse_inv l _ u h
          refine ⟨fun x hx => ?_, ?_⟩
          · rcases List.mem_cons.1 hx with rfl | hx
            · exact hc
            · exact h1 x hx
          · rw [h2, Nat.mul_comm]; rfl
    · cases h
theorem natF_go {l : List UInt8} (hl : l ≠ []) (most : Int) : natF l most false = natGo most 0 l := by
  unfold natF
  rw [if_neg]
  rintro (h | ⟨h, _⟩)
  · exact hl h
  · cases h
theorem natF_eq {l : List UInt8} (hl : l ≠ []) {most : Int} (hm : 0 ≤ most) : natF l most false = if (∀ c ∈ l, isD c) ∧ (valF 0 l : Int) ≤ most then (valF 0 l : Int) else -1 := by
  rw [natF_go hl]
  exact natGo_spec most l 0 hm
theorem natF_low {l : List UInt8} {most : Int} (hm : 0 ≤ most) : -1 ≤ natF l most false ∧ natF l most false ≤ most := by
  by_cases hl : l = []
  · subst hl; unfold natF; simp; omega
  · rw [natF_eq hl hm]
    split <;> omega
theorem atoi_digits {c : UInt8} {r : List UInt8} (hc : isD c) {v : Int} (h : atoiAll (c :: r) = .ok v) : (∀ x ∈ c :: r, isD x) ∧ v = valF 0 (c :: r) := by
  have hc' := hc
  unfold isD at hc'
  unfold atoiAll at h
  simp only at h
  rw [if_neg (by omega)] at h
  unfold parseMag at h
  rw [if_neg (by simp)] at h
  cases hp : parseUint10 0 (c :: r) with
  | ok u =>
    rw [hp] at h
    simp only at h
    rw [if_neg (show ¬ (c.toNat = 45 ∧ 9223372036854775808 < u) by omega), if_neg (show ¬ c.toNat = 45 by omega)] at h
    split at h
    · cases h
    · injection h with h
      obtain ⟨h1, h2⟩ := parse_inv _ _ _ hp
      exact ⟨h1, by rw [← h, h2]⟩
  | range => rw [hp] at h; cases h
  | _ => rw [hp] at h; cases h
theorem atoi_of_digits {l : List UInt8} (hl : l ≠ []) (hd : ∀ x ∈ l, isD x) (hv : valF 0 l ≤ 1000000000000) : atoiAll l = .ok (valF 0 l) := by
  match l, hl with
  | c :: r, hl =>
    have hc := hd c (List.mem_cons_self ..)
    unfold isD at hc
    have hp := parse_spec (c :: r) 0 hd (by omega)
    unfold atoiAll
    simp only
    rw [if_neg (by omega)]
    unfold parseMag
    rw [if_neg (by simp), hp]
    simp only
    rw [if_neg (by omega), if_neg (by omega), if_neg (by omega)]
/-- What is read by the library, where the first byte is a digit, is what the document reads. -/
theorem atoi_nat {c : UInt8} {r : List UInt8} {v : Int} (h : atoiAll (c :: r) = .ok v) {most : Int} (hm : 0 ≤ most) : natF (c :: r) most false = if isD c ∧ v ≤ most then v else -1 := by
  by_cases hc : isD c
  · obtain ⟨h1, h2⟩ := atoi_digits hc h
    rw [natF_eq (by simp) hm, h2]
    by_cases h3 : (valF 0 (c :: r) : Int) ≤ most
    · rw [if_pos ⟨h1, h3⟩, if_pos ⟨hc, h3⟩]
    · rw [if_neg (fun e => h3 e.2), if_neg (fun e => h3 e.2)]
  · rw [natF_eq (by simp) hm, if_neg (fun e => hc (e.1 c (List.mem_cons_self ..))), if_neg (fun e => hc e.1)]
theorem atoi_none {l : List UInt8} (h : ∀ v, atoiAll l ≠ .ok v) {most : Int} (hm : 0 ≤ most) (hm2 : most ≤ 1000000000000) : natF l most false = -1 := by
  by_cases hl : l = []
  · subst hl; unfold natF; simp
  · rw [natF_eq hl hm]
    by_cases h3 : (∀ c ∈ l, isD c) ∧ (valF 0 l : Int) ≤ most
    · exact absurd (atoi_of_digits hl h3.1 (by omega)) (h _)
    · rw [if_neg h3]
end Go.Txt
/-
  Contracts: package query: numbers, what is read one deeper, rows. Conditions: that the library's tables and errors lie as laid; that the reader has not more words than any memory has room for.
-/
namespace Go.Proofs.YtonlacplogbodaaGreatDoor
open Go Go.Vc Go.Txt
set_option linter.unusedVariables false
set_option maxRecDepth 100000

def aggsW : List Wd := [[], wCount, wCount, wSum, wMin, wMax]
/-- What is laid ahead of all: tables, errors, names. -/
structure TabQ (h : Hp) : Prop where
  p : TabP h
  e : TabE h
  f : ∃ a c, Hp.cell h 1 0 = some (vsl a 4 c) ∧ SlB h a 4 fieldW
  a : ∃ a c, Hp.cell h 0 0 = some (vsl a 6 c) ∧ SlB h a 6 aggsW
theorem TabQ.le {h h' : Hp} (T : TabQ h) (l : h.le h') : TabQ h' := by
  obtain ⟨p, e, ⟨a, c, h1, h2⟩, b, d, h3, h4⟩ := T
  exact ⟨p.le l, e.le l, ⟨a, c, Hp.cell_le l h1, SlP.le l h2⟩, b, d, Hp.cell_le l h3, SlP.le l h4⟩
/-- What was laid is there, and the reader's block is another one. -/
structure EnvQ (h0 h : Hp) (g : Nat) : Prop where
  t : TabQ h0
  l : h0.le h
  n : h0 g = none
theorem EnvQ.mut {h0 h h' : Hp} {g : Nat} (E : EnvQ h0 h g) (M : Mut (At g) h (At g) h') : EnvQ h0 h' g :=
  ⟨E.t, fun b o hb => M.keep b o (fun e => by rw [show b = g from e, E.n] at hb; cases hb) (E.l b o hb), E.n⟩
theorem EnvQ.now {h0 h : Hp} {g : Nat} (E : EnvQ h0 h g) : TabQ h := E.t.le E.l
/-- What lies elsewhere than the reader. -/
structure ElAt {α : Type} (enc : α → List Value) (h : Hp) (g : Nat) (a : Option Addr) (n : Nat) (l : List α) : Prop where
  s : SlP enc h a n l
  ne : ∀ b o, a = some ⟨b, o, none⟩ → b ≠ g
theorem ElAt.mut {α : Type} {enc : α → List Value} {h h' : Hp} {g : Nat} {a : Option Addr} {n : Nat} {l : List α} (N : ElAt enc h g a n l) (M : Mut (At g) h (At g) h') : ElAt enc h' g a n l := by
  refine ⟨⟨N.s.1, (HasRow.del N.s.2 N.ne).le fun b o hb => ?_⟩, N.ne⟩
  by_cases e : b = g
  · subst e; simp [Hp.del] at hb
  · refine M.keep b o (fun h => e h) ?_
    simpa [Hp.del, e] using hb
theorem RdAt.c0 {h0 h : Hp} {g : Nat} {s : RS} (D : RdAt h0 h g s) : ∃ a c, h.cell g 0 = some (vsl a s.ws.length c) := by
  obtain ⟨a, c, hb, _⟩ := D.b
  exact ⟨a, c, (rd_block hb).1⟩
theorem RdAt.c1 {h0 h : Hp} {g : Nat} {s : RS} (D : RdAt h0 h g s) : h.cell g (0 + 1) = some (vi s.deep) := by
  obtain ⟨a, c, hb, _⟩ := D.b
  exact (rd_block hb).2.1
theorem RdAt.c2 {h0 h : Hp} {g : Nat} {s : RS} (D : RdAt h0 h g s) : h.cell g (0 + 2) = some (ifv (errV s.f)) := by
  obtain ⟨a, c, hb, _⟩ := D.b
  exact (rd_block hb).2.2
theorem RdAt.put1 {h0 h : Hp} {g : Nat} {s : RS} (D : RdAt h0 h g s) {d : Int} {K : Hp → Prop} (hK : ∀ h', RdAt h0 h' g ⟨s.ws, d, s.f⟩ → Mut (At g) h (At g) h' → K h') : h.store g (0 + 1) [vi d] K := by
  obtain ⟨a, c, hb, hS, hc⟩ := D.b
  exact rd_put1 hb (hK _ ⟨⟨a, c, Hp.set_same _ _ _, hS, hc⟩, le_put D.l D.n _, D.n, D.w⟩ (mut_set _ _ _))
theorem RdAt.put2 {h0 h : Hp} {g : Nat} {s : RS} (D : RdAt h0 h g s) {f : Int} {K : Hp → Prop} (hK : ∀ h', RdAt h0 h' g ⟨s.ws, s.deep, f⟩ → Mut (At g) h (At g) h' → K h') : h.store g (0 + 2) [ifv (errV f)] K := by
  obtain ⟨a, c, hb, hS, hc⟩ := D.b
  exact rd_put2 hb (hK _ ⟨⟨a, c, Hp.set_same _ _ _, hS, hc⟩, le_put D.l D.n _, D.n, D.w⟩ (mut_set _ _ _))
theorem isD_le {c : UInt8} : (decide (((c.toNat : Nat) : Int) < 48) = false ∧ decide (((c.toNat : Nat) : Int) > 57) = false) ↔ isD c := by
  unfold isD
  constructor
  · rintro ⟨h1, h2⟩
    have h1 := of_decide_eq_false h1
    have h2 := of_decide_eq_false h2
    omega
  · intro h
    exact ⟨decide_eq_false (by omega), decide_eq_false (by omega)⟩
theorem reader_number_ok {h0 h : Hp} {g : Nat} {s : RS} (D : RdAt h0 h g s) (E : EnvQ h0 h g) (hl : s.ws.length ≤ 1000000) {most : Int} (hm : 0 ≤ most) (hm2 : most ≤ 1000000000000) {R : Value → Hp → Prop} (hK : ∀ h', RdAt h0 h' g (s.number most).2 → Mut (At g) h (At g) h' → R (vi (s.number most).1) h') : CallOK Tryz.prog 28 [vhp g 0, vi most] h R := by
  have hfail : (s.number most) = (0, s.fail 4) → CallOK Tryz.prog 50 [vhp g 0, ifv (some (44, vi 4))] h fun v2 h3 => v2 = vtup [] ∧ R (vi 0) h3 := by
    intro e
    rw [e] at hK
    exact reader_fail_ok D (by decide) fun h' D' M => ⟨rfl, hK h' D' M⟩
  obtain ⟨a, c, hb, hS, hc⟩ := D.b
  refine ok_query_reader_number ?_
  unfold VC_query_reader_number
  have hcell := (rd_block hb).1
  have hw := D.w
  obtain ⟨ws, dp, f⟩ := s
  simp only at hb hS hc hcell hw hl
  refine ⟨_, _, _, hcell, fun e => ?_, fun e => ?_⟩
  · have : ws = [] := by
      have := of_decide_eq_true e
      exact List.length_eq_zero_iff.1 (by omega)
    subst this
    exact hfail rfl
  cases ws with
  | nil => simp at e
  | cons w r =>
    obtain ⟨b, o, ha, hc0⟩ := SlP.get1 (SlP.le D.l hS) (i := 0) (by simp)
    have hc1 : h.cell b (o + (0 : Int).toNat * 1) = some (vs (bs w)) := hc0
    have hlen : (0 : Int) < (((w :: r).length : Nat) : Int) := by simp
    have hwl := hw w (List.mem_cons_self ..)
    refine ⟨_, _, _, hcell, b, o, ⟨ha, by decide, hlen⟩, _, hc1, ?_⟩
    refine strconv_Atoi_ok hwl E.now.e (fun v hv => ?_) fun hn x e => ?_
    · match w, hv with
      | [], hv => exact absurd hv (by simp [Lib.atoiAll])
      | c0 :: cs, hv =>
      have hx : Rd Tryz.prog (Instr.index 9 (vs (bs (c0 :: cs))) (vi 0)) h (vk .u8 (c0.toNat : Nat)) := rd_idx (by kernel_rfl) (l := c0 :: cs) (i := 0) (by decide) (by simp)
      refine ⟨_, _, rfl, _, _, _, fun _ => hcell, b, o, fun _ => ⟨ha, by decide, hlen⟩, _, fun _ => hc1, _, fun _ => hx, _, _, _, fun _ => hcell, b, o, fun _ => ⟨ha, by decide, hlen⟩, _, fun _ => hc1, _, fun _ => hx, ?_⟩
      have hnat := atoi_nat hv hm
      have hnum : (⟨(c0 :: cs) :: r, dp, f⟩ : RS).number most = if natF (c0 :: cs) most false < 0 then (0, (⟨(c0 :: cs) :: r, dp, f⟩ : RS).fail 4) else (natF (c0 :: cs) most false, ⟨r, dp, f⟩) := rfl
      have hcond : (bif (bif (bif (Option.isSome (none : Option (TypeId × Value))) then true else (decide (((c0.toNat : Nat) : Int) < 48))) then true else (decide (((c0.toNat : Nat) : Int) > 57))) then true else (decide ((v : Int) > most))) = !decide (isD c0 ∧ v ≤ most) := by
        have hi := @isD_le c0
        rw [show (decide (v > most)) = !decide (v ≤ most) by rw [cnot]; exact decide_eq_decide.2 (by omega)]
        cases h1 : decide (((c0.toNat : Nat) : Int) < 48) <;> cases h2 : decide (((c0.toNat : Nat) : Int) > 57) <;> simp only [h1, h2] at hi <;> simp at hi <;> simp [hi]
      rw [hcond]
      refine ⟨fun e => ?_, fun e => ?_⟩
      · have e2 : ¬ (isD c0 ∧ v ≤ most) := by rw [cnot] at e; exact of_decide_eq_true e
        rw [if_neg e2] at hnat
        rw [hnat, if_pos (by decide)] at hnum
        exact hfail hnum
      · have e2 : isD c0 ∧ v ≤ most := by rw [cnot] at e; exact Decidable.not_not.1 (of_decide_eq_false e)
        rw [if_pos e2] at hnat
        obtain ⟨_, hv2⟩ := atoi_digits e2.1 hv
        rw [hnat, if_neg (by omega)] at hnum
        rw [hnum] at hK
        have hsz : szT Tryz.prog 9 = 1 := by kernel_rfl
        have hr := rd_slice_l (P := Tryz.prog) (h := h) (t := 47) (e := 9) (by kernel_rfl) (by kernel_rfl) (a := a) (n := ((c0 :: cs) :: r).length) (c := c) (x := 1) (by decide) (by simp; omega)
        rw [hsz] at hr
        refine ⟨_, _, _, hcell, _, _, _, hr, rd_put0 hb ?_⟩
        have hS2 := SlP.drop encB_len hS (i := 1) (by simp) hc
        exact hK _ ⟨⟨_, _, Hp.set_same _ _ _, ⟨rfl, hS2.2⟩, by simp at hc ⊢; omega⟩, le_put D.l D.n _, D.n, fun x hx => hw x (List.mem_cons_of_mem _ hx)⟩ (mut_set _ _ _)
    · have no : ∀ {p : Prop}, Option.isSome (some e) = false → p := fun q => by cases q
      refine ⟨x, some e, rfl, none, 0, 0, no, 0, 0, no, ⟨#[]⟩, no, 0, no, none, 0, 0, (fun q => by cases q), 0, 0, (fun q => by cases q), ⟨#[]⟩, (fun q => by cases q), 0, (fun q => by cases q), (fun _ => ?_), (fun q => by cases q)⟩
      have hnat := atoi_none hn hm hm2
      refine hfail ?_
      show (if natF w most false < 0 then (0, (⟨w :: r, dp, f⟩ : RS).fail 4) else (natF w most false, ⟨r, dp, f⟩)) = _
      rw [hnat, if_pos (by decide)]
/-- What a reader's state must be. -/
structure SOk (n : Nat) (s : RS) : Prop where
  good : s.good
  len : s.ws.length < n
  big : s.ws.length ≤ 1000
  d0 : 0 ≤ s.deep
  d1 : s.deep + s.ws.length ≤ 1000000
theorem SOk.goes {n : Nat} {s t : RS} (S : SOk n s) (G : Goes t s) : SOk n t := by
  have h1 := G.len
  have h2 := G.deep
  have := S.len
  have := S.big
  have := S.d0
  have := S.d1
  exact ⟨G.ok, by omega, by omega, by omega, by omega⟩
/-- A function that reads as it is said. -/
def Reads (f : FuncId) (P : Ps) (n : Nat) : Prop := ∀ {h0 h : Hp} {g : Nat} {s : RS}, RdAt h0 h g s → EnvQ h0 h g → SOk n s → ∀ {R : Value → Hp → Prop}, (∀ a c h', RdAt h0 h' g (P s).2 → NdAt h h' a (P s).1.length (P s).1 → Mut (At g) h (At g) h' → R (vsl a (P s).1.length c) h') → CallOK Tryz.prog f [vhp g 0] h R
/-- It has a body. -/
def Bodied (f : FuncId) : Prop := ∃ fn, Tryz.prog.funcs[f]? = some fn ∧ (fn.name == "runtime.NumGoroutine") = false ∧ fn.body.isNone = false
theorem inv_of {f : FuncId} (B : Bodied f) {g : Nat} {h : Hp} {K : Value → Hp → Prop} (H : CallOK Tryz.prog f [vhp g 0] h K) : InvOK Tryz.prog (.func (.func f) #[vhp g 0] #[]) [] h K := ⟨f, _, _, rfl, B, H⟩
theorem reader_down_ok {f : FuncId} {P : Ps} {n : Nat} (B : Bodied f) (F : Reads f P n) (kp : KP P n) {h0 h : Hp} {g : Nat} {s : RS} (D : RdAt h0 h g s) (E : EnvQ h0 h g) (S : SOk n s) (hd : s.deep + s.ws.length < 1000000) {R : Value → Hp → Prop} (hK : ∀ a c h', RdAt h0 h' g (downP P s).2 → NdAt h h' a (downP P s).1.length (downP P s).1 → Mut (At g) h (At g) h' → R (vsl a (downP P s).1.length c) h') : CallOK Tryz.prog 90 [vhp g 0, .func (.func f) #[vhp g 0] #[]] h R := by
  refine ok_query_reader_down ?_
  unfold VC_query_reader_down
  have d0 := S.d0
  refine ⟨_, D.c1, _, isW (by unfold InR; omega), D.put1 fun h3 D3 M3 => ⟨_, D3.c1, ?_⟩⟩
  intro J9
  have key : ∀ (h10 : Hp) (u : RS), RdAt h0 h10 g u → Mut (At g) h (At g) h10 → SOk n u → downP P s = ((P u).1, ⟨(P u).2.ws, (P u).2.deep - 1, (P u).2.f⟩) → J9 h10 := by
    intro h10 u D10 M10 Su hP
    rw [hP] at hK
    have k := kp u Su.good (Nat.le_of_lt Su.len)
    have hdp := k.deep
    have du := Su.d0
    have du1 := Su.d1
    have hg := D.al
    refine inv_of B (F D10 (E.mut M10) Su fun a c h' D' N' M' => ⟨_, _, _, rfl, _, D'.c1, _, isW (by unfold InR; omega), D'.put1 fun h4 D4 M4 => ?_⟩)
    exact hK a c h4 D4 ((N'.base (M10.up D10.al)).mut hg M4) ((M10.trans M').trans M4)
  clear_value J9
  refine ⟨fun e => ?_, fun e => ?_⟩
  · have e2 : s.deep + 1 > 12 := of_decide_eq_true e
    refine reader_fail_ok D3 (by decide) fun h4 D4 M4 => ⟨rfl, key h4 _ D4 (M3.trans M4) ⟨RS.fail_good _ _, by have := S.len; exact Nat.lt_of_le_of_lt (Nat.zero_le _) this, Nat.zero_le _, by show 0 ≤ s.deep + 1; omega, by show s.deep + 1 + ((0 : Nat) : Int) ≤ 1000000; omega⟩ ?_⟩
    unfold downP
    simp only [if_pos e2]
  · have e2 : ¬ s.deep + 1 > 12 := of_decide_eq_false e
    refine key h3 _ D3 M3 ⟨S.good, S.len, S.big, by show 0 ≤ s.deep + 1; omega, by show s.deep + 1 + (s.ws.length : Int) ≤ 1000000; omega⟩ ?_
    unfold downP
    simp only [if_neg e2]
end Go.Proofs.YtonlacplogbodaaGreatDoor
/-
  Contracts: package query: expressions are read. Conditions: that the library's tables and errors and the names of fields lie as laid; that the reader has not more words than any memory has room for.
-/
namespace Go.Proofs.YtonlacplogbodaaGreatDoor
open Go Go.Vc Go.Txt
set_option linter.unusedVariables false
set_option maxRecDepth 100000

theorem slb_lit (h : Hp) (b : Nat) (l : List Wd) (hl : l.length ≤ maxLen) : SlB (h.set b (cellsO (l.flatMap encB) 9)) (some ⟨b, 0, none⟩) l.length l := ⟨rfl, (OwnS.new h b 9 (sz := 1) (n := l.length) (l.flatMap encB) (by induction l with
  | nil => rfl
  | cons w l ih => have := ih (by simp at hl; omega); simp [encB] at this ⊢; omega) hl).row⟩
theorem number_range {s : RS} {most : Int} (hm : 0 ≤ most) : 0 ≤ (s.number most).1 ∧ (s.number most).1 ≤ most := by
  unfold RS.number
  split
  · exact ⟨Int.le_refl _, hm⟩
  · split
    · exact ⟨Int.le_refl _, hm⟩
    · rename_i h
      exact ⟨by omega, (natF_low hm).2⟩
theorem joinP_le (op : Int) (x y : List Nd) (s : RS) : (joinP op x y s).1.length ≤ 40 := by
  unfold joinP
  split
  · simp
  · rw [joinL_length]; omega
theorem read_const {w : Wd} (h : w ∈ constW) : (readV w).1 = constV w := by
  have h2 : w = wNull ∨ w = wTrue ∨ w = wFalse := by simpa [constW] using h
  rcases h2 with rfl | rfl | rfl <;> rfl
theorem reader_atom_ok {P : Ps} {n : Nat} (F : Reads 27 P n) (kp : KP P n) : Reads 114 (atomP P) (n + 1) := by
  intro h0 h g s D E S R hK
  refine ok_query_reader_atom ?_
  unfold VC_query_reader_atom
  intro b1 hb1 h2
  have hl : h.le h2 := Hp.le_set (Hp.le_refl h) hb1 _
  have hb := S.big
  have tk := @taken s ([wOpen] ++ constW ++ fieldW)
  have sp := s.is_spec ([wOpen] ++ constW ++ fieldW)
  have gi := goes_is S.good ([wOpen] ++ constW ++ fieldW)
  have nr := @number_range
  unfold atomP at hK
  simp only at hK
  refine reader_is_ok (D.le hl) (l := [wOpen] ++ constW ++ fieldW) (slb_lit h b1 ([wOpen] ++ constW ++ fieldW) (by decide)) (by decide) (by omega) fun h4 D4 M4 => ⟨_, rfl, ?_⟩
  have M04 : Mut (At g) h (At g) h4 := (Mut.of_le hl).trans M4
  generalize s.is ([wOpen] ++ constW ++ fieldW) = A at *
  obtain ⟨w, s1⟩ := A
  simp -zeta only at hK D4 tk sp gi ⊢
  have hS1 := S.goes gi
  have E4 := E.mut M04
  refine ⟨_, rd_eqBs (b := wOpen), fun e => ?_, fun e1 => ?_⟩
  · have ew : w = wOpen := of_decide_eq_true e
    have tk := tk (by rw [ew]; decide)
    rw [if_pos ew] at hK
    have d1 := S.d1
    have hdp := gi.deep
    have Sn : SOk n s1 := ⟨hS1.good, by have := S.len; omega, hS1.big, hS1.d0, hS1.d1⟩
    have kd := keeps_down kp (Goes.refl hS1.good) (Nat.le_of_lt Sn.len)
    refine reader_down_ok ⟨_, Tryz.func27, by kernel_rfl, by kernel_rfl⟩ F kp D4 E4 Sn (by omega) fun a c h8 D8 N8 M8 => ⟨_, _, _, rfl, ?_⟩
    refine reader_must_ok D8 (by have := kd.len; have := hS1.big; omega) fun h11 D11 M11 => ⟨rfl, ?_⟩
    exact hK a c h11 D11 ((N8.base (M04.up D4.al)).mut D.al M11) ((M04.trans M8).trans M11)
  have e1 : ¬ w = wOpen := of_decide_eq_false e1
  rw [if_neg e1] at hK
  have hwc : w ∈ constW ↔ w = wNull ∨ w = wTrue ∨ w = wFalse := by simp [constW]
  refine ⟨_, rd_eqBs (b := wNull), ?_⟩
  intro J18
  have yes : w ∈ constW → J18 true := by
    intro hw
    rw [if_pos hw] at hK
    have hwl : w.length ≤ 1000000 := by
      have : w = wNull ∨ w = wTrue ∨ w = wFalse := hwc.1 hw
      rcases this with rfl | rfl | rfl <;> decide
    refine ⟨fun _ => ?_, fun e => by cases e⟩
    refine value_Parse_ok hwl E4.now.p E4.now.e ⟨_, _, _, rfl, ?_⟩
    rw [read_const hw]
    refine query_leaf_ok ⟨1, 0, 0, 0, constV w⟩ fun a c h26 N26 _ l26 => ⟨_, _, _, rfl, ?_⟩
    exact hK a c h26 (D4.le l26) (N26.base (M04.up D4.al)) (M04.trans (Mut.of_le l26))
  have no : ¬ w ∈ constW → J18 false := by
    intro hw
    rw [if_neg hw] at hK
    refine ⟨fun e => by (cases e), fun _ => ⟨_, rd_eqBs (b := []), fun e => ?_, fun e => ?_⟩⟩
    · rw [if_pos (of_decide_eq_true e)] at hK
      have nr1 := nr (s := s1) (most := 1000000000) (by decide)
      refine reader_number_ok D4 E4 (by have := hS1.big; omega) (by decide) (by decide) fun h30 D30 M30 => ⟨_, rfl, value_Number_ok ⟨_, _, rfl, ?_⟩⟩
      have en : numV (s1.number 1000000000).1 = (1, (s1.number 1000000000).1) := by unfold numV; rw [if_neg (by omega)]
      rw [en]
      refine query_leaf_ok ⟨1, 0, 0, 0, (1, (s1.number 1000000000).1)⟩ fun a c h37 N37 _ l37 => ⟨_, _, _, rfl, ?_⟩
      exact hK a c h37 (D30.le l37) (N37.base ((M04.trans M30).up D30.al)) ((M04.trans M30).trans (Mut.of_le l37))
    · have e3 := of_decide_eq_false e
      rw [if_neg e3] at hK
      have hm : w ∈ fieldW := by
        rcases sp with ⟨q, _⟩ | ⟨w', r, _, hm, q, _⟩
        · exact absurd q e3
        · rw [← q] at hm
          rcases List.mem_append.1 hm with h4 | h4
          · rcases List.mem_append.1 h4 with h5 | h5
            · exact absurd (by simpa using h5) e1
            · exact absurd h5 hw
          · exact h4
      obtain ⟨fa, fc, hf, hfs⟩ := E4.now.f
      refine ⟨_, _, _, hf, slices_Index_ok hfs (by decide) ⟨_, rfl, ?_⟩⟩
      rw [if_pos hm]
      refine query_leaf_ok ⟨2, 0, 0, fieldW.idxOf w, (0, 0)⟩ fun a c h44 N44 _ l44 => ⟨_, _, _, rfl, ?_⟩
      exact hK a c h44 (D4.le l44) (N44.base (M04.up D4.al)) (M04.trans (Mut.of_le l44))
  clear_value J18
  refine ⟨fun e => ?_, fun e2 => ⟨_, rd_eqBs (b := wTrue), fun e => ?_, fun e3 => ⟨_, rd_eqBs (b := wFalse), ?_⟩⟩⟩
  · rw [e]; exact yes (hwc.2 (.inl (of_decide_eq_true e)))
  · rw [e]; exact yes (hwc.2 (.inr (.inl (of_decide_eq_true e))))
  · have e2 := of_decide_eq_false e2
    have e3 := of_decide_eq_false e3
    by_cases hf : w = wFalse
    · rw [decide_eq_true hf]; exact yes (hwc.2 (.inr (.inr hf)))
    · rw [decide_eq_false hf]
      refine no fun h => ?_
      rcases hwc.1 h with h | h | h
      · exact e2 h
      · exact e3 h
      · exact hf h
theorem reader_unary_ok {U A : Ps} {n : Nat} (F : Reads 113 U n) (ku : KP U n) (FA : Reads 114 A (n + 1)) : Reads 113 (unaryP U A) (n + 1) := by
  intro h0 h g s D E S R hK
  refine ok_query_reader_unary ?_
  unfold VC_query_reader_unary
  intro b1 hb1 h2
  have hl : h.le h2 := Hp.le_set (Hp.le_refl h) hb1 _
  have hb := S.big
  have tk := @taken s [wMinus]
  have gi := goes_is S.good [wMinus]
  unfold unaryP at hK
  have hi := @RS.is_spec s [wMinus]
  refine reader_is_ok (D.le hl) (slb_one h b1 wMinus) (by decide) (by omega) fun h4 D4 M4 => ⟨_, rfl, ?_⟩
  have M04 : Mut (At g) h (At g) h4 := (Mut.of_le hl).trans M4
  generalize s.is [wMinus] = B at *
  obtain ⟨w, s1⟩ := B
  simp -zeta only at hK D4 tk gi hi ⊢
  have hS1 := S.goes gi
  have E4 := E.mut M04
  refine ⟨_, rd_eqBs (b := []), fun e => ?_, fun e => ?_⟩
  · have ew := of_decide_eq_true e
    rw [if_pos ew] at hK
    have es : s1 = s := by
      rcases hi with ⟨_, q⟩ | ⟨w', r, _, hm, q, _⟩
      · exact q
      · rw [ew] at q; rw [← q] at hm; exact absurd hm (by decide)
    subst es
    exact FA D4 E4 hS1 fun a c h8 D8 N8 M8 => ⟨_, _, _, rfl, hK a c h8 D8 (N8.base (M04.up D4.al)) (M04.trans M8)⟩
  · have ew := of_decide_eq_false e
    rw [if_neg ew] at hK
    have tk := tk ew
    have d1 := S.d1
    have hdp := gi.deep
    have Sn : SOk n s1 := ⟨hS1.good, by have := S.len; omega, hS1.big, hS1.d0, hS1.d1⟩
    have kd := keeps_down ku (Goes.refl hS1.good) (Nat.le_of_lt Sn.len)
    refine reader_down_ok ⟨_, Tryz.func113, by kernel_rfl, by kernel_rfl⟩ F ku D4 E4 Sn (by omega) fun a c h8 D8 N8 M8 => ⟨_, _, _, rfl, ?_⟩
    refine reader_join_ok D8 N8.s (nd_nil h8 h8).s wf_nil (by have := kd.le; omega) (by simp) fun a c h15 D15 N15 M15 => ⟨_, _, _, rfl, ?_⟩
    exact hK a c h15 D15 (N15.base ((M04.trans M8).up D8.al)) ((M04.trans M8).trans M15)
theorem reader_not_ok {U A : Ps} {n : Nat} (F : Reads 74 U n) (ku : KP U n) (FA : Reads 89 A (n + 1)) : Reads 74 (notP U A) (n + 1) := by
  intro h0 h g s D E S R hK
  refine ok_query_reader_not ?_
  unfold VC_query_reader_not
  intro b1 hb1 h2
  have hl : h.le h2 := Hp.le_set (Hp.le_refl h) hb1 _
  have hb := S.big
  have tk := @taken s [wNot]
  have gi := goes_is S.good [wNot]
  unfold notP at hK
  have hi := @RS.is_spec s [wNot]
  refine reader_is_ok (D.le hl) (slb_one h b1 wNot) (by decide) (by omega) fun h4 D4 M4 => ⟨_, rfl, ?_⟩
  have M04 : Mut (At g) h (At g) h4 := (Mut.of_le hl).trans M4
  generalize s.is [wNot] = B at *
  obtain ⟨w, s1⟩ := B
  simp -zeta only at hK D4 tk gi hi ⊢
  have hS1 := S.goes gi
  have E4 := E.mut M04
  refine ⟨_, rd_eqBs (b := []), fun e => ?_, fun e => ?_⟩
  · have ew := of_decide_eq_true e
    rw [if_pos ew] at hK
    have es : s1 = s := by
      rcases hi with ⟨_, q⟩ | ⟨w', r, _, hm, q, _⟩
      · exact q
      · rw [ew] at q; rw [← q] at hm; exact absurd hm (by decide)
    subst es
    exact FA D4 E4 hS1 fun a c h8 D8 N8 M8 => ⟨_, _, _, rfl, hK a c h8 D8 (N8.base (M04.up D4.al)) (M04.trans M8)⟩
  · have ew := of_decide_eq_false e
    rw [if_neg ew] at hK
    have tk := tk ew
    have d1 := S.d1
    have hdp := gi.deep
    have Sn : SOk n s1 := ⟨hS1.good, by have := S.len; omega, hS1.big, hS1.d0, hS1.d1⟩
    have kd := keeps_down ku (Goes.refl hS1.good) (Nat.le_of_lt Sn.len)
    refine reader_down_ok ⟨_, Tryz.func74, by kernel_rfl, by kernel_rfl⟩ F ku D4 E4 Sn (by omega) fun a c h8 D8 N8 M8 => ⟨_, _, _, rfl, ?_⟩
    refine reader_join_ok D8 N8.s (nd_nil h8 h8).s wf_nil (by have := kd.le; omega) (by simp) fun a c h15 D15 N15 M15 => ⟨_, _, _, rfl, ?_⟩
    exact hK a c h15 D15 (N15.base ((M04.trans M8).up D8.al)) ((M04.trans M8).trans M15)
theorem reader_compare_ok {P : Ps} {n : Nat} (F : Reads 104 P n) (kp : KP P n) : Reads 89 (cmpP P) n := by
  intro h0 h g s D E S R hK
  refine ok_query_reader_compare ?_
  unfold VC_query_reader_compare
  have k := kp s S.good (Nat.le_of_lt S.len)
  unfold cmpP at hK
  simp only at hK
  refine F D E S fun a3 c3 h2 D2 N2 M2 => ⟨_, _, _, rfl, ?_⟩
  intro b4 hb4 h5
  have l5 : h2.le h5 := Hp.le_set (Hp.le_refl h2) hb4 _
  have S2 := S.goes k.goes
  have G0 := k.goes
  have k0 := k.le
  generalize P s = X at *
  obtain ⟨x, s0⟩ := X
  simp only at hK D2 N2 S2 G0 k0
  have gi := goes_is S2.good [wLt, wGt, wLe, wGe, wEq, wNe, wIs]
  refine reader_is_ok (D2.le l5) (slb_lit h2 b4 [wLt, wGt, wLe, wGe, wEq, wNe, wIs] (by decide)) (by decide) (by have := S2.big; omega) fun h7 D7 M7 => ⟨_, rfl, ?_⟩
  have M57 : Mut (At g) h2 (At g) h7 := (Mut.of_le l5).trans M7
  have M07 : Mut (At g) h (At g) h7 := M2.trans M57
  have N7 := N2.mut D.al M57
  generalize s0.is [wLt, wGt, wLe, wGe, wEq, wNe, wIs] = B at *
  obtain ⟨w, s1⟩ := B
  simp -zeta only at hK D7 gi ⊢
  have S7 := S2.goes gi
  have k2 := kp s1 S7.good (Nat.le_of_lt S7.len)
  have kw := k2.wf
  have kl := k2.le
  have E7 := E.mut M07
  have sumK : ∀ {R2 : Value → Hp → Prop}, (∀ a c h', RdAt h0 h' g (P s1).2 → NdAt h7 h' a (P s1).1.length (P s1).1 → Mut (At g) h7 (At g) h' → R2 (vsl a (P s1).1.length c) h') → CallOK Tryz.prog 104 [vhp g 0] h7 R2 := fun H => F D7 E7 S7 H
  have kx := k.wf
  intro J78
  generalize P s1 = Y at *
  obtain ⟨y, s2⟩ := Y
  simp -zeta only at hK sumK kw kl ⊢
  refine ⟨_, rd_eqBs (b := wLt), fun e => ?_, fun e1 => ⟨_, rd_eqBs (b := wGt), fun e => ?_, fun e2 => ⟨_, rd_eqBs (b := wLe), fun e => ?_, fun e3 => ⟨_, rd_eqBs (b := wGe), fun e => ?_, fun e4 => ⟨_, rd_eqBs (b := wEq), fun e => ?_, fun e5 => ⟨_, rd_eqBs (b := wNe), fun e => ?_, fun e6 => ⟨_, rd_eqBs (b := wIs), fun e => ?_, fun e7 => ?_⟩⟩⟩⟩⟩⟩⟩
  · rw [if_pos (of_decide_eq_true e)] at hK
    exact sumK fun a c h11 D11 N11 M11 => ⟨_, _, _, rfl, reader_join_ok D11 (N7.mut D.al M11).s N11.s kw (by omega) (by omega) fun a c h14 D14 N14 M14 => ⟨_, _, _, rfl, hK a c h14 D14 (N14.base ((M07.trans M11).up D11.al)) ((M07.trans M11).trans M14)⟩⟩
  · rw [if_neg (of_decide_eq_false e1), if_pos (of_decide_eq_true e)] at hK
    exact sumK fun a c h11 D11 N11 M11 => ⟨_, _, _, rfl, reader_join_ok D11 N11.s (N7.mut D.al M11).s kx (by omega) (by omega) fun a c h14 D14 N14 M14 => ⟨_, _, _, rfl, hK a c h14 D14 (N14.base ((M07.trans M11).up D11.al)) ((M07.trans M11).trans M14)⟩⟩
  · rw [if_neg (of_decide_eq_false e1), if_neg (of_decide_eq_false e2), if_pos (of_decide_eq_true e)] at hK
    have jl := joinP_le 11 y x s2
    exact sumK fun a c h11 D11 N11 M11 => ⟨_, _, _, rfl, reader_join_ok D11 N11.s (N7.mut D.al M11).s kx (by omega) (by omega) fun a c h14 D14 N14 M14 => ⟨_, _, _, rfl, reader_join_ok D14 N14.s (nd_nil h14 h14).s wf_nil (by omega) (by simp) fun a c h17 D17 N17 M17 => ⟨_, _, _, rfl, hK a c h17 D17 (N17.base (((M07.trans M11).trans M14).up D14.al)) (((M07.trans M11).trans M14).trans M17)⟩⟩⟩
  · rw [if_neg (of_decide_eq_false e1), if_neg (of_decide_eq_false e2), if_neg (of_decide_eq_false e3), if_pos (of_decide_eq_true e)] at hK
    have jl := joinP_le 11 x y s2
    exact sumK fun a c h11 D11 N11 M11 => ⟨_, _, _, rfl, reader_join_ok D11 (N7.mut D.al M11).s N11.s kw (by omega) (by omega) fun a c h14 D14 N14 M14 => ⟨_, _, _, rfl, reader_join_ok D14 N14.s (nd_nil h14 h14).s wf_nil (by omega) (by simp) fun a c h17 D17 N17 M17 => ⟨_, _, _, rfl, hK a c h17 D17 (N17.base (((M07.trans M11).trans M14).up D14.al)) (((M07.trans M11).trans M14).trans M17)⟩⟩⟩
  · rw [if_neg (of_decide_eq_false e1), if_neg (of_decide_eq_false e2), if_neg (of_decide_eq_false e3), if_neg (of_decide_eq_false e4), if_pos (of_decide_eq_true e)] at hK
    exact sumK fun a c h11 D11 N11 M11 => ⟨_, _, _, rfl, reader_join_ok D11 (N7.mut D.al M11).s N11.s kw (by omega) (by omega) fun a c h14 D14 N14 M14 => ⟨_, _, _, rfl, hK a c h14 D14 (N14.base ((M07.trans M11).up D11.al)) ((M07.trans M11).trans M14)⟩⟩
  · rw [if_neg (of_decide_eq_false e1), if_neg (of_decide_eq_false e2), if_neg (of_decide_eq_false e3), if_neg (of_decide_eq_false e4), if_neg (of_decide_eq_false e5), if_pos (of_decide_eq_true e)] at hK
    have jl := joinP_le 12 x y s2
    exact sumK fun a c h11 D11 N11 M11 => ⟨_, _, _, rfl, reader_join_ok D11 (N7.mut D.al M11).s N11.s kw (by omega) (by omega) fun a c h14 D14 N14 M14 => ⟨_, _, _, rfl, reader_join_ok D14 N14.s (nd_nil h14 h14).s wf_nil (by omega) (by simp) fun a c h17 D17 N17 M17 => ⟨_, _, _, rfl, hK a c h17 D17 (N17.base (((M07.trans M11).trans M14).up D14.al)) (((M07.trans M11).trans M14).trans M17)⟩⟩⟩
  · rw [if_neg (of_decide_eq_false e1), if_neg (of_decide_eq_false e2), if_neg (of_decide_eq_false e3), if_neg (of_decide_eq_false e4), if_neg (of_decide_eq_false e5), if_neg (of_decide_eq_false e6), if_pos (of_decide_eq_true e)] at hK
    intro b61 hb61 h62
    have l62 : h7.le h62 := Hp.le_set (Hp.le_refl h7) hb61 _
    have g3 := goes_is S7.good [wNot]
    refine reader_is_ok (D7.le l62) (slb_one h7 b61 wNot) (by decide) (by have := S7.big; omega) fun h64 D64 M64 => ⟨_, rfl, ?_⟩
    have M64' : Mut (At g) h7 (At g) h64 := (Mut.of_le l62).trans M64
    have S8 := S7.goes g3
    generalize s1.is [wNot] = C at *
    obtain ⟨v, s3⟩ := C
    simp -zeta only at hK D64 S8 ⊢
    refine reader_must_ok D64 (by have := S8.big; omega) fun h67 D67 M67 => ⟨rfl, ?_⟩
    have M67' := M64'.trans M67
    refine reader_join_ok D67 (N7.mut D.al M67').s (nd_nil h67 h67).s wf_nil (by omega) (by simp) fun a c h69 D69 N69 M69 => ⟨_, _, _, rfl, ?_⟩
    have jl := joinP_le 5 x [] (s3.must wNull)
    refine ⟨_, rd_neBs (b := []), fun q => ?_, fun q => ?_⟩
    · have q : v ≠ [] := by simpa using q
      rw [if_pos q] at hK
      exact reader_join_ok D69 N69.s (nd_nil h69 h69).s wf_nil (Nat.le_trans jl (by decide)) (by simp) fun a c h73 D73 N73 M73 => ⟨_, _, _, rfl, hK a c h73 D73 (N73.base (((M07.trans M67').trans M69).up D69.al)) (((M07.trans M67').trans M69).trans M73)⟩
    · have q : ¬ v ≠ [] := by simpa using q
      rw [if_neg q] at hK
      exact hK a c h69 D69 (N69.base ((M07.trans M67').up D67.al)) ((M07.trans M67').trans M69)
  · rw [if_neg (of_decide_eq_false e1), if_neg (of_decide_eq_false e2), if_neg (of_decide_eq_false e3), if_neg (of_decide_eq_false e4), if_neg (of_decide_eq_false e5), if_neg (of_decide_eq_false e6), if_neg (of_decide_eq_false e7)] at hK
    exact hK _ _ h7 D7 N7 M07
def wordsN (h : Hp) (g : Nat) : Nat := match h.cell g 0 with | some (.slice _ n _) => n | _ => 0
theorem RdAt.wn {h0 h : Hp} {g : Nat} {s : RS} (D : RdAt h0 h g s) : wordsN h g = s.ws.length := by
  obtain ⟨a, c, e⟩ := D.c0
  unfold wordsN
  rw [e]
/-- Rows: what stands between signs. -/
theorem reader_row_ok {f : FuncId} {P : Ps} {n : Nat} (B : Bodied f) (F : Reads f P n) (kp : KP P n) {ops : List (Wd × Int)} (ho : ∀ q ∈ ops, Opr q.2) (hne : ∀ q ∈ ops, q.1 ≠ []) (hol : ops.length ≤ 100) {h0 h : Hp} {g : Nat} {s : RS} (D : RdAt h0 h g s) (E : EnvQ h0 h g) (S : SOk n s) {y : Value} {wa : Option Addr} {wn wc : Nat} (W : ElAt encB h g wa wn (ops.map (·.1)))
    (hop : ∀ h', Mut (At g) h (At g) h' → ∀ w ∈ ops.map (·.1), Rd Tryz.prog (Instr.lookup 97 y (vs (bs w)) false) h' (vi (opOf ops w)))
    {R : Value → Hp → Prop} (hK : ∀ a c h', RdAt h0 h' g (rowP P ops s).2 → NdAt h h' a (rowP P ops s).1.length (rowP P ops s).1 → Mut (At g) h (At g) h' → R (vsl a (rowP P ops s).1.length c) h') : CallOK Tryz.prog 53 [vhp g 0, .func (.func f) #[vhp g 0] #[], y, vsl wa wn wc] h R := by
  refine ok_query_reader_row ?_
  unfold VC_query_reader_row
  have k := kp s S.good (Nat.le_of_lt S.len)
  have Sx := S.goes k.goes
  have kx := k.wf
  have kl := k.le
  have kp1 := k.pos
  unfold rowP at hK
  have hwn : wn = ops.length := by have := W.s.1; simpa using this
  refine inv_of B (F D E S fun a3 c3 h2 D2 N2 M2 => ⟨_, _, _, rfl, ?_⟩)
  generalize P s = X at *
  obtain ⟨x0, s0⟩ := X
  simp -zeta only at hK D2 N2 Sx kx kl kp1 ⊢
  intro J26
  refine ⟨fun vs' hh => ∃ (k : Nat) (x : List Nd) (t : RS) (a : Option Addr) (c : Nat), vs' = [vsl a x.length c] ∧ RdAt h0 hh g t ∧ NdAt h hh a x.length x ∧ Mut (At g) h (At g) hh ∧ SOk n t ∧ 1 ≤ x.length ∧ x.length ≤ 40 ∧ WfL x ∧ t.ws.length < k ∧ rowL P ops k x t = rowL P ops (s0.ws.length + 1) x0 s0, fun _ hh => wordsN hh g, ⟨_, x0, s0, a3, c3, rfl, D2, N2, M2, Sx, kp1, kl, kx, Nat.lt_succ_self _, rfl⟩, ?_⟩
  rintro vs' hh ⟨k, x, t, a, c, rfl, Dt, Nt, Mt, St, hx1, hx, Wx, hk, hrow⟩
  obtain ⟨k, rfl⟩ : ∃ j, k = j + 1 := ⟨k - 1, by omega⟩
  rw [rowL] at hrow
  refine ⟨_, _, _, rfl, _, Dt.c2, fun e => ?_, fun e => ?_⟩
  · have f0 : ¬ t.f ≠ 0 := by rw [errV_none] at e; simpa using e
    rw [if_neg f0] at hrow
    have gi := goes_is St.good (ops.map (·.1))
    have gm := @is_mem t (ops.map (·.1))
    have tk := @taken t (ops.map (·.1))
    have hDt := Dt.wn
    refine reader_is_ok Dt (W.mut Mt).s (by omega) (by have := St.big; omega) fun h14 D14 M14 => ⟨_, rfl, ?_⟩
    have M014 := Mt.trans M14
    simp only at hrow
    generalize t.is (ops.map (·.1)) = A at *
    obtain ⟨w, s1⟩ := A
    simp -zeta only at hrow D14 gi gm tk ⊢
    have S1 := St.goes gi
    refine ⟨_, rd_eqBs (b := []), fun e => ?_, fun e => ?_⟩
    · rw [if_pos (of_decide_eq_true e)] at hrow
      rw [← hrow] at hK
      exact hK _ _ h14 D14 (Nt.mut D.al M14) M014
    · have ew := of_decide_eq_false e
      rw [if_neg ew] at hrow
      have hop' := opOf_opr ho (gm ew)
      have kn := kp s1 S1.good (Nat.le_of_lt S1.len)
      have tk := tk ew
      refine ⟨_, hop h14 M014 w (gm ew), inv_of B (F D14 (E.mut M014) S1 fun a22 c22 h21 D21 N21 M21 => ⟨_, _, _, rfl, hop h21 (M014.trans M21) w (gm ew), ?_⟩)⟩
      generalize opOf ops w = op at *
      have kj : Keeps (joinP op x (P s1).1 (P s1).2) t := keeps_join hop' (gi.trans kn.goes) Wx kn.wf hx1 (fun _ => kn.pos)
      have kn1 := kn.wf
      have kn2 := kn.le
      have kn3 := kn.len
      have kj2 : (joinP op x (P s1).1 (P s1).2).2.ws.length ≤ (P s1).2.ws.length := by
        unfold joinP
        split
        · exact Nat.zero_le _
        · exact Nat.le_refl _
      generalize P s1 = Y at *
      obtain ⟨y1, s2⟩ := Y
      simp -zeta only at hrow D21 N21 kj kn1 kn2 kn3 kj2 ⊢
      refine reader_join_ok D21 ((Nt.mut D.al M14).mut D.al M21).s N21.s kn1 (by omega) (by omega) fun a25 c25 h24 D24 N24 M24 => ⟨_, _, _, rfl, ⟨k, _, _, a25, c25, rfl, D24, N24.base ((M014.trans M21).up D21.al), (M014.trans M21).trans M24, St.goes kj.goes, kj.pos, kj.le, kj.wf, by omega, hrow⟩, ?_⟩
      have h24n := D24.wn
      show wordsN h24 g < wordsN hh g
      omega
  · have f0 : t.f ≠ 0 := by rw [errV_none] at e; simpa using e
    rw [if_pos f0] at hrow
    rw [← hrow] at hK
    exact hK _ _ hh Dt Nt Mt
end Go.Proofs.YtonlacplogbodaaGreatDoor
/-
  Contracts: the document's reader: nodes are put together; expressions, as deep as words go. Conditions: those stated at each.
-/
namespace Go.Proofs.YtonlacplogbodaaGreatDoor
open Go Go.Vc Go.Txt
set_option linter.unusedVariables false
set_option maxRecDepth 100000

theorem stuck_fail {s : RS} (hg : s.good) (hf : s.f ≠ 0) (f : Int) : s.fail f = s := by
  unfold RS.fail
  rw [if_neg hf, ← hg hf]
theorem stuck_join {s : RS} (hg : s.good) (hf : s.f ≠ 0) (op : Int) (x y : List Nd) : (joinP op x y s).2 = s := by
  unfold joinP
  split
  · exact stuck_fail hg hf 2
  · rfl
/-- Nodes are put together. -/
theorem rd_put_ok {h0 h : Hp} {g : Nat} {W : List Wd} {s : RS} (D : RrAt h0 h g W s) {op : Int} {ax ay : Option Addr} {nx ny cx cy : Nat} {x y : List Nd} (X : s.f = 0 → SlP encN h ax nx x ∧ x.length ≤ 40) (Y : s.f = 0 → SlP encN h ay ny y ∧ WfL y ∧ y.length ≤ 40 ∧ (0 < y.length ↔ 1 < arI op))
    {R : Value → Hp → Prop} (hK : ∀ a n c h', RrAt h0 h' g W (joinP op x y s).2 → ((joinP op x y s).2.f = 0 → NdAt h h' a n (joinP op x y s).1) → Mut (At g) h (At g) h' → R (vsl a n c) h') : CallOK Tryz.prog 59 [vhp g 0, vi op, vsl ax nx cx, vsl ay ny cy] h R := by
  refine ok_R_rd_put ?_
  unfold VC_R_rd_put
  have f0 := D.f0
  refine ⟨_, D.c3, fun e => ?_, fun e => ?_⟩
  · have e : s.f ≠ 0 := by have := of_decide_eq_true e; omega
    rw [stuck_join D.good e] at hK
    exact hK ax nx cx h D (fun q => absurd q e) (Mut.of_le (Hp.le_refl _))
  have hf : s.f = 0 := by have := of_decide_eq_false e; omega
  obtain ⟨SX, hx⟩ := X hf
  obtain ⟨SY, WY, hy, hyo⟩ := Y hf
  clear X Y
  obtain rfl := SX.1
  obtain rfl := SY.1
  unfold joinP at hK
  refine ⟨_, isW (by unfold InR; omega), _, isW (by unfold InR; omega), fun e => ?_, fun e => ?_⟩
  · have e := of_decide_eq_true e
    rw [if_pos (by omega)] at hK
    refine rd_fail_ok D (by decide) fun h6 D6 M6 => ⟨rfl, hK _ _ _ h6 D6 (fun q => ?_) M6⟩
    unfold RS.fail at q
    rw [if_pos hf] at q
    exact absurd q (by show (2 : Int) ≠ 0; decide)
  have e := of_decide_eq_false e
  rw [if_neg (by omega)] at hK
  simp only at hK
  refine sem_clone elNd SX.2 (flatMap_length encN_len x) (one_nds x) (by omega) (by omega) fun a3 c3 h2 V2 => ⟨_, _, _, rfl, ?_⟩
  refine ⟨fun vs hh => ∃ (i : Nat) (a : Option Addr) (c : Nat), vs = [vsl a (x ++ (y.take i).map (shN x.length)).length c, vi i] ∧ i ≤ y.length ∧ NdVec h hh a c (x ++ (y.take i).map (shN x.length)), fun vs hh => y.length - (vint vs 1).toNat,
    ⟨0, a3, c3, by simp, Nat.zero_le _, by have V3 : NdVec h h2 a3 c3 x := V2; simpa using V3⟩, ?_⟩
  rintro vs hh ⟨i, a4, c4, rfl, hi, V⟩
  have hlen : (x ++ (y.take i).map (shN x.length)).length = x.length + i := by simp; omega
  refine ⟨_, _, _, _, rfl, fun g' => ?_, fun g' => ?_⟩
  · have hlt : i < y.length := by have := of_decide_eq_true g'; omega
    have hxx : y[i]? = some y[i] := List.getElem?_eq_getElem hlt
    have wn := WY _ _ hxx
    obtain ⟨b, o, ha, hr⟩ := (SY.le V.le0).get encN_len (by decide) hxx
    have tk : (y.take (i + 1)).map (shN x.length) = (y.take i).map (shN x.length) ++ [shN x.length y[i]] := by
      rw [List.take_succ_eq_append_getElem hlt, List.map_append]; rfl
    generalize y[i] = z at *
    refine ⟨b, o, ⟨ha, by omega, by omega⟩, _, _, _, _, _, _, hr, R_Arity_ok ⟨_, rfl, ?_⟩⟩
    intro J34
    have hJ : ∀ x', x' = (shN (x.length : Int) z).x → J34 x' := by
      intro x' hx'
      unfold J34
      intro J45
      have h45 : ∀ y', y' = (shN (x.length : Int) z).y → J45 y' := by
        rintro y' rfl
        subst hx'
        intro b49 hb49 h50
        refine V.app (x := shN (x.length : Int) z) elNd encN_len one_encN (by omega) (by omega) hb49 fun a' c' h' V' => ⟨_, _, _, rfl, _, isW (by unfold InR; omega), ⟨i + 1, a', c', ?_, by omega, ?_⟩, by simp [vint]; omega⟩
        · rw [tk, ← List.append_assoc]; rfl
        · rw [tk, ← List.append_assoc]; exact V'
      clear_value J45
      refine ⟨fun q => ?_, fun q => ?_⟩
      · have q := of_decide_eq_true q
        have hy2 := wn.y (by omega)
        refine ⟨_, isW (by unfold InR; omega), h45 _ ?_⟩
        unfold shN
        simp only
        rw [if_pos (show 1 < arI z.op by omega)]
      · have q := of_decide_eq_false q
        refine h45 _ ?_
        unfold shN
        simp only
        rw [if_neg (show ¬ 1 < arI z.op by omega)]
    clear_value J34
    refine ⟨fun q => ?_, fun q => ?_⟩
    · have q := of_decide_eq_true q
      have hX := wn.x (by omega)
      refine ⟨_, isW (by unfold InR; omega), hJ _ ?_⟩
      unfold shN
      simp only
      rw [if_pos (show 0 < arI z.op by omega)]
    · have q := of_decide_eq_false q
      refine hJ _ ?_
      unfold shN
      simp only
      rw [if_neg (show ¬ 0 < arI z.op by omega)]
  · have hge : i = y.length := by have := of_decide_eq_false g'; omega
    subst hge
    rw [List.take_of_length_le (Nat.le_refl _)] at V hlen ⊢
    refine ⟨_, isW (by unfold InR; omega), ?_⟩
    intro J60
    have hJ : ∀ y', y' = (if 1 < arI op then ((x.length + y.length : Nat) : Int) - 1 else 0) → J60 y' := by
      rintro y' rfl b66 hb66
      intro h67
      refine V.app (x := ⟨op, (x.length : Int) - 1, if 1 < arI op then ((x.length + y.length : Nat) : Int) - 1 else 0, 0, (0, 0)⟩) elNd encN_len one_encN (by omega) (by omega) hb66 fun a' c' h' V' => ⟨_, _, _, rfl, ?_⟩
      have V'' : NdVec h h' a' c' (joinL op x y) := V'
      refine hK a' _ c' h' (D.le V''.le0) (fun _ => ⟨V''.slp encN_len (by decide), fun b o e => ?_⟩) (Mut.of_le V''.le0)
      obtain rfl := (OwnV.own V'').at0 b o e
      exact OwnV.new V'' b e
    clear_value J60
    refine ⟨fun q => ?_, fun q => ?_⟩
    · have q := of_decide_eq_true q
      refine ⟨_, isW (by unfold InR; omega), hJ _ ?_⟩
      rw [if_pos (hyo.1 (by omega)), hlen]
    · have q := of_decide_eq_false q
      refine hJ _ ?_
      rw [if_neg (fun h => by have := hyo.2 h; omega)]
/-- The document's reader of a level reads as it is said. -/
def RReads (k : Int) (P : Ps) (n : Nat) : Prop := ∀ {h0 h : Hp} {g : Nat} {W : List Wd} {s : RS}, RrAt h0 h g W s → SOk n s → ∀ {R : Value → Hp → Prop}, (∀ a m c h', RrAt h0 h' g W (P s).2 → ((P s).2.f = 0 → NdAt h h' a m (P s).1) → Mut (At g) h (At g) h' → R (vsl a m c) h') → CallOK Tryz.prog 34 [vhp g 0, vi k] h R
/-- Behind a fault nothing is read. -/
theorem stuck {P : Ps} {n : Nat} (kp : KP P n) {s : RS} (S : SOk n s) (hf : s.f ≠ 0) : (P s).2 = s := by
  have k := kp s S.good (Nat.le_of_lt S.len)
  have h1 := S.good hf
  have h2 := k.len
  have h3 := k.deep
  have h4 := k.fst hf
  obtain ⟨ws, d, f⟩ := s
  simp only at h1 h2 h3 h4 hf ⊢
  subst h1
  have h5 : (P ⟨[], d, f⟩).2.ws = [] := List.length_eq_zero_iff.1 (by simpa using h2)
  generalize (P ⟨[], d, f⟩).2 = t at *
  obtain ⟨ws, d', f'⟩ := t
  simp only at h3 h4 h5
  rw [h3, h4, h5]
theorem level_rows_ok {k : Int} (hk : k = 0 ∨ k = 1 ∨ k = 4 ∨ k = 5) {P : Ps} {n : Nat} (kp : KP P n) (H : ∀ {h0 h : Hp} {g : Nat} {W : List Wd} {s : RS}, RrAt h0 h g W s → SOk n s → ∀ {R : Value → Hp → Prop}, (∀ a m c h', RrAt h0 h' g W (P s).2 → ((P s).2.f = 0 → NdAt h h' a m (P s).1) → Mut (At g) h (At g) h' → R (vsl a m c) h') → CallOK Tryz.prog 57 [vhp g 0, vi k] h R) : RReads k P n := by
  intro h0 h g W s D S R hK
  refine ok_R_rd_level ?_
  unfold VC_R_rd_level
  have f0 := D.f0
  refine ⟨_, D.c3, fun e => ?_, fun e => ?_⟩
  · have e : s.f ≠ 0 := by have := of_decide_eq_true e; omega
    rw [stuck kp S e] at hK
    exact hK _ _ _ h D (fun q => absurd q e) (Mut.of_le (Hp.le_refl _))
  intro J7
  have h7 : J7 true := ⟨fun _ => H D S fun a m c h' D' N' M' => ⟨_, _, _, rfl, hK a m c h' D' N' M'⟩, fun q => by cases q⟩
  clear_value J7
  refine ⟨fun e => by rw [e]; exact h7, fun e1 => ⟨fun e => by rw [e]; exact h7, fun e2 => ⟨fun e => by rw [e]; exact h7, fun e3 => ?_⟩⟩⟩
  have e1 := of_decide_eq_false e1
  have e2 := of_decide_eq_false e2
  have e3 := of_decide_eq_false e3
  rw [decide_eq_true (show k = 5 by omega)]
  exact h7
theorem level_cmp_ok {P : Ps} {n : Nat} (kp : KP P n) (H : ∀ {h0 h : Hp} {g : Nat} {W : List Wd} {s : RS}, RrAt h0 h g W s → SOk n s → ∀ {R : Value → Hp → Prop}, (∀ a m c h', RrAt h0 h' g W (P s).2 → ((P s).2.f = 0 → NdAt h h' a m (P s).1) → Mut (At g) h (At g) h' → R (vsl a m c) h') → CallOK Tryz.prog 60 [vhp g 0] h R) : RReads 3 P n := by
  intro h0 h g W s D S R hK
  refine ok_R_rd_level ?_
  unfold VC_R_rd_level
  have f0 := D.f0
  refine ⟨_, D.c3, fun e => ?_, fun e => ?_⟩
  · have e : s.f ≠ 0 := by have := of_decide_eq_true e; omega
    rw [stuck kp S e] at hK
    exact hK _ _ _ h D (fun q => absurd q e) (Mut.of_le (Hp.le_refl _))
  refine ⟨fun e => absurd e (by decide), fun _ => ⟨fun e => absurd e (by decide), fun _ => ⟨fun e => absurd e (by decide), fun _ => ⟨fun e => absurd e (by decide), fun _ => ?_⟩⟩⟩⟩
  refine ⟨fun e => absurd e (by decide), fun _ => ⟨fun e => absurd e (by decide), fun _ => ⟨fun _ => H D S fun a m c h' D' N' M' => ⟨_, _, _, rfl, hK a m c h' D' N' M'⟩, fun e => absurd e (by decide)⟩⟩⟩
theorem level_rest_ok {P : Ps} {n : Nat} (kp : KP P n) (H : ∀ {h0 h : Hp} {g : Nat} {W : List Wd} {s : RS}, RrAt h0 h g W s → SOk n s → s.f = 0 → ∀ {R : Value → Hp → Prop}, (∀ a m c h', RrAt h0 h' g W (P s).2 → ((P s).2.f = 0 → NdAt h h' a m (P s).1) → Mut (At g) h (At g) h' → R (vsl a m c) h') → CallOK Tryz.prog 61 [vhp g 0] h R) : RReads 7 P n := by
  intro h0 h g W s D S R hK
  refine ok_R_rd_level ?_
  unfold VC_R_rd_level
  have f0 := D.f0
  refine ⟨_, D.c3, fun e => ?_, fun e => ?_⟩
  · have e : s.f ≠ 0 := by have := of_decide_eq_true e; omega
    rw [stuck kp S e] at hK
    exact hK _ _ _ h D (fun q => absurd q e) (Mut.of_le (Hp.le_refl _))
  have hf : s.f = 0 := by have := of_decide_eq_false e; omega
  refine ⟨fun e => absurd e (by decide), fun _ => ⟨fun e => absurd e (by decide), fun _ => ⟨fun e => absurd e (by decide), fun _ => ⟨fun e => absurd e (by decide), fun _ => ?_⟩⟩⟩⟩
  refine ⟨fun e => absurd e (by decide), fun _ => ⟨fun e => absurd e (by decide), fun _ => ⟨fun e => absurd e (by decide), fun _ => H D S hf fun a m c h' D' N' M' => ⟨_, _, _, rfl, hK a m c h' D' N' M'⟩⟩⟩⟩
theorem is_oneR {s : RS} {w : Wd} (hw : w ≠ []) (h : (s.is [w]).1 = []) : (s.is [w]).2 = s := by
  obtain ⟨n1, n2, n3⟩ := next_one (s := s) hw
  exact n3 fun q => absurd h (n1.2 q)
/-- One with a sign ahead, or not. -/
def signP (w : Wd) (op : Int) (U A : Ps) : Ps := fun s => if (s.is [w]).1 = [] then A s else joinP op (downP U (s.is [w]).2).1 [] (downP U (s.is [w]).2).2
theorem level_sign_ok {k : Int} {w : Wd} {op : Int} (hk : (k = 2 ∧ w = wNot ∧ op = 4) ∨ (k = 6 ∧ w = wMinus ∧ op = 3)) {U A : Ps} {n : Nat} (ku : KP U n) (kp : KP (signP w op U A) (n + 1)) (FU : RReads k U n) (FA : RReads (k + 1) A (n + 1)) : RReads k (signP w op U A) (n + 1) := by
  intro h0 h g W s D S R hK
  refine ok_R_rd_level ?_
  unfold VC_R_rd_level
  have f0 := D.f0
  refine ⟨_, D.c3, fun e => ?_, fun e => ?_⟩
  · have e : s.f ≠ 0 := by have := of_decide_eq_true e; omega
    rw [stuck kp S e] at hK
    exact hK _ _ _ h D (fun q => absurd q e) (Mut.of_le (Hp.le_refl _))
  have hw : w ≠ [] := by rcases hk with ⟨_, rfl, _⟩ | ⟨_, rfl, _⟩ <;> decide
  have hop : arI op = 1 := by rcases hk with ⟨_, _, rfl⟩ | ⟨_, _, rfl⟩ <;> decide
  have hk2 : k = 2 ∨ k = 6 := by rcases hk with ⟨h, _⟩ | ⟨h, _⟩ <;> omega
  have io := @is_oneR s w hw
  have gi := goes_is S.good [w]
  have tk := @taken s [w]
  unfold signP at hK
  refine ⟨fun e => absurd (of_decide_eq_true e) (by omega), fun _ => ⟨fun e => absurd (of_decide_eq_true e) (by omega), fun _ => ⟨fun e => absurd (of_decide_eq_true e) (by omega), fun _ => ⟨fun e => absurd (of_decide_eq_true e) (by omega), fun _ => ?_⟩⟩⟩⟩
  intro J14
  have h14 : J14 true := by
    refine ⟨fun _ => ?_, fun q => by cases q⟩
    intro J18
    have h18 : J18 (bs w) op := by
      refine rd_take_ok D hw fun h39 D39 M39 => ⟨_, rfl, fun e => ?_, fun e => ?_⟩
      · have e : (s.is [w]).1 = [] := by simpa using e
        rw [if_pos e] at hK
        rw [io e] at D39
        exact ⟨_, isW (by unfold InR; omega), FA D39 S fun a m c h' D' N' M' => ⟨_, _, _, rfl, hK a m c h' D' (fun q => (N' q).base (M39.up D39.al)) (M39.trans M')⟩⟩
      · have e : (s.is [w]).1 ≠ [] := by simpa using e
        rw [if_neg e] at hK
        have tk := tk e
        have S1 := S.goes gi
        have d0 := S1.d0
        have d1 := S1.d1
        have Sn : SOk n (s.is [w]).2 := ⟨S1.good, by have := S.len; omega, S1.big, d0, d1⟩
        generalize (s.is [w]).2 = s1 at *
        have hdp := gi.deep
        have sd1 := S.d1
        refine rd_in_ok D39 d0 (by omega) fun h47 D47 M47 => ⟨rfl, ?_⟩
        have Gin : (inS s1).ws.length ≤ s1.ws.length ∧ (inS s1).good ∧ (inS s1).deep = s1.deep + 1 := by
          unfold inS
          split
          · exact ⟨Nat.zero_le _, RS.fail_good _ _, rfl⟩
          · exact ⟨Nat.le_refl _, Sn.good, rfl⟩
        have Si : SOk n (inS s1) := ⟨Gin.2.1, Nat.lt_of_le_of_lt Gin.1 Sn.len, Nat.le_trans Gin.1 Sn.big, by rw [Gin.2.2]; omega, by rw [Gin.2.2]; have := Gin.1; omega⟩
        have ki := ku _ Si.good (Nat.le_of_lt Si.len)
        rw [downP_in] at hK
        refine FU D47 Si fun a m c h49 D49 N49 M49 => ⟨_, _, _, rfl, ?_⟩
        have hdd := ki.deep
        have hm : m = m := rfl
        refine ⟨_, D49.c2, _, isW (by unfold InR; omega), D49.put2 fun h53 D53 M53 => ?_⟩
        have M53' := (M39.trans M47).trans (M49.trans M53)
        refine rd_put_ok D53 (x := (U (inS s1)).1) (y := []) (fun q => ⟨((N49 q).mut D47.al M53).s, ki.le⟩) (fun q => ⟨(nd_nil h53 h53).s, wf_nil, by simp, by simp [hop]⟩) fun a m c h' D' N' M' => ⟨_, _, _, rfl, ?_⟩
        exact hK a m c h' D' (fun q => (N' q).base (M53'.up D53.al)) (M53'.trans M')
    clear_value J18
    rcases hk with ⟨rfl, rfl, rfl⟩ | ⟨rfl, rfl, rfl⟩
    · exact ⟨fun e => absurd e (by decide), fun _ => h18⟩
    · exact ⟨fun _ => h18, fun e => absurd e (by decide)⟩
  clear_value J14
  refine ⟨fun e => by rw [e]; exact h14, fun e => ?_⟩
  rw [decide_eq_true (show k = 6 by have := of_decide_eq_false e; omega)]
  exact h14
end Go.Proofs.YtonlacplogbodaaGreatDoor
/-
  Contracts: the document's reader: rows, comparisons, and the rest. Conditions: those stated at each.
-/
namespace Go.Proofs.YtonlacplogbodaaGreatDoor
open Go Go.Vc Go.Txt
set_option linter.unusedVariables false
set_option maxRecDepth 100000

theorem next_any {s : RS} {L : List Wd} (hL : [] ∉ L) : (nextW s ∈ L → ∃ r, s.ws = nextW s :: r ∧ s.is L = (nextW s, ⟨r, s.deep, s.f⟩)) ∧ (nextW s ∉ L → s.is L = ([], s)) := by
  unfold nextW RS.is
  cases h : s.ws with
  | nil => exact ⟨fun q => absurd q hL, fun _ => rfl⟩
  | cons v r => exact ⟨fun q => ⟨r, rfl, if_pos q⟩, fun q => if_neg q⟩
def rrN (h : Hp) (g : Nat) : Nat := match h.cell g (0 + 3), h.cell g 0, h.cell g (0 + 1) with
  | some (.int _ f), some (.slice _ n _), some (.int _ i) => if f = 0 then 1 + (n - i.toNat) else 0
  | _, _, _ => 0
theorem RrAt.rn {h0 h : Hp} {g : Nat} {W : List Wd} {s : RS} (D : RrAt h0 h g W s) : rrN h g = if s.f = 0 then 1 + s.ws.length else 0 := by
  obtain ⟨a, c, i, hb, hS, hi, hw⟩ := D.b
  have c0 : h.cell g 0 = some (vsl a W.length c) := cell_cells hb rfl
  have c1 : h.cell g (0 + 1) = some (vi i) := cell_cells hb rfl
  have c3 : h.cell g (0 + 3) = some (vi s.f) := cell_cells hb rfl
  unfold rrN
  rw [c0, c1, c3]
  simp only
  split
  · rename_i hf
    rw [hw, if_pos hf, List.length_drop, Int.toNat_natCast]
  · rfl
theorem nd_one {hB h : Hp} {b : Nat} (hb : hB b = none) (n : Nd) : NdAt hB (h.set b (cellsO (encN n) 82)) (some ⟨b, 0, none⟩) 1 [n] :=
  ⟨⟨rfl, (OwnS.new h b 82 (sz := 6) (n := 1) (encN n) rfl (by decide)).row⟩, fun b' o e => by cases e; exact hb⟩
def refOp (k : Int) (w : Wd) : Int := if w = wOr then (if k = 0 then 10 else 0) else if w = wAnd then (if k = 1 then 9 else 0) else if w = wPlus then (if k = 4 then 6 else 0) else if w = wMinus then (if k = 4 then 7 else 0) else if w = wStar then (if k = 5 then 8 else 0) else 0
def RowK (k : Int) (ops : List (Wd × Int)) : Prop := (k = 0 ∧ ops = [(wOr, 10)]) ∨ (k = 1 ∧ ops = [(wAnd, 9)]) ∨ (k = 4 ∧ ops = [(wPlus, 6), (wMinus, 7)]) ∨ (k = 5 ∧ ops = [(wStar, 8)])
theorem refOp_eq {k : Int} {ops : List (Wd × Int)} (hk : RowK k ops) (w : Wd) : refOp k w = if w ∈ ops.map (·.1) then opOf ops w else 0 := by
  by_cases h1 : w = wOr
  · subst h1; rcases hk with ⟨rfl, rfl⟩ | ⟨rfl, rfl⟩ | ⟨rfl, rfl⟩ | ⟨rfl, rfl⟩ <;> decide
  by_cases h2 : w = wAnd
  · subst h2; rcases hk with ⟨rfl, rfl⟩ | ⟨rfl, rfl⟩ | ⟨rfl, rfl⟩ | ⟨rfl, rfl⟩ <;> decide
  by_cases h3 : w = wPlus
  · subst h3; rcases hk with ⟨rfl, rfl⟩ | ⟨rfl, rfl⟩ | ⟨rfl, rfl⟩ | ⟨rfl, rfl⟩ <;> decide
  by_cases h4 : w = wMinus
  · subst h4; rcases hk with ⟨rfl, rfl⟩ | ⟨rfl, rfl⟩ | ⟨rfl, rfl⟩ | ⟨rfl, rfl⟩ <;> decide
  by_cases h5 : w = wStar
  · subst h5; rcases hk with ⟨rfl, rfl⟩ | ⟨rfl, rfl⟩ | ⟨rfl, rfl⟩ | ⟨rfl, rfl⟩ <;> decide
  have e : refOp k w = 0 := by unfold refOp; rw [if_neg h1, if_neg h2, if_neg h3, if_neg h4, if_neg h5]
  rw [e, if_neg]
  intro hm
  rcases hk with ⟨_, rfl⟩ | ⟨_, rfl⟩ | ⟨_, rfl⟩ | ⟨_, rfl⟩
  · exact h1 (by simpa using hm)
  · exact h2 (by simpa using hm)
  · have : w = wPlus ∨ w = wMinus := by simpa using hm
    rcases this with q | q
    · exact h3 q
    · exact h4 q
  · exact h5 (by simpa using hm)
theorem RowK.opr {k : Int} {ops : List (Wd × Int)} (hk : RowK k ops) : (∀ q ∈ ops, Opr q.2) ∧ (∀ q ∈ ops, 1 < arI q.2 ∧ q.2 ≠ 0) ∧ ([] : Wd) ∉ ops.map (·.1) ∧ (k = 0 ∨ k = 1 ∨ k = 4 ∨ k = 5) := by
  rcases hk with ⟨rfl, rfl⟩ | ⟨rfl, rfl⟩ | ⟨rfl, rfl⟩ | ⟨rfl, rfl⟩ <;> exact ⟨by decide, by decide, by decide, by decide⟩
theorem opOf_in {ops : List (Wd × Int)} {Q : Int → Prop} (ho : ∀ q ∈ ops, Q q.2) {w : Wd} (hw : w ∈ ops.map (·.1)) : Q (opOf ops w) := by
  unfold opOf
  cases h : ops.find? (fun p => p.1 = w) with
  | none =>
    obtain ⟨q, hq, rfl⟩ := List.mem_map.1 hw
    have := List.find?_eq_none.1 h q hq
    simp at this
  | some q => exact ho q (List.mem_of_find?_eq_some h)
theorem rd_rows_ok {k : Int} {ops : List (Wd × Int)} (hk : RowK k ops) {P : Ps} {n : Nat} (F : RReads (k + 1) P n) (kp : KP P n) {h0 h : Hp} {g : Nat} {W : List Wd} {s : RS} (D : RrAt h0 h g W s) (S : SOk n s) {R : Value → Hp → Prop}
    (hK : ∀ a m c h', RrAt h0 h' g W (rowP P ops s).2 → ((rowP P ops s).2.f = 0 → NdAt h h' a m (rowP P ops s).1) → Mut (At g) h (At g) h' → R (vsl a m c) h') : CallOK Tryz.prog 57 [vhp g 0, vi k] h R := by
  refine ok_R_rd_rows ?_
  unfold VC_R_rd_rows
  obtain ⟨ho, ho2, hnil, hk4⟩ := hk.opr
  have kk := kp s S.good (Nat.le_of_lt S.len)
  have Sx := S.goes kk.goes
  have kx := kk.wf
  have kl := kk.le
  have kp1 := kk.pos
  unfold rowP at hK
  refine ⟨_, isW (by unfold InR; omega), F D S fun a4 m4 c4 h3 D3 N3 M3 => ⟨_, _, _, rfl, ?_⟩⟩
  generalize P s = X at *
  obtain ⟨x0, s0⟩ := X
  simp -zeta only at hK D3 N3 Sx kx kl kp1 ⊢
  intro J47
  refine ⟨fun vs' hh => ∃ (j : Nat) (x : List Nd) (t : RS) (a : Option Addr) (m c : Nat), vs' = [vsl a m c] ∧ RrAt h0 hh g W t ∧ (t.f = 0 → NdAt h hh a m x) ∧ Mut (At g) h (At g) hh ∧ SOk n t ∧ 1 ≤ x.length ∧ x.length ≤ 40 ∧ WfL x ∧ t.ws.length < j ∧ rowL P ops j x t = rowL P ops (s0.ws.length + 1) x0 s0, fun _ hh => rrN hh g, ⟨_, x0, s0, a4, m4, c4, rfl, D3, N3, M3, Sx, kp1, kl, kx, Nat.lt_succ_self _, rfl⟩, ?_⟩
  rintro vs' hh ⟨j, x, t, a, m, c, rfl, Dt, Nt, Mt, St, hx1, hx, Wx, hj, hrow⟩
  obtain ⟨j, rfl⟩ : ∃ j', j = j' + 1 := ⟨j - 1, by omega⟩
  have hst : rowL P ops (j + 1) x t = if t.f ≠ 0 then (x, t) else if (t.is (ops.map (·.1))).1 = [] then (x, (t.is (ops.map (·.1))).2) else rowL P ops j (joinP (opOf ops (t.is (ops.map (·.1))).1) x (P (t.is (ops.map (·.1))).2).1 (P (t.is (ops.map (·.1))).2).2).1 (joinP (opOf ops (t.is (ops.map (·.1))).1) x (P (t.is (ops.map (·.1))).2).1 (P (t.is (ops.map (·.1))).2).2).2 := rfl
  rw [hst] at hrow
  clear hst
  refine ⟨_, _, _, rfl, _, Dt.c3, fun e => ?_, fun e => ?_⟩
  · have f0 : ¬ t.f ≠ 0 := fun h => h (of_decide_eq_true e)
    rw [if_neg f0] at hrow
    have Nt := Nt (Decidable.not_not.1 f0)
    have hrt := Dt.rn
    rw [if_pos (Decidable.not_not.1 f0)] at hrt
    obtain ⟨ny, nn⟩ := next_any (s := t) hnil
    refine rd_next_ok Dt ⟨_, rfl, ?_⟩
    intro J33
    have key : J33 (refOp k (nextW t)) := by
      have hr := refOp_eq hk (nextW t)
      by_cases hm : nextW t ∈ ops.map (·.1)
      · rw [if_pos hm] at hr
        obtain ⟨r, hws, his⟩ := ny hm
        have h2 := opOf_in (Q := fun o => 1 < arI o ∧ o ≠ 0) ho2 hm
        have hop := opOf_opr ho hm
        rw [his] at hrow
        simp only at hrow
        have hne : nextW t ≠ [] := fun q => hnil (by rw [← q]; exact hm)
        rw [if_neg hne] at hrow
        rw [hr]
        have gi := goes_is St.good (ops.map (·.1))
        rw [his] at gi
        simp only at gi
        have S1 := St.goes gi
        generalize opOf ops (nextW t) = op at *
        refine ⟨fun q => absurd (of_decide_eq_true q) h2.2, fun _ => ?_⟩
        obtain ⟨i, hc, hi, hsto⟩ := Dt.adv hws
        have kn := kp _ S1.good (Nat.le_of_lt S1.len)
        refine ⟨_, hc, _, isW (by unfold InR; omega), hsto fun h39 D39 M39 => ⟨_, isW (by unfold InR; omega), F D39 S1 fun a43 m43 c43 h42 D42 N42 M42 => ⟨_, _, _, rfl, ?_⟩⟩⟩
        have kj : Keeps (joinP op x (P ⟨r, t.deep, t.f⟩).1 (P ⟨r, t.deep, t.f⟩).2) t := keeps_join hop (gi.trans kn.goes) Wx kn.wf hx1 (fun _ => kn.pos)
        have kn1 := kn.wf
        have kn2 := kn.le
        have kn3 := kn.len
        have kn4 := kn.pos
        have kj2 : (joinP op x (P ⟨r, t.deep, t.f⟩).1 (P ⟨r, t.deep, t.f⟩).2).2.ws.length ≤ (P ⟨r, t.deep, t.f⟩).2.ws.length := by
          unfold joinP
          split
          · exact Nat.zero_le _
          · exact Nat.le_refl _
        simp only at kn3
        generalize P ⟨r, t.deep, t.f⟩ = Y at *
        obtain ⟨y1, s2⟩ := Y
        simp only at hrow D42 N42 kj kn1 kn2 kn3 kn4 kj2 ⊢
        have M42' := Mt.trans M39
        refine rd_put_ok D42 (x := x) (y := y1) (fun q => ⟨((Nt.mut D.al M39).mut D.al M42).s, hx⟩) (fun q => ⟨(N42 q).s, kn1, kn2, ⟨fun _ => h2.1, fun _ => kn4⟩⟩) fun a46 m46 c46 h45 D45 N45 M45 => ⟨_, _, _, rfl, ⟨j, _, _, a46, m46, c46, rfl, D45, fun q => (N45 q).base ((M42'.trans M42).up D42.al), (M42'.trans M42).trans M45, St.goes kj.goes, kj.pos, kj.le, kj.wf, ?_, hrow⟩, ?_⟩
        · rw [hws] at hj
          simp at hj
          omega
        · have h45n := D45.rn
          show rrN h45 g < rrN hh g
          rw [hrt, h45n, hws]
          simp
          split <;> omega
      · rw [if_neg hm] at hr
        rw [nn hm] at hrow
        simp only at hrow
        rw [if_pos trivial] at hrow
        rw [hr]
        refine ⟨fun _ => ?_, fun q => absurd q (by decide)⟩
        rw [← hrow] at hK
        exact hK a m c hh Dt (fun _ => Nt) Mt
    clear_value J33
    unfold refOp at key
    refine ⟨_, rd_eqBs (b := wOr), fun e1 => ?_, fun e1 => ⟨_, rd_eqBs (b := wAnd), fun e2 => ?_, fun e2 => ⟨_, rd_eqBs (b := wPlus), fun e3 => ?_, fun e3 => ⟨_, rd_eqBs (b := wMinus), fun e4 => ?_, fun e4 => ⟨_, rd_eqBs (b := wStar), fun e5 => ?_, fun e5 => ?_⟩⟩⟩⟩⟩
    · rw [if_pos (of_decide_eq_true e1)] at key
      exact ⟨fun q => by rw [if_pos (of_decide_eq_true q)] at key; exact key, fun q => by rw [if_neg (of_decide_eq_false q)] at key; exact key⟩
    · rw [if_neg (of_decide_eq_false e1), if_pos (of_decide_eq_true e2)] at key
      exact ⟨fun q => by rw [if_pos (of_decide_eq_true q)] at key; exact key, fun q => by rw [if_neg (of_decide_eq_false q)] at key; exact key⟩
    · rw [if_neg (of_decide_eq_false e1), if_neg (of_decide_eq_false e2), if_pos (of_decide_eq_true e3)] at key
      exact ⟨fun q => by rw [if_pos (of_decide_eq_true q)] at key; exact key, fun q => by rw [if_neg (of_decide_eq_false q)] at key; exact key⟩
    · rw [if_neg (of_decide_eq_false e1), if_neg (of_decide_eq_false e2), if_neg (of_decide_eq_false e3), if_pos (of_decide_eq_true e4)] at key
      exact ⟨fun q => by rw [if_pos (of_decide_eq_true q)] at key; exact key, fun q => by rw [if_neg (of_decide_eq_false q)] at key; exact key⟩
    · rw [if_neg (of_decide_eq_false e1), if_neg (of_decide_eq_false e2), if_neg (of_decide_eq_false e3), if_neg (of_decide_eq_false e4), if_pos (of_decide_eq_true e5)] at key
      exact ⟨fun q => by rw [if_pos (of_decide_eq_true q)] at key; exact key, fun q => by rw [if_neg (of_decide_eq_false q)] at key; exact key⟩
    · rw [if_neg (of_decide_eq_false e1), if_neg (of_decide_eq_false e2), if_neg (of_decide_eq_false e3), if_neg (of_decide_eq_false e4), if_neg (of_decide_eq_false e5)] at key
      exact key
  · have f0 : t.f ≠ 0 := of_decide_eq_false e
    rw [if_pos f0] at hrow
    rw [← hrow] at hK
    exact hK a m c hh Dt Nt Mt
end Go.Proofs.YtonlacplogbodaaGreatDoor
/-
  Contracts: the document's reader: comparisons, the rest; as deep as words go. Conditions: those stated at each.
-/
namespace Go.Proofs.YtonlacplogbodaaGreatDoor
open Go Go.Vc Go.Txt
set_option linter.unusedVariables false
set_option maxRecDepth 100000

def cmpW : List Wd := [wLt, wGt, wLe, wGe, wEq, wNe, wIs]
theorem rd_compared_ok {P : Ps} {n : Nat} (F : RReads 4 P n) (kp : KP P n) {h0 h : Hp} {g : Nat} {W : List Wd} {s : RS} (D : RrAt h0 h g W s) (S : SOk n s) {R : Value → Hp → Prop}
    (hK : ∀ a m c h', RrAt h0 h' g W (cmpP P s).2 → ((cmpP P s).2.f = 0 → NdAt h h' a m (cmpP P s).1) → Mut (At g) h (At g) h' → R (vsl a m c) h') : CallOK Tryz.prog 60 [vhp g 0] h R := by
  refine ok_R_rd_compared ?_
  unfold VC_R_rd_compared
  have kk := kp s S.good (Nat.le_of_lt S.len)
  have Sx := S.goes kk.goes
  have kx := kk.wf
  have kl := kk.le
  have kp1 := kk.pos
  unfold cmpP at hK
  simp only at hK
  refine F D S fun a3 m3 c3 h2 D2 N2 M2 => ⟨_, _, _, rfl, ?_⟩
  generalize P s = X at *
  obtain ⟨x, s0⟩ := X
  simp -zeta only at hK D2 N2 Sx kx kl kp1 ⊢
  have hnil : ([] : Wd) ∉ cmpW := by decide
  have hcw : [wLt, wGt, wLe, wGe, wEq, wNe, wIs] = cmpW := rfl
  rw [hcw] at hK
  obtain ⟨ny, nn⟩ := next_any (s := s0) hnil
  refine rd_next_ok D2 ⟨_, rfl, _, rd_neBs (b := wLt), _, fun _ => rd_neBs (b := wGt), _, fun _ => rd_neBs (b := wLe), _, fun _ => rd_neBs (b := wGe), _, fun _ => rd_neBs (b := wEq), _, fun _ => rd_neBs (b := wNe), _, fun _ => rd_neBs (b := wIs), ?_⟩
  have hmem : nextW s0 ∈ cmpW ↔ ¬ ((((((nextW s0 ≠ wLt ∧ nextW s0 ≠ wGt) ∧ nextW s0 ≠ wLe) ∧ nextW s0 ≠ wGe) ∧ nextW s0 ≠ wEq) ∧ nextW s0 ≠ wNe) ∧ nextW s0 ≠ wIs) := by
    generalize nextW s0 = w
    unfold cmpW
    constructor
    · intro hm
      have : w = wLt ∨ w = wGt ∨ w = wLe ∨ w = wGe ∨ w = wEq ∨ w = wNe ∨ w = wIs := by simpa using hm
      rintro ⟨⟨⟨⟨⟨⟨q1, q2⟩, q3⟩, q4⟩, q5⟩, q6⟩, q7⟩
      rcases this with q | q | q | q | q | q | q
      · exact q1 q
      · exact q2 q
      · exact q3 q
      · exact q4 q
      · exact q5 q
      · exact q6 q
      · exact q7 q
    · intro hm
      refine Decidable.byContradiction fun q => hm ?_
      have : ¬ (w = wLt ∨ w = wGt ∨ w = wLe ∨ w = wGe ∨ w = wEq ∨ w = wNe ∨ w = wIs) := fun r => q (by simpa using r)
      simp only [not_or] at this
      obtain ⟨q1, q2, q3, q4, q5, q6, q7⟩ := this
      exact ⟨⟨⟨⟨⟨⟨q1, q2⟩, q3⟩, q4⟩, q5⟩, q6⟩, q7⟩
  simp -zeta only [cnot, cand]
  refine ⟨fun e => ?_, fun e => ?_⟩
  · have hm : nextW s0 ∉ cmpW := fun q => hmem.1 q (of_decide_eq_true e)
    rw [nn hm] at hK
    simp only at hK
    rw [if_neg (by decide), if_neg (by decide), if_neg (by decide), if_neg (by decide), if_neg (by decide), if_neg (by decide), if_neg (by decide)] at hK
    exact hK a3 m3 c3 h2 D2 N2 M2
  have hm : nextW s0 ∈ cmpW := hmem.2 (of_decide_eq_false e)
  obtain ⟨r, hws, his⟩ := ny hm
  have gi := goes_is Sx.good cmpW
  rw [his] at gi hK
  simp only at hK gi
  have S1 := Sx.goes gi
  have hf0 : s0.f = 0 := by
    rcases Decidable.em (s0.f = 0) with q | q
    · exact q
    · rw [Sx.good q] at hws; cases hws
  have N2 := N2 hf0
  obtain ⟨i, hc, hi, hsto⟩ := D2.adv hws
  have k2 := kp _ S1.good (Nat.le_of_lt S1.len)
  have kw := k2.wf
  have kl2 := k2.le
  have kq2 := k2.pos
  refine ⟨_, hc, _, isW (by unfold InR; omega), hsto fun h17 D17 M17 => ?_⟩
  have N17 := N2.mut D.al M17
  have M17' := M2.trans M17
  generalize nextW s0 = w at *
  generalize (⟨r, s0.deep, s0.f⟩ : RS) = s1 at *
  have hm2 : w = wLt ∨ w = wGt ∨ w = wLe ∨ w = wGe ∨ w = wEq ∨ w = wNe ∨ w = wIs := by simpa [cmpW] using hm
  refine ⟨_, rd_eqBs (b := wIs), fun e => ?_, fun e => ?_⟩
  · have ew : w = wIs := of_decide_eq_true e
    rw [if_neg (by rw [ew]; decide), if_neg (by rw [ew]; decide), if_neg (by rw [ew]; decide), if_neg (by rw [ew]; decide), if_neg (by rw [ew]; decide), if_neg (by rw [ew]; decide), if_pos ew] at hK
    have g3 := goes_is S1.good [wNot]
    refine rd_take_ok (w := wNot) D17 (by decide) fun h20 D20 M20 => ⟨_, rfl, ?_⟩
    generalize s1.is [wNot] = C at *
    obtain ⟨v, s3⟩ := C
    simp -zeta only at hK D20 g3 ⊢
    refine rd_must_ok (w := wNull) D20 (by decide) fun h23 D23 M23 => ⟨rfl, ?_⟩
    generalize s3.must wNull = s4 at *
    refine rd_put_ok D23 (x := x) (y := []) (fun q => ⟨((N17.mut D.al M20).mut D.al M23).s, kl⟩) (fun q => ⟨(nd_nil h23 h23).s, wf_nil, by simp, by decide⟩) fun a26 m26 c26 h25 D25 N25 M25 => ⟨_, _, _, rfl, ?_⟩
    have M25' := (M17'.trans M20).trans M23
    have jl := joinP_le 5 x [] s4
    intro J32
    refine ⟨fun q => ?_, fun q => ?_⟩
    · have q := of_decide_eq_true q
      rw [if_pos q] at hK
      refine rd_put_ok D25 (x := (joinP 5 x [] s4).1) (y := []) (fun q => ⟨(N25 q).s, jl⟩) (fun q => ⟨(nd_nil h25 h25).s, wf_nil, by simp, by decide⟩) fun a29 m29 c29 h28 D28 N28 M28 => ⟨_, _, _, rfl, ?_⟩
      exact hK a29 m29 c29 h28 D28 (fun q => (N28 q).base ((M25'.trans M25).up D25.al)) ((M25'.trans M25).trans M28)
    · have q := of_decide_eq_false q
      rw [if_neg q] at hK
      exact hK a26 m26 c26 h25 D25 (fun q => (N25 q).base (M25'.up D23.al)) (M25'.trans M25)
  have ew : ¬ w = wIs := of_decide_eq_false e
  refine F D17 S1 fun a39 m39 c39 h38 D38 N38 M38 => ⟨_, _, _, rfl, ?_⟩
  have M38' := M17'.trans M38
  have Nx := N17.mut D.al M38
  generalize P s1 = Y at *
  obtain ⟨y, s2⟩ := Y
  simp -zeta only at hK D38 N38 kw kl2 kq2 ⊢
  refine ⟨_, rd_eqBs (b := wLt), fun e => ?_, fun e1 => ⟨_, rd_eqBs (b := wGt), fun e => ?_, fun e2 => ⟨_, rd_eqBs (b := wLe), fun e => ?_, fun e3 => ⟨_, rd_eqBs (b := wGe), fun e => ?_, fun e4 => ⟨_, rd_eqBs (b := wEq), fun e => ?_, fun e5 => ?_⟩⟩⟩⟩⟩
  · rw [if_pos (of_decide_eq_true e)] at hK
    exact rd_put_ok D38 (x := x) (y := y) (fun q => ⟨Nx.s, kl⟩) (fun q => ⟨(N38 q).s, kw, kl2, ⟨fun _ => by decide, fun _ => kq2⟩⟩) fun a m c h42 D42 N42 M42 => ⟨_, _, _, rfl, hK a m c h42 D42 (fun q => (N42 q).base (M38'.up D38.al)) (M38'.trans M42)⟩
  · rw [if_neg (of_decide_eq_false e1), if_pos (of_decide_eq_true e)] at hK
    exact rd_put_ok D38 (x := y) (y := x) (fun q => ⟨(N38 q).s, kl2⟩) (fun q => ⟨Nx.s, kx, kl, ⟨fun _ => by decide, fun _ => kp1⟩⟩) fun a m c h42 D42 N42 M42 => ⟨_, _, _, rfl, hK a m c h42 D42 (fun q => (N42 q).base (M38'.up D38.al)) (M38'.trans M42)⟩
  · rw [if_neg (of_decide_eq_false e1), if_neg (of_decide_eq_false e2), if_pos (of_decide_eq_true e)] at hK
    have jl := joinP_le 11 y x s2
    exact rd_put_ok D38 (x := y) (y := x) (fun q => ⟨(N38 q).s, kl2⟩) (fun q => ⟨Nx.s, kx, kl, ⟨fun _ => by decide, fun _ => kp1⟩⟩) fun a m c h42 D42 N42 M42 => ⟨_, _, _, rfl, rd_put_ok D42 (x := (joinP 11 y x s2).1) (y := []) (fun q => ⟨(N42 q).s, jl⟩) (fun q => ⟨(nd_nil h42 h42).s, wf_nil, by simp, by decide⟩) fun a m c h45 D45 N45 M45 => ⟨_, _, _, rfl, hK a m c h45 D45 (fun q => (N45 q).base ((M38'.trans M42).up D42.al)) ((M38'.trans M42).trans M45)⟩⟩
  · rw [if_neg (of_decide_eq_false e1), if_neg (of_decide_eq_false e2), if_neg (of_decide_eq_false e3), if_pos (of_decide_eq_true e)] at hK
    have jl := joinP_le 11 x y s2
    exact rd_put_ok D38 (x := x) (y := y) (fun q => ⟨Nx.s, kl⟩) (fun q => ⟨(N38 q).s, kw, kl2, ⟨fun _ => by decide, fun _ => kq2⟩⟩) fun a m c h42 D42 N42 M42 => ⟨_, _, _, rfl, rd_put_ok D42 (x := (joinP 11 x y s2).1) (y := []) (fun q => ⟨(N42 q).s, jl⟩) (fun q => ⟨(nd_nil h42 h42).s, wf_nil, by simp, by decide⟩) fun a m c h45 D45 N45 M45 => ⟨_, _, _, rfl, hK a m c h45 D45 (fun q => (N45 q).base ((M38'.trans M42).up D42.al)) ((M38'.trans M42).trans M45)⟩⟩
  · rw [if_neg (of_decide_eq_false e1), if_neg (of_decide_eq_false e2), if_neg (of_decide_eq_false e3), if_neg (of_decide_eq_false e4), if_pos (of_decide_eq_true e)] at hK
    exact rd_put_ok D38 (x := x) (y := y) (fun q => ⟨Nx.s, kl⟩) (fun q => ⟨(N38 q).s, kw, kl2, ⟨fun _ => by decide, fun _ => kq2⟩⟩) fun a m c h42 D42 N42 M42 => ⟨_, _, _, rfl, hK a m c h42 D42 (fun q => (N42 q).base (M38'.up D38.al)) (M38'.trans M42)⟩
  · have e6 : w = wNe := by
      rcases hm2 with q | q | q | q | q | q | q
      · exact absurd q (of_decide_eq_false e1)
      · exact absurd q (of_decide_eq_false e2)
      · exact absurd q (of_decide_eq_false e3)
      · exact absurd q (of_decide_eq_false e4)
      · exact absurd q (of_decide_eq_false e5)
      · exact q
      · exact absurd q ew
    rw [if_neg (of_decide_eq_false e1), if_neg (of_decide_eq_false e2), if_neg (of_decide_eq_false e3), if_neg (of_decide_eq_false e4), if_neg (of_decide_eq_false e5), if_pos e6] at hK
    have jl := joinP_le 12 x y s2
    exact rd_put_ok D38 (x := x) (y := y) (fun q => ⟨Nx.s, kl⟩) (fun q => ⟨(N38 q).s, kw, kl2, ⟨fun _ => by decide, fun _ => kq2⟩⟩) fun a m c h42 D42 N42 M42 => ⟨_, _, _, rfl, rd_put_ok D42 (x := (joinP 12 x y s2).1) (y := []) (fun q => ⟨(N42 q).s, jl⟩) (fun q => ⟨(nd_nil h42 h42).s, wf_nil, by simp, by decide⟩) fun a m c h45 D45 N45 M45 => ⟨_, _, _, rfl, hK a m c h45 D45 (fun q => (N45 q).base ((M38'.trans M42).up D42.al)) ((M38'.trans M42).trans M45)⟩⟩
theorem fieldW_idx {i : Nat} (hi : i < 4) : fieldW.getD i [] ∈ fieldW ∧ fieldW.idxOf (fieldW.getD i []) = i := by
  match i, hi with
  | 0, _ => decide
  | 1, _ => decide
  | 2, _ => decide
  | 3, _ => decide
theorem atom_stuck {P : Ps} {s : RS} {w : Wd} (h : s.is ([wOpen] ++ constW ++ fieldW) = ([], s)) : atomP P s = ([⟨1, 0, 0, 0, (1, (s.number 1000000000).1)⟩], (s.number 1000000000).2) := by
  unfold atomP
  rw [h]
  rfl
theorem rd_rest_ok {P : Ps} {n : Nat} (F : RReads 0 P n) (kp : KP P n) {h0 h : Hp} {g : Nat} {W : List Wd} {s : RS} (D : RrAt h0 h g W s) (S : SOk (n + 1) s) (hf : s.f = 0) {R : Value → Hp → Prop}
    (hK : ∀ a m c h', RrAt h0 h' g W (atomP P s).2 → ((atomP P s).2.f = 0 → NdAt h h' a m (atomP P s).1) → Mut (At g) h (At g) h' → R (vsl a m c) h') : CallOK Tryz.prog 61 [vhp g 0] h R := by
  refine ok_R_rd_rest ?_
  unfold VC_R_rd_rest
  have hnil : ([] : Wd) ∉ ([wOpen] ++ constW ++ fieldW) := by decide
  obtain ⟨ny, nn⟩ := next_any (s := s) hnil
  obtain ⟨o1, o2, o3⟩ := next_one (s := s) (w := wOpen) (by decide)
  have gi := goes_is S.good ([wOpen] ++ constW ++ fieldW)
  refine rd_next_ok D ⟨_, rfl, rd_take_ok (w := wOpen) D (by decide) fun h5 D5 M5 => ⟨_, rfl, fun e => ?_, fun e => ?_⟩⟩
  · have e : nextW s = wOpen := o1.1 (of_decide_eq_true e)
    obtain ⟨r, hws, his⟩ := ny (by rw [e]; decide)
    obtain ⟨r', hws', his'⟩ := o2 e
    have er : r' = r := by rw [hws] at hws'; exact ((List.cons.inj hws').2).symm
    subst er
    rw [his'] at D5
    have hat : atomP P s = ((downP P ⟨r', s.deep, s.f⟩).1, (downP P ⟨r', s.deep, s.f⟩).2.must wClose) := by
      unfold atomP
      rw [his, e]
      rfl
    rw [hat] at hK
    rw [his] at gi
    simp only at gi hK
    have S1 := S.goes gi
    have d0 := S1.d0
    have d1 := S1.d1
    have hlen : r'.length < n := by
      have h1 := S.len
      rw [hws] at h1
      simp at h1
      omega
    have Sn : SOk n ⟨r', s.deep, s.f⟩ := ⟨S1.good, hlen, S1.big, d0, d1⟩
    have hl2 : (⟨r', s.deep, s.f⟩ : RS).ws.length + 1 = s.ws.length := by rw [hws]; rfl
    generalize (⟨r', s.deep, s.f⟩ : RS) = s1 at *
    have sd1 := S.d1
    have hdp := gi.deep
    refine rd_in_ok D5 d0 (by omega) fun h8 D8 M8 => ⟨rfl, ?_⟩
    have Gin : (inS s1).ws.length ≤ s1.ws.length ∧ (inS s1).good ∧ (inS s1).deep = s1.deep + 1 := by
      unfold inS
      split
      · exact ⟨Nat.zero_le _, RS.fail_good _ _, rfl⟩
      · exact ⟨Nat.le_refl _, Sn.good, rfl⟩
    have hl3 : (s1.ws.length : Int) + 1 ≤ (s.ws.length : Int) := by omega
    have Si : SOk n (inS s1) := ⟨Gin.2.1, Nat.lt_of_le_of_lt Gin.1 Sn.len, Nat.le_trans Gin.1 Sn.big, by rw [Gin.2.2]; omega, by rw [Gin.2.2]; have := Gin.1; omega⟩
    have ki := kp _ Si.good (Nat.le_of_lt Si.len)
    have kd := keeps_down kp (Goes.refl Sn.good) (Nat.le_of_lt Sn.len)
    rw [downP_in] at hK kd
    refine F D8 Si fun a m c h10 D10 N10 M10 => ⟨_, _, _, rfl, ?_⟩
    have hdd := ki.deep
    refine ⟨_, D10.c2, _, isW (by unfold InR; omega), D10.put2 fun h14 D14 M14 => ?_⟩
    refine rd_must_ok (w := wClose) D14 (by decide) fun h16 D16 M16 => ⟨rfl, ?_⟩
    have M8' := M5.trans M8
    refine hK a m c h16 D16 (fun q => ?_) (((M8'.trans M10).trans M14).trans M16)
    have q2 : (P (inS s1)).2.f = 0 := by
      refine Decidable.byContradiction fun hne => ?_
      have := (goes_must (s := ⟨(P (inS s1)).2.ws, (P (inS s1)).2.deep - 1, (P (inS s1)).2.f⟩) kd.ok wClose).fst hne
      exact hne (this.symm.trans q)
    exact (((N10 q2).base (M8'.up D8.al)).mut D.al M14).mut D.al M16
  have e : nextW s ≠ wOpen := fun q => of_decide_eq_false e (o1.2 q)
  rw [o3 e] at D5
  intro b18 hb18 h19
  have l19 : h5.le h19 := Hp.le_set (Hp.le_refl h5) hb18 _
  have D19 := D5.le l19
  have M19 := M5.trans (Mut.of_le l19)
  have hlit := slb_lit h5 b18 fieldW (by decide)
  refine ⟨fun vs' hh => hh = h19 ∧ ∃ i : Nat, vs' = [vi i] ∧ i ≤ 4 ∧ ∀ j, j < i → nextW s ≠ fieldW.getD j [], fun vs' hh => 4 - (vint vs' 0).toNat, ⟨rfl, 0, rfl, by omega, by omega⟩, ?_⟩
  rintro vs' hh ⟨rfl, i, rfl, hi, hno⟩
  refine ⟨i, rfl, fun e1 => ?_, fun e1 => ?_⟩
  · have hlt : i < 4 := by have := of_decide_eq_true e1; omega
    obtain ⟨b, o, ha, hc⟩ := SlP.get1 hlit (i := i) (by show i < 4; exact hlt)
    refine ⟨b, o, ⟨ha, by omega, by omega⟩, _, hc, _, rd_eqBs, fun q => ?_, fun q => ?_⟩
    · have q : nextW s = fieldW.getD i [] := of_decide_eq_true q
      obtain ⟨hmf, hix⟩ := fieldW_idx hlt
      rw [← q] at hmf hix
      obtain ⟨r, hws, his⟩ := ny (List.mem_append_right _ hmf)
      have hnc : nextW s ∉ constW := by
        intro hc
        have h1 : nextW s = wNull ∨ nextW s = wTrue ∨ nextW s = wFalse := by simpa [constW] using hc
        rcases h1 with h1 | h1 | h1 <;> rw [h1] at hmf <;> exact absurd hmf (by decide)
      have hne : nextW s ≠ [] := by
        intro h1; rw [h1] at hmf; exact absurd hmf (by decide)
      have hat : atomP P s = ([⟨2, 0, 0, i, (0, 0)⟩], ⟨r, s.deep, s.f⟩) := by
        unfold atomP
        rw [his]
        simp only
        rw [if_neg e, if_neg hnc, if_neg hne, hix]
      rw [hat] at hK
      obtain ⟨i', hc', hi', hsto⟩ := D19.adv hws
      refine ⟨_, hc', _, isW (by unfold InR; omega), hsto fun h34 D34 M34 => ?_⟩
      intro b35 hb35 h36
      have l36 : h34.le h36 := Hp.le_set (Hp.le_refl h34) hb35 _
      have M34' := M19.trans M34
      exact hK _ _ _ h36 (D34.le l36) (fun _ => nd_one (M34'.up D34.al b35 hb35) ⟨2, 0, 0, i, (0, 0)⟩) (M34'.trans (Mut.of_le l36))
    · have q : nextW s ≠ fieldW.getD i [] := of_decide_eq_false q
      refine ⟨_, isW (by unfold InR; omega), ⟨rfl, i + 1, rfl, by omega, fun j hj => ?_⟩, by simp [vint]; omega⟩
      rcases Nat.lt_or_ge j i with h1 | h1
      · exact hno j h1
      · have : j = i := by omega
        rw [this]; exact q
  · have hge : i = 4 := by have := of_decide_eq_false e1; omega
    subst hge
    have hnf : nextW s ∉ fieldW := by
      intro hm
      have h1 : nextW s = [116] ∨ nextW s = [107] ∨ nextW s = [97] ∨ nextW s = [98] := by simpa [fieldW] using hm
      rcases h1 with h1 | h1 | h1 | h1
      · exact hno 0 (by omega) h1
      · exact hno 1 (by omega) h1
      · exact hno 2 (by omega) h1
      · exact hno 3 (by omega) h1
    have hwc : nextW s ∈ constW ↔ (nextW s = wNull ∨ nextW s = wTrue) ∨ nextW s = wFalse := by simp [constW, or_assoc]
    refine ⟨_, rd_eqBs (b := wNull), _, fun _ => rd_eqBs (b := wTrue), _, fun _ => rd_eqBs (b := wFalse), ?_⟩
    simp -zeta only [cor]
    refine ⟨fun q => ?_, fun q => ?_⟩
    · have hc : nextW s ∈ constW := hwc.2 (of_decide_eq_true q)
      obtain ⟨r, hws, his⟩ := ny (List.mem_append_left _ (List.mem_append_right _ hc))
      have hat : atomP P s = ([⟨1, 0, 0, 0, constV (nextW s)⟩], ⟨r, s.deep, s.f⟩) := by
        unfold atomP
        rw [his]
        simp only
        rw [if_neg e, if_pos hc]
      rw [hat] at hK
      obtain ⟨i', hc', hi', hsto⟩ := D19.adv hws
      have hwl : (nextW s).length ≤ 1000000 := by
        have : nextW s = wNull ∨ nextW s = wTrue ∨ nextW s = wFalse := by simpa [constW] using hc
        rcases this with h1 | h1 | h1 <;> rw [h1] <;> decide
      refine ⟨_, hc', _, isW (by unfold InR; omega), hsto fun h44 D44 M44 => R_ValueOf_ok hwl ⟨_, _, _, rfl, ?_⟩⟩
      rw [← read_same, read_const hc]
      intro b50 hb50 h51
      have l51 : h44.le h51 := Hp.le_set (Hp.le_refl h44) hb50 _
      have M44' := M19.trans M44
      exact hK _ _ _ h51 (D44.le l51) (fun _ => nd_one (M44'.up D44.al b50 hb50) ⟨1, 0, 0, 0, constV (nextW s)⟩) (M44'.trans (Mut.of_le l51))
    · have hc : nextW s ∉ constW := fun h1 => of_decide_eq_false q (hwc.1 h1)
      have hno2 : nextW s ∉ ([wOpen] ++ constW ++ fieldW) := by
        intro hm
        rcases List.mem_append.1 hm with h4 | h4
        · rcases List.mem_append.1 h4 with h5 | h5
          · exact e (by simpa using h5)
          · exact hc h5
        · exact hnf h4
      have hat := atom_stuck (P := P) (w := []) (nn hno2)
      rw [hat] at hK
      have nr1 := number_range (s := s) (most := 1000000000) (by decide)
      refine rd_number_ok D19 (by decide) (by decide) fun h54 D54 M54 => ⟨_, rfl, R_Num_ok ⟨_, _, rfl, ?_⟩⟩
      have en : numV (s.number 1000000000).1 = (1, (s.number 1000000000).1) := by unfold numV; rw [if_neg (by omega)]
      rw [en]
      intro b60 hb60 h61
      have l61 : h54.le h61 := Hp.le_set (Hp.le_refl h54) hb60 _
      have M54' := M19.trans M54
      exact hK _ _ _ h61 (D54.le l61) (fun _ => nd_one (M54'.up D54.al b60 hb60) ⟨1, 0, 0, 0, (1, (s.number 1000000000).1)⟩) (M54'.trans (Mut.of_le l61))
theorem rr_cast {k k' : Int} (e : k = k') {P : Ps} {n : Nat} (H : RReads k P n) : RReads k' P n := by
  subst e
  exact fun D S _ hK => H D S hK
theorem h6k {P : Ps} {n : Nat} (H : RReads 7 P n) : RReads (6 + 1) P n := rr_cast (by decide) H
theorem h5k {P : Ps} {n : Nat} (H : RReads 6 P n) : RReads (5 + 1) P n := rr_cast (by decide) H
theorem h4k {P : Ps} {n : Nat} (H : RReads 5 P n) : RReads (4 + 1) P n := rr_cast (by decide) H
theorem h2k {P : Ps} {n : Nat} (H : RReads 3 P n) : RReads (2 + 1) P n := rr_cast (by decide) H
theorem h1k {P : Ps} {n : Nat} (H : RReads 2 P n) : RReads (1 + 1) P n := rr_cast (by decide) H
theorem h0k {P : Ps} {n : Nat} (H : RReads 1 P n) : RReads (0 + 1) P n := rr_cast (by decide) H
/-- One step deeper. -/
theorem rreads_step {t : Three} {n : Nat} (h : KP t.o n ∧ KP t.n n ∧ KP t.u n) (H : RReads 0 t.o n ∧ RReads 2 t.n n ∧ RReads 6 t.u n) : RReads 0 (orS t) (n + 1) ∧ RReads 2 (notS t) (n + 1) ∧ RReads 6 (unS t) (n + 1) := by
  obtain ⟨k1, k2, k3, k4, k5, k6, k7⟩ := keeps_S h
  have h7 : RReads 7 (atomP t.o) (n + 1) := level_rest_ok (keeps_atom h.1) fun D S hf _ hK => rd_rest_ok H.1 h.1 D S hf hK
  have e6 : unS t = signP wMinus 3 t.u (atomP t.o) := rfl
  have h6 : RReads 6 (unS t) (n + 1) := by
    rw [e6] at k3 ⊢
    exact level_sign_ok (w := wMinus) (op := 3) (.inr ⟨rfl, rfl, rfl⟩) h.2.2 k3 H.2.2 (h6k h7)
  have h5 : RReads 5 (prodS t) (n + 1) := level_rows_ok (by decide) k4 fun D S _ hK => rd_rows_ok (ops := [(wStar, 8)]) (by unfold RowK; simp) (h5k h6) k3 D S hK
  have h4 : RReads 4 (sumS t) (n + 1) := level_rows_ok (by decide) k5 fun D S _ hK => rd_rows_ok (ops := [(wPlus, 6), (wMinus, 7)]) (by unfold RowK; simp) (h4k h5) k4 D S hK
  have h3 : RReads 3 (cmpS t) (n + 1) := level_cmp_ok k6 fun D S _ hK => rd_compared_ok h4 k5 D S hK
  have e2 : notS t = signP wNot 4 t.n (cmpS t) := rfl
  have h2 : RReads 2 (notS t) (n + 1) := by
    rw [e2] at k2 ⊢
    exact level_sign_ok (w := wNot) (op := 4) (.inl ⟨rfl, rfl, rfl⟩) h.2.1 k2 H.2.1 (h2k h3)
  have h1 : RReads 1 (andS t) (n + 1) := level_rows_ok (by decide) k7 fun D S _ hK => rd_rows_ok (ops := [(wAnd, 9)]) (by unfold RowK; simp) (h1k h2) k2 D S hK
  have h0 : RReads 0 (orS t) (n + 1) := level_rows_ok (by decide) k1 fun D S _ hK => rd_rows_ok (ops := [(wOr, 10)]) (by unfold RowK; simp) (h0k h1) k7 D S hK
  exact ⟨h0, h2, h6⟩
theorem rreads_none (k : Int) (P : Ps) : RReads k P 0 := by
  intro h0 h g W s D S R hK
  exact absurd S.len (Nat.not_lt_zero _)
theorem rreads_all (n : Nat) : RReads 0 (allP n).o n ∧ RReads 2 (allP n).n n ∧ RReads 6 (allP n).u n := by
  induction n with
  | zero => exact ⟨rreads_none _ _, rreads_none _ _, rreads_none _ _⟩
  | succ n ih => rw [allP_succ]; exact rreads_step (keeps_all n) ih
end Go.Proofs.YtonlacplogbodaaGreatDoor
