/-
  NARROWER THAN 'FOR EVERY INPUT', by the rows' own cells (each row's printed sentence says how): EngineSays: laid · TopNet: laid · TopFinal: laid · TopTurns: laid · TopLittle: laid · TopFold: laid · TopSo: laid.
  DERIVED. THE GIVEN ROWS OF THIS SEAT. 7 by the template 'for every input the law returns true; each argument reads behind the call as it read before'; 0 by the template 'total and deterministic' (their statements: YtiflgceoamkmnaaGreatDoorTotals.lean).
  GIVEN WITH THE SEED: the statements are not yours to turn. If you find one false, say at which input.
  Laid BY PROGRAM, IN A SANDBOX (cutbox-rows.mjs): the forced cells as the released guide's own fill.sh prints them over the translation eba2ad1c4861074f… (all of the seat's roots in one cut). By AI agents, Wed Nov 11 2026. No macro, syntax, notation, axiom, sorry.
-/
import Derived.Test.YtiflgceoamkmnaaGreatDoorChecked
import GoSem.Claim
import GoSem.ClaimJoined
import GoSem.ClaimMapViews
import Derived.JoinedTies
import Derived.KernelRfl
namespace Go.Proofs.YtiflgceoamkmnaaGreatDoor
/- THE CELL 'sum', in the pinned program and in every row, IS THE sha256 OF THE DUMP (.gsa) THAT YtiflgceoamkmnaaGreatDoorProg.lean LOADS. Nothing in Lean hashes anything: it is a label: what it is worth is what the hold of that sum in a sandbox is worth. -/
noncomputable def Tryz.pinned : Pinned := { name := "ytiflgceoamkmnaagreatdoor", sum := "eba2ad1c4861074fd41c1c8a6d1d31034af50caaa029f30b44b5983f5f771550", checked := Tryz.checked }
namespace Rows
def none {H : Type} : Left H := { results := [], args := [] }

/- WHAT THE LISTED PACKAGE-LEVEL VARIABLES READ AS WHEN THE CALL BEGINS. Each datum BY PROGRAM (the guide's laid-datum.mjs) off the statement by which the dump's own 'gosem.cut.vars' lays the variable. In a bare row this is a premise. The card (YtiflgceoamkmnaaGreatDoorCards.lean) ties it to the program's text. -/
def laid_math_bits_deBruijn32tab {H : Type} : DataW H := .agg [.lit (.int .u8 0), .lit (.int .u8 1), .lit (.int .u8 28), .lit (.int .u8 2), .lit (.int .u8 29), .lit (.int .u8 14), .lit (.int .u8 24), .lit (.int .u8 3), .lit (.int .u8 30), .lit (.int .u8 22), .lit (.int .u8 20), .lit (.int .u8 15), .lit (.int .u8 25), .lit (.int .u8 17), .lit (.int .u8 4), .lit (.int .u8 8), .lit (.int .u8 31), .lit (.int .u8 27), .lit (.int .u8 13), .lit (.int .u8 23), .lit (.int .u8 21), .lit (.int .u8 19), .lit (.int .u8 16), .lit (.int .u8 7), .lit (.int .u8 26), .lit (.int .u8 12), .lit (.int .u8 18), .lit (.int .u8 6), .lit (.int .u8 11), .lit (.int .u8 5), .lit (.int .u8 10), .lit (.int .u8 9)]
def laid_math_bits_deBruijn64tab {H : Type} : DataW H := .agg [.lit (.int .u8 0), .lit (.int .u8 1), .lit (.int .u8 56), .lit (.int .u8 2), .lit (.int .u8 57), .lit (.int .u8 49), .lit (.int .u8 28), .lit (.int .u8 3), .lit (.int .u8 61), .lit (.int .u8 58), .lit (.int .u8 42), .lit (.int .u8 50), .lit (.int .u8 38), .lit (.int .u8 29), .lit (.int .u8 17), .lit (.int .u8 4), .lit (.int .u8 62), .lit (.int .u8 47), .lit (.int .u8 59), .lit (.int .u8 36), .lit (.int .u8 45), .lit (.int .u8 43), .lit (.int .u8 51), .lit (.int .u8 22), .lit (.int .u8 53), .lit (.int .u8 39), .lit (.int .u8 33), .lit (.int .u8 30), .lit (.int .u8 24), .lit (.int .u8 18), .lit (.int .u8 12), .lit (.int .u8 5), .lit (.int .u8 63), .lit (.int .u8 55), .lit (.int .u8 48), .lit (.int .u8 27), .lit (.int .u8 60), .lit (.int .u8 41), .lit (.int .u8 37), .lit (.int .u8 16), .lit (.int .u8 46), .lit (.int .u8 35), .lit (.int .u8 44), .lit (.int .u8 21), .lit (.int .u8 52), .lit (.int .u8 32), .lit (.int .u8 23), .lit (.int .u8 11), .lit (.int .u8 54), .lit (.int .u8 26), .lit (.int .u8 40), .lit (.int .u8 15), .lit (.int .u8 34), .lit (.int .u8 20), .lit (.int .u8 31), .lit (.int .u8 10), .lit (.int .u8 25), .lit (.int .u8 14), .lit (.int .u8 19), .lit (.int .u8 9), .lit (.int .u8 13), .lit (.int .u8 8), .lit (.int .u8 7), .lit (.int .u8 6)]
def laid_internal_strconv_uint64pow10 {H : Type} : DataW H := .agg [.lit (.int .u64 1), .lit (.int .u64 10), .lit (.int .u64 100), .lit (.int .u64 1000), .lit (.int .u64 10000), .lit (.int .u64 100000), .lit (.int .u64 1000000), .lit (.int .u64 10000000), .lit (.int .u64 100000000), .lit (.int .u64 1000000000), .lit (.int .u64 10000000000), .lit (.int .u64 100000000000), .lit (.int .u64 1000000000000), .lit (.int .u64 10000000000000), .lit (.int .u64 100000000000000), .lit (.int .u64 1000000000000000), .lit (.int .u64 10000000000000000), .lit (.int .u64 100000000000000000), .lit (.int .u64 1000000000000000000), .lit (.int .u64 10000000000000000000)]
def laid_strconv_ErrRange {H : Type} : DataW H := .iface "*errors.errorString" (.ptr (.agg [.lit (.string [118, 97, 108, 117, 101, 32, 111, 117, 116, 32, 111, 102, 32, 114, 97, 110, 103, 101])]))
def laid_strconv_ErrSyntax {H : Type} : DataW H := .iface "*errors.errorString" (.ptr (.agg [.lit (.string [105, 110, 118, 97, 108, 105, 100, 32, 115, 121, 110, 116, 97, 120])]))
def laid_penstock_query_fields {H : Type} : DataW H := .slice [.lit (.string [116]), .lit (.string [107]), .lit (.string [97]), .lit (.string [98])] []
def laid_penstock_query_aggs {H : Type} : DataW H := .slice [.lit (.string []), .lit (.string [99, 111, 117, 110, 116]), .lit (.string [99, 111, 117, 110, 116]), .lit (.string [115, 117, 109]), .lit (.string [109, 105, 110]), .lit (.string [109, 97, 120])] []

/-- 'penstocklaw.EngineSays': WHATEVER THE INPUT: true; the input reads as it did. -/
def engineSaysSpec : ChangeSpec := { name := "engineSays", fn := fun _ => fun
  | [d1, d2, d3] => { results := [.lit (.bool true)], args := [d1, d2, d3] }
  | _ => none }
def engineSaysRow : OpenClaim := { program := "ytiflgceoamkmnaagreatdoor", sum := "eba2ad1c4861074fd41c1c8a6d1d31034af50caaa029f30b44b5983f5f771550", func := "penstock/penstocklaw.EngineSays", spec := "engineSays", inPlace := ["internal/bytealg.IndexByteString", "slices.overlaps[penstock/panes.Pane]"], unfollowed := true, recurses := true, named := ["penstock/query.aggs", "penstock/query.fields", "strconv.ErrSyntax", "strconv.ErrRange", "internal/strconv.uint64pow10", "math/bits.deBruijn32tab", "math/bits.deBruijn64tab"], apart := false, laid := [("math/bits.deBruijn32tab", laid_math_bits_deBruijn32tab), ("math/bits.deBruijn64tab", laid_math_bits_deBruijn64tab), ("internal/strconv.uint64pow10", laid_internal_strconv_uint64pow10), ("strconv.ErrRange", laid_strconv_ErrRange), ("strconv.ErrSyntax", laid_strconv_ErrSyntax), ("penstock/query.fields", laid_penstock_query_fields), ("penstock/query.aggs", laid_penstock_query_aggs)] }
def EngineSaysSaid : Prop := engineSaysRow.holds Tryz.pinned (OpenSpec.ofChange engineSaysSpec)

/-- ITS FALSE NEIGHBOUR: 'it returns false'. Refute it at one input. -/
def engineSaysWrong : ChangeSpec := { name := "engineSays", fn := fun _ => fun
  | [d1, d2, d3] => { results := [.lit (.bool false)], args := [d1, d2, d3] }
  | _ => none }
def EngineSaysWrongFalsely : Prop := engineSaysRow.holds Tryz.pinned (OpenSpec.ofChange engineSaysWrong)

/-- 'penstocktop.TopNet': WHATEVER THE INPUT: true; the input reads as it did. -/
def topNetSpec : ChangeSpec := { name := "topNet", fn := fun _ => fun
  | [d1, d2, d3] => { results := [.lit (.bool true)], args := [d1, d2, d3] }
  | _ => none }
def topNetRow : OpenClaim := { program := "ytiflgceoamkmnaagreatdoor", sum := "eba2ad1c4861074fd41c1c8a6d1d31034af50caaa029f30b44b5983f5f771550", func := "penstock/penstocktop.TopNet", spec := "topNet", inPlace := ["internal/bytealg.IndexByteString", "slices.overlaps[penstock/panes.Pane]"], unfollowed := true, recurses := true, named := ["penstock/query.aggs", "penstock/query.fields", "strconv.ErrSyntax", "strconv.ErrRange", "internal/strconv.uint64pow10", "math/bits.deBruijn32tab", "math/bits.deBruijn64tab"], apart := false, laid := [("math/bits.deBruijn32tab", laid_math_bits_deBruijn32tab), ("math/bits.deBruijn64tab", laid_math_bits_deBruijn64tab), ("internal/strconv.uint64pow10", laid_internal_strconv_uint64pow10), ("strconv.ErrRange", laid_strconv_ErrRange), ("strconv.ErrSyntax", laid_strconv_ErrSyntax), ("penstock/query.fields", laid_penstock_query_fields), ("penstock/query.aggs", laid_penstock_query_aggs)] }
def TopNetSaid : Prop := topNetRow.holds Tryz.pinned (OpenSpec.ofChange topNetSpec)

/-- ITS FALSE NEIGHBOUR: 'it returns false'. Refute it at one input. -/
def topNetWrong : ChangeSpec := { name := "topNet", fn := fun _ => fun
  | [d1, d2, d3] => { results := [.lit (.bool false)], args := [d1, d2, d3] }
  | _ => none }
def TopNetWrongFalsely : Prop := topNetRow.holds Tryz.pinned (OpenSpec.ofChange topNetWrong)

/-- 'penstocktop.TopFinal': WHATEVER THE INPUT: true; the input reads as it did. -/
def topFinalSpec : ChangeSpec := { name := "topFinal", fn := fun _ => fun
  | [d1, d2, d3, d4] => { results := [.lit (.bool true)], args := [d1, d2, d3, d4] }
  | _ => none }
def topFinalRow : OpenClaim := { program := "ytiflgceoamkmnaagreatdoor", sum := "eba2ad1c4861074fd41c1c8a6d1d31034af50caaa029f30b44b5983f5f771550", func := "penstock/penstocktop.TopFinal", spec := "topFinal", inPlace := ["internal/bytealg.IndexByteString", "slices.overlaps[penstock/panes.Pane]"], unfollowed := true, recurses := true, named := ["penstock/query.aggs", "penstock/query.fields", "strconv.ErrSyntax", "strconv.ErrRange", "internal/strconv.uint64pow10", "math/bits.deBruijn32tab", "math/bits.deBruijn64tab"], apart := false, laid := [("math/bits.deBruijn32tab", laid_math_bits_deBruijn32tab), ("math/bits.deBruijn64tab", laid_math_bits_deBruijn64tab), ("internal/strconv.uint64pow10", laid_internal_strconv_uint64pow10), ("strconv.ErrRange", laid_strconv_ErrRange), ("strconv.ErrSyntax", laid_strconv_ErrSyntax), ("penstock/query.fields", laid_penstock_query_fields), ("penstock/query.aggs", laid_penstock_query_aggs)] }
def TopFinalSaid : Prop := topFinalRow.holds Tryz.pinned (OpenSpec.ofChange topFinalSpec)

/-- ITS FALSE NEIGHBOUR: 'it returns false'. Refute it at one input. -/
def topFinalWrong : ChangeSpec := { name := "topFinal", fn := fun _ => fun
  | [d1, d2, d3, d4] => { results := [.lit (.bool false)], args := [d1, d2, d3, d4] }
  | _ => none }
def TopFinalWrongFalsely : Prop := topFinalRow.holds Tryz.pinned (OpenSpec.ofChange topFinalWrong)

/-- 'penstocktop.TopTurns': WHATEVER THE INPUT: true; the input reads as it did. -/
def topTurnsSpec : ChangeSpec := { name := "topTurns", fn := fun _ => fun
  | [d1, d2, d3] => { results := [.lit (.bool true)], args := [d1, d2, d3] }
  | _ => none }
def topTurnsRow : OpenClaim := { program := "ytiflgceoamkmnaagreatdoor", sum := "eba2ad1c4861074fd41c1c8a6d1d31034af50caaa029f30b44b5983f5f771550", func := "penstock/penstocktop.TopTurns", spec := "topTurns", inPlace := ["internal/bytealg.IndexByteString", "slices.overlaps[penstock/panes.Pane]"], unfollowed := true, recurses := true, named := ["penstock/query.aggs", "penstock/query.fields", "strconv.ErrSyntax", "strconv.ErrRange", "internal/strconv.uint64pow10", "math/bits.deBruijn32tab", "math/bits.deBruijn64tab"], apart := false, laid := [("math/bits.deBruijn32tab", laid_math_bits_deBruijn32tab), ("math/bits.deBruijn64tab", laid_math_bits_deBruijn64tab), ("internal/strconv.uint64pow10", laid_internal_strconv_uint64pow10), ("strconv.ErrRange", laid_strconv_ErrRange), ("strconv.ErrSyntax", laid_strconv_ErrSyntax), ("penstock/query.fields", laid_penstock_query_fields), ("penstock/query.aggs", laid_penstock_query_aggs)] }
def TopTurnsSaid : Prop := topTurnsRow.holds Tryz.pinned (OpenSpec.ofChange topTurnsSpec)

/-- ITS FALSE NEIGHBOUR: 'it returns false'. Refute it at one input. -/
def topTurnsWrong : ChangeSpec := { name := "topTurns", fn := fun _ => fun
  | [d1, d2, d3] => { results := [.lit (.bool false)], args := [d1, d2, d3] }
  | _ => none }
def TopTurnsWrongFalsely : Prop := topTurnsRow.holds Tryz.pinned (OpenSpec.ofChange topTurnsWrong)

/-- 'penstocktop.TopLittle': WHATEVER THE INPUT: true; the input reads as it did. -/
def topLittleSpec : ChangeSpec := { name := "topLittle", fn := fun _ => fun
  | [d1, d2, d3] => { results := [.lit (.bool true)], args := [d1, d2, d3] }
  | _ => none }
def topLittleRow : OpenClaim := { program := "ytiflgceoamkmnaagreatdoor", sum := "eba2ad1c4861074fd41c1c8a6d1d31034af50caaa029f30b44b5983f5f771550", func := "penstock/penstocktop.TopLittle", spec := "topLittle", inPlace := ["internal/bytealg.IndexByteString", "slices.overlaps[penstock/panes.Pane]"], unfollowed := true, recurses := true, named := ["penstock/query.aggs", "penstock/query.fields", "strconv.ErrSyntax", "strconv.ErrRange", "internal/strconv.uint64pow10", "math/bits.deBruijn32tab", "math/bits.deBruijn64tab"], apart := false, laid := [("math/bits.deBruijn32tab", laid_math_bits_deBruijn32tab), ("math/bits.deBruijn64tab", laid_math_bits_deBruijn64tab), ("internal/strconv.uint64pow10", laid_internal_strconv_uint64pow10), ("strconv.ErrRange", laid_strconv_ErrRange), ("strconv.ErrSyntax", laid_strconv_ErrSyntax), ("penstock/query.fields", laid_penstock_query_fields), ("penstock/query.aggs", laid_penstock_query_aggs)] }
def TopLittleSaid : Prop := topLittleRow.holds Tryz.pinned (OpenSpec.ofChange topLittleSpec)

/-- ITS FALSE NEIGHBOUR: 'it returns false'. Refute it at one input. -/
def topLittleWrong : ChangeSpec := { name := "topLittle", fn := fun _ => fun
  | [d1, d2, d3] => { results := [.lit (.bool false)], args := [d1, d2, d3] }
  | _ => none }
def TopLittleWrongFalsely : Prop := topLittleRow.holds Tryz.pinned (OpenSpec.ofChange topLittleWrong)

/-- 'penstocktop.TopFold': WHATEVER THE INPUT: true; the input reads as it did. -/
def topFoldSpec : ChangeSpec := { name := "topFold", fn := fun _ => fun
  | [d1, d2] => { results := [.lit (.bool true)], args := [d1, d2] }
  | _ => none }
def topFoldRow : OpenClaim := { program := "ytiflgceoamkmnaagreatdoor", sum := "eba2ad1c4861074fd41c1c8a6d1d31034af50caaa029f30b44b5983f5f771550", func := "penstock/penstocktop.TopFold", spec := "topFold", inPlace := ["internal/bytealg.IndexByteString"], unfollowed := true, recurses := true, named := ["penstock/query.aggs", "penstock/query.fields", "strconv.ErrSyntax", "strconv.ErrRange", "internal/strconv.uint64pow10", "math/bits.deBruijn32tab", "math/bits.deBruijn64tab"], apart := false, laid := [("math/bits.deBruijn32tab", laid_math_bits_deBruijn32tab), ("math/bits.deBruijn64tab", laid_math_bits_deBruijn64tab), ("internal/strconv.uint64pow10", laid_internal_strconv_uint64pow10), ("strconv.ErrRange", laid_strconv_ErrRange), ("strconv.ErrSyntax", laid_strconv_ErrSyntax), ("penstock/query.fields", laid_penstock_query_fields), ("penstock/query.aggs", laid_penstock_query_aggs)] }
def TopFoldSaid : Prop := topFoldRow.holds Tryz.pinned (OpenSpec.ofChange topFoldSpec)

/-- ITS FALSE NEIGHBOUR: 'it returns false'. Refute it at one input. -/
def topFoldWrong : ChangeSpec := { name := "topFold", fn := fun _ => fun
  | [d1, d2] => { results := [.lit (.bool false)], args := [d1, d2] }
  | _ => none }
def TopFoldWrongFalsely : Prop := topFoldRow.holds Tryz.pinned (OpenSpec.ofChange topFoldWrong)

/-- 'penstocktop.TopSo': WHATEVER THE INPUT: true; the input reads as it did. -/
def topSoSpec : ChangeSpec := { name := "topSo", fn := fun _ => fun
  | [d1, d2, d3] => { results := [.lit (.bool true)], args := [d1, d2, d3] }
  | _ => none }
def topSoRow : OpenClaim := { program := "ytiflgceoamkmnaagreatdoor", sum := "eba2ad1c4861074fd41c1c8a6d1d31034af50caaa029f30b44b5983f5f771550", func := "penstock/penstocktop.TopSo", spec := "topSo", inPlace := ["internal/bytealg.IndexByteString", "slices.overlaps[penstock/panes.Pane]"], unfollowed := true, recurses := true, named := ["penstock/query.aggs", "penstock/query.fields", "strconv.ErrSyntax", "strconv.ErrRange", "internal/strconv.uint64pow10", "math/bits.deBruijn32tab", "math/bits.deBruijn64tab"], apart := false, laid := [("math/bits.deBruijn32tab", laid_math_bits_deBruijn32tab), ("math/bits.deBruijn64tab", laid_math_bits_deBruijn64tab), ("internal/strconv.uint64pow10", laid_internal_strconv_uint64pow10), ("strconv.ErrRange", laid_strconv_ErrRange), ("strconv.ErrSyntax", laid_strconv_ErrSyntax), ("penstock/query.fields", laid_penstock_query_fields), ("penstock/query.aggs", laid_penstock_query_aggs)] }
def TopSoSaid : Prop := topSoRow.holds Tryz.pinned (OpenSpec.ofChange topSoSpec)

/-- ITS FALSE NEIGHBOUR: 'it returns false'. Refute it at one input. -/
def topSoWrong : ChangeSpec := { name := "topSo", fn := fun _ => fun
  | [d1, d2, d3] => { results := [.lit (.bool false)], args := [d1, d2, d3] }
  | _ => none }
def TopSoWrongFalsely : Prop := topSoRow.holds Tryz.pinned (OpenSpec.ofChange topSoWrong)

/- THE SECOND FORM. 'bulk': how many values and letters a reading holds, each counted each time it is reached (what is shared counts as often as it is met; a slice's spare places count too). A statement '..UptoSaid' is the law's where the arguments, and the package variables that the reading takes, are together of bulk at most 1048576: NARROWER than '..Said'. Prove '..Said' where nothing that the law and all that it calls make is longer than what came in: it says more and counts as full. Else prove '..UptoSaid'. A law counts once. -/
mutual
def uptoBulk {H : Type} : DataW H → Nat
  | .lit (.string bytes) => bytes.length + 1
  | .lit _ => 1
  | .nil => 1
  | .ptr d => uptoBulk d + 1
  | .slice elems spare => uptoBulkAll elems + uptoBulkAll spare + 1
  | .agg parts => uptoBulkAll parts + 1
  | .iface _ d => uptoBulk d + 1
  | .map entries => uptoBulkEntries entries + 1
  | .held _ => 1
def uptoBulkAll {H : Type} : List (DataW H) → Nat
  | [] => 0
  | d :: r => uptoBulk d + uptoBulkAll r
def uptoBulkEntries {H : Type} : List (Lit × DataW H) → Nat
  | [] => 0
  | x :: r => uptoBulkEntry x + uptoBulkEntries r
def uptoBulkEntry {H : Type} : Lit × DataW H → Nat
  | (.string bytes, d) => bytes.length + uptoBulk d + 1
  | (_, d) => uptoBulk d + 1
 end
def uptoSmall : (H : Type) → List (DataW H) → Bool := fun _ ds => decide (uptoBulkAll ds ≤ 1048576)
def OpenSpec.upto (s : _root_.Go.ChangeSpec) : _root_.Go.OpenSpec := { _root_.Go.OpenSpec.ofChange s with cond := some uptoSmall }

/-- 'penstocklaw.EngineSays', WHERE WHAT IT READS IS OF BULK AT MOST 1048576: true; the input reads as it did. -/
def engineSaysUptoRow : OpenClaim := { program := "ytiflgceoamkmnaagreatdoor", sum := "eba2ad1c4861074fd41c1c8a6d1d31034af50caaa029f30b44b5983f5f771550", func := "penstock/penstocklaw.EngineSays", spec := "engineSays", inPlace := ["internal/bytealg.IndexByteString", "slices.overlaps[penstock/panes.Pane]"], unfollowed := true, recurses := true, named := ["penstock/query.aggs", "penstock/query.fields", "strconv.ErrSyntax", "strconv.ErrRange", "internal/strconv.uint64pow10", "math/bits.deBruijn32tab", "math/bits.deBruijn64tab"], apart := false, laid := [("math/bits.deBruijn32tab", laid_math_bits_deBruijn32tab), ("math/bits.deBruijn64tab", laid_math_bits_deBruijn64tab), ("internal/strconv.uint64pow10", laid_internal_strconv_uint64pow10), ("strconv.ErrRange", laid_strconv_ErrRange), ("strconv.ErrSyntax", laid_strconv_ErrSyntax), ("penstock/query.fields", laid_penstock_query_fields), ("penstock/query.aggs", laid_penstock_query_aggs)], narrowed := true }
def EngineSaysUptoSaid : Prop := engineSaysUptoRow.holds Tryz.pinned (OpenSpec.upto engineSaysSpec)

/-- 'penstocktop.TopNet', WHERE WHAT IT READS IS OF BULK AT MOST 1048576: true; the input reads as it did. -/
def topNetUptoRow : OpenClaim := { program := "ytiflgceoamkmnaagreatdoor", sum := "eba2ad1c4861074fd41c1c8a6d1d31034af50caaa029f30b44b5983f5f771550", func := "penstock/penstocktop.TopNet", spec := "topNet", inPlace := ["internal/bytealg.IndexByteString", "slices.overlaps[penstock/panes.Pane]"], unfollowed := true, recurses := true, named := ["penstock/query.aggs", "penstock/query.fields", "strconv.ErrSyntax", "strconv.ErrRange", "internal/strconv.uint64pow10", "math/bits.deBruijn32tab", "math/bits.deBruijn64tab"], apart := false, laid := [("math/bits.deBruijn32tab", laid_math_bits_deBruijn32tab), ("math/bits.deBruijn64tab", laid_math_bits_deBruijn64tab), ("internal/strconv.uint64pow10", laid_internal_strconv_uint64pow10), ("strconv.ErrRange", laid_strconv_ErrRange), ("strconv.ErrSyntax", laid_strconv_ErrSyntax), ("penstock/query.fields", laid_penstock_query_fields), ("penstock/query.aggs", laid_penstock_query_aggs)], narrowed := true }
def TopNetUptoSaid : Prop := topNetUptoRow.holds Tryz.pinned (OpenSpec.upto topNetSpec)

/-- 'penstocktop.TopFinal', WHERE WHAT IT READS IS OF BULK AT MOST 1048576: true; the input reads as it did. -/
def topFinalUptoRow : OpenClaim := { program := "ytiflgceoamkmnaagreatdoor", sum := "eba2ad1c4861074fd41c1c8a6d1d31034af50caaa029f30b44b5983f5f771550", func := "penstock/penstocktop.TopFinal", spec := "topFinal", inPlace := ["internal/bytealg.IndexByteString", "slices.overlaps[penstock/panes.Pane]"], unfollowed := true, recurses := true, named := ["penstock/query.aggs", "penstock/query.fields", "strconv.ErrSyntax", "strconv.ErrRange", "internal/strconv.uint64pow10", "math/bits.deBruijn32tab", "math/bits.deBruijn64tab"], apart := false, laid := [("math/bits.deBruijn32tab", laid_math_bits_deBruijn32tab), ("math/bits.deBruijn64tab", laid_math_bits_deBruijn64tab), ("internal/strconv.uint64pow10", laid_internal_strconv_uint64pow10), ("strconv.ErrRange", laid_strconv_ErrRange), ("strconv.ErrSyntax", laid_strconv_ErrSyntax), ("penstock/query.fields", laid_penstock_query_fields), ("penstock/query.aggs", laid_penstock_query_aggs)], narrowed := true }
def TopFinalUptoSaid : Prop := topFinalUptoRow.holds Tryz.pinned (OpenSpec.upto topFinalSpec)

/-- 'penstocktop.TopTurns', WHERE WHAT IT READS IS OF BULK AT MOST 1048576: true; the input reads as it did. -/
def topTurnsUptoRow : OpenClaim := { program := "ytiflgceoamkmnaagreatdoor", sum := "eba2ad1c4861074fd41c1c8a6d1d31034af50caaa029f30b44b5983f5f771550", func := "penstock/penstocktop.TopTurns", spec := "topTurns", inPlace := ["internal/bytealg.IndexByteString", "slices.overlaps[penstock/panes.Pane]"], unfollowed := true, recurses := true, named := ["penstock/query.aggs", "penstock/query.fields", "strconv.ErrSyntax", "strconv.ErrRange", "internal/strconv.uint64pow10", "math/bits.deBruijn32tab", "math/bits.deBruijn64tab"], apart := false, laid := [("math/bits.deBruijn32tab", laid_math_bits_deBruijn32tab), ("math/bits.deBruijn64tab", laid_math_bits_deBruijn64tab), ("internal/strconv.uint64pow10", laid_internal_strconv_uint64pow10), ("strconv.ErrRange", laid_strconv_ErrRange), ("strconv.ErrSyntax", laid_strconv_ErrSyntax), ("penstock/query.fields", laid_penstock_query_fields), ("penstock/query.aggs", laid_penstock_query_aggs)], narrowed := true }
def TopTurnsUptoSaid : Prop := topTurnsUptoRow.holds Tryz.pinned (OpenSpec.upto topTurnsSpec)

/-- 'penstocktop.TopLittle', WHERE WHAT IT READS IS OF BULK AT MOST 1048576: true; the input reads as it did. -/
def topLittleUptoRow : OpenClaim := { program := "ytiflgceoamkmnaagreatdoor", sum := "eba2ad1c4861074fd41c1c8a6d1d31034af50caaa029f30b44b5983f5f771550", func := "penstock/penstocktop.TopLittle", spec := "topLittle", inPlace := ["internal/bytealg.IndexByteString", "slices.overlaps[penstock/panes.Pane]"], unfollowed := true, recurses := true, named := ["penstock/query.aggs", "penstock/query.fields", "strconv.ErrSyntax", "strconv.ErrRange", "internal/strconv.uint64pow10", "math/bits.deBruijn32tab", "math/bits.deBruijn64tab"], apart := false, laid := [("math/bits.deBruijn32tab", laid_math_bits_deBruijn32tab), ("math/bits.deBruijn64tab", laid_math_bits_deBruijn64tab), ("internal/strconv.uint64pow10", laid_internal_strconv_uint64pow10), ("strconv.ErrRange", laid_strconv_ErrRange), ("strconv.ErrSyntax", laid_strconv_ErrSyntax), ("penstock/query.fields", laid_penstock_query_fields), ("penstock/query.aggs", laid_penstock_query_aggs)], narrowed := true }
def TopLittleUptoSaid : Prop := topLittleUptoRow.holds Tryz.pinned (OpenSpec.upto topLittleSpec)

/-- 'penstocktop.TopFold', WHERE WHAT IT READS IS OF BULK AT MOST 1048576: true; the input reads as it did. -/
def topFoldUptoRow : OpenClaim := { program := "ytiflgceoamkmnaagreatdoor", sum := "eba2ad1c4861074fd41c1c8a6d1d31034af50caaa029f30b44b5983f5f771550", func := "penstock/penstocktop.TopFold", spec := "topFold", inPlace := ["internal/bytealg.IndexByteString"], unfollowed := true, recurses := true, named := ["penstock/query.aggs", "penstock/query.fields", "strconv.ErrSyntax", "strconv.ErrRange", "internal/strconv.uint64pow10", "math/bits.deBruijn32tab", "math/bits.deBruijn64tab"], apart := false, laid := [("math/bits.deBruijn32tab", laid_math_bits_deBruijn32tab), ("math/bits.deBruijn64tab", laid_math_bits_deBruijn64tab), ("internal/strconv.uint64pow10", laid_internal_strconv_uint64pow10), ("strconv.ErrRange", laid_strconv_ErrRange), ("strconv.ErrSyntax", laid_strconv_ErrSyntax), ("penstock/query.fields", laid_penstock_query_fields), ("penstock/query.aggs", laid_penstock_query_aggs)], narrowed := true }
def TopFoldUptoSaid : Prop := topFoldUptoRow.holds Tryz.pinned (OpenSpec.upto topFoldSpec)

/-- 'penstocktop.TopSo', WHERE WHAT IT READS IS OF BULK AT MOST 1048576: true; the input reads as it did. -/
def topSoUptoRow : OpenClaim := { program := "ytiflgceoamkmnaagreatdoor", sum := "eba2ad1c4861074fd41c1c8a6d1d31034af50caaa029f30b44b5983f5f771550", func := "penstock/penstocktop.TopSo", spec := "topSo", inPlace := ["internal/bytealg.IndexByteString", "slices.overlaps[penstock/panes.Pane]"], unfollowed := true, recurses := true, named := ["penstock/query.aggs", "penstock/query.fields", "strconv.ErrSyntax", "strconv.ErrRange", "internal/strconv.uint64pow10", "math/bits.deBruijn32tab", "math/bits.deBruijn64tab"], apart := false, laid := [("math/bits.deBruijn32tab", laid_math_bits_deBruijn32tab), ("math/bits.deBruijn64tab", laid_math_bits_deBruijn64tab), ("internal/strconv.uint64pow10", laid_internal_strconv_uint64pow10), ("strconv.ErrRange", laid_strconv_ErrRange), ("strconv.ErrSyntax", laid_strconv_ErrSyntax), ("penstock/query.fields", laid_penstock_query_fields), ("penstock/query.aggs", laid_penstock_query_aggs)], narrowed := true }
def TopSoUptoSaid : Prop := topSoUptoRow.holds Tryz.pinned (OpenSpec.upto topSoSpec)

end Rows
end Go.Proofs.YtiflgceoamkmnaaGreatDoor
