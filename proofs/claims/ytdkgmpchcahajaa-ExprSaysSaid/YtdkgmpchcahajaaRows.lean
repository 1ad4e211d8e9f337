/-
  No cell of these rows narrows 'for every input' (looked for: loops, veiled, ifaces, maps, wideKeys, modest, calm, conditions, laid).
  DERIVED. THE GIVEN ROWS OF THIS SEAT. 11 by the template 'for every input the law returns true; each argument reads behind the call as it read before'; 0 by the template 'total and deterministic' (their statements: YtdkgmpchcahajaaTotals.lean).
  GIVEN WITH THE SEED: the statements are not yours to turn. If you find one false, say at which input.
  Laid BY PROGRAM, IN A SANDBOX (cutbox-rows.mjs): the forced cells as the released guide's own fill.sh prints them over the translation 67734f2ef1eb57e7… (all of the seat's roots in one cut). By AI agents, Wed Nov 11 2026. No macro, syntax, notation, axiom, sorry.
-/
import Derived.Test.YtdkgmpchcahajaaChecked
import GoSem.Claim
import GoSem.ClaimJoined
import GoSem.ClaimMapViews
import Derived.JoinedTies
import Derived.KernelRfl
namespace Go.Proofs.Ytdkgmpchcahajaa
/- THE CELL 'sum', in the pinned program and in every row, IS THE sha256 OF THE DUMP (.gsa) THAT YtdkgmpchcahajaaProg.lean LOADS. Nothing in Lean hashes anything: it is a label: what it is worth is what the hold of that sum in a sandbox is worth. -/
noncomputable def Try.pinned : Pinned := { name := "ytdkgmpchcahajaa", sum := "67734f2ef1eb57e7847ccd9749ce242db3b03a6986ae0ed24775b26ae1ee0cec", checked := Try.checked }
namespace Rows
def none {H : Type} : Left H := { results := [], args := [] }

/-- 'penstocklaw.ClockSays': WHATEVER THE INPUT: true; the input reads as it did. -/
def clockSaysSpec : ChangeSpec := { name := "clockSays", fn := fun _ => fun
  | [d1, d2, d3] => { results := [.lit (.bool true)], args := [d1, d2, d3] }
  | _ => none }
def clockSaysRow : OpenClaim := { program := "ytdkgmpchcahajaa", sum := "67734f2ef1eb57e7847ccd9749ce242db3b03a6986ae0ed24775b26ae1ee0cec", func := "penstock/penstocklaw.ClockSays", spec := "clockSays", plainKeys := false, apart := false }
def ClockSaysSaid : Prop := clockSaysRow.holds Try.pinned (OpenSpec.ofChange clockSaysSpec)

/-- ITS FALSE NEIGHBOUR: 'it returns false'. Refute it at one input. -/
def clockSaysWrong : ChangeSpec := { name := "clockSays", fn := fun _ => fun
  | [d1, d2, d3] => { results := [.lit (.bool false)], args := [d1, d2, d3] }
  | _ => none }
def ClockSaysWrongFalsely : Prop := clockSaysRow.holds Try.pinned (OpenSpec.ofChange clockSaysWrong)

/-- 'penstocklaw.LexerSays': WHATEVER THE INPUT: true; the input reads as it did. -/
def lexerSaysSpec : ChangeSpec := { name := "lexerSays", fn := fun _ => fun
  | [d] => { results := [.lit (.bool true)], args := [d] }
  | _ => none }
def lexerSaysRow : OpenClaim := { program := "ytdkgmpchcahajaa", sum := "67734f2ef1eb57e7847ccd9749ce242db3b03a6986ae0ed24775b26ae1ee0cec", func := "penstock/penstocklaw.LexerSays", spec := "lexerSays", inPlace := ["internal/bytealg.IndexByteString"], plainKeys := false, apart := false }
def LexerSaysSaid : Prop := lexerSaysRow.holds Try.pinned (OpenSpec.ofChange lexerSaysSpec)

/-- ITS FALSE NEIGHBOUR: 'it returns false'. Refute it at one input. -/
def lexerSaysWrong : ChangeSpec := { name := "lexerSays", fn := fun _ => fun
  | [d] => { results := [.lit (.bool false)], args := [d] }
  | _ => none }
def LexerSaysWrongFalsely : Prop := lexerSaysRow.holds Try.pinned (OpenSpec.ofChange lexerSaysWrong)

/-- 'penstocklaw.SourceSays': WHATEVER THE INPUT: true; the input reads as it did. -/
def sourceSaysSpec : ChangeSpec := { name := "sourceSays", fn := fun _ => fun
  | [d1, d2, d3, d4] => { results := [.lit (.bool true)], args := [d1, d2, d3, d4] }
  | _ => none }
def sourceSaysRow : OpenClaim := { program := "ytdkgmpchcahajaa", sum := "67734f2ef1eb57e7847ccd9749ce242db3b03a6986ae0ed24775b26ae1ee0cec", func := "penstock/penstocklaw.SourceSays", spec := "sourceSays", plainKeys := false, apart := false }
def SourceSaysSaid : Prop := sourceSaysRow.holds Try.pinned (OpenSpec.ofChange sourceSaysSpec)

/-- ITS FALSE NEIGHBOUR: 'it returns false'. Refute it at one input. -/
def sourceSaysWrong : ChangeSpec := { name := "sourceSays", fn := fun _ => fun
  | [d1, d2, d3, d4] => { results := [.lit (.bool false)], args := [d1, d2, d3, d4] }
  | _ => none }
def SourceSaysWrongFalsely : Prop := sourceSaysRow.holds Try.pinned (OpenSpec.ofChange sourceSaysWrong)

/-- 'penstocklaw.DiskSays': WHATEVER THE INPUT: true; the input reads as it did. -/
def diskSaysSpec : ChangeSpec := { name := "diskSays", fn := fun _ => fun
  | [d1, d2] => { results := [.lit (.bool true)], args := [d1, d2] }
  | _ => none }
def diskSaysRow : OpenClaim := { program := "ytdkgmpchcahajaa", sum := "67734f2ef1eb57e7847ccd9749ce242db3b03a6986ae0ed24775b26ae1ee0cec", func := "penstock/penstocklaw.DiskSays", spec := "diskSays", plainKeys := false, apart := false }
def DiskSaysSaid : Prop := diskSaysRow.holds Try.pinned (OpenSpec.ofChange diskSaysSpec)

/-- ITS FALSE NEIGHBOUR: 'it returns false'. Refute it at one input. -/
def diskSaysWrong : ChangeSpec := { name := "diskSays", fn := fun _ => fun
  | [d1, d2] => { results := [.lit (.bool false)], args := [d1, d2] }
  | _ => none }
def DiskSaysWrongFalsely : Prop := diskSaysRow.holds Try.pinned (OpenSpec.ofChange diskSaysWrong)

/-- 'penstocklaw.ExprSays': WHATEVER THE INPUT: true; the input reads as it did. -/
def exprSaysSpec : ChangeSpec := { name := "exprSays", fn := fun _ => fun
  | [d1, d2, d3, d4] => { results := [.lit (.bool true)], args := [d1, d2, d3, d4] }
  | _ => none }
def exprSaysRow : OpenClaim := { program := "ytdkgmpchcahajaa", sum := "67734f2ef1eb57e7847ccd9749ce242db3b03a6986ae0ed24775b26ae1ee0cec", func := "penstock/penstocklaw.ExprSays", spec := "exprSays", recurses := true, plainKeys := false, apart := false }
def ExprSaysSaid : Prop := exprSaysRow.holds Try.pinned (OpenSpec.ofChange exprSaysSpec)

/-- ITS FALSE NEIGHBOUR: 'it returns false'. Refute it at one input. -/
def exprSaysWrong : ChangeSpec := { name := "exprSays", fn := fun _ => fun
  | [d1, d2, d3, d4] => { results := [.lit (.bool false)], args := [d1, d2, d3, d4] }
  | _ => none }
def ExprSaysWrongFalsely : Prop := exprSaysRow.holds Try.pinned (OpenSpec.ofChange exprSaysWrong)

/-- 'penstocklaw.PanesSays': WHATEVER THE INPUT: true; the input reads as it did. -/
def panesSaysSpec : ChangeSpec := { name := "panesSays", fn := fun _ => fun
  | [d1, d2, d3] => { results := [.lit (.bool true)], args := [d1, d2, d3] }
  | _ => none }
def panesSaysRow : OpenClaim := { program := "ytdkgmpchcahajaa", sum := "67734f2ef1eb57e7847ccd9749ce242db3b03a6986ae0ed24775b26ae1ee0cec", func := "penstock/penstocklaw.PanesSays", spec := "panesSays", inPlace := ["slices.overlaps[penstock/panes.Pane]"], unfollowed := true, recurses := true, plainKeys := false, apart := false }
def PanesSaysSaid : Prop := panesSaysRow.holds Try.pinned (OpenSpec.ofChange panesSaysSpec)

/-- ITS FALSE NEIGHBOUR: 'it returns false'. Refute it at one input. -/
def panesSaysWrong : ChangeSpec := { name := "panesSays", fn := fun _ => fun
  | [d1, d2, d3] => { results := [.lit (.bool false)], args := [d1, d2, d3] }
  | _ => none }
def PanesSaysWrongFalsely : Prop := panesSaysRow.holds Try.pinned (OpenSpec.ofChange panesSaysWrong)

/-- 'penstocktop.TopClock': WHATEVER THE INPUT: true; the input reads as it did. -/
def topClockSpec : ChangeSpec := { name := "topClock", fn := fun _ => fun
  | [d1, d2, d3] => { results := [.lit (.bool true)], args := [d1, d2, d3] }
  | _ => none }
def topClockRow : OpenClaim := { program := "ytdkgmpchcahajaa", sum := "67734f2ef1eb57e7847ccd9749ce242db3b03a6986ae0ed24775b26ae1ee0cec", func := "penstock/penstocktop.TopClock", spec := "topClock", plainKeys := false, apart := false }
def TopClockSaid : Prop := topClockRow.holds Try.pinned (OpenSpec.ofChange topClockSpec)

/-- ITS FALSE NEIGHBOUR: 'it returns false'. Refute it at one input. -/
def topClockWrong : ChangeSpec := { name := "topClock", fn := fun _ => fun
  | [d1, d2, d3] => { results := [.lit (.bool false)], args := [d1, d2, d3] }
  | _ => none }
def TopClockWrongFalsely : Prop := topClockRow.holds Try.pinned (OpenSpec.ofChange topClockWrong)

/-- 'penstocktop.TopOrder': WHATEVER THE INPUT: true; the input reads as it did. -/
def topOrderSpec : ChangeSpec := { name := "topOrder", fn := fun _ => fun
  | [d1, d2, d3] => { results := [.lit (.bool true)], args := [d1, d2, d3] }
  | _ => none }
def topOrderRow : OpenClaim := { program := "ytdkgmpchcahajaa", sum := "67734f2ef1eb57e7847ccd9749ce242db3b03a6986ae0ed24775b26ae1ee0cec", func := "penstock/penstocktop.TopOrder", spec := "topOrder", plainKeys := false, apart := false }
def TopOrderSaid : Prop := topOrderRow.holds Try.pinned (OpenSpec.ofChange topOrderSpec)

/-- ITS FALSE NEIGHBOUR: 'it returns false'. Refute it at one input. -/
def topOrderWrong : ChangeSpec := { name := "topOrder", fn := fun _ => fun
  | [d1, d2, d3] => { results := [.lit (.bool false)], args := [d1, d2, d3] }
  | _ => none }
def TopOrderWrongFalsely : Prop := topOrderRow.holds Try.pinned (OpenSpec.ofChange topOrderWrong)

/-- 'penstocktop.TopWords': WHATEVER THE INPUT: true; the input reads as it did. -/
def topWordsSpec : ChangeSpec := { name := "topWords", fn := fun _ => fun
  | [d1, d2] => { results := [.lit (.bool true)], args := [d1, d2] }
  | _ => none }
def topWordsRow : OpenClaim := { program := "ytdkgmpchcahajaa", sum := "67734f2ef1eb57e7847ccd9749ce242db3b03a6986ae0ed24775b26ae1ee0cec", func := "penstock/penstocktop.TopWords", spec := "topWords", inPlace := ["internal/bytealg.IndexByteString"], plainKeys := false, apart := false }
def TopWordsSaid : Prop := topWordsRow.holds Try.pinned (OpenSpec.ofChange topWordsSpec)

/-- ITS FALSE NEIGHBOUR: 'it returns false'. Refute it at one input. -/
def topWordsWrong : ChangeSpec := { name := "topWords", fn := fun _ => fun
  | [d1, d2] => { results := [.lit (.bool false)], args := [d1, d2] }
  | _ => none }
def TopWordsWrongFalsely : Prop := topWordsRow.holds Try.pinned (OpenSpec.ofChange topWordsWrong)

/-- 'penstocktop.TopLogic': WHATEVER THE INPUT: true; the input reads as it did. -/
def topLogicSpec : ChangeSpec := { name := "topLogic", fn := fun _ => fun
  | [d1, d2, d3] => { results := [.lit (.bool true)], args := [d1, d2, d3] }
  | _ => none }
def topLogicRow : OpenClaim := { program := "ytdkgmpchcahajaa", sum := "67734f2ef1eb57e7847ccd9749ce242db3b03a6986ae0ed24775b26ae1ee0cec", func := "penstock/penstocktop.TopLogic", spec := "topLogic", plainKeys := false, apart := false }
def TopLogicSaid : Prop := topLogicRow.holds Try.pinned (OpenSpec.ofChange topLogicSpec)

/-- ITS FALSE NEIGHBOUR: 'it returns false'. Refute it at one input. -/
def topLogicWrong : ChangeSpec := { name := "topLogic", fn := fun _ => fun
  | [d1, d2, d3] => { results := [.lit (.bool false)], args := [d1, d2, d3] }
  | _ => none }
def TopLogicWrongFalsely : Prop := topLogicRow.holds Try.pinned (OpenSpec.ofChange topLogicWrong)

/-- 'penstocktop.TopDisk': WHATEVER THE INPUT: true; the input reads as it did. -/
def topDiskSpec : ChangeSpec := { name := "topDisk", fn := fun _ => fun
  | [d1, d2, d3] => { results := [.lit (.bool true)], args := [d1, d2, d3] }
  | _ => none }
def topDiskRow : OpenClaim := { program := "ytdkgmpchcahajaa", sum := "67734f2ef1eb57e7847ccd9749ce242db3b03a6986ae0ed24775b26ae1ee0cec", func := "penstock/penstocktop.TopDisk", spec := "topDisk", plainKeys := false, apart := false }
def TopDiskSaid : Prop := topDiskRow.holds Try.pinned (OpenSpec.ofChange topDiskSpec)

/-- ITS FALSE NEIGHBOUR: 'it returns false'. Refute it at one input. -/
def topDiskWrong : ChangeSpec := { name := "topDisk", fn := fun _ => fun
  | [d1, d2, d3] => { results := [.lit (.bool false)], args := [d1, d2, d3] }
  | _ => none }
def TopDiskWrongFalsely : Prop := topDiskRow.holds Try.pinned (OpenSpec.ofChange topDiskWrong)

/- THE SECOND FORM. 'bulk': how many values and letters a reading holds, each counted each time it is reached (what is shared counts as often as it is met; a slice's spare places count too). A statement '..UptoSaid' is the law's where the arguments, and the package variables that the reading takes, are together of bulk at most 1048576: NARROWER than '..Said'. Prove '..Said' where nothing that the law and all that it calls make is longer than what came in: it says more and counts as full. Else prove '..UptoSaid'. A law counts once. -/
mutual
def uptoBulk {H : Type} : DataW H → Nat
  | .lit (.string bytes) => bytes.length + 1
  | .lit _ => 1
  | .nil => 1
  | .ptr d => uptoBulk d + 1
  | .slice elems spare => uptoBulkAll elems + uptoBulkAll spare + 1
  | .agg parts => uptoBulkAll parts + 1
  | .iface _ d => uptoBulk d + 1
  | .map entries => uptoBulkEntries entries + 1
  | .held _ => 1
def uptoBulkAll {H : Type} : List (DataW H) → Nat
  | [] => 0
  | d :: r => uptoBulk d + uptoBulkAll r
def uptoBulkEntries {H : Type} : List (Lit × DataW H) → Nat
  | [] => 0
  | x :: r => uptoBulkEntry x + uptoBulkEntries r
def uptoBulkEntry {H : Type} : Lit × DataW H → Nat
  | (.string bytes, d) => bytes.length + uptoBulk d + 1
  | (_, d) => uptoBulk d + 1
 end
def uptoSmall : (H : Type) → List (DataW H) → Bool := fun _ ds => decide (uptoBulkAll ds ≤ 1048576)
def OpenSpec.upto (s : _root_.Go.ChangeSpec) : _root_.Go.OpenSpec := { _root_.Go.OpenSpec.ofChange s with cond := some uptoSmall }

/-- 'penstocklaw.ClockSays', WHERE WHAT IT READS IS OF BULK AT MOST 1048576: true; the input reads as it did. -/
def clockSaysUptoRow : OpenClaim := { program := "ytdkgmpchcahajaa", sum := "67734f2ef1eb57e7847ccd9749ce242db3b03a6986ae0ed24775b26ae1ee0cec", func := "penstock/penstocklaw.ClockSays", spec := "clockSays", plainKeys := false, apart := false, narrowed := true }
def ClockSaysUptoSaid : Prop := clockSaysUptoRow.holds Try.pinned (OpenSpec.upto clockSaysSpec)

/-- 'penstocklaw.LexerSays', WHERE WHAT IT READS IS OF BULK AT MOST 1048576: true; the input reads as it did. -/
def lexerSaysUptoRow : OpenClaim := { program := "ytdkgmpchcahajaa", sum := "67734f2ef1eb57e7847ccd9749ce242db3b03a6986ae0ed24775b26ae1ee0cec", func := "penstock/penstocklaw.LexerSays", spec := "lexerSays", inPlace := ["internal/bytealg.IndexByteString"], plainKeys := false, apart := false, narrowed := true }
def LexerSaysUptoSaid : Prop := lexerSaysUptoRow.holds Try.pinned (OpenSpec.upto lexerSaysSpec)

/-- 'penstocklaw.SourceSays', WHERE WHAT IT READS IS OF BULK AT MOST 1048576: true; the input reads as it did. -/
def sourceSaysUptoRow : OpenClaim := { program := "ytdkgmpchcahajaa", sum := "67734f2ef1eb57e7847ccd9749ce242db3b03a6986ae0ed24775b26ae1ee0cec", func := "penstock/penstocklaw.SourceSays", spec := "sourceSays", plainKeys := false, apart := false, narrowed := true }
def SourceSaysUptoSaid : Prop := sourceSaysUptoRow.holds Try.pinned (OpenSpec.upto sourceSaysSpec)

/-- 'penstocklaw.DiskSays', WHERE WHAT IT READS IS OF BULK AT MOST 1048576: true; the input reads as it did. -/
def diskSaysUptoRow : OpenClaim := { program := "ytdkgmpchcahajaa", sum := "67734f2ef1eb57e7847ccd9749ce242db3b03a6986ae0ed24775b26ae1ee0cec", func := "penstock/penstocklaw.DiskSays", spec := "diskSays", plainKeys := false, apart := false, narrowed := true }
def DiskSaysUptoSaid : Prop := diskSaysUptoRow.holds Try.pinned (OpenSpec.upto diskSaysSpec)

/-- 'penstocklaw.ExprSays', WHERE WHAT IT READS IS OF BULK AT MOST 1048576: true; the input reads as it did. -/
def exprSaysUptoRow : OpenClaim := { program := "ytdkgmpchcahajaa", sum := "67734f2ef1eb57e7847ccd9749ce242db3b03a6986ae0ed24775b26ae1ee0cec", func := "penstock/penstocklaw.ExprSays", spec := "exprSays", recurses := true, plainKeys := false, apart := false, narrowed := true }
def ExprSaysUptoSaid : Prop := exprSaysUptoRow.holds Try.pinned (OpenSpec.upto exprSaysSpec)

/-- 'penstocklaw.PanesSays', WHERE WHAT IT READS IS OF BULK AT MOST 1048576: true; the input reads as it did. -/
def panesSaysUptoRow : OpenClaim := { program := "ytdkgmpchcahajaa", sum := "67734f2ef1eb57e7847ccd9749ce242db3b03a6986ae0ed24775b26ae1ee0cec", func := "penstock/penstocklaw.PanesSays", spec := "panesSays", inPlace := ["slices.overlaps[penstock/panes.Pane]"], unfollowed := true, recurses := true, plainKeys := false, apart := false, narrowed := true }
def PanesSaysUptoSaid : Prop := panesSaysUptoRow.holds Try.pinned (OpenSpec.upto panesSaysSpec)

/-- 'penstocktop.TopClock', WHERE WHAT IT READS IS OF BULK AT MOST 1048576: true; the input reads as it did. -/
def topClockUptoRow : OpenClaim := { program := "ytdkgmpchcahajaa", sum := "67734f2ef1eb57e7847ccd9749ce242db3b03a6986ae0ed24775b26ae1ee0cec", func := "penstock/penstocktop.TopClock", spec := "topClock", plainKeys := false, apart := false, narrowed := true }
def TopClockUptoSaid : Prop := topClockUptoRow.holds Try.pinned (OpenSpec.upto topClockSpec)

/-- 'penstocktop.TopOrder', WHERE WHAT IT READS IS OF BULK AT MOST 1048576: true; the input reads as it did. -/
def topOrderUptoRow : OpenClaim := { program := "ytdkgmpchcahajaa", sum := "67734f2ef1eb57e7847ccd9749ce242db3b03a6986ae0ed24775b26ae1ee0cec", func := "penstock/penstocktop.TopOrder", spec := "topOrder", plainKeys := false, apart := false, narrowed := true }
def TopOrderUptoSaid : Prop := topOrderUptoRow.holds Try.pinned (OpenSpec.upto topOrderSpec)

/-- 'penstocktop.TopWords', WHERE WHAT IT READS IS OF BULK AT MOST 1048576: true; the input reads as it did. -/
def topWordsUptoRow : OpenClaim := { program := "ytdkgmpchcahajaa", sum := "67734f2ef1eb57e7847ccd9749ce242db3b03a6986ae0ed24775b26ae1ee0cec", func := "penstock/penstocktop.TopWords", spec := "topWords", inPlace := ["internal/bytealg.IndexByteString"], plainKeys := false, apart := false, narrowed := true }
def TopWordsUptoSaid : Prop := topWordsUptoRow.holds Try.pinned (OpenSpec.upto topWordsSpec)

/-- 'penstocktop.TopLogic', WHERE WHAT IT READS IS OF BULK AT MOST 1048576: true; the input reads as it did. -/
def topLogicUptoRow : OpenClaim := { program := "ytdkgmpchcahajaa", sum := "67734f2ef1eb57e7847ccd9749ce242db3b03a6986ae0ed24775b26ae1ee0cec", func := "penstock/penstocktop.TopLogic", spec := "topLogic", plainKeys := false, apart := false, narrowed := true }
def TopLogicUptoSaid : Prop := topLogicUptoRow.holds Try.pinned (OpenSpec.upto topLogicSpec)

/-- 'penstocktop.TopDisk', WHERE WHAT IT READS IS OF BULK AT MOST 1048576: true; the input reads as it did. -/
def topDiskUptoRow : OpenClaim := { program := "ytdkgmpchcahajaa", sum := "67734f2ef1eb57e7847ccd9749ce242db3b03a6986ae0ed24775b26ae1ee0cec", func := "penstock/penstocktop.TopDisk", spec := "topDisk", plainKeys := false, apart := false, narrowed := true }
def TopDiskUptoSaid : Prop := topDiskUptoRow.holds Try.pinned (OpenSpec.upto topDiskSpec)

end Rows
end Go.Proofs.Ytdkgmpchcahajaa
