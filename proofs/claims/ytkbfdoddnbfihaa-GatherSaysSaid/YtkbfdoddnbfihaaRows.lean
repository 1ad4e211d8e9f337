/-
  No cell of these rows narrows 'for every input' (looked for: loops, veiled, ifaces, maps, wideKeys, modest, calm, conditions, laid).
  DERIVED. THE GIVEN ROWS OF THIS SEAT. 11 by the template 'for every input the law returns true; each argument reads behind the call as it read before'; 0 by the template 'total and deterministic' (their statements: YtkbfdoddnbfihaaTotals.lean).
  GIVEN WITH THE SEED: the statements are not yours to turn. If you find one false, say at which input.
  Laid BY PROGRAM, IN A SANDBOX (cutbox-rows.mjs): the forced cells as the released guide's own fill.sh prints them over the translation 3b5475cc180883ca… (all of the seat's roots in one cut). By AI agents, Wed Nov 11 2026. No macro, syntax, notation, axiom, sorry.
-/
import Derived.Test.YtkbfdoddnbfihaaChecked
import GoSem.Claim
import GoSem.ClaimJoined
import GoSem.ClaimMapViews
import Derived.JoinedTies
import Derived.KernelRfl
namespace Go.Proofs.Ytkbfdoddnbfihaa
/- THE CELL 'sum', in the pinned program and in every row, IS THE sha256 OF THE DUMP (.gsa) THAT YtkbfdoddnbfihaaProg.lean LOADS. Nothing in Lean hashes anything: it is a label: what it is worth is what the hold of that sum in a sandbox is worth. -/
noncomputable def Try.pinned : Pinned := { name := "ytkbfdoddnbfihaa", sum := "3b5475cc180883caaf1ca531fd072708e66ef3a5b41ea54ff306d0f299d03394", checked := Try.checked }
namespace Rows
def none {H : Type} : Left H := { results := [], args := [] }

/-- 'penstocklaw.WindowSays': WHATEVER THE INPUT: true; the input reads as it did. -/
def windowSaysSpec : ChangeSpec := { name := "windowSays", fn := fun _ => fun
  | [d1, d2, d3] => { results := [.lit (.bool true)], args := [d1, d2, d3] }
  | _ => none }
def windowSaysRow : OpenClaim := { program := "ytkbfdoddnbfihaa", sum := "3b5475cc180883caaf1ca531fd072708e66ef3a5b41ea54ff306d0f299d03394", func := "penstock/penstocklaw.WindowSays", spec := "windowSays", plainKeys := false, apart := false }
def WindowSaysSaid : Prop := windowSaysRow.holds Try.pinned (OpenSpec.ofChange windowSaysSpec)

/-- ITS FALSE NEIGHBOUR: 'it returns false'. Refute it at one input. -/
def windowSaysWrong : ChangeSpec := { name := "windowSays", fn := fun _ => fun
  | [d1, d2, d3] => { results := [.lit (.bool false)], args := [d1, d2, d3] }
  | _ => none }
def WindowSaysWrongFalsely : Prop := windowSaysRow.holds Try.pinned (OpenSpec.ofChange windowSaysWrong)

/-- 'penstocklaw.GatherSays': WHATEVER THE INPUT: true; the input reads as it did. -/
def gatherSaysSpec : ChangeSpec := { name := "gatherSays", fn := fun _ => fun
  | [d1, d2] => { results := [.lit (.bool true)], args := [d1, d2] }
  | _ => none }
def gatherSaysRow : OpenClaim := { program := "ytkbfdoddnbfihaa", sum := "3b5475cc180883caaf1ca531fd072708e66ef3a5b41ea54ff306d0f299d03394", func := "penstock/penstocklaw.GatherSays", spec := "gatherSays", plainKeys := false, apart := false }
def GatherSaysSaid : Prop := gatherSaysRow.holds Try.pinned (OpenSpec.ofChange gatherSaysSpec)

/-- ITS FALSE NEIGHBOUR: 'it returns false'. Refute it at one input. -/
def gatherSaysWrong : ChangeSpec := { name := "gatherSays", fn := fun _ => fun
  | [d1, d2] => { results := [.lit (.bool false)], args := [d1, d2] }
  | _ => none }
def GatherSaysWrongFalsely : Prop := gatherSaysRow.holds Try.pinned (OpenSpec.ofChange gatherSaysWrong)

/-- 'penstocklaw.ClockSays': WHATEVER THE INPUT: true; the input reads as it did. -/
def clockSaysSpec : ChangeSpec := { name := "clockSays", fn := fun _ => fun
  | [d1, d2, d3] => { results := [.lit (.bool true)], args := [d1, d2, d3] }
  | _ => none }
def clockSaysRow : OpenClaim := { program := "ytkbfdoddnbfihaa", sum := "3b5475cc180883caaf1ca531fd072708e66ef3a5b41ea54ff306d0f299d03394", func := "penstock/penstocklaw.ClockSays", spec := "clockSays", plainKeys := false, apart := false }
def ClockSaysSaid : Prop := clockSaysRow.holds Try.pinned (OpenSpec.ofChange clockSaysSpec)

/-- ITS FALSE NEIGHBOUR: 'it returns false'. Refute it at one input. -/
def clockSaysWrong : ChangeSpec := { name := "clockSays", fn := fun _ => fun
  | [d1, d2, d3] => { results := [.lit (.bool false)], args := [d1, d2, d3] }
  | _ => none }
def ClockSaysWrongFalsely : Prop := clockSaysRow.holds Try.pinned (OpenSpec.ofChange clockSaysWrong)

/-- 'penstocklaw.LexerSays': WHATEVER THE INPUT: true; the input reads as it did. -/
def lexerSaysSpec : ChangeSpec := { name := "lexerSays", fn := fun _ => fun
  | [d] => { results := [.lit (.bool true)], args := [d] }
  | _ => none }
def lexerSaysRow : OpenClaim := { program := "ytkbfdoddnbfihaa", sum := "3b5475cc180883caaf1ca531fd072708e66ef3a5b41ea54ff306d0f299d03394", func := "penstock/penstocklaw.LexerSays", spec := "lexerSays", inPlace := ["internal/bytealg.IndexByteString"], plainKeys := false, apart := false }
def LexerSaysSaid : Prop := lexerSaysRow.holds Try.pinned (OpenSpec.ofChange lexerSaysSpec)

/-- ITS FALSE NEIGHBOUR: 'it returns false'. Refute it at one input. -/
def lexerSaysWrong : ChangeSpec := { name := "lexerSays", fn := fun _ => fun
  | [d] => { results := [.lit (.bool false)], args := [d] }
  | _ => none }
def LexerSaysWrongFalsely : Prop := lexerSaysRow.holds Try.pinned (OpenSpec.ofChange lexerSaysWrong)

/-- 'penstocklaw.SourceSays': WHATEVER THE INPUT: true; the input reads as it did. -/
def sourceSaysSpec : ChangeSpec := { name := "sourceSays", fn := fun _ => fun
  | [d1, d2, d3, d4] => { results := [.lit (.bool true)], args := [d1, d2, d3, d4] }
  | _ => none }
def sourceSaysRow : OpenClaim := { program := "ytkbfdoddnbfihaa", sum := "3b5475cc180883caaf1ca531fd072708e66ef3a5b41ea54ff306d0f299d03394", func := "penstock/penstocklaw.SourceSays", spec := "sourceSays", plainKeys := false, apart := false }
def SourceSaysSaid : Prop := sourceSaysRow.holds Try.pinned (OpenSpec.ofChange sourceSaysSpec)

/-- ITS FALSE NEIGHBOUR: 'it returns false'. Refute it at one input. -/
def sourceSaysWrong : ChangeSpec := { name := "sourceSays", fn := fun _ => fun
  | [d1, d2, d3, d4] => { results := [.lit (.bool false)], args := [d1, d2, d3, d4] }
  | _ => none }
def SourceSaysWrongFalsely : Prop := sourceSaysRow.holds Try.pinned (OpenSpec.ofChange sourceSaysWrong)

/-- 'penstocklaw.DiskSays': WHATEVER THE INPUT: true; the input reads as it did. -/
def diskSaysSpec : ChangeSpec := { name := "diskSays", fn := fun _ => fun
  | [d1, d2] => { results := [.lit (.bool true)], args := [d1, d2] }
  | _ => none }
def diskSaysRow : OpenClaim := { program := "ytkbfdoddnbfihaa", sum := "3b5475cc180883caaf1ca531fd072708e66ef3a5b41ea54ff306d0f299d03394", func := "penstock/penstocklaw.DiskSays", spec := "diskSays", plainKeys := false, apart := false }
def DiskSaysSaid : Prop := diskSaysRow.holds Try.pinned (OpenSpec.ofChange diskSaysSpec)

/-- ITS FALSE NEIGHBOUR: 'it returns false'. Refute it at one input. -/
def diskSaysWrong : ChangeSpec := { name := "diskSays", fn := fun _ => fun
  | [d1, d2] => { results := [.lit (.bool false)], args := [d1, d2] }
  | _ => none }
def DiskSaysWrongFalsely : Prop := diskSaysRow.holds Try.pinned (OpenSpec.ofChange diskSaysWrong)

/-- 'penstocklaw.SaveSays': WHATEVER THE INPUT: true; the input reads as it did. -/
def saveSaysSpec : ChangeSpec := { name := "saveSays", fn := fun _ => fun
  | [d1, d2] => { results := [.lit (.bool true)], args := [d1, d2] }
  | _ => none }
def saveSaysRow : OpenClaim := { program := "ytkbfdoddnbfihaa", sum := "3b5475cc180883caaf1ca531fd072708e66ef3a5b41ea54ff306d0f299d03394", func := "penstock/penstocklaw.SaveSays", spec := "saveSays", unfollowed := true, recurses := true, plainKeys := false, apart := false }
def SaveSaysSaid : Prop := saveSaysRow.holds Try.pinned (OpenSpec.ofChange saveSaysSpec)

/-- ITS FALSE NEIGHBOUR: 'it returns false'. Refute it at one input. -/
def saveSaysWrong : ChangeSpec := { name := "saveSays", fn := fun _ => fun
  | [d1, d2] => { results := [.lit (.bool false)], args := [d1, d2] }
  | _ => none }
def SaveSaysWrongFalsely : Prop := saveSaysRow.holds Try.pinned (OpenSpec.ofChange saveSaysWrong)

/-- 'penstocklaw.ExprSays': WHATEVER THE INPUT: true; the input reads as it did. -/
def exprSaysSpec : ChangeSpec := { name := "exprSays", fn := fun _ => fun
  | [d1, d2, d3, d4] => { results := [.lit (.bool true)], args := [d1, d2, d3, d4] }
  | _ => none }
def exprSaysRow : OpenClaim := { program := "ytkbfdoddnbfihaa", sum := "3b5475cc180883caaf1ca531fd072708e66ef3a5b41ea54ff306d0f299d03394", func := "penstock/penstocklaw.ExprSays", spec := "exprSays", recurses := true, plainKeys := false, apart := false }
def ExprSaysSaid : Prop := exprSaysRow.holds Try.pinned (OpenSpec.ofChange exprSaysSpec)

/-- ITS FALSE NEIGHBOUR: 'it returns false'. Refute it at one input. -/
def exprSaysWrong : ChangeSpec := { name := "exprSays", fn := fun _ => fun
  | [d1, d2, d3, d4] => { results := [.lit (.bool false)], args := [d1, d2, d3, d4] }
  | _ => none }
def ExprSaysWrongFalsely : Prop := exprSaysRow.holds Try.pinned (OpenSpec.ofChange exprSaysWrong)

/-- 'penstocklaw.FoldSays': WHATEVER THE INPUT: true; the input reads as it did. -/
def foldSaysSpec : ChangeSpec := { name := "foldSays", fn := fun _ => fun
  | [d1, d2] => { results := [.lit (.bool true)], args := [d1, d2] }
  | _ => none }
def foldSaysRow : OpenClaim := { program := "ytkbfdoddnbfihaa", sum := "3b5475cc180883caaf1ca531fd072708e66ef3a5b41ea54ff306d0f299d03394", func := "penstock/penstocklaw.FoldSays", spec := "foldSays", recurses := true, plainKeys := false, apart := false }
def FoldSaysSaid : Prop := foldSaysRow.holds Try.pinned (OpenSpec.ofChange foldSaysSpec)

/-- ITS FALSE NEIGHBOUR: 'it returns false'. Refute it at one input. -/
def foldSaysWrong : ChangeSpec := { name := "foldSays", fn := fun _ => fun
  | [d1, d2] => { results := [.lit (.bool false)], args := [d1, d2] }
  | _ => none }
def FoldSaysWrongFalsely : Prop := foldSaysRow.holds Try.pinned (OpenSpec.ofChange foldSaysWrong)

/-- 'penstocktop.TopWindows': WHATEVER THE INPUT: true; the input reads as it did. -/
def topWindowsSpec : ChangeSpec := { name := "topWindows", fn := fun _ => fun
  | [d1, d2, d3] => { results := [.lit (.bool true)], args := [d1, d2, d3] }
  | _ => none }
def topWindowsRow : OpenClaim := { program := "ytkbfdoddnbfihaa", sum := "3b5475cc180883caaf1ca531fd072708e66ef3a5b41ea54ff306d0f299d03394", func := "penstock/penstocktop.TopWindows", spec := "topWindows", plainKeys := false, apart := false }
def TopWindowsSaid : Prop := topWindowsRow.holds Try.pinned (OpenSpec.ofChange topWindowsSpec)

/-- ITS FALSE NEIGHBOUR: 'it returns false'. Refute it at one input. -/
def topWindowsWrong : ChangeSpec := { name := "topWindows", fn := fun _ => fun
  | [d1, d2, d3] => { results := [.lit (.bool false)], args := [d1, d2, d3] }
  | _ => none }
def TopWindowsWrongFalsely : Prop := topWindowsRow.holds Try.pinned (OpenSpec.ofChange topWindowsWrong)

/-- 'penstocklaw.PanesSays': WHATEVER THE INPUT: true; the input reads as it did. -/
def panesSaysSpec : ChangeSpec := { name := "panesSays", fn := fun _ => fun
  | [d1, d2, d3] => { results := [.lit (.bool true)], args := [d1, d2, d3] }
  | _ => none }
def panesSaysRow : OpenClaim := { program := "ytkbfdoddnbfihaa", sum := "3b5475cc180883caaf1ca531fd072708e66ef3a5b41ea54ff306d0f299d03394", func := "penstock/penstocklaw.PanesSays", spec := "panesSays", inPlace := ["slices.overlaps[penstock/panes.Pane]"], unfollowed := true, recurses := true, plainKeys := false, apart := false }
def PanesSaysSaid : Prop := panesSaysRow.holds Try.pinned (OpenSpec.ofChange panesSaysSpec)

/-- ITS FALSE NEIGHBOUR: 'it returns false'. Refute it at one input. -/
def panesSaysWrong : ChangeSpec := { name := "panesSays", fn := fun _ => fun
  | [d1, d2, d3] => { results := [.lit (.bool false)], args := [d1, d2, d3] }
  | _ => none }
def PanesSaysWrongFalsely : Prop := panesSaysRow.holds Try.pinned (OpenSpec.ofChange panesSaysWrong)

/- THE SECOND FORM. 'bulk': how many values and letters a reading holds, each counted each time it is reached (what is shared counts as often as it is met; a slice's spare places count too). A statement '..UptoSaid' is the law's where the arguments, and the package variables that the reading takes, are together of bulk at most 1048576: NARROWER than '..Said'. Prove '..Said' where nothing that the law and all that it calls make is longer than what came in: it says more and counts as full. Else prove '..UptoSaid'. A law counts once. -/
mutual
def uptoBulk {H : Type} : DataW H → Nat
  | .lit (.string bytes) => bytes.length + 1
  | .lit _ => 1
  | .nil => 1
  | .ptr d => uptoBulk d + 1
  | .slice elems spare => uptoBulkAll elems + uptoBulkAll spare + 1
  | .agg parts => uptoBulkAll parts + 1
  | .iface _ d => uptoBulk d + 1
  | .map entries => uptoBulkEntries entries + 1
  | .held _ => 1
def uptoBulkAll {H : Type} : List (DataW H) → Nat
  | [] => 0
  | d :: r => uptoBulk d + uptoBulkAll r
def uptoBulkEntries {H : Type} : List (Lit × DataW H) → Nat
  | [] => 0
  | x :: r => uptoBulkEntry x + uptoBulkEntries r
def uptoBulkEntry {H : Type} : Lit × DataW H → Nat
  | (.string bytes, d) => bytes.length + uptoBulk d + 1
  | (_, d) => uptoBulk d + 1
 end
def uptoSmall : (H : Type) → List (DataW H) → Bool := fun _ ds => decide (uptoBulkAll ds ≤ 1048576)
def OpenSpec.upto (s : _root_.Go.ChangeSpec) : _root_.Go.OpenSpec := { _root_.Go.OpenSpec.ofChange s with cond := some uptoSmall }

/-- 'penstocklaw.WindowSays', WHERE WHAT IT READS IS OF BULK AT MOST 1048576: true; the input reads as it did. -/
def windowSaysUptoRow : OpenClaim := { program := "ytkbfdoddnbfihaa", sum := "3b5475cc180883caaf1ca531fd072708e66ef3a5b41ea54ff306d0f299d03394", func := "penstock/penstocklaw.WindowSays", spec := "windowSays", plainKeys := false, apart := false, narrowed := true }
def WindowSaysUptoSaid : Prop := windowSaysUptoRow.holds Try.pinned (OpenSpec.upto windowSaysSpec)

/-- 'penstocklaw.GatherSays', WHERE WHAT IT READS IS OF BULK AT MOST 1048576: true; the input reads as it did. -/
def gatherSaysUptoRow : OpenClaim := { program := "ytkbfdoddnbfihaa", sum := "3b5475cc180883caaf1ca531fd072708e66ef3a5b41ea54ff306d0f299d03394", func := "penstock/penstocklaw.GatherSays", spec := "gatherSays", plainKeys := false, apart := false, narrowed := true }
def GatherSaysUptoSaid : Prop := gatherSaysUptoRow.holds Try.pinned (OpenSpec.upto gatherSaysSpec)

/-- 'penstocklaw.ClockSays', WHERE WHAT IT READS IS OF BULK AT MOST 1048576: true; the input reads as it did. -/
def clockSaysUptoRow : OpenClaim := { program := "ytkbfdoddnbfihaa", sum := "3b5475cc180883caaf1ca531fd072708e66ef3a5b41ea54ff306d0f299d03394", func := "penstock/penstocklaw.ClockSays", spec := "clockSays", plainKeys := false, apart := false, narrowed := true }
def ClockSaysUptoSaid : Prop := clockSaysUptoRow.holds Try.pinned (OpenSpec.upto clockSaysSpec)

/-- 'penstocklaw.LexerSays', WHERE WHAT IT READS IS OF BULK AT MOST 1048576: true; the input reads as it did. -/
def lexerSaysUptoRow : OpenClaim := { program := "ytkbfdoddnbfihaa", sum := "3b5475cc180883caaf1ca531fd072708e66ef3a5b41ea54ff306d0f299d03394", func := "penstock/penstocklaw.LexerSays", spec := "lexerSays", inPlace := ["internal/bytealg.IndexByteString"], plainKeys := false, apart := false, narrowed := true }
def LexerSaysUptoSaid : Prop := lexerSaysUptoRow.holds Try.pinned (OpenSpec.upto lexerSaysSpec)

/-- 'penstocklaw.SourceSays', WHERE WHAT IT READS IS OF BULK AT MOST 1048576: true; the input reads as it did. -/
def sourceSaysUptoRow : OpenClaim := { program := "ytkbfdoddnbfihaa", sum := "3b5475cc180883caaf1ca531fd072708e66ef3a5b41ea54ff306d0f299d03394", func := "penstock/penstocklaw.SourceSays", spec := "sourceSays", plainKeys := false, apart := false, narrowed := true }
def SourceSaysUptoSaid : Prop := sourceSaysUptoRow.holds Try.pinned (OpenSpec.upto sourceSaysSpec)

/-- 'penstocklaw.DiskSays', WHERE WHAT IT READS IS OF BULK AT MOST 1048576: true; the input reads as it did. -/
def diskSaysUptoRow : OpenClaim := { program := "ytkbfdoddnbfihaa", sum := "3b5475cc180883caaf1ca531fd072708e66ef3a5b41ea54ff306d0f299d03394", func := "penstock/penstocklaw.DiskSays", spec := "diskSays", plainKeys := false, apart := false, narrowed := true }
def DiskSaysUptoSaid : Prop := diskSaysUptoRow.holds Try.pinned (OpenSpec.upto diskSaysSpec)

/-- 'penstocklaw.SaveSays', WHERE WHAT IT READS IS OF BULK AT MOST 1048576: true; the input reads as it did. -/
def saveSaysUptoRow : OpenClaim := { program := "ytkbfdoddnbfihaa", sum := "3b5475cc180883caaf1ca531fd072708e66ef3a5b41ea54ff306d0f299d03394", func := "penstock/penstocklaw.SaveSays", spec := "saveSays", unfollowed := true, recurses := true, plainKeys := false, apart := false, narrowed := true }
def SaveSaysUptoSaid : Prop := saveSaysUptoRow.holds Try.pinned (OpenSpec.upto saveSaysSpec)

/-- 'penstocklaw.ExprSays', WHERE WHAT IT READS IS OF BULK AT MOST 1048576: true; the input reads as it did. -/
def exprSaysUptoRow : OpenClaim := { program := "ytkbfdoddnbfihaa", sum := "3b5475cc180883caaf1ca531fd072708e66ef3a5b41ea54ff306d0f299d03394", func := "penstock/penstocklaw.ExprSays", spec := "exprSays", recurses := true, plainKeys := false, apart := false, narrowed := true }
def ExprSaysUptoSaid : Prop := exprSaysUptoRow.holds Try.pinned (OpenSpec.upto exprSaysSpec)

/-- 'penstocklaw.FoldSays', WHERE WHAT IT READS IS OF BULK AT MOST 1048576: true; the input reads as it did. -/
def foldSaysUptoRow : OpenClaim := { program := "ytkbfdoddnbfihaa", sum := "3b5475cc180883caaf1ca531fd072708e66ef3a5b41ea54ff306d0f299d03394", func := "penstock/penstocklaw.FoldSays", spec := "foldSays", recurses := true, plainKeys := false, apart := false, narrowed := true }
def FoldSaysUptoSaid : Prop := foldSaysUptoRow.holds Try.pinned (OpenSpec.upto foldSaysSpec)

/-- 'penstocktop.TopWindows', WHERE WHAT IT READS IS OF BULK AT MOST 1048576: true; the input reads as it did. -/
def topWindowsUptoRow : OpenClaim := { program := "ytkbfdoddnbfihaa", sum := "3b5475cc180883caaf1ca531fd072708e66ef3a5b41ea54ff306d0f299d03394", func := "penstock/penstocktop.TopWindows", spec := "topWindows", plainKeys := false, apart := false, narrowed := true }
def TopWindowsUptoSaid : Prop := topWindowsUptoRow.holds Try.pinned (OpenSpec.upto topWindowsSpec)

/-- 'penstocklaw.PanesSays', WHERE WHAT IT READS IS OF BULK AT MOST 1048576: true; the input reads as it did. -/
def panesSaysUptoRow : OpenClaim := { program := "ytkbfdoddnbfihaa", sum := "3b5475cc180883caaf1ca531fd072708e66ef3a5b41ea54ff306d0f299d03394", func := "penstock/penstocklaw.PanesSays", spec := "panesSays", inPlace := ["slices.overlaps[penstock/panes.Pane]"], unfollowed := true, recurses := true, plainKeys := false, apart := false, narrowed := true }
def PanesSaysUptoSaid : Prop := panesSaysUptoRow.holds Try.pinned (OpenSpec.upto panesSaysSpec)

end Rows
end Go.Proofs.Ytkbfdoddnbfihaa
