/-
  DERIVED. GIVEN WITH THE SEED: THE CARDS: each row of YthicpjafcpfjoaaGreatDoorRows.lean that lists a variable, with what it lists TIED to the program's text (the seventh form; the later family's looks); each row that meets fmt, with fmt's text TOLD by the authors' own Lean function (tested against real Go, not proved from fmt's source: count such statements apart). THE CARD IS WHAT COUNTS. Prove the row's statement (the work); the ties are given (YthicpjafcpfjoaaGreatDoorTie.lean); close each card by the builder's one call (the guide's Derived/Test/ToyasCard.lean, 'card_holds'). Laid BY PROGRAM, IN A SANDBOX (cutbox-door.mjs). By AI agents, Wed Nov 11 2026. No macro, syntax, notation, axiom, sorry.
-/
import Derived.Test.YthicpjafcpfjoaaGreatDoorRows
import GoSem.ClaimSeven
namespace Go.Proofs.YthicpjafcpfjoaaGreatDoor
namespace Rows

/-- THE TIED CARD OF 'penstocklaw.StreamSays'. -/
def streamSaysCard : Claim7 := { stood := { row := streamSaysRow, standIns := [], harness := (true, "90161c5a0ff099e8b610a29511e4c68ff16801bf3294314f750d3c79b6f2c398"), looks := true }, kinds := [], alts := [], laidByText := true, laidKinds := [.data, .data, .data, .data, .sentinel, .sentinel, .widerDeep, .widerDeep, .pinned], laidTests := true, laidLooks := .later }
def StreamSaysCardSaid : Prop := Claim7.holds Tryz.pinned (.plain (OpenSpec.ofChange streamSaysSpec)) streamSaysCard

/-- THE TIED CARD OF 'penstocktop.TopCounts'. -/
def topCountsCard : Claim7 := { stood := { row := topCountsRow, standIns := [], harness := (true, "90161c5a0ff099e8b610a29511e4c68ff16801bf3294314f750d3c79b6f2c398"), looks := true }, kinds := [], alts := [], laidByText := true, laidKinds := [.data, .data, .data, .data, .sentinel, .sentinel, .widerDeep, .widerDeep, .pinned], laidTests := true, laidLooks := .later }
def TopCountsCardSaid : Prop := Claim7.holds Tryz.pinned (.plain (OpenSpec.ofChange topCountsSpec)) topCountsCard

/-- THE TIED CARD OF 'penstocktop.TopReplay'. -/
def topReplayCard : Claim7 := { stood := { row := topReplayRow, standIns := [], harness := (true, "90161c5a0ff099e8b610a29511e4c68ff16801bf3294314f750d3c79b6f2c398"), looks := true }, kinds := [], alts := [], laidByText := true, laidKinds := [.data, .data, .data, .data, .sentinel, .sentinel, .widerDeep, .widerDeep, .pinned], laidTests := true, laidLooks := .later }
def TopReplayCardSaid : Prop := Claim7.holds Tryz.pinned (.plain (OpenSpec.ofChange topReplaySpec)) topReplayCard

/-- THE SECOND FORM's CARD OF 'penstocklaw.StreamSays'. -/
def streamSaysUptoCard : Claim7 := { stood := { row := streamSaysUptoRow, standIns := [], harness := (true, "90161c5a0ff099e8b610a29511e4c68ff16801bf3294314f750d3c79b6f2c398"), looks := true }, kinds := [], alts := [], laidByText := true, laidKinds := [.data, .data, .data, .data, .sentinel, .sentinel, .widerDeep, .widerDeep, .pinned], laidTests := true, laidLooks := .later }
def StreamSaysUptoCardSaid : Prop := Claim7.holds Tryz.pinned (.plain (OpenSpec.upto streamSaysSpec)) streamSaysUptoCard

/-- THE SECOND FORM's CARD OF 'penstocktop.TopCounts'. -/
def topCountsUptoCard : Claim7 := { stood := { row := topCountsUptoRow, standIns := [], harness := (true, "90161c5a0ff099e8b610a29511e4c68ff16801bf3294314f750d3c79b6f2c398"), looks := true }, kinds := [], alts := [], laidByText := true, laidKinds := [.data, .data, .data, .data, .sentinel, .sentinel, .widerDeep, .widerDeep, .pinned], laidTests := true, laidLooks := .later }
def TopCountsUptoCardSaid : Prop := Claim7.holds Tryz.pinned (.plain (OpenSpec.upto topCountsSpec)) topCountsUptoCard

/-- THE SECOND FORM's CARD OF 'penstocktop.TopReplay'. -/
def topReplayUptoCard : Claim7 := { stood := { row := topReplayUptoRow, standIns := [], harness := (true, "90161c5a0ff099e8b610a29511e4c68ff16801bf3294314f750d3c79b6f2c398"), looks := true }, kinds := [], alts := [], laidByText := true, laidKinds := [.data, .data, .data, .data, .sentinel, .sentinel, .widerDeep, .widerDeep, .pinned], laidTests := true, laidLooks := .later }
def TopReplayUptoCardSaid : Prop := Claim7.holds Tryz.pinned (.plain (OpenSpec.upto topReplaySpec)) topReplayUptoCard
end Rows
end Go.Proofs.YthicpjafcpfjoaaGreatDoor
