/-
  DERIVED. GIVEN WITH THE SEED: THE CARDS: each row of YtejefijpcggkfaaGreatDoorRows.lean that lists a variable, with what it lists TIED to the program's text (the seventh form; the later family's looks); each row that meets fmt, with fmt's text TOLD by the authors' own Lean function (tested against real Go, not proved from fmt's source: count such statements apart). THE CARD IS WHAT COUNTS. Prove the row's statement (the work); the ties are given (YtejefijpcggkfaaGreatDoorTie.lean); close each card by the builder's one call (the guide's Derived/Test/ToyasCard.lean, 'card_holds'). Laid BY PROGRAM, IN A SANDBOX (cutbox-door.mjs). By AI agents, Wed Nov 11 2026. No macro, syntax, notation, axiom, sorry.
-/
import Derived.Test.YtejefijpcggkfaaGreatDoorRows
import GoSem.ClaimSeven
namespace Go.Proofs.YtejefijpcggkfaaGreatDoor
namespace Rows

/-- THE TIED CARD OF 'penstocklaw.BatchSays'. -/
def batchSaysCard : Claim7 := { stood := { row := batchSaysRow, standIns := [], harness := (true, "fe1eb1578a7fd9a8b8a6e047c8f0854cb3f60848c613e75315cf6a334c9fc217"), looks := true }, kinds := [], alts := [], laidByText := true, laidKinds := [.data, .data, .data, .sentinel, .sentinel, .widerDeep, .widerDeep], laidTests := true, laidLooks := .later }
def BatchSaysCardSaid : Prop := Claim7.holds Tryz.pinned (.plain (OpenSpec.ofChange batchSaysSpec)) batchSaysCard

/-- THE TIED CARD OF 'penstocktop.TopParts'. -/
def topPartsCard : Claim7 := { stood := { row := topPartsRow, standIns := [], harness := (true, "fe1eb1578a7fd9a8b8a6e047c8f0854cb3f60848c613e75315cf6a334c9fc217"), looks := true }, kinds := [], alts := [], laidByText := true, laidKinds := [.data, .data, .data, .sentinel, .sentinel, .widerDeep, .widerDeep], laidTests := true, laidLooks := .later }
def TopPartsCardSaid : Prop := Claim7.holds Tryz.pinned (.plain (OpenSpec.ofChange topPartsSpec)) topPartsCard

/-- THE TIED CARD OF 'penstocktop.TopKeep'. -/
def topKeepCard : Claim7 := { stood := { row := topKeepRow, standIns := [], harness := (true, "fe1eb1578a7fd9a8b8a6e047c8f0854cb3f60848c613e75315cf6a334c9fc217"), looks := true }, kinds := [], alts := [], laidByText := true, laidKinds := [.data, .data, .data, .sentinel, .sentinel, .widerDeep, .widerDeep], laidTests := true, laidLooks := .later }
def TopKeepCardSaid : Prop := Claim7.holds Tryz.pinned (.plain (OpenSpec.ofChange topKeepSpec)) topKeepCard

/-- THE SECOND FORM's CARD OF 'penstocklaw.BatchSays'. -/
def batchSaysUptoCard : Claim7 := { stood := { row := batchSaysUptoRow, standIns := [], harness := (true, "fe1eb1578a7fd9a8b8a6e047c8f0854cb3f60848c613e75315cf6a334c9fc217"), looks := true }, kinds := [], alts := [], laidByText := true, laidKinds := [.data, .data, .data, .sentinel, .sentinel, .widerDeep, .widerDeep], laidTests := true, laidLooks := .later }
def BatchSaysUptoCardSaid : Prop := Claim7.holds Tryz.pinned (.plain (OpenSpec.upto batchSaysSpec)) batchSaysUptoCard

/-- THE SECOND FORM's CARD OF 'penstocktop.TopParts'. -/
def topPartsUptoCard : Claim7 := { stood := { row := topPartsUptoRow, standIns := [], harness := (true, "fe1eb1578a7fd9a8b8a6e047c8f0854cb3f60848c613e75315cf6a334c9fc217"), looks := true }, kinds := [], alts := [], laidByText := true, laidKinds := [.data, .data, .data, .sentinel, .sentinel, .widerDeep, .widerDeep], laidTests := true, laidLooks := .later }
def TopPartsUptoCardSaid : Prop := Claim7.holds Tryz.pinned (.plain (OpenSpec.upto topPartsSpec)) topPartsUptoCard

/-- THE SECOND FORM's CARD OF 'penstocktop.TopKeep'. -/
def topKeepUptoCard : Claim7 := { stood := { row := topKeepUptoRow, standIns := [], harness := (true, "fe1eb1578a7fd9a8b8a6e047c8f0854cb3f60848c613e75315cf6a334c9fc217"), looks := true }, kinds := [], alts := [], laidByText := true, laidKinds := [.data, .data, .data, .sentinel, .sentinel, .widerDeep, .widerDeep], laidTests := true, laidLooks := .later }
def TopKeepUptoCardSaid : Prop := Claim7.holds Tryz.pinned (.plain (OpenSpec.upto topKeepSpec)) topKeepUptoCard
end Rows
end Go.Proofs.YtejefijpcggkfaaGreatDoor
