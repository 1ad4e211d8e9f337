/-
  DERIVED. GIVEN WITH THE SEED: THE CARDS: each row of YtiflgceoamkmnaaGreatDoorRows.lean that lists a variable, with what it lists TIED to the program's text (the seventh form; the later family's looks); each row that meets fmt, with fmt's text TOLD by the authors' own Lean function (tested against real Go, not proved from fmt's source: count such statements apart). THE CARD IS WHAT COUNTS. Prove the row's statement (the work); the ties are given (YtiflgceoamkmnaaGreatDoorTie.lean); close each card by the builder's one call (the guide's Derived/Test/ToyasCard.lean, 'card_holds'). Laid BY PROGRAM, IN A SANDBOX (cutbox-door.mjs). By AI agents, Wed Nov 11 2026. No macro, syntax, notation, axiom, sorry.
-/
import Derived.Test.YtiflgceoamkmnaaGreatDoorRows
import GoSem.ClaimSeven
namespace Go.Proofs.YtiflgceoamkmnaaGreatDoor
namespace Rows

/-- THE TIED CARD OF 'penstocklaw.EngineSays'. -/
def engineSaysCard : Claim7 := { stood := { row := engineSaysRow, standIns := [], harness := (true, "aa542c490c701cd82055aab57abcb24a7ea584dbc3a438348f7b2dd87ada885f"), looks := true }, kinds := [], alts := [], laidByText := true, laidKinds := [.data, .data, .data, .sentinel, .sentinel, .widerDeep, .widerDeep], laidTests := true, laidLooks := .later }
def EngineSaysCardSaid : Prop := Claim7.holds Tryz.pinned (.plain (OpenSpec.ofChange engineSaysSpec)) engineSaysCard

/-- THE TIED CARD OF 'penstocktop.TopNet'. -/
def topNetCard : Claim7 := { stood := { row := topNetRow, standIns := [], harness := (true, "aa542c490c701cd82055aab57abcb24a7ea584dbc3a438348f7b2dd87ada885f"), looks := true }, kinds := [], alts := [], laidByText := true, laidKinds := [.data, .data, .data, .sentinel, .sentinel, .widerDeep, .widerDeep], laidTests := true, laidLooks := .later }
def TopNetCardSaid : Prop := Claim7.holds Tryz.pinned (.plain (OpenSpec.ofChange topNetSpec)) topNetCard

/-- THE TIED CARD OF 'penstocktop.TopFinal'. -/
def topFinalCard : Claim7 := { stood := { row := topFinalRow, standIns := [], harness := (true, "aa542c490c701cd82055aab57abcb24a7ea584dbc3a438348f7b2dd87ada885f"), looks := true }, kinds := [], alts := [], laidByText := true, laidKinds := [.data, .data, .data, .sentinel, .sentinel, .widerDeep, .widerDeep], laidTests := true, laidLooks := .later }
def TopFinalCardSaid : Prop := Claim7.holds Tryz.pinned (.plain (OpenSpec.ofChange topFinalSpec)) topFinalCard

/-- THE TIED CARD OF 'penstocktop.TopTurns'. -/
def topTurnsCard : Claim7 := { stood := { row := topTurnsRow, standIns := [], harness := (true, "aa542c490c701cd82055aab57abcb24a7ea584dbc3a438348f7b2dd87ada885f"), looks := true }, kinds := [], alts := [], laidByText := true, laidKinds := [.data, .data, .data, .sentinel, .sentinel, .widerDeep, .widerDeep], laidTests := true, laidLooks := .later }
def TopTurnsCardSaid : Prop := Claim7.holds Tryz.pinned (.plain (OpenSpec.ofChange topTurnsSpec)) topTurnsCard

/-- THE TIED CARD OF 'penstocktop.TopLittle'. -/
def topLittleCard : Claim7 := { stood := { row := topLittleRow, standIns := [], harness := (true, "aa542c490c701cd82055aab57abcb24a7ea584dbc3a438348f7b2dd87ada885f"), looks := true }, kinds := [], alts := [], laidByText := true, laidKinds := [.data, .data, .data, .sentinel, .sentinel, .widerDeep, .widerDeep], laidTests := true, laidLooks := .later }
def TopLittleCardSaid : Prop := Claim7.holds Tryz.pinned (.plain (OpenSpec.ofChange topLittleSpec)) topLittleCard

/-- THE TIED CARD OF 'penstocktop.TopFold'. -/
def topFoldCard : Claim7 := { stood := { row := topFoldRow, standIns := [], harness := (true, "aa542c490c701cd82055aab57abcb24a7ea584dbc3a438348f7b2dd87ada885f"), looks := true }, kinds := [], alts := [], laidByText := true, laidKinds := [.data, .data, .data, .sentinel, .sentinel, .widerDeep, .widerDeep], laidTests := true, laidLooks := .later }
def TopFoldCardSaid : Prop := Claim7.holds Tryz.pinned (.plain (OpenSpec.ofChange topFoldSpec)) topFoldCard

/-- THE TIED CARD OF 'penstocktop.TopSo'. -/
def topSoCard : Claim7 := { stood := { row := topSoRow, standIns := [], harness := (true, "aa542c490c701cd82055aab57abcb24a7ea584dbc3a438348f7b2dd87ada885f"), looks := true }, kinds := [], alts := [], laidByText := true, laidKinds := [.data, .data, .data, .sentinel, .sentinel, .widerDeep, .widerDeep], laidTests := true, laidLooks := .later }
def TopSoCardSaid : Prop := Claim7.holds Tryz.pinned (.plain (OpenSpec.ofChange topSoSpec)) topSoCard

/-- THE SECOND FORM's CARD OF 'penstocklaw.EngineSays'. -/
def engineSaysUptoCard : Claim7 := { stood := { row := engineSaysUptoRow, standIns := [], harness := (true, "aa542c490c701cd82055aab57abcb24a7ea584dbc3a438348f7b2dd87ada885f"), looks := true }, kinds := [], alts := [], laidByText := true, laidKinds := [.data, .data, .data, .sentinel, .sentinel, .widerDeep, .widerDeep], laidTests := true, laidLooks := .later }
def EngineSaysUptoCardSaid : Prop := Claim7.holds Tryz.pinned (.plain (OpenSpec.upto engineSaysSpec)) engineSaysUptoCard

/-- THE SECOND FORM's CARD OF 'penstocktop.TopNet'. -/
def topNetUptoCard : Claim7 := { stood := { row := topNetUptoRow, standIns := [], harness := (true, "aa542c490c701cd82055aab57abcb24a7ea584dbc3a438348f7b2dd87ada885f"), looks := true }, kinds := [], alts := [], laidByText := true, laidKinds := [.data, .data, .data, .sentinel, .sentinel, .widerDeep, .widerDeep], laidTests := true, laidLooks := .later }
def TopNetUptoCardSaid : Prop := Claim7.holds Tryz.pinned (.plain (OpenSpec.upto topNetSpec)) topNetUptoCard

/-- THE SECOND FORM's CARD OF 'penstocktop.TopFinal'. -/
def topFinalUptoCard : Claim7 := { stood := { row := topFinalUptoRow, standIns := [], harness := (true, "aa542c490c701cd82055aab57abcb24a7ea584dbc3a438348f7b2dd87ada885f"), looks := true }, kinds := [], alts := [], laidByText := true, laidKinds := [.data, .data, .data, .sentinel, .sentinel, .widerDeep, .widerDeep], laidTests := true, laidLooks := .later }
def TopFinalUptoCardSaid : Prop := Claim7.holds Tryz.pinned (.plain (OpenSpec.upto topFinalSpec)) topFinalUptoCard

/-- THE SECOND FORM's CARD OF 'penstocktop.TopTurns'. -/
def topTurnsUptoCard : Claim7 := { stood := { row := topTurnsUptoRow, standIns := [], harness := (true, "aa542c490c701cd82055aab57abcb24a7ea584dbc3a438348f7b2dd87ada885f"), looks := true }, kinds := [], alts := [], laidByText := true, laidKinds := [.data, .data, .data, .sentinel, .sentinel, .widerDeep, .widerDeep], laidTests := true, laidLooks := .later }
def TopTurnsUptoCardSaid : Prop := Claim7.holds Tryz.pinned (.plain (OpenSpec.upto topTurnsSpec)) topTurnsUptoCard

/-- THE SECOND FORM's CARD OF 'penstocktop.TopLittle'. -/
def topLittleUptoCard : Claim7 := { stood := { row := topLittleUptoRow, standIns := [], harness := (true, "aa542c490c701cd82055aab57abcb24a7ea584dbc3a438348f7b2dd87ada885f"), looks := true }, kinds := [], alts := [], laidByText := true, laidKinds := [.data, .data, .data, .sentinel, .sentinel, .widerDeep, .widerDeep], laidTests := true, laidLooks := .later }
def TopLittleUptoCardSaid : Prop := Claim7.holds Tryz.pinned (.plain (OpenSpec.upto topLittleSpec)) topLittleUptoCard

/-- THE SECOND FORM's CARD OF 'penstocktop.TopFold'. -/
def topFoldUptoCard : Claim7 := { stood := { row := topFoldUptoRow, standIns := [], harness := (true, "aa542c490c701cd82055aab57abcb24a7ea584dbc3a438348f7b2dd87ada885f"), looks := true }, kinds := [], alts := [], laidByText := true, laidKinds := [.data, .data, .data, .sentinel, .sentinel, .widerDeep, .widerDeep], laidTests := true, laidLooks := .later }
def TopFoldUptoCardSaid : Prop := Claim7.holds Tryz.pinned (.plain (OpenSpec.upto topFoldSpec)) topFoldUptoCard

/-- THE SECOND FORM's CARD OF 'penstocktop.TopSo'. -/
def topSoUptoCard : Claim7 := { stood := { row := topSoUptoRow, standIns := [], harness := (true, "aa542c490c701cd82055aab57abcb24a7ea584dbc3a438348f7b2dd87ada885f"), looks := true }, kinds := [], alts := [], laidByText := true, laidKinds := [.data, .data, .data, .sentinel, .sentinel, .widerDeep, .widerDeep], laidTests := true, laidLooks := .later }
def TopSoUptoCardSaid : Prop := Claim7.holds Tryz.pinned (.plain (OpenSpec.upto topSoSpec)) topSoUptoCard
end Rows
end Go.Proofs.YtiflgceoamkmnaaGreatDoor
