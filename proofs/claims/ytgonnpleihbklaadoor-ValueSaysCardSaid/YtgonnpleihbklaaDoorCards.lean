/-
  DERIVED. GIVEN WITH THE SEED: THE CARDS: each row of YtgonnpleihbklaaDoorRows.lean that lists a variable, with what it lists TIED to the program's text (the seventh form; the later family's looks); each row that meets fmt, with fmt's text TOLD by the authors' own Lean function (tested against real Go, not proved from fmt's source: count such statements apart). THE CARD IS WHAT COUNTS. Prove the row's statement (the work); the ties are given (YtgonnpleihbklaaDoorTie.lean); close each card by the builder's one call (the guide's Derived/Test/ToyasCard.lean, 'card_holds'). Laid BY PROGRAM, IN A SANDBOX (cutbox-door.mjs). By AI agents, Wed Nov 11 2026. No macro, syntax, notation, axiom, sorry.
-/
import Derived.Test.YtgonnpleihbklaaDoorRows
import GoSem.ClaimSeven
namespace Go.Proofs.YtgonnpleihbklaaDoor
namespace Rows

/-- THE TIED CARD OF 'penstocklaw.Names'. -/
def namesCard : Claim7 := { stood := { row := namesRow, standIns := [], harness := (true, "796a5115df912aa9691f0f065f895399334cf2d65284de398f849ac275e9af4f"), looks := true }, kinds := [], alts := [], laidByText := true, laidKinds := [.data, .data, .data], laidTests := true, laidLooks := .later }
def NamesCardSaid : Prop := Claim7.holds Tryd.pinned (.plain (OpenSpec.ofChange namesSpec)) namesCard

/-- THE TIED CARD OF 'penstocklaw.ValueSays'. -/
def valueSaysCard : Claim7 := { stood := { row := valueSaysRow, standIns := [], harness := (true, "796a5115df912aa9691f0f065f895399334cf2d65284de398f849ac275e9af4f"), looks := true }, kinds := [], alts := [], laidByText := true, laidKinds := [.data, .data, .data, .sentinel, .sentinel], laidTests := true, laidLooks := .later }
def ValueSaysCardSaid : Prop := Claim7.holds Tryd.pinned (.plain (OpenSpec.ofChange valueSaysSpec)) valueSaysCard

/-- THE TIED CARD OF 'penstocktop.TopValue'. -/
def topValueCard : Claim7 := { stood := { row := topValueRow, standIns := [], harness := (true, "796a5115df912aa9691f0f065f895399334cf2d65284de398f849ac275e9af4f"), looks := true }, kinds := [], alts := [], laidByText := true, laidKinds := [.data, .data, .data, .sentinel, .sentinel], laidTests := true, laidLooks := .later }
def TopValueCardSaid : Prop := Claim7.holds Tryd.pinned (.plain (OpenSpec.ofChange topValueSpec)) topValueCard

/-- THE SECOND FORM's CARD OF 'penstocklaw.Names'. -/
def namesUptoCard : Claim7 := { stood := { row := namesUptoRow, standIns := [], harness := (true, "796a5115df912aa9691f0f065f895399334cf2d65284de398f849ac275e9af4f"), looks := true }, kinds := [], alts := [], laidByText := true, laidKinds := [.data, .data, .data], laidTests := true, laidLooks := .later }
def NamesUptoCardSaid : Prop := Claim7.holds Tryd.pinned (.plain (OpenSpec.upto namesSpec)) namesUptoCard

/-- THE SECOND FORM's CARD OF 'penstocklaw.ValueSays'. -/
def valueSaysUptoCard : Claim7 := { stood := { row := valueSaysUptoRow, standIns := [], harness := (true, "796a5115df912aa9691f0f065f895399334cf2d65284de398f849ac275e9af4f"), looks := true }, kinds := [], alts := [], laidByText := true, laidKinds := [.data, .data, .data, .sentinel, .sentinel], laidTests := true, laidLooks := .later }
def ValueSaysUptoCardSaid : Prop := Claim7.holds Tryd.pinned (.plain (OpenSpec.upto valueSaysSpec)) valueSaysUptoCard

/-- THE SECOND FORM's CARD OF 'penstocktop.TopValue'. -/
def topValueUptoCard : Claim7 := { stood := { row := topValueUptoRow, standIns := [], harness := (true, "796a5115df912aa9691f0f065f895399334cf2d65284de398f849ac275e9af4f"), looks := true }, kinds := [], alts := [], laidByText := true, laidKinds := [.data, .data, .data, .sentinel, .sentinel], laidTests := true, laidLooks := .later }
def TopValueUptoCardSaid : Prop := Claim7.holds Tryd.pinned (.plain (OpenSpec.upto topValueSpec)) topValueUptoCard
end Rows
end Go.Proofs.YtgonnpleihbklaaDoor
