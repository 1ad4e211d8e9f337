/-
  DERIVED. GIVEN WITH THE SEED: THE CARDS: each row of YtgmplfdecikgoaaGreatDoorRows.lean that lists a variable, with what it lists TIED to the program's text (the seventh form; the later family's looks); each row that meets fmt, with fmt's text TOLD by the authors' own Lean function (tested against real Go, not proved from fmt's source: count such statements apart). THE CARD IS WHAT COUNTS. Prove the row's statement (the work); the ties are given (YtgmplfdecikgoaaGreatDoorTie.lean); close each card by the builder's one call (the guide's Derived/Test/ToyasCard.lean, 'card_holds'). Laid BY PROGRAM, IN A SANDBOX (cutbox-door.mjs). By AI agents, Wed Nov 11 2026. No macro, syntax, notation, axiom, sorry.
-/
import Derived.Test.YtgmplfdecikgoaaGreatDoorRows
import GoSem.ClaimSeven
namespace Go.Proofs.YtgmplfdecikgoaaGreatDoor
namespace Rows

/-- THE TIED CARD OF 'penstocklaw.ShotSays'. -/
def shotSaysCard : Claim7 := { stood := { row := shotSaysRow, standIns := [], harness := (true, "5dd00bfb9a8f4a59d33ec5fa007344b59d908133d2a6d557ff6689eb1d0f187d"), looks := true }, kinds := [], alts := [], laidByText := true, laidKinds := [.data, .data, .data, .data, .sentinel, .sentinel, .widerDeep, .widerDeep, .pinned], laidTests := true, laidLooks := .later }
def ShotSaysCardSaid : Prop := Claim7.holds Tryz.pinned (.plain (OpenSpec.ofChange shotSaysSpec)) shotSaysCard

/-- THE TIED CARD OF 'penstocktop.TopShot'. -/
def topShotCard : Claim7 := { stood := { row := topShotRow, standIns := [], harness := (true, "5dd00bfb9a8f4a59d33ec5fa007344b59d908133d2a6d557ff6689eb1d0f187d"), looks := true }, kinds := [], alts := [], laidByText := true, laidKinds := [.data, .data, .data, .data, .sentinel, .sentinel, .widerDeep, .widerDeep, .pinned], laidTests := true, laidLooks := .later }
def TopShotCardSaid : Prop := Claim7.holds Tryz.pinned (.plain (OpenSpec.ofChange topShotSpec)) topShotCard

/-- THE SECOND FORM's CARD OF 'penstocklaw.ShotSays'. -/
def shotSaysUptoCard : Claim7 := { stood := { row := shotSaysUptoRow, standIns := [], harness := (true, "5dd00bfb9a8f4a59d33ec5fa007344b59d908133d2a6d557ff6689eb1d0f187d"), looks := true }, kinds := [], alts := [], laidByText := true, laidKinds := [.data, .data, .data, .data, .sentinel, .sentinel, .widerDeep, .widerDeep, .pinned], laidTests := true, laidLooks := .later }
def ShotSaysUptoCardSaid : Prop := Claim7.holds Tryz.pinned (.plain (OpenSpec.upto shotSaysSpec)) shotSaysUptoCard

/-- THE SECOND FORM's CARD OF 'penstocktop.TopShot'. -/
def topShotUptoCard : Claim7 := { stood := { row := topShotUptoRow, standIns := [], harness := (true, "5dd00bfb9a8f4a59d33ec5fa007344b59d908133d2a6d557ff6689eb1d0f187d"), looks := true }, kinds := [], alts := [], laidByText := true, laidKinds := [.data, .data, .data, .data, .sentinel, .sentinel, .widerDeep, .widerDeep, .pinned], laidTests := true, laidLooks := .later }
def TopShotUptoCardSaid : Prop := Claim7.holds Tryz.pinned (.plain (OpenSpec.upto topShotSpec)) topShotUptoCard
end Rows
end Go.Proofs.YtgmplfdecikgoaaGreatDoor
