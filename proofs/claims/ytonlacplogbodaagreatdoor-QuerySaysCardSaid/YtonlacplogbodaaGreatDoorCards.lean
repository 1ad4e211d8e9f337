/-
  DERIVED. GIVEN WITH THE SEED: THE CARDS: each row of YtonlacplogbodaaGreatDoorRows.lean that lists a variable, with what it lists TIED to the program's text (the seventh form; the later family's looks); each row that meets fmt, with fmt's text TOLD by the authors' own Lean function (tested against real Go, not proved from fmt's source: count such statements apart). THE CARD IS WHAT COUNTS. Prove the row's statement (the work); the ties are given (YtonlacplogbodaaGreatDoorTie.lean); close each card by the builder's one call (the guide's Derived/Test/ToyasCard.lean, 'card_holds'). Laid BY PROGRAM, IN A SANDBOX (cutbox-door.mjs). By AI agents, Wed Nov 11 2026. No macro, syntax, notation, axiom, sorry.
-/
import Derived.Test.YtonlacplogbodaaGreatDoorRows
import GoSem.ClaimSeven
namespace Go.Proofs.YtonlacplogbodaaGreatDoor
namespace Rows

/-- THE TIED CARD OF 'penstocklaw.QuerySays'. -/
def querySaysCard : Claim7 := { stood := { row := querySaysRow, standIns := [], harness := (true, "d4088231281db6c9807548190bc1aa6685e5d53c871d1ec6994182acfcaa2fdc"), looks := true }, kinds := [], alts := [], laidByText := true, laidKinds := [.data, .data, .data, .sentinel, .sentinel, .widerDeep, .widerDeep], laidTests := true, laidLooks := .later }
def QuerySaysCardSaid : Prop := Claim7.holds Tryz.pinned (.plain (OpenSpec.ofChange querySaysSpec)) querySaysCard

/-- THE SECOND FORM's CARD OF 'penstocklaw.QuerySays'. -/
def querySaysUptoCard : Claim7 := { stood := { row := querySaysUptoRow, standIns := [], harness := (true, "d4088231281db6c9807548190bc1aa6685e5d53c871d1ec6994182acfcaa2fdc"), looks := true }, kinds := [], alts := [], laidByText := true, laidKinds := [.data, .data, .data, .sentinel, .sentinel, .widerDeep, .widerDeep], laidTests := true, laidLooks := .later }
def QuerySaysUptoCardSaid : Prop := Claim7.holds Tryz.pinned (.plain (OpenSpec.upto querySaysSpec)) querySaysUptoCard
end Rows
end Go.Proofs.YtonlacplogbodaaGreatDoor
