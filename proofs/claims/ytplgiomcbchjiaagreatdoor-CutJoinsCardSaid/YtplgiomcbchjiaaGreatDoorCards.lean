/-
  DERIVED. GIVEN WITH THE SEED: THE CARDS: each row of YtplgiomcbchjiaaGreatDoorRows.lean that lists a variable, with what it lists TIED to the program's text (the seventh form; the later family's looks); each row that meets fmt, with fmt's text TOLD by the authors' own Lean function (tested against real Go, not proved from fmt's source: count such statements apart). THE CARD IS WHAT COUNTS. Prove the row's statement (the work); the ties are given (YtplgiomcbchjiaaGreatDoorTie.lean); close each card by the builder's one call (the guide's Derived/Test/ToyasCard.lean, 'card_holds'). Laid BY PROGRAM, IN A SANDBOX (cutbox-door.mjs). By AI agents, Wed Nov 11 2026. No macro, syntax, notation, axiom, sorry.
-/
import Derived.Test.YtplgiomcbchjiaaGreatDoorRows
import GoSem.ClaimSeven
namespace Go.Proofs.YtplgiomcbchjiaaGreatDoor
namespace Rows

/-- THE TIED CARD OF 'stetlaw15.CutJoins'. -/
def cutJoinsCard : Claim7 := { stood := { row := cutJoinsRow, standIns := [], harness := (true, "74fa3dcd68acf2eff17381d92e5c8b185b3c5faf6c03f2f82c6cd1b691d1d34a"), looks := true }, kinds := [], alts := [], laidByText := true, laidKinds := [.data, .data, .data, .data, .sentinel, .sentinel, .pinned], laidTests := true, laidLooks := .later }
def CutJoinsCardSaid : Prop := Claim7.holds Tryz.pinned (.plain (OpenSpec.ofChange cutJoinsSpec)) cutJoinsCard

/-- THE SECOND FORM's CARD OF 'stetlaw15.CutJoins'. -/
def cutJoinsUptoCard : Claim7 := { stood := { row := cutJoinsUptoRow, standIns := [], harness := (true, "74fa3dcd68acf2eff17381d92e5c8b185b3c5faf6c03f2f82c6cd1b691d1d34a"), looks := true }, kinds := [], alts := [], laidByText := true, laidKinds := [.data, .data, .data, .data, .sentinel, .sentinel, .pinned], laidTests := true, laidLooks := .later }
def CutJoinsUptoCardSaid : Prop := Claim7.holds Tryz.pinned (.plain (OpenSpec.upto cutJoinsSpec)) cutJoinsUptoCard
end Rows
end Go.Proofs.YtplgiomcbchjiaaGreatDoor
