/-
  DERIVED. GIVEN WITH THE SEED: THE CARDS: each row of YtepejmecchhifaaGreatDoorRows.lean that lists a variable, with what it lists TIED to the program's text (the seventh form; the later family's looks); each row that meets fmt, with fmt's text TOLD by the authors' own Lean function (tested against real Go, not proved from fmt's source: count such statements apart). THE CARD IS WHAT COUNTS. Prove the row's statement (the work); the ties are given (YtepejmecchhifaaGreatDoorTie.lean); close each card by the builder's one call (the guide's Derived/Test/ToyasCard.lean, 'card_holds'). Laid BY PROGRAM, IN A SANDBOX (cutbox-door.mjs). By AI agents, Wed Nov 11 2026. No macro, syntax, notation, axiom, sorry.
-/
import Derived.Test.YtepejmecchhifaaGreatDoorRows
import GoSem.ClaimSeven
namespace Go.Proofs.YtepejmecchhifaaGreatDoor
namespace Rows

/-- THE TIED CARD OF 'stetlaw18.ScanBetween'. -/
def scanBetweenCard : Claim7 := { stood := { row := scanBetweenRow, standIns := [], harness := (true, "7854f723c3ba607212890b9d562449aa78d0f4d83faf58a105149528bad9a466"), looks := true }, kinds := [], alts := [], laidByText := true, laidKinds := [.data, .data, .data, .data, .sentinel, .sentinel, .pinned], laidTests := true, laidLooks := .later }
def ScanBetweenCardSaid : Prop := Claim7.holds Tryz.pinned (.plain (OpenSpec.ofChange scanBetweenSpec)) scanBetweenCard

/-- THE SECOND FORM's CARD OF 'stetlaw18.ScanBetween'. -/
def scanBetweenUptoCard : Claim7 := { stood := { row := scanBetweenUptoRow, standIns := [], harness := (true, "7854f723c3ba607212890b9d562449aa78d0f4d83faf58a105149528bad9a466"), looks := true }, kinds := [], alts := [], laidByText := true, laidKinds := [.data, .data, .data, .data, .sentinel, .sentinel, .pinned], laidTests := true, laidLooks := .later }
def ScanBetweenUptoCardSaid : Prop := Claim7.holds Tryz.pinned (.plain (OpenSpec.upto scanBetweenSpec)) scanBetweenUptoCard
end Rows
end Go.Proofs.YtepejmecchhifaaGreatDoor
