/-
  DERIVED. GIVEN WITH THE SEED: THE CARDS: each row of YtpcfoeagojdmdaaGreatDoorRows.lean that lists a variable, with what it lists TIED to the program's text (the seventh form; the later family's looks); each row that meets fmt, with fmt's text TOLD by the authors' own Lean function (tested against real Go, not proved from fmt's source: count such statements apart). THE CARD IS WHAT COUNTS. Prove the row's statement (the work); the ties are given (YtpcfoeagojdmdaaGreatDoorTie.lean); close each card by the builder's one call (the guide's Derived/Test/ToyasCard.lean, 'card_holds'). Laid BY PROGRAM, IN A SANDBOX (cutbox-door.mjs). By AI agents, Wed Nov 11 2026. No macro, syntax, notation, axiom, sorry.
-/
import Derived.Test.YtpcfoeagojdmdaaGreatDoorRows
import GoSem.ClaimSeven
namespace Go.Proofs.YtpcfoeagojdmdaaGreatDoor
namespace Rows

/-- THE TIED CARD OF 'stetlaw16.SpotBeside'. -/
def spotBesideCard : Claim7 := { stood := { row := spotBesideRow, standIns := [], harness := (true, "94effe4c5fea10bef02eaa0c293bf239890dce11d433f7c57583b7625f2c2602"), looks := true }, kinds := [], alts := [], laidByText := true, laidKinds := [.data, .data, .data, .data, .sentinel, .sentinel, .pinned], laidTests := true, laidLooks := .later }
def SpotBesideCardSaid : Prop := Claim7.holds Tryz.pinned (.plain (OpenSpec.ofChange spotBesideSpec)) spotBesideCard

/-- THE SECOND FORM's CARD OF 'stetlaw16.SpotBeside'. -/
def spotBesideUptoCard : Claim7 := { stood := { row := spotBesideUptoRow, standIns := [], harness := (true, "94effe4c5fea10bef02eaa0c293bf239890dce11d433f7c57583b7625f2c2602"), looks := true }, kinds := [], alts := [], laidByText := true, laidKinds := [.data, .data, .data, .data, .sentinel, .sentinel, .pinned], laidTests := true, laidLooks := .later }
def SpotBesideUptoCardSaid : Prop := Claim7.holds Tryz.pinned (.plain (OpenSpec.upto spotBesideSpec)) spotBesideUptoCard
end Rows
end Go.Proofs.YtpcfoeagojdmdaaGreatDoor
