/-
  DERIVED. GIVEN WITH THE SEED: THE CARDS: each row of YtkpjaeffojibmaaGreatDoorRows.lean that lists a variable, with what it lists TIED to the program's text (the seventh form; the later family's looks); each row that meets fmt, with fmt's text TOLD by the authors' own Lean function (tested against real Go, not proved from fmt's source: count such statements apart). THE CARD IS WHAT COUNTS. Prove the row's statement (the work); the ties are given (YtkpjaeffojibmaaGreatDoorTie.lean); close each card by the builder's one call (the guide's Derived/Test/ToyasCard.lean, 'card_holds'). Laid BY PROGRAM, IN A SANDBOX (cutbox-door.mjs). By AI agents, Wed Nov 11 2026. No macro, syntax, notation, axiom, sorry.
-/
import Derived.Test.YtkpjaeffojibmaaGreatDoorRows
import GoSem.ClaimSeven
namespace Go.Proofs.YtkpjaeffojibmaaGreatDoor
namespace Rows

/-- THE TIED CARD OF 'stetlaw15.CutParts'. -/
def cutPartsCard : Claim7 := { stood := { row := cutPartsRow, standIns := [], harness := (true, "24165eb9b52d138f6443e09977c988b92737519d4417aa1025b8634b7b4f50b7"), looks := true }, kinds := [], alts := [], laidByText := true, laidKinds := [.data, .data, .data, .data, .sentinel, .sentinel, .pinned], laidTests := true, laidLooks := .later }
def CutPartsCardSaid : Prop := Claim7.holds Tryz.pinned (.plain (OpenSpec.ofChange cutPartsSpec)) cutPartsCard

/-- THE SECOND FORM's CARD OF 'stetlaw15.CutParts'. -/
def cutPartsUptoCard : Claim7 := { stood := { row := cutPartsUptoRow, standIns := [], harness := (true, "24165eb9b52d138f6443e09977c988b92737519d4417aa1025b8634b7b4f50b7"), looks := true }, kinds := [], alts := [], laidByText := true, laidKinds := [.data, .data, .data, .data, .sentinel, .sentinel, .pinned], laidTests := true, laidLooks := .later }
def CutPartsUptoCardSaid : Prop := Claim7.holds Tryz.pinned (.plain (OpenSpec.upto cutPartsSpec)) cutPartsUptoCard
end Rows
end Go.Proofs.YtkpjaeffojibmaaGreatDoor
