/-
  DERIVED. GIVEN WITH THE SEED: THE CARDS: each row of YtfgcfofjjiinjaaGreatDoorRows.lean that lists a variable, with what it lists TIED to the program's text (the seventh form; the later family's looks); each row that meets fmt, with fmt's text TOLD by the authors' own Lean function (tested against real Go, not proved from fmt's source: count such statements apart). THE CARD IS WHAT COUNTS. Prove the row's statement (the work); the ties are given (YtfgcfofjjiinjaaGreatDoorTie.lean); close each card by the builder's one call (the guide's Derived/Test/ToyasCard.lean, 'card_holds'). Laid BY PROGRAM, IN A SANDBOX (cutbox-door.mjs). By AI agents, Wed Nov 11 2026. No macro, syntax, notation, axiom, sorry.
-/
import Derived.Test.YtfgcfofjjiinjaaGreatDoorRows
import GoSem.ClaimSeven
namespace Go.Proofs.YtfgcfofjjiinjaaGreatDoor
namespace Rows

/-- THE TIED CARD OF 'soundposttop.TopMeaning'. -/
def topMeaningCard : Claim7 := { stood := { row := topMeaningRow, standIns := [], harness := (true, "7f8f6a056c84222e43460abeb7f6673d8d7499220f3a17919a224ecdec699b4f"), looks := true }, kinds := [], alts := [], laidByText := true, laidKinds := [.data, .data, .data, .sentinel, .sentinel, .data], laidTests := true, laidLooks := .later }
def TopMeaningCardSaid : Prop := Claim7.holds Tryz.pinned (.plain (OpenSpec.ofChange topMeaningSpec)) topMeaningCard

/-- THE SECOND FORM's CARD OF 'soundposttop.TopMeaning'. -/
def topMeaningUptoCard : Claim7 := { stood := { row := topMeaningUptoRow, standIns := [], harness := (true, "7f8f6a056c84222e43460abeb7f6673d8d7499220f3a17919a224ecdec699b4f"), looks := true }, kinds := [], alts := [], laidByText := true, laidKinds := [.data, .data, .data, .sentinel, .sentinel, .data], laidTests := true, laidLooks := .later }
def TopMeaningUptoCardSaid : Prop := Claim7.holds Tryz.pinned (.plain (OpenSpec.upto topMeaningSpec)) topMeaningUptoCard
end Rows
end Go.Proofs.YtfgcfofjjiinjaaGreatDoor
