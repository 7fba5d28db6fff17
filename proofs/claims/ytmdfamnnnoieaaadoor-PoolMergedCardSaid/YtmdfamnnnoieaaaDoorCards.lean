/-
  DERIVED. GIVEN WITH THE SEED: THE CARDS: each row of YtmdfamnnnoieaaaDoorRows.lean that lists a variable, with what it lists TIED to the program's text (the seventh form; the later family's looks); each row that meets fmt, with fmt's text TOLD by the authors' own Lean function (tested against real Go, not proved from fmt's source: count such statements apart). THE CARD IS WHAT COUNTS. Prove the row's statement (the work); the ties are given (YtmdfamnnnoieaaaDoorTie.lean); close each card by the builder's one call (the guide's Derived/Test/ToyasCard.lean, 'card_holds'). Laid BY PROGRAM, IN A SANDBOX (cutbox-door.mjs). By AI agents, Wed Nov 11 2026. No macro, syntax, notation, axiom, sorry.
-/
import Derived.Test.YtmdfamnnnoieaaaDoorRows
import GoSem.ClaimSeven
namespace Go.Proofs.YtmdfamnnnoieaaaDoor
namespace Rows

/-- THE TIED CARD OF 'soundpostlaw25.PoolPutSpec'. -/
def poolPutSpecCard : Claim7 := { stood := { row := poolPutSpecRow, standIns := [], harness := (true, "88e8bb5e6ccda485842a61d93f4ffb4c7c4567adf99ecbbed76cbbad07834a84"), looks := false }, kinds := [], alts := [], laidByText := true, laidKinds := [.data, .data], laidTests := true, laidLooks := .later }
def PoolPutSpecCardSaid : Prop := Claim7.holds Tryd.pinned (.plain (OpenSpec.ofChange poolPutSpecSpec)) poolPutSpecCard

/-- THE TIED CARD OF 'soundpostlaw25.PoolMergeSpec'. -/
def poolMergeSpecCard : Claim7 := { stood := { row := poolMergeSpecRow, standIns := [], harness := (true, "88e8bb5e6ccda485842a61d93f4ffb4c7c4567adf99ecbbed76cbbad07834a84"), looks := false }, kinds := [], alts := [], laidByText := true, laidKinds := [.data, .data], laidTests := true, laidLooks := .later }
def PoolMergeSpecCardSaid : Prop := Claim7.holds Tryd.pinned (.plain (OpenSpec.ofChange poolMergeSpecSpec)) poolMergeSpecCard

/-- THE TIED CARD OF 'soundpostlaw25.PoolKept'. -/
def poolKeptCard : Claim7 := { stood := { row := poolKeptRow, standIns := [], harness := (true, "88e8bb5e6ccda485842a61d93f4ffb4c7c4567adf99ecbbed76cbbad07834a84"), looks := false }, kinds := [], alts := [], laidByText := true, laidKinds := [.data, .data], laidTests := true, laidLooks := .later }
def PoolKeptCardSaid : Prop := Claim7.holds Tryd.pinned (.plain (OpenSpec.ofChange poolKeptSpec)) poolKeptCard

/-- THE TIED CARD OF 'soundpostlaw25.PoolNamed'. -/
def poolNamedCard : Claim7 := { stood := { row := poolNamedRow, standIns := [], harness := (true, "88e8bb5e6ccda485842a61d93f4ffb4c7c4567adf99ecbbed76cbbad07834a84"), looks := false }, kinds := [], alts := [], laidByText := true, laidKinds := [.data, .data], laidTests := true, laidLooks := .later }
def PoolNamedCardSaid : Prop := Claim7.holds Tryd.pinned (.plain (OpenSpec.ofChange poolNamedSpec)) poolNamedCard

/-- THE TIED CARD OF 'soundpostlaw25.PoolMerged'. -/
def poolMergedCard : Claim7 := { stood := { row := poolMergedRow, standIns := [], harness := (true, "88e8bb5e6ccda485842a61d93f4ffb4c7c4567adf99ecbbed76cbbad07834a84"), looks := false }, kinds := [], alts := [], laidByText := true, laidKinds := [.data, .data], laidTests := true, laidLooks := .later }
def PoolMergedCardSaid : Prop := Claim7.holds Tryd.pinned (.plain (OpenSpec.ofChange poolMergedSpec)) poolMergedCard

/-- THE TIED CARD OF 'soundpostlaw25.PoolCollected'. -/
def poolCollectedCard : Claim7 := { stood := { row := poolCollectedRow, standIns := [], harness := (true, "88e8bb5e6ccda485842a61d93f4ffb4c7c4567adf99ecbbed76cbbad07834a84"), looks := false }, kinds := [], alts := [], laidByText := true, laidKinds := [.data, .data], laidTests := true, laidLooks := .later }
def PoolCollectedCardSaid : Prop := Claim7.holds Tryd.pinned (.plain (OpenSpec.ofChange poolCollectedSpec)) poolCollectedCard

/-- THE SECOND FORM's CARD OF 'soundpostlaw25.PoolPutSpec'. -/
def poolPutSpecUptoCard : Claim7 := { stood := { row := poolPutSpecUptoRow, standIns := [], harness := (true, "88e8bb5e6ccda485842a61d93f4ffb4c7c4567adf99ecbbed76cbbad07834a84"), looks := false }, kinds := [], alts := [], laidByText := true, laidKinds := [.data, .data], laidTests := true, laidLooks := .later }
def PoolPutSpecUptoCardSaid : Prop := Claim7.holds Tryd.pinned (.plain (OpenSpec.upto poolPutSpecSpec)) poolPutSpecUptoCard

/-- THE SECOND FORM's CARD OF 'soundpostlaw25.PoolMergeSpec'. -/
def poolMergeSpecUptoCard : Claim7 := { stood := { row := poolMergeSpecUptoRow, standIns := [], harness := (true, "88e8bb5e6ccda485842a61d93f4ffb4c7c4567adf99ecbbed76cbbad07834a84"), looks := false }, kinds := [], alts := [], laidByText := true, laidKinds := [.data, .data], laidTests := true, laidLooks := .later }
def PoolMergeSpecUptoCardSaid : Prop := Claim7.holds Tryd.pinned (.plain (OpenSpec.upto poolMergeSpecSpec)) poolMergeSpecUptoCard

/-- THE SECOND FORM's CARD OF 'soundpostlaw25.PoolKept'. -/
def poolKeptUptoCard : Claim7 := { stood := { row := poolKeptUptoRow, standIns := [], harness := (true, "88e8bb5e6ccda485842a61d93f4ffb4c7c4567adf99ecbbed76cbbad07834a84"), looks := false }, kinds := [], alts := [], laidByText := true, laidKinds := [.data, .data], laidTests := true, laidLooks := .later }
def PoolKeptUptoCardSaid : Prop := Claim7.holds Tryd.pinned (.plain (OpenSpec.upto poolKeptSpec)) poolKeptUptoCard

/-- THE SECOND FORM's CARD OF 'soundpostlaw25.PoolNamed'. -/
def poolNamedUptoCard : Claim7 := { stood := { row := poolNamedUptoRow, standIns := [], harness := (true, "88e8bb5e6ccda485842a61d93f4ffb4c7c4567adf99ecbbed76cbbad07834a84"), looks := false }, kinds := [], alts := [], laidByText := true, laidKinds := [.data, .data], laidTests := true, laidLooks := .later }
def PoolNamedUptoCardSaid : Prop := Claim7.holds Tryd.pinned (.plain (OpenSpec.upto poolNamedSpec)) poolNamedUptoCard

/-- THE SECOND FORM's CARD OF 'soundpostlaw25.PoolMerged'. -/
def poolMergedUptoCard : Claim7 := { stood := { row := poolMergedUptoRow, standIns := [], harness := (true, "88e8bb5e6ccda485842a61d93f4ffb4c7c4567adf99ecbbed76cbbad07834a84"), looks := false }, kinds := [], alts := [], laidByText := true, laidKinds := [.data, .data], laidTests := true, laidLooks := .later }
def PoolMergedUptoCardSaid : Prop := Claim7.holds Tryd.pinned (.plain (OpenSpec.upto poolMergedSpec)) poolMergedUptoCard

/-- THE SECOND FORM's CARD OF 'soundpostlaw25.PoolCollected'. -/
def poolCollectedUptoCard : Claim7 := { stood := { row := poolCollectedUptoRow, standIns := [], harness := (true, "88e8bb5e6ccda485842a61d93f4ffb4c7c4567adf99ecbbed76cbbad07834a84"), looks := false }, kinds := [], alts := [], laidByText := true, laidKinds := [.data, .data], laidTests := true, laidLooks := .later }
def PoolCollectedUptoCardSaid : Prop := Claim7.holds Tryd.pinned (.plain (OpenSpec.upto poolCollectedSpec)) poolCollectedUptoCard
end Rows
end Go.Proofs.YtmdfamnnnoieaaaDoor
