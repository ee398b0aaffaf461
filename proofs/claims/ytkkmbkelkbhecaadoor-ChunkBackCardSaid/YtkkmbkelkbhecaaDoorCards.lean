/-
  DERIVED. GIVEN WITH THE SEED: THE CARDS: each row of YtkkmbkelkbhecaaDoorRows.lean that lists a variable, with what it lists TIED to the program's text (the seventh form; the later family's looks); each row that meets fmt, with fmt's text TOLD by the authors' own Lean function (tested against real Go, not proved from fmt's source: count such statements apart). THE CARD IS WHAT COUNTS. Prove the row's statement (the work); the ties are given (YtkkmbkelkbhecaaDoorTie.lean); close each card by the builder's one call (the guide's Derived/Test/ToyasCard.lean, 'card_holds'). Laid BY PROGRAM, IN A SANDBOX (cutbox-door.mjs). By AI agents, Wed Nov 11 2026. No macro, syntax, notation, axiom, sorry.
-/
import Derived.Test.YtkkmbkelkbhecaaDoorRows
import GoSem.ClaimSeven
namespace Go.Proofs.YtkkmbkelkbhecaaDoor
namespace Rows

/-- THE TIED CARD OF 'scullerylaw07.ChunkBack'. -/
def chunkBackCard : Claim7 := { stood := { row := chunkBackRow, standIns := [], harness := (true, "b1bb94e115b3cdbda15592af1caad45a91c9dfed11c5dbfdd939bee145b89d0e"), looks := true }, kinds := [], alts := [], laidByText := true, laidKinds := [.data, .data, .data, .data, .sentinel, .sentinel, .pinned], laidTests := true, laidLooks := .later }
def ChunkBackCardSaid : Prop := Claim7.holds Tryd.pinned (.plain (OpenSpec.ofChange chunkBackSpec)) chunkBackCard

/-- THE TIED CARD OF 'scullerylaw07.ChunkJoin'. -/
def chunkJoinCard : Claim7 := { stood := { row := chunkJoinRow, standIns := [], harness := (true, "b1bb94e115b3cdbda15592af1caad45a91c9dfed11c5dbfdd939bee145b89d0e"), looks := true }, kinds := [], alts := [], laidByText := true, laidKinds := [.data, .data, .data, .data, .sentinel, .sentinel, .pinned], laidTests := true, laidLooks := .later }
def ChunkJoinCardSaid : Prop := Claim7.holds Tryd.pinned (.plain (OpenSpec.ofChange chunkJoinSpec)) chunkJoinCard

/-- THE SECOND FORM's CARD OF 'scullerylaw07.ChunkBack'. -/
def chunkBackUptoCard : Claim7 := { stood := { row := chunkBackUptoRow, standIns := [], harness := (true, "b1bb94e115b3cdbda15592af1caad45a91c9dfed11c5dbfdd939bee145b89d0e"), looks := true }, kinds := [], alts := [], laidByText := true, laidKinds := [.data, .data, .data, .data, .sentinel, .sentinel, .pinned], laidTests := true, laidLooks := .later }
def ChunkBackUptoCardSaid : Prop := Claim7.holds Tryd.pinned (.plain (OpenSpec.upto chunkBackSpec)) chunkBackUptoCard

/-- THE SECOND FORM's CARD OF 'scullerylaw07.ChunkJoin'. -/
def chunkJoinUptoCard : Claim7 := { stood := { row := chunkJoinUptoRow, standIns := [], harness := (true, "b1bb94e115b3cdbda15592af1caad45a91c9dfed11c5dbfdd939bee145b89d0e"), looks := true }, kinds := [], alts := [], laidByText := true, laidKinds := [.data, .data, .data, .data, .sentinel, .sentinel, .pinned], laidTests := true, laidLooks := .later }
def ChunkJoinUptoCardSaid : Prop := Claim7.holds Tryd.pinned (.plain (OpenSpec.upto chunkJoinSpec)) chunkJoinUptoCard
end Rows
end Go.Proofs.YtkkmbkelkbhecaaDoor
