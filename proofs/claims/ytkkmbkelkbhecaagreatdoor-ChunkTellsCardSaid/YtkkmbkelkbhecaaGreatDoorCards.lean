/-
  DERIVED. GIVEN WITH THE SEED: THE CARDS: each row of YtkkmbkelkbhecaaGreatDoorRows.lean that lists a variable, with what it lists TIED to the program's text (the seventh form; the later family's looks); each row that meets fmt, with fmt's text TOLD by the authors' own Lean function (tested against real Go, not proved from fmt's source: count such statements apart). THE CARD IS WHAT COUNTS. Prove the row's statement (the work); the ties are given (YtkkmbkelkbhecaaGreatDoorTie.lean); close each card by the builder's one call (the guide's Derived/Test/ToyasCard.lean, 'card_holds'). Laid BY PROGRAM, IN A SANDBOX (cutbox-door.mjs). By AI agents, Wed Nov 11 2026. No macro, syntax, notation, axiom, sorry.
-/
import Derived.Test.YtkkmbkelkbhecaaGreatDoorRows
import GoSem.ClaimSeven
namespace Go.Proofs.YtkkmbkelkbhecaaGreatDoor
namespace Rows

/-- THE TIED CARD OF 'scullerylaw07.ChunkTells'. -/
def chunkTellsCard : Claim7 := { stood := { row := chunkTellsRow, standIns := [], harness := (true, "1338517d9fff34d6f07434e33fcc9b69c5c5409b93631746726037c0ca3b1c2e"), looks := true }, kinds := [], alts := [], laidByText := true, laidKinds := [.data, .data, .data, .data, .sentinel, .sentinel, .pinned], laidTests := true, laidLooks := .later }
def ChunkTellsCardSaid : Prop := Claim7.holds Tryz.pinned (.plain (OpenSpec.ofChange chunkTellsSpec)) chunkTellsCard

/-- THE SECOND FORM's CARD OF 'scullerylaw07.ChunkTells'. -/
def chunkTellsUptoCard : Claim7 := { stood := { row := chunkTellsUptoRow, standIns := [], harness := (true, "1338517d9fff34d6f07434e33fcc9b69c5c5409b93631746726037c0ca3b1c2e"), looks := true }, kinds := [], alts := [], laidByText := true, laidKinds := [.data, .data, .data, .data, .sentinel, .sentinel, .pinned], laidTests := true, laidLooks := .later }
def ChunkTellsUptoCardSaid : Prop := Claim7.holds Tryz.pinned (.plain (OpenSpec.upto chunkTellsSpec)) chunkTellsUptoCard
end Rows
end Go.Proofs.YtkkmbkelkbhecaaGreatDoor
