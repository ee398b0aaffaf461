/-
  DERIVED. GIVEN WITH THE SEED: THE CARDS: each row of YtifocgljpfaekaaDoorRows.lean that lists a variable, with what it lists TIED to the program's text (the seventh form; the later family's looks); each row that meets fmt, with fmt's text TOLD by the authors' own Lean function (tested against real Go, not proved from fmt's source: count such statements apart). THE CARD IS WHAT COUNTS. Prove the row's statement (the work); the ties are given (YtifocgljpfaekaaDoorTie.lean); close each card by the builder's one call (the guide's Derived/Test/ToyasCard.lean, 'card_holds'). Laid BY PROGRAM, IN A SANDBOX (cutbox-door.mjs). By AI agents, Wed Nov 11 2026. No macro, syntax, notation, axiom, sorry.
-/
import Derived.Test.YtifocgljpfaekaaDoorRows
import GoSem.ClaimSeven
namespace Go.Proofs.YtifocgljpfaekaaDoor
namespace Rows

/-- THE TIED CARD OF 'scullerylaw12.EtagHeld'. -/
def etagHeldCard : Claim7 := { stood := { row := etagHeldRow, standIns := [], harness := (true, "1371ca7be518730405db980be0b07e04b9c1e499aa5cc870d1130dabe567ebb1"), looks := false }, kinds := [], alts := [], laidByText := true, laidKinds := [.data, .pinned], laidTests := true, laidLooks := .later }
def EtagHeldCardSaid : Prop := Claim7.holds Tryd.pinned (.plain (OpenSpec.ofChange etagHeldSpec)) etagHeldCard

/-- THE SECOND FORM's CARD OF 'scullerylaw12.EtagHeld'. -/
def etagHeldUptoCard : Claim7 := { stood := { row := etagHeldUptoRow, standIns := [], harness := (true, "1371ca7be518730405db980be0b07e04b9c1e499aa5cc870d1130dabe567ebb1"), looks := false }, kinds := [], alts := [], laidByText := true, laidKinds := [.data, .pinned], laidTests := true, laidLooks := .later }
def EtagHeldUptoCardSaid : Prop := Claim7.holds Tryd.pinned (.plain (OpenSpec.upto etagHeldSpec)) etagHeldUptoCard
end Rows
end Go.Proofs.YtifocgljpfaekaaDoor
