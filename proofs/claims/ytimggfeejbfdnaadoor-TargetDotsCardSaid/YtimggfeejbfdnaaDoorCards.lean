/-
  DERIVED. GIVEN WITH THE SEED: THE CARDS: each row of YtimggfeejbfdnaaDoorRows.lean that lists a variable, with what it lists TIED to the program's text (the seventh form; the later family's looks); each row that meets fmt, with fmt's text TOLD by the authors' own Lean function (tested against real Go, not proved from fmt's source: count such statements apart). THE CARD IS WHAT COUNTS. Prove the row's statement (the work); the ties are given (YtimggfeejbfdnaaDoorTie.lean); close each card by the builder's one call (the guide's Derived/Test/ToyasCard.lean, 'card_holds'). Laid BY PROGRAM, IN A SANDBOX (cutbox-door.mjs). By AI agents, Wed Nov 11 2026. No macro, syntax, notation, axiom, sorry.
-/
import Derived.Test.YtimggfeejbfdnaaDoorRows
import GoSem.ClaimSeven
namespace Go.Proofs.YtimggfeejbfdnaaDoor
namespace Rows

/-- THE TIED CARD OF 'scullerylaw09.TargetTells'. -/
def targetTellsCard : Claim7 := { stood := { row := targetTellsRow, standIns := [], harness := (true, "ab34ff3e6fa5975e704f9cb92fe99364e7f7e7da646826c41eceb555e8159167"), looks := true }, kinds := [], alts := [], laidByText := true, laidKinds := [.data, .data, .data, .data, .sentinel, .sentinel, .pinned], laidTests := true, laidLooks := .later }
def TargetTellsCardSaid : Prop := Claim7.holds Tryd.pinned (.plain (OpenSpec.ofChange targetTellsSpec)) targetTellsCard

/-- THE TIED CARD OF 'scullerylaw09.TargetStays'. -/
def targetStaysCard : Claim7 := { stood := { row := targetStaysRow, standIns := [], harness := (true, "ab34ff3e6fa5975e704f9cb92fe99364e7f7e7da646826c41eceb555e8159167"), looks := true }, kinds := [], alts := [], laidByText := true, laidKinds := [.data, .data, .data, .data, .sentinel, .sentinel, .pinned], laidTests := true, laidLooks := .later }
def TargetStaysCardSaid : Prop := Claim7.holds Tryd.pinned (.plain (OpenSpec.ofChange targetStaysSpec)) targetStaysCard

/-- THE TIED CARD OF 'scullerylaw09.TargetDots'. -/
def targetDotsCard : Claim7 := { stood := { row := targetDotsRow, standIns := [], harness := (true, "ab34ff3e6fa5975e704f9cb92fe99364e7f7e7da646826c41eceb555e8159167"), looks := true }, kinds := [], alts := [], laidByText := true, laidKinds := [.data, .data, .data, .data, .sentinel, .sentinel, .pinned], laidTests := true, laidLooks := .later }
def TargetDotsCardSaid : Prop := Claim7.holds Tryd.pinned (.plain (OpenSpec.ofChange targetDotsSpec)) targetDotsCard

/-- THE TIED CARD OF 'scullerylaw09.TargetSame'. -/
def targetSameCard : Claim7 := { stood := { row := targetSameRow, standIns := [], harness := (true, "ab34ff3e6fa5975e704f9cb92fe99364e7f7e7da646826c41eceb555e8159167"), looks := true }, kinds := [], alts := [], laidByText := true, laidKinds := [.data, .data, .data, .data, .sentinel, .sentinel, .pinned], laidTests := true, laidLooks := .later }
def TargetSameCardSaid : Prop := Claim7.holds Tryd.pinned (.plain (OpenSpec.ofChange targetSameSpec)) targetSameCard

/-- THE SECOND FORM's CARD OF 'scullerylaw09.TargetTells'. -/
def targetTellsUptoCard : Claim7 := { stood := { row := targetTellsUptoRow, standIns := [], harness := (true, "ab34ff3e6fa5975e704f9cb92fe99364e7f7e7da646826c41eceb555e8159167"), looks := true }, kinds := [], alts := [], laidByText := true, laidKinds := [.data, .data, .data, .data, .sentinel, .sentinel, .pinned], laidTests := true, laidLooks := .later }
def TargetTellsUptoCardSaid : Prop := Claim7.holds Tryd.pinned (.plain (OpenSpec.upto targetTellsSpec)) targetTellsUptoCard

/-- THE SECOND FORM's CARD OF 'scullerylaw09.TargetStays'. -/
def targetStaysUptoCard : Claim7 := { stood := { row := targetStaysUptoRow, standIns := [], harness := (true, "ab34ff3e6fa5975e704f9cb92fe99364e7f7e7da646826c41eceb555e8159167"), looks := true }, kinds := [], alts := [], laidByText := true, laidKinds := [.data, .data, .data, .data, .sentinel, .sentinel, .pinned], laidTests := true, laidLooks := .later }
def TargetStaysUptoCardSaid : Prop := Claim7.holds Tryd.pinned (.plain (OpenSpec.upto targetStaysSpec)) targetStaysUptoCard

/-- THE SECOND FORM's CARD OF 'scullerylaw09.TargetDots'. -/
def targetDotsUptoCard : Claim7 := { stood := { row := targetDotsUptoRow, standIns := [], harness := (true, "ab34ff3e6fa5975e704f9cb92fe99364e7f7e7da646826c41eceb555e8159167"), looks := true }, kinds := [], alts := [], laidByText := true, laidKinds := [.data, .data, .data, .data, .sentinel, .sentinel, .pinned], laidTests := true, laidLooks := .later }
def TargetDotsUptoCardSaid : Prop := Claim7.holds Tryd.pinned (.plain (OpenSpec.upto targetDotsSpec)) targetDotsUptoCard

/-- THE SECOND FORM's CARD OF 'scullerylaw09.TargetSame'. -/
def targetSameUptoCard : Claim7 := { stood := { row := targetSameUptoRow, standIns := [], harness := (true, "ab34ff3e6fa5975e704f9cb92fe99364e7f7e7da646826c41eceb555e8159167"), looks := true }, kinds := [], alts := [], laidByText := true, laidKinds := [.data, .data, .data, .data, .sentinel, .sentinel, .pinned], laidTests := true, laidLooks := .later }
def TargetSameUptoCardSaid : Prop := Claim7.holds Tryd.pinned (.plain (OpenSpec.upto targetSameSpec)) targetSameUptoCard
end Rows
end Go.Proofs.YtimggfeejbfdnaaDoor
