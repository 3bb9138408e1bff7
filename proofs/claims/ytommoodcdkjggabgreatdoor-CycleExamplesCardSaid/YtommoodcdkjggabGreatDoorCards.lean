/-
  DERIVED. GIVEN WITH THE SEED: THE CARDS: each row of YtommoodcdkjggabGreatDoorRows.lean that lists a variable, with what it lists TIED to the program's text (the seventh form; the later family's looks); each row that meets fmt, with fmt's text TOLD by the authors' own Lean function (tested against real Go, not proved from fmt's source: count such statements apart). THE CARD IS WHAT COUNTS. Prove the row's statement (the work); the ties are given (YtommoodcdkjggabGreatDoorTie.lean); close each card by the builder's one call (the guide's Derived/Test/ToyasCard.lean, 'card_holds'). Laid BY PROGRAM, IN A SANDBOX (cutbox-door.mjs). By AI agents, Wed Nov 11 2026. No macro, syntax, notation, axiom, sorry.
-/
import Derived.Test.YtommoodcdkjggabGreatDoorRows
import GoSem.ClaimSeven
namespace Go.Proofs.YtommoodcdkjggabGreatDoor
namespace Rows

/-- THE TIED CARD OF 'toruslaw25.CycleExamples'. -/
def cycleExamplesCard : Claim7 := { stood := { row := cycleExamplesRow, standIns := [], harness := (true, "5b574ea3d43668e534cfaa9ab18ee81244bf7ad92493f6a97253cdf21fe82b57"), looks := false }, kinds := [], alts := [], laidByText := true, laidKinds := [.data, .data, .data], laidTests := true, laidLooks := .later }
def CycleExamplesCardSaid : Prop := Claim7.holds Tryz.pinned (.plain (OpenSpec.ofChange cycleExamplesSpec)) cycleExamplesCard

/-- THE SECOND FORM's CARD OF 'toruslaw25.CycleExamples'. -/
def cycleExamplesUptoCard : Claim7 := { stood := { row := cycleExamplesUptoRow, standIns := [], harness := (true, "5b574ea3d43668e534cfaa9ab18ee81244bf7ad92493f6a97253cdf21fe82b57"), looks := false }, kinds := [], alts := [], laidByText := true, laidKinds := [.data, .data, .data], laidTests := true, laidLooks := .later }
def CycleExamplesUptoCardSaid : Prop := Claim7.holds Tryz.pinned (.plain (OpenSpec.upto cycleExamplesSpec)) cycleExamplesUptoCard
end Rows
end Go.Proofs.YtommoodcdkjggabGreatDoor
