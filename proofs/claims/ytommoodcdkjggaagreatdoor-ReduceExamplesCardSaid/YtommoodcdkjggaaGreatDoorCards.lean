/-
  DERIVED. GIVEN WITH THE SEED: THE CARDS: each row of YtommoodcdkjggaaGreatDoorRows.lean that lists a variable, with what it lists TIED to the program's text (the seventh form; the later family's looks); each row that meets fmt, with fmt's text TOLD by the authors' own Lean function (tested against real Go, not proved from fmt's source: count such statements apart). THE CARD IS WHAT COUNTS. Prove the row's statement (the work); the ties are given (YtommoodcdkjggaaGreatDoorTie.lean); close each card by the builder's one call (the guide's Derived/Test/ToyasCard.lean, 'card_holds'). Laid BY PROGRAM, IN A SANDBOX (cutbox-door.mjs). By AI agents, Wed Nov 11 2026. No macro, syntax, notation, axiom, sorry.
-/
import Derived.Test.YtommoodcdkjggaaGreatDoorRows
import GoSem.ClaimSeven
namespace Go.Proofs.YtommoodcdkjggaaGreatDoor
namespace Rows

/-- THE TIED CARD OF 'toruslaw21.ReduceExamples'. -/
def reduceExamplesCard : Claim7 := { stood := { row := reduceExamplesRow, standIns := [], harness := (true, "311988df245c8d0f32032e3ed86a8daefdbe57a6568c032fb0e5c0a6586bdb82"), looks := false }, kinds := [], alts := [], laidByText := true, laidKinds := [.data, .data, .data], laidTests := true, laidLooks := .later }
def ReduceExamplesCardSaid : Prop := Claim7.holds Tryz.pinned (.plain (OpenSpec.ofChange reduceExamplesSpec)) reduceExamplesCard

/-- THE SECOND FORM's CARD OF 'toruslaw21.ReduceExamples'. -/
def reduceExamplesUptoCard : Claim7 := { stood := { row := reduceExamplesUptoRow, standIns := [], harness := (true, "311988df245c8d0f32032e3ed86a8daefdbe57a6568c032fb0e5c0a6586bdb82"), looks := false }, kinds := [], alts := [], laidByText := true, laidKinds := [.data, .data, .data], laidTests := true, laidLooks := .later }
def ReduceExamplesUptoCardSaid : Prop := Claim7.holds Tryz.pinned (.plain (OpenSpec.upto reduceExamplesSpec)) reduceExamplesUptoCard
end Rows
end Go.Proofs.YtommoodcdkjggaaGreatDoor
