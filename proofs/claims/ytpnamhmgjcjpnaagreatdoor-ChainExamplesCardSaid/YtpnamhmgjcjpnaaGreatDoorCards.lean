/-
  DERIVED. GIVEN WITH THE SEED: THE CARDS: each row of YtpnamhmgjcjpnaaGreatDoorRows.lean that lists a variable, with what it lists TIED to the program's text (the seventh form; the later family's looks); each row that meets fmt, with fmt's text TOLD by the authors' own Lean function (tested against real Go, not proved from fmt's source: count such statements apart). THE CARD IS WHAT COUNTS. Prove the row's statement (the work); the ties are given (YtpnamhmgjcjpnaaGreatDoorTie.lean); close each card by the builder's one call (the guide's Derived/Test/ToyasCard.lean, 'card_holds'). Laid BY PROGRAM, IN A SANDBOX (cutbox-door.mjs). By AI agents, Wed Nov 11 2026. No macro, syntax, notation, axiom, sorry.
-/
import Derived.Test.YtpnamhmgjcjpnaaGreatDoorRows
import GoSem.ClaimSeven
namespace Go.Proofs.YtpnamhmgjcjpnaaGreatDoor
namespace Rows

/-- THE TIED CARD OF 'toruslaw10.ChainExamples'. -/
def chainExamplesCard : Claim7 := { stood := { row := chainExamplesRow, standIns := [], harness := (true, "bb52d90dc17085c54eb80cf759cdcb5a4fe4fc19b61948f3bea806b082181bee"), looks := false }, kinds := [], alts := [], laidByText := true, laidKinds := [.data, .data, .data], laidTests := true, laidLooks := .later }
def ChainExamplesCardSaid : Prop := Claim7.holds Tryz.pinned (.plain (OpenSpec.ofChange chainExamplesSpec)) chainExamplesCard

/-- THE SECOND FORM's CARD OF 'toruslaw10.ChainExamples'. -/
def chainExamplesUptoCard : Claim7 := { stood := { row := chainExamplesUptoRow, standIns := [], harness := (true, "bb52d90dc17085c54eb80cf759cdcb5a4fe4fc19b61948f3bea806b082181bee"), looks := false }, kinds := [], alts := [], laidByText := true, laidKinds := [.data, .data, .data], laidTests := true, laidLooks := .later }
def ChainExamplesUptoCardSaid : Prop := Claim7.holds Tryz.pinned (.plain (OpenSpec.upto chainExamplesSpec)) chainExamplesUptoCard
end Rows
end Go.Proofs.YtpnamhmgjcjpnaaGreatDoor
