/-
  DERIVED. GIVEN WITH THE SEED: THE CARDS: each row of YtadagifjonbmjaaGreatDoorRows.lean that lists a variable, with what it lists TIED to the program's text (the seventh form; the later family's looks); each row that meets fmt, with fmt's text TOLD by the authors' own Lean function (tested against real Go, not proved from fmt's source: count such statements apart). THE CARD IS WHAT COUNTS. Prove the row's statement (the work); the ties are given (YtadagifjonbmjaaGreatDoorTie.lean); close each card by the builder's one call (the guide's Derived/Test/ToyasCard.lean, 'card_holds'). Laid BY PROGRAM, IN A SANDBOX (cutbox-door.mjs). By AI agents, Wed Nov 11 2026. No macro, syntax, notation, axiom, sorry.
-/
import Derived.Test.YtadagifjonbmjaaGreatDoorRows
import GoSem.ClaimSeven
namespace Go.Proofs.YtadagifjonbmjaaGreatDoor
namespace Rows

/-- THE TIED CARD OF 'toruslaw08.ComplexTextMatches'. -/
def complexTextMatchesCard : Claim7 := { stood := { row := complexTextMatchesRow, standIns := [], harness := (true, "e462f5216ce3709846ad0f891b861f8bb7babfd79b73df8de8e423f4e9f3cdd6"), looks := false }, kinds := [], alts := [], laidByText := true, laidKinds := [.data, .data, .data], laidTests := true, laidLooks := .later }
def ComplexTextMatchesCardSaid : Prop := Claim7.holds Tryz.pinned (.plain (OpenSpec.ofChange complexTextMatchesSpec)) complexTextMatchesCard

/-- THE TIED CARD OF 'toruslaw08.ComplexCloses'. -/
def complexClosesCard : Claim7 := { stood := { row := complexClosesRow, standIns := [], harness := (true, "e462f5216ce3709846ad0f891b861f8bb7babfd79b73df8de8e423f4e9f3cdd6"), looks := false }, kinds := [], alts := [], laidByText := true, laidKinds := [.data, .data, .data], laidTests := true, laidLooks := .later }
def ComplexClosesCardSaid : Prop := Claim7.holds Tryz.pinned (.plain (OpenSpec.ofChange complexClosesSpec)) complexClosesCard

/-- THE TIED CARD OF 'toruslaw08.ComplexLinks'. -/
def complexLinksCard : Claim7 := { stood := { row := complexLinksRow, standIns := [], harness := (true, "e462f5216ce3709846ad0f891b861f8bb7babfd79b73df8de8e423f4e9f3cdd6"), looks := false }, kinds := [], alts := [], laidByText := true, laidKinds := [.data, .data, .data], laidTests := true, laidLooks := .later }
def ComplexLinksCardSaid : Prop := Claim7.holds Tryz.pinned (.plain (OpenSpec.ofChange complexLinksSpec)) complexLinksCard

/-- THE TIED CARD OF 'toruslaw08.ComplexPartsMatch'. -/
def complexPartsMatchCard : Claim7 := { stood := { row := complexPartsMatchRow, standIns := [], harness := (true, "e462f5216ce3709846ad0f891b861f8bb7babfd79b73df8de8e423f4e9f3cdd6"), looks := false }, kinds := [], alts := [], laidByText := true, laidKinds := [.data, .data, .data], laidTests := true, laidLooks := .later }
def ComplexPartsMatchCardSaid : Prop := Claim7.holds Tryz.pinned (.plain (OpenSpec.ofChange complexPartsMatchSpec)) complexPartsMatchCard

/-- THE TIED CARD OF 'toruslaw08.ComplexCountsMatch'. -/
def complexCountsMatchCard : Claim7 := { stood := { row := complexCountsMatchRow, standIns := [], harness := (true, "e462f5216ce3709846ad0f891b861f8bb7babfd79b73df8de8e423f4e9f3cdd6"), looks := false }, kinds := [], alts := [], laidByText := true, laidKinds := [.data, .data, .data], laidTests := true, laidLooks := .later }
def ComplexCountsMatchCardSaid : Prop := Claim7.holds Tryz.pinned (.plain (OpenSpec.ofChange complexCountsMatchSpec)) complexCountsMatchCard

/-- THE TIED CARD OF 'toruslaw08.ComplexBuildsMatch'. -/
def complexBuildsMatchCard : Claim7 := { stood := { row := complexBuildsMatchRow, standIns := [], harness := (true, "e462f5216ce3709846ad0f891b861f8bb7babfd79b73df8de8e423f4e9f3cdd6"), looks := false }, kinds := [], alts := [], laidByText := true, laidKinds := [.data, .data, .data], laidTests := true, laidLooks := .later }
def ComplexBuildsMatchCardSaid : Prop := Claim7.holds Tryz.pinned (.plain (OpenSpec.ofChange complexBuildsMatchSpec)) complexBuildsMatchCard

/-- THE TIED CARD OF 'toruslaw08.ComplexEuler'. -/
def complexEulerCard : Claim7 := { stood := { row := complexEulerRow, standIns := [], harness := (true, "e462f5216ce3709846ad0f891b861f8bb7babfd79b73df8de8e423f4e9f3cdd6"), looks := false }, kinds := [], alts := [], laidByText := true, laidKinds := [.data, .data, .data], laidTests := true, laidLooks := .later }
def ComplexEulerCardSaid : Prop := Claim7.holds Tryz.pinned (.plain (OpenSpec.ofChange complexEulerSpec)) complexEulerCard

/-- THE TIED CARD OF 'toruslaw08.ComplexCollapses'. -/
def complexCollapsesCard : Claim7 := { stood := { row := complexCollapsesRow, standIns := [], harness := (true, "e462f5216ce3709846ad0f891b861f8bb7babfd79b73df8de8e423f4e9f3cdd6"), looks := false }, kinds := [], alts := [], laidByText := true, laidKinds := [.data, .data, .data], laidTests := true, laidLooks := .later }
def ComplexCollapsesCardSaid : Prop := Claim7.holds Tryz.pinned (.plain (OpenSpec.ofChange complexCollapsesSpec)) complexCollapsesCard

/-- THE TIED CARD OF 'toruslaw08.ComplexExamples'. -/
def complexExamplesCard : Claim7 := { stood := { row := complexExamplesRow, standIns := [], harness := (true, "e462f5216ce3709846ad0f891b861f8bb7babfd79b73df8de8e423f4e9f3cdd6"), looks := false }, kinds := [], alts := [], laidByText := true, laidKinds := [.data, .data, .data], laidTests := true, laidLooks := .later }
def ComplexExamplesCardSaid : Prop := Claim7.holds Tryz.pinned (.plain (OpenSpec.ofChange complexExamplesSpec)) complexExamplesCard

/-- THE TIED CARD OF 'toruslaw08.ComplexRoundTrip'. -/
def complexRoundTripCard : Claim7 := { stood := { row := complexRoundTripRow, standIns := [], harness := (true, "e462f5216ce3709846ad0f891b861f8bb7babfd79b73df8de8e423f4e9f3cdd6"), looks := false }, kinds := [], alts := [], laidByText := true, laidKinds := [.data, .data, .data, .data, .pinned], laidTests := true, laidLooks := .later }
def ComplexRoundTripCardSaid : Prop := Claim7.holds Tryz.pinned (.plain (OpenSpec.ofChange complexRoundTripSpec)) complexRoundTripCard

/-- THE SECOND FORM's CARD OF 'toruslaw08.ComplexTextMatches'. -/
def complexTextMatchesUptoCard : Claim7 := { stood := { row := complexTextMatchesUptoRow, standIns := [], harness := (true, "e462f5216ce3709846ad0f891b861f8bb7babfd79b73df8de8e423f4e9f3cdd6"), looks := false }, kinds := [], alts := [], laidByText := true, laidKinds := [.data, .data, .data], laidTests := true, laidLooks := .later }
def ComplexTextMatchesUptoCardSaid : Prop := Claim7.holds Tryz.pinned (.plain (OpenSpec.upto complexTextMatchesSpec)) complexTextMatchesUptoCard

/-- THE SECOND FORM's CARD OF 'toruslaw08.ComplexCloses'. -/
def complexClosesUptoCard : Claim7 := { stood := { row := complexClosesUptoRow, standIns := [], harness := (true, "e462f5216ce3709846ad0f891b861f8bb7babfd79b73df8de8e423f4e9f3cdd6"), looks := false }, kinds := [], alts := [], laidByText := true, laidKinds := [.data, .data, .data], laidTests := true, laidLooks := .later }
def ComplexClosesUptoCardSaid : Prop := Claim7.holds Tryz.pinned (.plain (OpenSpec.upto complexClosesSpec)) complexClosesUptoCard

/-- THE SECOND FORM's CARD OF 'toruslaw08.ComplexLinks'. -/
def complexLinksUptoCard : Claim7 := { stood := { row := complexLinksUptoRow, standIns := [], harness := (true, "e462f5216ce3709846ad0f891b861f8bb7babfd79b73df8de8e423f4e9f3cdd6"), looks := false }, kinds := [], alts := [], laidByText := true, laidKinds := [.data, .data, .data], laidTests := true, laidLooks := .later }
def ComplexLinksUptoCardSaid : Prop := Claim7.holds Tryz.pinned (.plain (OpenSpec.upto complexLinksSpec)) complexLinksUptoCard

/-- THE SECOND FORM's CARD OF 'toruslaw08.ComplexPartsMatch'. -/
def complexPartsMatchUptoCard : Claim7 := { stood := { row := complexPartsMatchUptoRow, standIns := [], harness := (true, "e462f5216ce3709846ad0f891b861f8bb7babfd79b73df8de8e423f4e9f3cdd6"), looks := false }, kinds := [], alts := [], laidByText := true, laidKinds := [.data, .data, .data], laidTests := true, laidLooks := .later }
def ComplexPartsMatchUptoCardSaid : Prop := Claim7.holds Tryz.pinned (.plain (OpenSpec.upto complexPartsMatchSpec)) complexPartsMatchUptoCard

/-- THE SECOND FORM's CARD OF 'toruslaw08.ComplexCountsMatch'. -/
def complexCountsMatchUptoCard : Claim7 := { stood := { row := complexCountsMatchUptoRow, standIns := [], harness := (true, "e462f5216ce3709846ad0f891b861f8bb7babfd79b73df8de8e423f4e9f3cdd6"), looks := false }, kinds := [], alts := [], laidByText := true, laidKinds := [.data, .data, .data], laidTests := true, laidLooks := .later }
def ComplexCountsMatchUptoCardSaid : Prop := Claim7.holds Tryz.pinned (.plain (OpenSpec.upto complexCountsMatchSpec)) complexCountsMatchUptoCard

/-- THE SECOND FORM's CARD OF 'toruslaw08.ComplexBuildsMatch'. -/
def complexBuildsMatchUptoCard : Claim7 := { stood := { row := complexBuildsMatchUptoRow, standIns := [], harness := (true, "e462f5216ce3709846ad0f891b861f8bb7babfd79b73df8de8e423f4e9f3cdd6"), looks := false }, kinds := [], alts := [], laidByText := true, laidKinds := [.data, .data, .data], laidTests := true, laidLooks := .later }
def ComplexBuildsMatchUptoCardSaid : Prop := Claim7.holds Tryz.pinned (.plain (OpenSpec.upto complexBuildsMatchSpec)) complexBuildsMatchUptoCard

/-- THE SECOND FORM's CARD OF 'toruslaw08.ComplexEuler'. -/
def complexEulerUptoCard : Claim7 := { stood := { row := complexEulerUptoRow, standIns := [], harness := (true, "e462f5216ce3709846ad0f891b861f8bb7babfd79b73df8de8e423f4e9f3cdd6"), looks := false }, kinds := [], alts := [], laidByText := true, laidKinds := [.data, .data, .data], laidTests := true, laidLooks := .later }
def ComplexEulerUptoCardSaid : Prop := Claim7.holds Tryz.pinned (.plain (OpenSpec.upto complexEulerSpec)) complexEulerUptoCard

/-- THE SECOND FORM's CARD OF 'toruslaw08.ComplexCollapses'. -/
def complexCollapsesUptoCard : Claim7 := { stood := { row := complexCollapsesUptoRow, standIns := [], harness := (true, "e462f5216ce3709846ad0f891b861f8bb7babfd79b73df8de8e423f4e9f3cdd6"), looks := false }, kinds := [], alts := [], laidByText := true, laidKinds := [.data, .data, .data], laidTests := true, laidLooks := .later }
def ComplexCollapsesUptoCardSaid : Prop := Claim7.holds Tryz.pinned (.plain (OpenSpec.upto complexCollapsesSpec)) complexCollapsesUptoCard

/-- THE SECOND FORM's CARD OF 'toruslaw08.ComplexExamples'. -/
def complexExamplesUptoCard : Claim7 := { stood := { row := complexExamplesUptoRow, standIns := [], harness := (true, "e462f5216ce3709846ad0f891b861f8bb7babfd79b73df8de8e423f4e9f3cdd6"), looks := false }, kinds := [], alts := [], laidByText := true, laidKinds := [.data, .data, .data], laidTests := true, laidLooks := .later }
def ComplexExamplesUptoCardSaid : Prop := Claim7.holds Tryz.pinned (.plain (OpenSpec.upto complexExamplesSpec)) complexExamplesUptoCard

/-- THE SECOND FORM's CARD OF 'toruslaw08.ComplexRoundTrip'. -/
def complexRoundTripUptoCard : Claim7 := { stood := { row := complexRoundTripUptoRow, standIns := [], harness := (true, "e462f5216ce3709846ad0f891b861f8bb7babfd79b73df8de8e423f4e9f3cdd6"), looks := false }, kinds := [], alts := [], laidByText := true, laidKinds := [.data, .data, .data, .data, .pinned], laidTests := true, laidLooks := .later }
def ComplexRoundTripUptoCardSaid : Prop := Claim7.holds Tryz.pinned (.plain (OpenSpec.upto complexRoundTripSpec)) complexRoundTripUptoCard
end Rows
end Go.Proofs.YtadagifjonbmjaaGreatDoor
