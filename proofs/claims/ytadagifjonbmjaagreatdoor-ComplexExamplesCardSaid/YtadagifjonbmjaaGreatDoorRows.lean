/-
  NARROWER THAN 'FOR EVERY INPUT', by the rows' own cells (each row's printed sentence says how): ComplexTextMatches: laid · ComplexCloses: laid · ComplexLinks: laid · ComplexPartsMatch: laid · ComplexCountsMatch: laid · ComplexBuildsMatch: laid · ComplexEuler: laid · ComplexCollapses: laid · ComplexExamples: laid · ComplexRoundTrip: laid.
  DERIVED. THE GIVEN ROWS OF THIS SEAT. 10 by the template 'for every input the law returns true; each argument reads behind the call as it read before'; 0 by the template 'total and deterministic' (their statements: YtadagifjonbmjaaGreatDoorTotals.lean).
  GIVEN WITH THE SEED: the statements are not yours to turn. If you find one false, say at which input.
  Laid BY PROGRAM, IN A SANDBOX (cutbox-rows.mjs): the forced cells as the released guide's own fill.sh prints them over the translation 10dd7efa440e046d… (all of the seat's roots in one cut). By AI agents, Wed Nov 11 2026. No macro, syntax, notation, axiom, sorry.
-/
import Derived.Test.YtadagifjonbmjaaGreatDoorChecked
import GoSem.PinnedTables
import GoSem.Claim
import GoSem.ClaimJoined
import GoSem.ClaimMapViews
import Derived.JoinedTies
import Derived.KernelRfl
namespace Go.Proofs.YtadagifjonbmjaaGreatDoor
/- THE CELL 'sum', in the pinned program and in every row, IS THE sha256 OF THE DUMP (.gsa) THAT YtadagifjonbmjaaGreatDoorProg.lean LOADS. Nothing in Lean hashes anything: it is a label: what it is worth is what the hold of that sum in a sandbox is worth. -/
noncomputable def Tryz.pinned : Pinned := { name := "ytadagifjonbmjaagreatdoor", sum := "10dd7efa440e046d24be674b029121187cfc52beb391633c24d948526436baef", checked := Tryz.checked }
namespace Rows
def none {H : Type} : Left H := { results := [], args := [] }

/- WHAT THE LISTED PACKAGE-LEVEL VARIABLES READ AS WHEN THE CALL BEGINS. Each datum BY PROGRAM (the guide's laid-datum.mjs) off the statement by which the dump's own 'gosem.cut.vars' lays the variable. In a bare row this is a premise. The card (YtadagifjonbmjaaGreatDoorCards.lean) ties it to the program's text. -/
def laid_math_bits_deBruijn32tab {H : Type} : DataW H := .agg [.lit (.int .u8 0), .lit (.int .u8 1), .lit (.int .u8 28), .lit (.int .u8 2), .lit (.int .u8 29), .lit (.int .u8 14), .lit (.int .u8 24), .lit (.int .u8 3), .lit (.int .u8 30), .lit (.int .u8 22), .lit (.int .u8 20), .lit (.int .u8 15), .lit (.int .u8 25), .lit (.int .u8 17), .lit (.int .u8 4), .lit (.int .u8 8), .lit (.int .u8 31), .lit (.int .u8 27), .lit (.int .u8 13), .lit (.int .u8 23), .lit (.int .u8 21), .lit (.int .u8 19), .lit (.int .u8 16), .lit (.int .u8 7), .lit (.int .u8 26), .lit (.int .u8 12), .lit (.int .u8 18), .lit (.int .u8 6), .lit (.int .u8 11), .lit (.int .u8 5), .lit (.int .u8 10), .lit (.int .u8 9)]
def laid_math_bits_deBruijn64tab {H : Type} : DataW H := .agg [.lit (.int .u8 0), .lit (.int .u8 1), .lit (.int .u8 56), .lit (.int .u8 2), .lit (.int .u8 57), .lit (.int .u8 49), .lit (.int .u8 28), .lit (.int .u8 3), .lit (.int .u8 61), .lit (.int .u8 58), .lit (.int .u8 42), .lit (.int .u8 50), .lit (.int .u8 38), .lit (.int .u8 29), .lit (.int .u8 17), .lit (.int .u8 4), .lit (.int .u8 62), .lit (.int .u8 47), .lit (.int .u8 59), .lit (.int .u8 36), .lit (.int .u8 45), .lit (.int .u8 43), .lit (.int .u8 51), .lit (.int .u8 22), .lit (.int .u8 53), .lit (.int .u8 39), .lit (.int .u8 33), .lit (.int .u8 30), .lit (.int .u8 24), .lit (.int .u8 18), .lit (.int .u8 12), .lit (.int .u8 5), .lit (.int .u8 63), .lit (.int .u8 55), .lit (.int .u8 48), .lit (.int .u8 27), .lit (.int .u8 60), .lit (.int .u8 41), .lit (.int .u8 37), .lit (.int .u8 16), .lit (.int .u8 46), .lit (.int .u8 35), .lit (.int .u8 44), .lit (.int .u8 21), .lit (.int .u8 52), .lit (.int .u8 32), .lit (.int .u8 23), .lit (.int .u8 11), .lit (.int .u8 54), .lit (.int .u8 26), .lit (.int .u8 40), .lit (.int .u8 15), .lit (.int .u8 34), .lit (.int .u8 20), .lit (.int .u8 31), .lit (.int .u8 10), .lit (.int .u8 25), .lit (.int .u8 14), .lit (.int .u8 19), .lit (.int .u8 9), .lit (.int .u8 13), .lit (.int .u8 8), .lit (.int .u8 7), .lit (.int .u8 6)]
def laid_internal_strconv_uint64pow10 {H : Type} : DataW H := .agg [.lit (.int .u64 1), .lit (.int .u64 10), .lit (.int .u64 100), .lit (.int .u64 1000), .lit (.int .u64 10000), .lit (.int .u64 100000), .lit (.int .u64 1000000), .lit (.int .u64 10000000), .lit (.int .u64 100000000), .lit (.int .u64 1000000000), .lit (.int .u64 10000000000), .lit (.int .u64 100000000000), .lit (.int .u64 1000000000000), .lit (.int .u64 10000000000000), .lit (.int .u64 100000000000000), .lit (.int .u64 1000000000000000), .lit (.int .u64 10000000000000000), .lit (.int .u64 100000000000000000), .lit (.int .u64 1000000000000000000), .lit (.int .u64 10000000000000000000)]
def laid_unicode_utf8_acceptRanges {H : Type} : DataW H := .agg [.agg [.lit (.int .u8 128), .lit (.int .u8 191)], .agg [.lit (.int .u8 160), .lit (.int .u8 191)], .agg [.lit (.int .u8 128), .lit (.int .u8 159)], .agg [.lit (.int .u8 144), .lit (.int .u8 191)], .agg [.lit (.int .u8 128), .lit (.int .u8 143)], .agg [.lit (.int .u8 0), .lit (.int .u8 0)], .agg [.lit (.int .u8 0), .lit (.int .u8 0)], .agg [.lit (.int .u8 0), .lit (.int .u8 0)], .agg [.lit (.int .u8 0), .lit (.int .u8 0)], .agg [.lit (.int .u8 0), .lit (.int .u8 0)], .agg [.lit (.int .u8 0), .lit (.int .u8 0)], .agg [.lit (.int .u8 0), .lit (.int .u8 0)], .agg [.lit (.int .u8 0), .lit (.int .u8 0)], .agg [.lit (.int .u8 0), .lit (.int .u8 0)], .agg [.lit (.int .u8 0), .lit (.int .u8 0)], .agg [.lit (.int .u8 0), .lit (.int .u8 0)]]
/-- One of Go's own tables, pinned by name: the form's constant. -/
def laid_unicode_utf8_first : DataW Unit := Go.Pinned.utf8First

/-- 'toruslaw08.ComplexTextMatches': WHATEVER THE INPUT: true; the input reads as it did. -/
def complexTextMatchesSpec : ChangeSpec := { name := "complexTextMatches", fn := fun _ => fun
  | [d1, d2] => { results := [.lit (.bool true)], args := [d1, d2] }
  | _ => none }
def complexTextMatchesRow : OpenClaim := { program := "ytadagifjonbmjaagreatdoor", sum := "10dd7efa440e046d24be674b029121187cfc52beb391633c24d948526436baef", func := "torus/toruslaw08.ComplexTextMatches", spec := "complexTextMatches", inPlace := ["internal/abi.NoEscape"], unfollowed := true, recurses := true, named := ["internal/strconv.uint64pow10", "math/bits.deBruijn32tab", "math/bits.deBruijn64tab"], plainKeys := false, apart := false, laid := [("math/bits.deBruijn32tab", laid_math_bits_deBruijn32tab), ("math/bits.deBruijn64tab", laid_math_bits_deBruijn64tab), ("internal/strconv.uint64pow10", laid_internal_strconv_uint64pow10)] }
def ComplexTextMatchesSaid : Prop := complexTextMatchesRow.holds Tryz.pinned (OpenSpec.ofChange complexTextMatchesSpec)

/-- ITS FALSE NEIGHBOUR: 'it returns false'. Refute it at one input. -/
def complexTextMatchesWrong : ChangeSpec := { name := "complexTextMatches", fn := fun _ => fun
  | [d1, d2] => { results := [.lit (.bool false)], args := [d1, d2] }
  | _ => none }
def ComplexTextMatchesWrongFalsely : Prop := complexTextMatchesRow.holds Tryz.pinned (OpenSpec.ofChange complexTextMatchesWrong)

/-- 'toruslaw08.ComplexCloses': WHATEVER THE INPUT: true; the input reads as it did. -/
def complexClosesSpec : ChangeSpec := { name := "complexCloses", fn := fun _ => fun
  | [d] => { results := [.lit (.bool true)], args := [d] }
  | _ => none }
def complexClosesRow : OpenClaim := { program := "ytadagifjonbmjaagreatdoor", sum := "10dd7efa440e046d24be674b029121187cfc52beb391633c24d948526436baef", func := "torus/toruslaw08.ComplexCloses", spec := "complexCloses", inPlace := ["internal/abi.NoEscape"], unfollowed := true, recurses := true, named := ["internal/strconv.uint64pow10", "math/bits.deBruijn32tab", "math/bits.deBruijn64tab"], plainKeys := false, apart := false, laid := [("math/bits.deBruijn32tab", laid_math_bits_deBruijn32tab), ("math/bits.deBruijn64tab", laid_math_bits_deBruijn64tab), ("internal/strconv.uint64pow10", laid_internal_strconv_uint64pow10)] }
def ComplexClosesSaid : Prop := complexClosesRow.holds Tryz.pinned (OpenSpec.ofChange complexClosesSpec)

/-- ITS FALSE NEIGHBOUR: 'it returns false'. Refute it at one input. -/
def complexClosesWrong : ChangeSpec := { name := "complexCloses", fn := fun _ => fun
  | [d] => { results := [.lit (.bool false)], args := [d] }
  | _ => none }
def ComplexClosesWrongFalsely : Prop := complexClosesRow.holds Tryz.pinned (OpenSpec.ofChange complexClosesWrong)

/-- 'toruslaw08.ComplexLinks': WHATEVER THE INPUT: true; the input reads as it did. -/
def complexLinksSpec : ChangeSpec := { name := "complexLinks", fn := fun _ => fun
  | [d1, d2, d3] => { results := [.lit (.bool true)], args := [d1, d2, d3] }
  | _ => none }
def complexLinksRow : OpenClaim := { program := "ytadagifjonbmjaagreatdoor", sum := "10dd7efa440e046d24be674b029121187cfc52beb391633c24d948526436baef", func := "torus/toruslaw08.ComplexLinks", spec := "complexLinks", inPlace := ["internal/abi.NoEscape"], unfollowed := true, recurses := true, named := ["internal/strconv.uint64pow10", "math/bits.deBruijn32tab", "math/bits.deBruijn64tab"], plainKeys := false, apart := false, laid := [("math/bits.deBruijn32tab", laid_math_bits_deBruijn32tab), ("math/bits.deBruijn64tab", laid_math_bits_deBruijn64tab), ("internal/strconv.uint64pow10", laid_internal_strconv_uint64pow10)] }
def ComplexLinksSaid : Prop := complexLinksRow.holds Tryz.pinned (OpenSpec.ofChange complexLinksSpec)

/-- ITS FALSE NEIGHBOUR: 'it returns false'. Refute it at one input. -/
def complexLinksWrong : ChangeSpec := { name := "complexLinks", fn := fun _ => fun
  | [d1, d2, d3] => { results := [.lit (.bool false)], args := [d1, d2, d3] }
  | _ => none }
def ComplexLinksWrongFalsely : Prop := complexLinksRow.holds Tryz.pinned (OpenSpec.ofChange complexLinksWrong)

/-- 'toruslaw08.ComplexPartsMatch': WHATEVER THE INPUT: true; the input reads as it did. -/
def complexPartsMatchSpec : ChangeSpec := { name := "complexPartsMatch", fn := fun _ => fun
  | [d1, d2, d3] => { results := [.lit (.bool true)], args := [d1, d2, d3] }
  | _ => none }
def complexPartsMatchRow : OpenClaim := { program := "ytadagifjonbmjaagreatdoor", sum := "10dd7efa440e046d24be674b029121187cfc52beb391633c24d948526436baef", func := "torus/toruslaw08.ComplexPartsMatch", spec := "complexPartsMatch", inPlace := ["internal/abi.NoEscape"], unfollowed := true, recurses := true, named := ["internal/strconv.uint64pow10", "math/bits.deBruijn32tab", "math/bits.deBruijn64tab"], plainKeys := false, apart := false, laid := [("math/bits.deBruijn32tab", laid_math_bits_deBruijn32tab), ("math/bits.deBruijn64tab", laid_math_bits_deBruijn64tab), ("internal/strconv.uint64pow10", laid_internal_strconv_uint64pow10)] }
def ComplexPartsMatchSaid : Prop := complexPartsMatchRow.holds Tryz.pinned (OpenSpec.ofChange complexPartsMatchSpec)

/-- ITS FALSE NEIGHBOUR: 'it returns false'. Refute it at one input. -/
def complexPartsMatchWrong : ChangeSpec := { name := "complexPartsMatch", fn := fun _ => fun
  | [d1, d2, d3] => { results := [.lit (.bool false)], args := [d1, d2, d3] }
  | _ => none }
def ComplexPartsMatchWrongFalsely : Prop := complexPartsMatchRow.holds Tryz.pinned (OpenSpec.ofChange complexPartsMatchWrong)

/-- 'toruslaw08.ComplexCountsMatch': WHATEVER THE INPUT: true; the input reads as it did. -/
def complexCountsMatchSpec : ChangeSpec := { name := "complexCountsMatch", fn := fun _ => fun
  | [d] => { results := [.lit (.bool true)], args := [d] }
  | _ => none }
def complexCountsMatchRow : OpenClaim := { program := "ytadagifjonbmjaagreatdoor", sum := "10dd7efa440e046d24be674b029121187cfc52beb391633c24d948526436baef", func := "torus/toruslaw08.ComplexCountsMatch", spec := "complexCountsMatch", inPlace := ["internal/abi.NoEscape"], unfollowed := true, recurses := true, named := ["internal/strconv.uint64pow10", "math/bits.deBruijn32tab", "math/bits.deBruijn64tab"], plainKeys := false, apart := false, laid := [("math/bits.deBruijn32tab", laid_math_bits_deBruijn32tab), ("math/bits.deBruijn64tab", laid_math_bits_deBruijn64tab), ("internal/strconv.uint64pow10", laid_internal_strconv_uint64pow10)] }
def ComplexCountsMatchSaid : Prop := complexCountsMatchRow.holds Tryz.pinned (OpenSpec.ofChange complexCountsMatchSpec)

/-- ITS FALSE NEIGHBOUR: 'it returns false'. Refute it at one input. -/
def complexCountsMatchWrong : ChangeSpec := { name := "complexCountsMatch", fn := fun _ => fun
  | [d] => { results := [.lit (.bool false)], args := [d] }
  | _ => none }
def ComplexCountsMatchWrongFalsely : Prop := complexCountsMatchRow.holds Tryz.pinned (OpenSpec.ofChange complexCountsMatchWrong)

/-- 'toruslaw08.ComplexBuildsMatch': WHATEVER THE INPUT: true; the input reads as it did. -/
def complexBuildsMatchSpec : ChangeSpec := { name := "complexBuildsMatch", fn := fun _ => fun
  | [d1, d2] => { results := [.lit (.bool true)], args := [d1, d2] }
  | _ => none }
def complexBuildsMatchRow : OpenClaim := { program := "ytadagifjonbmjaagreatdoor", sum := "10dd7efa440e046d24be674b029121187cfc52beb391633c24d948526436baef", func := "torus/toruslaw08.ComplexBuildsMatch", spec := "complexBuildsMatch", inPlace := ["internal/abi.NoEscape"], unfollowed := true, recurses := true, named := ["internal/strconv.uint64pow10", "math/bits.deBruijn32tab", "math/bits.deBruijn64tab"], plainKeys := false, apart := false, laid := [("math/bits.deBruijn32tab", laid_math_bits_deBruijn32tab), ("math/bits.deBruijn64tab", laid_math_bits_deBruijn64tab), ("internal/strconv.uint64pow10", laid_internal_strconv_uint64pow10)] }
def ComplexBuildsMatchSaid : Prop := complexBuildsMatchRow.holds Tryz.pinned (OpenSpec.ofChange complexBuildsMatchSpec)

/-- ITS FALSE NEIGHBOUR: 'it returns false'. Refute it at one input. -/
def complexBuildsMatchWrong : ChangeSpec := { name := "complexBuildsMatch", fn := fun _ => fun
  | [d1, d2] => { results := [.lit (.bool false)], args := [d1, d2] }
  | _ => none }
def ComplexBuildsMatchWrongFalsely : Prop := complexBuildsMatchRow.holds Tryz.pinned (OpenSpec.ofChange complexBuildsMatchWrong)

/-- 'toruslaw08.ComplexEuler': WHATEVER THE INPUT: true; the input reads as it did. -/
def complexEulerSpec : ChangeSpec := { name := "complexEuler", fn := fun _ => fun
  | [d1, d2] => { results := [.lit (.bool true)], args := [d1, d2] }
  | _ => none }
def complexEulerRow : OpenClaim := { program := "ytadagifjonbmjaagreatdoor", sum := "10dd7efa440e046d24be674b029121187cfc52beb391633c24d948526436baef", func := "torus/toruslaw08.ComplexEuler", spec := "complexEuler", inPlace := ["internal/abi.NoEscape"], unfollowed := true, recurses := true, named := ["internal/strconv.uint64pow10", "math/bits.deBruijn32tab", "math/bits.deBruijn64tab"], plainKeys := false, apart := false, laid := [("math/bits.deBruijn32tab", laid_math_bits_deBruijn32tab), ("math/bits.deBruijn64tab", laid_math_bits_deBruijn64tab), ("internal/strconv.uint64pow10", laid_internal_strconv_uint64pow10)] }
def ComplexEulerSaid : Prop := complexEulerRow.holds Tryz.pinned (OpenSpec.ofChange complexEulerSpec)

/-- ITS FALSE NEIGHBOUR: 'it returns false'. Refute it at one input. -/
def complexEulerWrong : ChangeSpec := { name := "complexEuler", fn := fun _ => fun
  | [d1, d2] => { results := [.lit (.bool false)], args := [d1, d2] }
  | _ => none }
def ComplexEulerWrongFalsely : Prop := complexEulerRow.holds Tryz.pinned (OpenSpec.ofChange complexEulerWrong)

/-- 'toruslaw08.ComplexCollapses': WHATEVER THE INPUT: true; the input reads as it did. -/
def complexCollapsesSpec : ChangeSpec := { name := "complexCollapses", fn := fun _ => fun
  | [d] => { results := [.lit (.bool true)], args := [d] }
  | _ => none }
def complexCollapsesRow : OpenClaim := { program := "ytadagifjonbmjaagreatdoor", sum := "10dd7efa440e046d24be674b029121187cfc52beb391633c24d948526436baef", func := "torus/toruslaw08.ComplexCollapses", spec := "complexCollapses", inPlace := ["internal/abi.NoEscape"], unfollowed := true, recurses := true, named := ["internal/strconv.uint64pow10", "math/bits.deBruijn32tab", "math/bits.deBruijn64tab"], plainKeys := false, apart := false, laid := [("math/bits.deBruijn32tab", laid_math_bits_deBruijn32tab), ("math/bits.deBruijn64tab", laid_math_bits_deBruijn64tab), ("internal/strconv.uint64pow10", laid_internal_strconv_uint64pow10)] }
def ComplexCollapsesSaid : Prop := complexCollapsesRow.holds Tryz.pinned (OpenSpec.ofChange complexCollapsesSpec)

/-- ITS FALSE NEIGHBOUR: 'it returns false'. Refute it at one input. -/
def complexCollapsesWrong : ChangeSpec := { name := "complexCollapses", fn := fun _ => fun
  | [d] => { results := [.lit (.bool false)], args := [d] }
  | _ => none }
def ComplexCollapsesWrongFalsely : Prop := complexCollapsesRow.holds Tryz.pinned (OpenSpec.ofChange complexCollapsesWrong)

/-- 'toruslaw08.ComplexExamples': WHATEVER THE INPUT: true; the input reads as it did. -/
def complexExamplesSpec : ChangeSpec := { name := "complexExamples", fn := fun _ => fun
  | [] => { results := [.lit (.bool true)], args := [] }
  | _ => none }
def complexExamplesRow : OpenClaim := { program := "ytadagifjonbmjaagreatdoor", sum := "10dd7efa440e046d24be674b029121187cfc52beb391633c24d948526436baef", func := "torus/toruslaw08.ComplexExamples", spec := "complexExamples", inPlace := ["internal/abi.NoEscape", "internal/bytealg.MakeNoZero"], unfollowed := true, recurses := true, named := ["internal/strconv.uint64pow10", "math/bits.deBruijn32tab", "math/bits.deBruijn64tab"], plainKeys := false, apart := false, laid := [("math/bits.deBruijn32tab", laid_math_bits_deBruijn32tab), ("math/bits.deBruijn64tab", laid_math_bits_deBruijn64tab), ("internal/strconv.uint64pow10", laid_internal_strconv_uint64pow10)] }
def ComplexExamplesSaid : Prop := complexExamplesRow.holds Tryz.pinned (OpenSpec.ofChange complexExamplesSpec)

/-- ITS FALSE NEIGHBOUR: 'it returns false'. Refute it at one input. -/
def complexExamplesWrong : ChangeSpec := { name := "complexExamples", fn := fun _ => fun
  | [] => { results := [.lit (.bool false)], args := [] }
  | _ => none }
def ComplexExamplesWrongFalsely : Prop := complexExamplesRow.holds Tryz.pinned (OpenSpec.ofChange complexExamplesWrong)

/-- 'toruslaw08.ComplexRoundTrip': WHATEVER THE INPUT: true; the input reads as it did. -/
def complexRoundTripSpec : ChangeSpec := { name := "complexRoundTrip", fn := fun _ => fun
  | [d] => { results := [.lit (.bool true)], args := [d] }
  | _ => none }
def complexRoundTripRow : OpenClaim := { program := "ytadagifjonbmjaagreatdoor", sum := "10dd7efa440e046d24be674b029121187cfc52beb391633c24d948526436baef", func := "torus/toruslaw08.ComplexRoundTrip", spec := "complexRoundTrip", inPlace := ["internal/abi.NoEscape", "internal/bytealg.CountString", "internal/bytealg.IndexByteString", "internal/bytealg.IndexString"], unfollowed := true, recurses := true, named := ["internal/strconv.uint64pow10", "math/bits.deBruijn32tab", "math/bits.deBruijn64tab", "unicode/utf8.first", "unicode/utf8.acceptRanges", "internal/bytealg.MaxLen"], plainKeys := false, apart := false, laid := [("math/bits.deBruijn32tab", laid_math_bits_deBruijn32tab), ("math/bits.deBruijn64tab", laid_math_bits_deBruijn64tab), ("internal/strconv.uint64pow10", laid_internal_strconv_uint64pow10), ("unicode/utf8.acceptRanges", laid_unicode_utf8_acceptRanges), ("unicode/utf8.first", laid_unicode_utf8_first)] }
def ComplexRoundTripSaid : Prop := complexRoundTripRow.holds Tryz.pinned (OpenSpec.ofChange complexRoundTripSpec)

/-- ITS FALSE NEIGHBOUR: 'it returns false'. Refute it at one input. -/
def complexRoundTripWrong : ChangeSpec := { name := "complexRoundTrip", fn := fun _ => fun
  | [d] => { results := [.lit (.bool false)], args := [d] }
  | _ => none }
def ComplexRoundTripWrongFalsely : Prop := complexRoundTripRow.holds Tryz.pinned (OpenSpec.ofChange complexRoundTripWrong)

/- THE SECOND FORM. 'bulk': how many values and letters a reading holds, each counted each time it is reached (what is shared counts as often as it is met; a slice's spare places count too). A statement '..UptoSaid' is the law's where the arguments, and the package variables that the reading takes, are together of bulk at most 1048576: NARROWER than '..Said'. Prove '..Said' where nothing that the law and all that it calls make is longer than what came in: it says more and counts as full. Else prove '..UptoSaid'. A law counts once. -/
mutual
def uptoBulk {H : Type} : DataW H → Nat
  | .lit (.string bytes) => bytes.length + 1
  | .lit _ => 1
  | .nil => 1
  | .ptr d => uptoBulk d + 1
  | .slice elems spare => uptoBulkAll elems + uptoBulkAll spare + 1
  | .agg parts => uptoBulkAll parts + 1
  | .iface _ d => uptoBulk d + 1
  | .map entries => uptoBulkEntries entries + 1
  | .held _ => 1
def uptoBulkAll {H : Type} : List (DataW H) → Nat
  | [] => 0
  | d :: r => uptoBulk d + uptoBulkAll r
def uptoBulkEntries {H : Type} : List (Lit × DataW H) → Nat
  | [] => 0
  | x :: r => uptoBulkEntry x + uptoBulkEntries r
def uptoBulkEntry {H : Type} : Lit × DataW H → Nat
  | (.string bytes, d) => bytes.length + uptoBulk d + 1
  | (_, d) => uptoBulk d + 1
 end
def uptoSmall : (H : Type) → List (DataW H) → Bool := fun _ ds => decide (uptoBulkAll ds ≤ 1048576)
def OpenSpec.upto (s : _root_.Go.ChangeSpec) : _root_.Go.OpenSpec := { _root_.Go.OpenSpec.ofChange s with cond := some uptoSmall }

/-- 'toruslaw08.ComplexTextMatches', WHERE WHAT IT READS IS OF BULK AT MOST 1048576: true; the input reads as it did. -/
def complexTextMatchesUptoRow : OpenClaim := { program := "ytadagifjonbmjaagreatdoor", sum := "10dd7efa440e046d24be674b029121187cfc52beb391633c24d948526436baef", func := "torus/toruslaw08.ComplexTextMatches", spec := "complexTextMatches", inPlace := ["internal/abi.NoEscape"], unfollowed := true, recurses := true, named := ["internal/strconv.uint64pow10", "math/bits.deBruijn32tab", "math/bits.deBruijn64tab"], plainKeys := false, apart := false, laid := [("math/bits.deBruijn32tab", laid_math_bits_deBruijn32tab), ("math/bits.deBruijn64tab", laid_math_bits_deBruijn64tab), ("internal/strconv.uint64pow10", laid_internal_strconv_uint64pow10)], narrowed := true }
def ComplexTextMatchesUptoSaid : Prop := complexTextMatchesUptoRow.holds Tryz.pinned (OpenSpec.upto complexTextMatchesSpec)

/-- 'toruslaw08.ComplexCloses', WHERE WHAT IT READS IS OF BULK AT MOST 1048576: true; the input reads as it did. -/
def complexClosesUptoRow : OpenClaim := { program := "ytadagifjonbmjaagreatdoor", sum := "10dd7efa440e046d24be674b029121187cfc52beb391633c24d948526436baef", func := "torus/toruslaw08.ComplexCloses", spec := "complexCloses", inPlace := ["internal/abi.NoEscape"], unfollowed := true, recurses := true, named := ["internal/strconv.uint64pow10", "math/bits.deBruijn32tab", "math/bits.deBruijn64tab"], plainKeys := false, apart := false, laid := [("math/bits.deBruijn32tab", laid_math_bits_deBruijn32tab), ("math/bits.deBruijn64tab", laid_math_bits_deBruijn64tab), ("internal/strconv.uint64pow10", laid_internal_strconv_uint64pow10)], narrowed := true }
def ComplexClosesUptoSaid : Prop := complexClosesUptoRow.holds Tryz.pinned (OpenSpec.upto complexClosesSpec)

/-- 'toruslaw08.ComplexLinks', WHERE WHAT IT READS IS OF BULK AT MOST 1048576: true; the input reads as it did. -/
def complexLinksUptoRow : OpenClaim := { program := "ytadagifjonbmjaagreatdoor", sum := "10dd7efa440e046d24be674b029121187cfc52beb391633c24d948526436baef", func := "torus/toruslaw08.ComplexLinks", spec := "complexLinks", inPlace := ["internal/abi.NoEscape"], unfollowed := true, recurses := true, named := ["internal/strconv.uint64pow10", "math/bits.deBruijn32tab", "math/bits.deBruijn64tab"], plainKeys := false, apart := false, laid := [("math/bits.deBruijn32tab", laid_math_bits_deBruijn32tab), ("math/bits.deBruijn64tab", laid_math_bits_deBruijn64tab), ("internal/strconv.uint64pow10", laid_internal_strconv_uint64pow10)], narrowed := true }
def ComplexLinksUptoSaid : Prop := complexLinksUptoRow.holds Tryz.pinned (OpenSpec.upto complexLinksSpec)

/-- 'toruslaw08.ComplexPartsMatch', WHERE WHAT IT READS IS OF BULK AT MOST 1048576: true; the input reads as it did. -/
def complexPartsMatchUptoRow : OpenClaim := { program := "ytadagifjonbmjaagreatdoor", sum := "10dd7efa440e046d24be674b029121187cfc52beb391633c24d948526436baef", func := "torus/toruslaw08.ComplexPartsMatch", spec := "complexPartsMatch", inPlace := ["internal/abi.NoEscape"], unfollowed := true, recurses := true, named := ["internal/strconv.uint64pow10", "math/bits.deBruijn32tab", "math/bits.deBruijn64tab"], plainKeys := false, apart := false, laid := [("math/bits.deBruijn32tab", laid_math_bits_deBruijn32tab), ("math/bits.deBruijn64tab", laid_math_bits_deBruijn64tab), ("internal/strconv.uint64pow10", laid_internal_strconv_uint64pow10)], narrowed := true }
def ComplexPartsMatchUptoSaid : Prop := complexPartsMatchUptoRow.holds Tryz.pinned (OpenSpec.upto complexPartsMatchSpec)

/-- 'toruslaw08.ComplexCountsMatch', WHERE WHAT IT READS IS OF BULK AT MOST 1048576: true; the input reads as it did. -/
def complexCountsMatchUptoRow : OpenClaim := { program := "ytadagifjonbmjaagreatdoor", sum := "10dd7efa440e046d24be674b029121187cfc52beb391633c24d948526436baef", func := "torus/toruslaw08.ComplexCountsMatch", spec := "complexCountsMatch", inPlace := ["internal/abi.NoEscape"], unfollowed := true, recurses := true, named := ["internal/strconv.uint64pow10", "math/bits.deBruijn32tab", "math/bits.deBruijn64tab"], plainKeys := false, apart := false, laid := [("math/bits.deBruijn32tab", laid_math_bits_deBruijn32tab), ("math/bits.deBruijn64tab", laid_math_bits_deBruijn64tab), ("internal/strconv.uint64pow10", laid_internal_strconv_uint64pow10)], narrowed := true }
def ComplexCountsMatchUptoSaid : Prop := complexCountsMatchUptoRow.holds Tryz.pinned (OpenSpec.upto complexCountsMatchSpec)

/-- 'toruslaw08.ComplexBuildsMatch', WHERE WHAT IT READS IS OF BULK AT MOST 1048576: true; the input reads as it did. -/
def complexBuildsMatchUptoRow : OpenClaim := { program := "ytadagifjonbmjaagreatdoor", sum := "10dd7efa440e046d24be674b029121187cfc52beb391633c24d948526436baef", func := "torus/toruslaw08.ComplexBuildsMatch", spec := "complexBuildsMatch", inPlace := ["internal/abi.NoEscape"], unfollowed := true, recurses := true, named := ["internal/strconv.uint64pow10", "math/bits.deBruijn32tab", "math/bits.deBruijn64tab"], plainKeys := false, apart := false, laid := [("math/bits.deBruijn32tab", laid_math_bits_deBruijn32tab), ("math/bits.deBruijn64tab", laid_math_bits_deBruijn64tab), ("internal/strconv.uint64pow10", laid_internal_strconv_uint64pow10)], narrowed := true }
def ComplexBuildsMatchUptoSaid : Prop := complexBuildsMatchUptoRow.holds Tryz.pinned (OpenSpec.upto complexBuildsMatchSpec)

/-- 'toruslaw08.ComplexEuler', WHERE WHAT IT READS IS OF BULK AT MOST 1048576: true; the input reads as it did. -/
def complexEulerUptoRow : OpenClaim := { program := "ytadagifjonbmjaagreatdoor", sum := "10dd7efa440e046d24be674b029121187cfc52beb391633c24d948526436baef", func := "torus/toruslaw08.ComplexEuler", spec := "complexEuler", inPlace := ["internal/abi.NoEscape"], unfollowed := true, recurses := true, named := ["internal/strconv.uint64pow10", "math/bits.deBruijn32tab", "math/bits.deBruijn64tab"], plainKeys := false, apart := false, laid := [("math/bits.deBruijn32tab", laid_math_bits_deBruijn32tab), ("math/bits.deBruijn64tab", laid_math_bits_deBruijn64tab), ("internal/strconv.uint64pow10", laid_internal_strconv_uint64pow10)], narrowed := true }
def ComplexEulerUptoSaid : Prop := complexEulerUptoRow.holds Tryz.pinned (OpenSpec.upto complexEulerSpec)

/-- 'toruslaw08.ComplexCollapses', WHERE WHAT IT READS IS OF BULK AT MOST 1048576: true; the input reads as it did. -/
def complexCollapsesUptoRow : OpenClaim := { program := "ytadagifjonbmjaagreatdoor", sum := "10dd7efa440e046d24be674b029121187cfc52beb391633c24d948526436baef", func := "torus/toruslaw08.ComplexCollapses", spec := "complexCollapses", inPlace := ["internal/abi.NoEscape"], unfollowed := true, recurses := true, named := ["internal/strconv.uint64pow10", "math/bits.deBruijn32tab", "math/bits.deBruijn64tab"], plainKeys := false, apart := false, laid := [("math/bits.deBruijn32tab", laid_math_bits_deBruijn32tab), ("math/bits.deBruijn64tab", laid_math_bits_deBruijn64tab), ("internal/strconv.uint64pow10", laid_internal_strconv_uint64pow10)], narrowed := true }
def ComplexCollapsesUptoSaid : Prop := complexCollapsesUptoRow.holds Tryz.pinned (OpenSpec.upto complexCollapsesSpec)

/-- 'toruslaw08.ComplexExamples', WHERE WHAT IT READS IS OF BULK AT MOST 1048576: true; the input reads as it did. -/
def complexExamplesUptoRow : OpenClaim := { program := "ytadagifjonbmjaagreatdoor", sum := "10dd7efa440e046d24be674b029121187cfc52beb391633c24d948526436baef", func := "torus/toruslaw08.ComplexExamples", spec := "complexExamples", inPlace := ["internal/abi.NoEscape", "internal/bytealg.MakeNoZero"], unfollowed := true, recurses := true, named := ["internal/strconv.uint64pow10", "math/bits.deBruijn32tab", "math/bits.deBruijn64tab"], plainKeys := false, apart := false, laid := [("math/bits.deBruijn32tab", laid_math_bits_deBruijn32tab), ("math/bits.deBruijn64tab", laid_math_bits_deBruijn64tab), ("internal/strconv.uint64pow10", laid_internal_strconv_uint64pow10)], narrowed := true }
def ComplexExamplesUptoSaid : Prop := complexExamplesUptoRow.holds Tryz.pinned (OpenSpec.upto complexExamplesSpec)

/-- 'toruslaw08.ComplexRoundTrip', WHERE WHAT IT READS IS OF BULK AT MOST 1048576: true; the input reads as it did. -/
def complexRoundTripUptoRow : OpenClaim := { program := "ytadagifjonbmjaagreatdoor", sum := "10dd7efa440e046d24be674b029121187cfc52beb391633c24d948526436baef", func := "torus/toruslaw08.ComplexRoundTrip", spec := "complexRoundTrip", inPlace := ["internal/abi.NoEscape", "internal/bytealg.CountString", "internal/bytealg.IndexByteString", "internal/bytealg.IndexString"], unfollowed := true, recurses := true, named := ["internal/strconv.uint64pow10", "math/bits.deBruijn32tab", "math/bits.deBruijn64tab", "unicode/utf8.first", "unicode/utf8.acceptRanges", "internal/bytealg.MaxLen"], plainKeys := false, apart := false, laid := [("math/bits.deBruijn32tab", laid_math_bits_deBruijn32tab), ("math/bits.deBruijn64tab", laid_math_bits_deBruijn64tab), ("internal/strconv.uint64pow10", laid_internal_strconv_uint64pow10), ("unicode/utf8.acceptRanges", laid_unicode_utf8_acceptRanges), ("unicode/utf8.first", laid_unicode_utf8_first)], narrowed := true }
def ComplexRoundTripUptoSaid : Prop := complexRoundTripUptoRow.holds Tryz.pinned (OpenSpec.upto complexRoundTripSpec)

end Rows
end Go.Proofs.YtadagifjonbmjaaGreatDoor
