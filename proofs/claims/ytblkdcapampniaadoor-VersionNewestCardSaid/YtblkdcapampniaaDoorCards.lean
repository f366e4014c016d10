/-
  DERIVED. GIVEN WITH THE SEED: THE CARDS: each row of YtblkdcapampniaaDoorRows.lean that lists a variable, with what it lists TIED to the program's text (the seventh form; the later family's looks); each row that meets fmt, with fmt's text TOLD by the authors' own Lean function (tested against real Go, not proved from fmt's source: count such statements apart). THE CARD IS WHAT COUNTS. Prove the row's statement (the work); the ties are given (YtblkdcapampniaaDoorTie.lean); close each card by the builder's one call (the guide's Derived/Test/ToyasCard.lean, 'card_holds'). Laid BY PROGRAM, IN A SANDBOX (cutbox-door.mjs). By AI agents, Wed Nov 11 2026. No macro, syntax, notation, axiom, sorry.
-/
import Derived.Test.YtblkdcapampniaaDoorRows
import GoSem.ClaimSeven
namespace Go.Proofs.YtblkdcapampniaaDoor
namespace Rows

/-- THE TIED CARD OF 'cooperlaw01.VersionCompare'. -/
def versionCompareCard : Claim7 := { stood := { row := versionCompareRow, standIns := [], harness := (true, "ed0767eaebc443920029ca6b7a1659bbb1d04c2cd26c176d8d635a7f98ce05fc"), looks := true }, kinds := [], alts := [], laidByText := true, laidKinds := [.data, .data, .data, .data, .sentinel, .sentinel, .pinned], laidTests := true, laidLooks := .later }
def VersionCompareCardSaid : Prop := Claim7.holds Tryd.pinned (.plain (OpenSpec.ofChange versionCompareSpec)) versionCompareCard

/-- THE TIED CARD OF 'cooperlaw01.VersionAround'. -/
def versionAroundCard : Claim7 := { stood := { row := versionAroundRow, standIns := [], harness := (true, "ed0767eaebc443920029ca6b7a1659bbb1d04c2cd26c176d8d635a7f98ce05fc"), looks := true }, kinds := [], alts := [], laidByText := true, laidKinds := [.data, .data, .data, .data, .sentinel, .sentinel, .pinned], laidTests := true, laidLooks := .later }
def VersionAroundCardSaid : Prop := Claim7.holds Tryd.pinned (.plain (OpenSpec.ofChange versionAroundSpec)) versionAroundCard

/-- THE TIED CARD OF 'cooperlaw01.VersionTails'. -/
def versionTailsCard : Claim7 := { stood := { row := versionTailsRow, standIns := [], harness := (true, "ed0767eaebc443920029ca6b7a1659bbb1d04c2cd26c176d8d635a7f98ce05fc"), looks := true }, kinds := [], alts := [], laidByText := true, laidKinds := [.data, .data, .data, .data, .sentinel, .sentinel, .pinned], laidTests := true, laidLooks := .later }
def VersionTailsCardSaid : Prop := Claim7.holds Tryd.pinned (.plain (OpenSpec.ofChange versionTailsSpec)) versionTailsCard

/-- THE TIED CARD OF 'cooperlaw02.SpanHas'. -/
def spanHasCard : Claim7 := { stood := { row := spanHasRow, standIns := [], harness := (true, "ed0767eaebc443920029ca6b7a1659bbb1d04c2cd26c176d8d635a7f98ce05fc"), looks := true }, kinds := [], alts := [], laidByText := true, laidKinds := [.data, .data, .data, .data, .sentinel, .sentinel, .pinned], laidTests := true, laidLooks := .later }
def SpanHasCardSaid : Prop := Claim7.holds Tryd.pinned (.plain (OpenSpec.ofChange spanHasSpec)) spanHasCard

/-- THE TIED CARD OF 'cooperlaw02.SpanTexts'. -/
def spanTextsCard : Claim7 := { stood := { row := spanTextsRow, standIns := [], harness := (true, "ed0767eaebc443920029ca6b7a1659bbb1d04c2cd26c176d8d635a7f98ce05fc"), looks := true }, kinds := [], alts := [], laidByText := true, laidKinds := [.data, .data, .data, .data, .sentinel, .sentinel, .pinned], laidTests := true, laidLooks := .later }
def SpanTextsCardSaid : Prop := Claim7.holds Tryd.pinned (.plain (OpenSpec.ofChange spanTextsSpec)) spanTextsCard

/-- THE TIED CARD OF 'cooperlaw02.SpanReads'. -/
def spanReadsCard : Claim7 := { stood := { row := spanReadsRow, standIns := [], harness := (true, "ed0767eaebc443920029ca6b7a1659bbb1d04c2cd26c176d8d635a7f98ce05fc"), looks := true }, kinds := [], alts := [], laidByText := true, laidKinds := [.data, .data, .data, .data, .sentinel, .sentinel, .pinned], laidTests := true, laidLooks := .later }
def SpanReadsCardSaid : Prop := Claim7.holds Tryd.pinned (.plain (OpenSpec.ofChange spanReadsSpec)) spanReadsCard

/-- THE TIED CARD OF 'cooperlaw02.SpanOnes'. -/
def spanOnesCard : Claim7 := { stood := { row := spanOnesRow, standIns := [], harness := (true, "ed0767eaebc443920029ca6b7a1659bbb1d04c2cd26c176d8d635a7f98ce05fc"), looks := true }, kinds := [], alts := [], laidByText := true, laidKinds := [.data, .data, .data, .data, .sentinel, .sentinel, .pinned], laidTests := true, laidLooks := .later }
def SpanOnesCardSaid : Prop := Claim7.holds Tryd.pinned (.plain (OpenSpec.ofChange spanOnesSpec)) spanOnesCard

/-- THE TIED CARD OF 'cooperlaw02.SpanMeets'. -/
def spanMeetsCard : Claim7 := { stood := { row := spanMeetsRow, standIns := [], harness := (true, "ed0767eaebc443920029ca6b7a1659bbb1d04c2cd26c176d8d635a7f98ce05fc"), looks := true }, kinds := [], alts := [], laidByText := true, laidKinds := [.data, .data, .data, .data, .sentinel, .sentinel, .pinned], laidTests := true, laidLooks := .later }
def SpanMeetsCardSaid : Prop := Claim7.holds Tryd.pinned (.plain (OpenSpec.ofChange spanMeetsSpec)) spanMeetsCard

/-- THE TIED CARD OF 'cooperlaw02.SpanJoins'. -/
def spanJoinsCard : Claim7 := { stood := { row := spanJoinsRow, standIns := [], harness := (true, "ed0767eaebc443920029ca6b7a1659bbb1d04c2cd26c176d8d635a7f98ce05fc"), looks := true }, kinds := [], alts := [], laidByText := true, laidKinds := [.data, .data, .data, .data, .sentinel, .sentinel, .pinned], laidTests := true, laidLooks := .later }
def SpanJoinsCardSaid : Prop := Claim7.holds Tryd.pinned (.plain (OpenSpec.ofChange spanJoinsSpec)) spanJoinsCard

/-- THE TIED CARD OF 'cooperlaw01.VersionMay'. -/
def versionMayCard : Claim7 := { stood := { row := versionMayRow, standIns := [], harness := (true, "ed0767eaebc443920029ca6b7a1659bbb1d04c2cd26c176d8d635a7f98ce05fc"), looks := true }, kinds := [], alts := [], laidByText := true, laidKinds := [.data, .data, .data, .data, .sentinel, .sentinel, .pinned], laidTests := true, laidLooks := .later }
def VersionMayCardSaid : Prop := Claim7.holds Tryd.pinned (.plain (OpenSpec.ofChange versionMaySpec)) versionMayCard

/-- THE TIED CARD OF 'cooperlaw01.VersionNewest'. -/
def versionNewestCard : Claim7 := { stood := { row := versionNewestRow, standIns := [], harness := (true, "ed0767eaebc443920029ca6b7a1659bbb1d04c2cd26c176d8d635a7f98ce05fc"), looks := true }, kinds := [], alts := [], laidByText := true, laidKinds := [.data, .data, .data, .data, .sentinel, .sentinel, .pinned], laidTests := true, laidLooks := .later }
def VersionNewestCardSaid : Prop := Claim7.holds Tryd.pinned (.plain (OpenSpec.ofChange versionNewestSpec)) versionNewestCard

/-- THE SECOND FORM's CARD OF 'cooperlaw01.VersionCompare'. -/
def versionCompareUptoCard : Claim7 := { stood := { row := versionCompareUptoRow, standIns := [], harness := (true, "ed0767eaebc443920029ca6b7a1659bbb1d04c2cd26c176d8d635a7f98ce05fc"), looks := true }, kinds := [], alts := [], laidByText := true, laidKinds := [.data, .data, .data, .data, .sentinel, .sentinel, .pinned], laidTests := true, laidLooks := .later }
def VersionCompareUptoCardSaid : Prop := Claim7.holds Tryd.pinned (.plain (OpenSpec.upto versionCompareSpec)) versionCompareUptoCard

/-- THE SECOND FORM's CARD OF 'cooperlaw01.VersionAround'. -/
def versionAroundUptoCard : Claim7 := { stood := { row := versionAroundUptoRow, standIns := [], harness := (true, "ed0767eaebc443920029ca6b7a1659bbb1d04c2cd26c176d8d635a7f98ce05fc"), looks := true }, kinds := [], alts := [], laidByText := true, laidKinds := [.data, .data, .data, .data, .sentinel, .sentinel, .pinned], laidTests := true, laidLooks := .later }
def VersionAroundUptoCardSaid : Prop := Claim7.holds Tryd.pinned (.plain (OpenSpec.upto versionAroundSpec)) versionAroundUptoCard

/-- THE SECOND FORM's CARD OF 'cooperlaw01.VersionTails'. -/
def versionTailsUptoCard : Claim7 := { stood := { row := versionTailsUptoRow, standIns := [], harness := (true, "ed0767eaebc443920029ca6b7a1659bbb1d04c2cd26c176d8d635a7f98ce05fc"), looks := true }, kinds := [], alts := [], laidByText := true, laidKinds := [.data, .data, .data, .data, .sentinel, .sentinel, .pinned], laidTests := true, laidLooks := .later }
def VersionTailsUptoCardSaid : Prop := Claim7.holds Tryd.pinned (.plain (OpenSpec.upto versionTailsSpec)) versionTailsUptoCard

/-- THE SECOND FORM's CARD OF 'cooperlaw02.SpanHas'. -/
def spanHasUptoCard : Claim7 := { stood := { row := spanHasUptoRow, standIns := [], harness := (true, "ed0767eaebc443920029ca6b7a1659bbb1d04c2cd26c176d8d635a7f98ce05fc"), looks := true }, kinds := [], alts := [], laidByText := true, laidKinds := [.data, .data, .data, .data, .sentinel, .sentinel, .pinned], laidTests := true, laidLooks := .later }
def SpanHasUptoCardSaid : Prop := Claim7.holds Tryd.pinned (.plain (OpenSpec.upto spanHasSpec)) spanHasUptoCard

/-- THE SECOND FORM's CARD OF 'cooperlaw02.SpanTexts'. -/
def spanTextsUptoCard : Claim7 := { stood := { row := spanTextsUptoRow, standIns := [], harness := (true, "ed0767eaebc443920029ca6b7a1659bbb1d04c2cd26c176d8d635a7f98ce05fc"), looks := true }, kinds := [], alts := [], laidByText := true, laidKinds := [.data, .data, .data, .data, .sentinel, .sentinel, .pinned], laidTests := true, laidLooks := .later }
def SpanTextsUptoCardSaid : Prop := Claim7.holds Tryd.pinned (.plain (OpenSpec.upto spanTextsSpec)) spanTextsUptoCard

/-- THE SECOND FORM's CARD OF 'cooperlaw02.SpanReads'. -/
def spanReadsUptoCard : Claim7 := { stood := { row := spanReadsUptoRow, standIns := [], harness := (true, "ed0767eaebc443920029ca6b7a1659bbb1d04c2cd26c176d8d635a7f98ce05fc"), looks := true }, kinds := [], alts := [], laidByText := true, laidKinds := [.data, .data, .data, .data, .sentinel, .sentinel, .pinned], laidTests := true, laidLooks := .later }
def SpanReadsUptoCardSaid : Prop := Claim7.holds Tryd.pinned (.plain (OpenSpec.upto spanReadsSpec)) spanReadsUptoCard

/-- THE SECOND FORM's CARD OF 'cooperlaw02.SpanOnes'. -/
def spanOnesUptoCard : Claim7 := { stood := { row := spanOnesUptoRow, standIns := [], harness := (true, "ed0767eaebc443920029ca6b7a1659bbb1d04c2cd26c176d8d635a7f98ce05fc"), looks := true }, kinds := [], alts := [], laidByText := true, laidKinds := [.data, .data, .data, .data, .sentinel, .sentinel, .pinned], laidTests := true, laidLooks := .later }
def SpanOnesUptoCardSaid : Prop := Claim7.holds Tryd.pinned (.plain (OpenSpec.upto spanOnesSpec)) spanOnesUptoCard

/-- THE SECOND FORM's CARD OF 'cooperlaw02.SpanMeets'. -/
def spanMeetsUptoCard : Claim7 := { stood := { row := spanMeetsUptoRow, standIns := [], harness := (true, "ed0767eaebc443920029ca6b7a1659bbb1d04c2cd26c176d8d635a7f98ce05fc"), looks := true }, kinds := [], alts := [], laidByText := true, laidKinds := [.data, .data, .data, .data, .sentinel, .sentinel, .pinned], laidTests := true, laidLooks := .later }
def SpanMeetsUptoCardSaid : Prop := Claim7.holds Tryd.pinned (.plain (OpenSpec.upto spanMeetsSpec)) spanMeetsUptoCard

/-- THE SECOND FORM's CARD OF 'cooperlaw02.SpanJoins'. -/
def spanJoinsUptoCard : Claim7 := { stood := { row := spanJoinsUptoRow, standIns := [], harness := (true, "ed0767eaebc443920029ca6b7a1659bbb1d04c2cd26c176d8d635a7f98ce05fc"), looks := true }, kinds := [], alts := [], laidByText := true, laidKinds := [.data, .data, .data, .data, .sentinel, .sentinel, .pinned], laidTests := true, laidLooks := .later }
def SpanJoinsUptoCardSaid : Prop := Claim7.holds Tryd.pinned (.plain (OpenSpec.upto spanJoinsSpec)) spanJoinsUptoCard

/-- THE SECOND FORM's CARD OF 'cooperlaw01.VersionMay'. -/
def versionMayUptoCard : Claim7 := { stood := { row := versionMayUptoRow, standIns := [], harness := (true, "ed0767eaebc443920029ca6b7a1659bbb1d04c2cd26c176d8d635a7f98ce05fc"), looks := true }, kinds := [], alts := [], laidByText := true, laidKinds := [.data, .data, .data, .data, .sentinel, .sentinel, .pinned], laidTests := true, laidLooks := .later }
def VersionMayUptoCardSaid : Prop := Claim7.holds Tryd.pinned (.plain (OpenSpec.upto versionMaySpec)) versionMayUptoCard

/-- THE SECOND FORM's CARD OF 'cooperlaw01.VersionNewest'. -/
def versionNewestUptoCard : Claim7 := { stood := { row := versionNewestUptoRow, standIns := [], harness := (true, "ed0767eaebc443920029ca6b7a1659bbb1d04c2cd26c176d8d635a7f98ce05fc"), looks := true }, kinds := [], alts := [], laidByText := true, laidKinds := [.data, .data, .data, .data, .sentinel, .sentinel, .pinned], laidTests := true, laidLooks := .later }
def VersionNewestUptoCardSaid : Prop := Claim7.holds Tryd.pinned (.plain (OpenSpec.upto versionNewestSpec)) versionNewestUptoCard
end Rows
end Go.Proofs.YtblkdcapampniaaDoor
