/-
  DERIVED. GIVEN WITH THE SEED: THE CARDS: each row of YtnodfnjmhcjnfaaGreatDoorRows.lean that lists a variable, with what it lists TIED to the program's text (the seventh form; the later family's looks); each row that meets fmt, with fmt's text TOLD by the authors' own Lean function (tested against real Go, not proved from fmt's source: count such statements apart). THE CARD IS WHAT COUNTS. Prove the row's statement (the work); the ties are given (YtnodfnjmhcjnfaaGreatDoorTie.lean); close each card by the builder's one call (the guide's Derived/Test/ToyasCard.lean, 'card_holds'). Laid BY PROGRAM, IN A SANDBOX (cutbox-door.mjs). By AI agents, Wed Nov 11 2026. No macro, syntax, notation, axiom, sorry.
-/
import Derived.Test.YtnodfnjmhcjnfaaGreatDoorRows
import GoSem.ClaimSeven
namespace Go.Proofs.YtnodfnjmhcjnfaaGreatDoor
namespace Rows

/-- THE TIED CARD OF 'loglaw2.SampleTexts'. -/
def sampleTextsCard : Claim7 := { stood := { row := sampleTextsRow, standIns := [], harness := (true, "1703faefbb92a8f7fae1fd890f71b56a9da9c8c481f0b83b0bbc274361aec6d2"), looks := true }, kinds := [], alts := [], laidByText := true, laidKinds := [.data, .data, .data, .data, .sentinel, .sentinel, .pinned], laidTests := true, laidLooks := .later }
def SampleTextsCardSaid : Prop := Claim7.holds Tryz.pinned (.plain (OpenSpec.ofChange sampleTextsSpec)) sampleTextsCard

/-- THE TIED CARD OF 'loglaw2.ExpressionsEvaluated'. -/
def expressionsEvaluatedCard : Claim7 := { stood := { row := expressionsEvaluatedRow, standIns := [], harness := (true, "1703faefbb92a8f7fae1fd890f71b56a9da9c8c481f0b83b0bbc274361aec6d2"), looks := true }, kinds := [], alts := [], laidByText := true, laidKinds := [.data, .data, .data, .sentinel, .sentinel], laidTests := true, laidLooks := .later }
def ExpressionsEvaluatedCardSaid : Prop := Claim7.holds Tryz.pinned (.plain (OpenSpec.ofChange expressionsEvaluatedSpec)) expressionsEvaluatedCard

/-- THE TIED CARD OF 'logtop.TopTornFilesKeepOrder'. -/
def topTornFilesKeepOrderCard : Claim7 := { stood := { row := topTornFilesKeepOrderRow, standIns := [], harness := (true, "1703faefbb92a8f7fae1fd890f71b56a9da9c8c481f0b83b0bbc274361aec6d2"), looks := true }, kinds := [], alts := [], laidByText := true, laidKinds := [.data, .data, .data, .sentinel, .sentinel], laidTests := true, laidLooks := .later }
def TopTornFilesKeepOrderCardSaid : Prop := Claim7.holds Tryz.pinned (.plain (OpenSpec.ofChange topTornFilesKeepOrderSpec)) topTornFilesKeepOrderCard

/-- THE TIED CARD OF 'loglaw2.ExpressionsParsed'. -/
def expressionsParsedCard : Claim7 := { stood := { row := expressionsParsedRow, standIns := [], harness := (true, "1703faefbb92a8f7fae1fd890f71b56a9da9c8c481f0b83b0bbc274361aec6d2"), looks := true }, kinds := [], alts := [], laidByText := true, laidKinds := [.data, .data, .data, .sentinel, .sentinel], laidTests := true, laidLooks := .later }
def ExpressionsParsedCardSaid : Prop := Claim7.holds Tryz.pinned (.plain (OpenSpec.ofChange expressionsParsedSpec)) expressionsParsedCard

/-- THE TIED CARD OF 'logtop.TopSentIsArchived'. -/
def topSentIsArchivedCard : Claim7 := { stood := { row := topSentIsArchivedRow, standIns := [], harness := (true, "1703faefbb92a8f7fae1fd890f71b56a9da9c8c481f0b83b0bbc274361aec6d2"), looks := true }, kinds := [], alts := [], laidByText := true, laidKinds := [.data, .data, .data, .sentinel, .sentinel], laidTests := true, laidLooks := .later }
def TopSentIsArchivedCardSaid : Prop := Claim7.holds Tryz.pinned (.plain (OpenSpec.ofChange topSentIsArchivedSpec)) topSentIsArchivedCard

/-- THE TIED CARD OF 'logkeep2.FilesKeepSamples'. -/
def filesKeepSamplesCard : Claim7 := { stood := { row := filesKeepSamplesRow, standIns := [], harness := (true, "1703faefbb92a8f7fae1fd890f71b56a9da9c8c481f0b83b0bbc274361aec6d2"), looks := true }, kinds := [], alts := [], laidByText := true, laidKinds := [.data, .data, .data, .sentinel, .sentinel], laidTests := true, laidLooks := .later }
def FilesKeepSamplesCardSaid : Prop := Claim7.holds Tryz.pinned (.plain (OpenSpec.ofChange filesKeepSamplesSpec)) filesKeepSamplesCard

/-- THE TIED CARD OF 'logkeep2.SeriesAreOne'. -/
def seriesAreOneCard : Claim7 := { stood := { row := seriesAreOneRow, standIns := [], harness := (true, "1703faefbb92a8f7fae1fd890f71b56a9da9c8c481f0b83b0bbc274361aec6d2"), looks := true }, kinds := [], alts := [], laidByText := true, laidKinds := [.data, .data, .data, .data, .sentinel, .sentinel, .pinned], laidTests := true, laidLooks := .later }
def SeriesAreOneCardSaid : Prop := Claim7.holds Tryz.pinned (.plain (OpenSpec.ofChange seriesAreOneSpec)) seriesAreOneCard

/-- THE TIED CARD OF 'logkeep2.CompactChangesNothing'. -/
def compactChangesNothingCard : Claim7 := { stood := { row := compactChangesNothingRow, standIns := [], harness := (true, "1703faefbb92a8f7fae1fd890f71b56a9da9c8c481f0b83b0bbc274361aec6d2"), looks := true }, kinds := [], alts := [], laidByText := true, laidKinds := [.data, .data, .data, .sentinel, .sentinel], laidTests := true, laidLooks := .later }
def CompactChangesNothingCardSaid : Prop := Claim7.holds Tryz.pinned (.plain (OpenSpec.ofChange compactChangesNothingSpec)) compactChangesNothingCard

/-- THE SECOND FORM's CARD OF 'loglaw2.SampleTexts'. -/
def sampleTextsUptoCard : Claim7 := { stood := { row := sampleTextsUptoRow, standIns := [], harness := (true, "1703faefbb92a8f7fae1fd890f71b56a9da9c8c481f0b83b0bbc274361aec6d2"), looks := true }, kinds := [], alts := [], laidByText := true, laidKinds := [.data, .data, .data, .data, .sentinel, .sentinel, .pinned], laidTests := true, laidLooks := .later }
def SampleTextsUptoCardSaid : Prop := Claim7.holds Tryz.pinned (.plain (OpenSpec.upto sampleTextsSpec)) sampleTextsUptoCard

/-- THE SECOND FORM's CARD OF 'loglaw2.ExpressionsEvaluated'. -/
def expressionsEvaluatedUptoCard : Claim7 := { stood := { row := expressionsEvaluatedUptoRow, standIns := [], harness := (true, "1703faefbb92a8f7fae1fd890f71b56a9da9c8c481f0b83b0bbc274361aec6d2"), looks := true }, kinds := [], alts := [], laidByText := true, laidKinds := [.data, .data, .data, .sentinel, .sentinel], laidTests := true, laidLooks := .later }
def ExpressionsEvaluatedUptoCardSaid : Prop := Claim7.holds Tryz.pinned (.plain (OpenSpec.upto expressionsEvaluatedSpec)) expressionsEvaluatedUptoCard

/-- THE SECOND FORM's CARD OF 'logtop.TopTornFilesKeepOrder'. -/
def topTornFilesKeepOrderUptoCard : Claim7 := { stood := { row := topTornFilesKeepOrderUptoRow, standIns := [], harness := (true, "1703faefbb92a8f7fae1fd890f71b56a9da9c8c481f0b83b0bbc274361aec6d2"), looks := true }, kinds := [], alts := [], laidByText := true, laidKinds := [.data, .data, .data, .sentinel, .sentinel], laidTests := true, laidLooks := .later }
def TopTornFilesKeepOrderUptoCardSaid : Prop := Claim7.holds Tryz.pinned (.plain (OpenSpec.upto topTornFilesKeepOrderSpec)) topTornFilesKeepOrderUptoCard

/-- THE SECOND FORM's CARD OF 'loglaw2.ExpressionsParsed'. -/
def expressionsParsedUptoCard : Claim7 := { stood := { row := expressionsParsedUptoRow, standIns := [], harness := (true, "1703faefbb92a8f7fae1fd890f71b56a9da9c8c481f0b83b0bbc274361aec6d2"), looks := true }, kinds := [], alts := [], laidByText := true, laidKinds := [.data, .data, .data, .sentinel, .sentinel], laidTests := true, laidLooks := .later }
def ExpressionsParsedUptoCardSaid : Prop := Claim7.holds Tryz.pinned (.plain (OpenSpec.upto expressionsParsedSpec)) expressionsParsedUptoCard

/-- THE SECOND FORM's CARD OF 'logtop.TopSentIsArchived'. -/
def topSentIsArchivedUptoCard : Claim7 := { stood := { row := topSentIsArchivedUptoRow, standIns := [], harness := (true, "1703faefbb92a8f7fae1fd890f71b56a9da9c8c481f0b83b0bbc274361aec6d2"), looks := true }, kinds := [], alts := [], laidByText := true, laidKinds := [.data, .data, .data, .sentinel, .sentinel], laidTests := true, laidLooks := .later }
def TopSentIsArchivedUptoCardSaid : Prop := Claim7.holds Tryz.pinned (.plain (OpenSpec.upto topSentIsArchivedSpec)) topSentIsArchivedUptoCard

/-- THE SECOND FORM's CARD OF 'logkeep2.FilesKeepSamples'. -/
def filesKeepSamplesUptoCard : Claim7 := { stood := { row := filesKeepSamplesUptoRow, standIns := [], harness := (true, "1703faefbb92a8f7fae1fd890f71b56a9da9c8c481f0b83b0bbc274361aec6d2"), looks := true }, kinds := [], alts := [], laidByText := true, laidKinds := [.data, .data, .data, .sentinel, .sentinel], laidTests := true, laidLooks := .later }
def FilesKeepSamplesUptoCardSaid : Prop := Claim7.holds Tryz.pinned (.plain (OpenSpec.upto filesKeepSamplesSpec)) filesKeepSamplesUptoCard

/-- THE SECOND FORM's CARD OF 'logkeep2.SeriesAreOne'. -/
def seriesAreOneUptoCard : Claim7 := { stood := { row := seriesAreOneUptoRow, standIns := [], harness := (true, "1703faefbb92a8f7fae1fd890f71b56a9da9c8c481f0b83b0bbc274361aec6d2"), looks := true }, kinds := [], alts := [], laidByText := true, laidKinds := [.data, .data, .data, .data, .sentinel, .sentinel, .pinned], laidTests := true, laidLooks := .later }
def SeriesAreOneUptoCardSaid : Prop := Claim7.holds Tryz.pinned (.plain (OpenSpec.upto seriesAreOneSpec)) seriesAreOneUptoCard

/-- THE SECOND FORM's CARD OF 'logkeep2.CompactChangesNothing'. -/
def compactChangesNothingUptoCard : Claim7 := { stood := { row := compactChangesNothingUptoRow, standIns := [], harness := (true, "1703faefbb92a8f7fae1fd890f71b56a9da9c8c481f0b83b0bbc274361aec6d2"), looks := true }, kinds := [], alts := [], laidByText := true, laidKinds := [.data, .data, .data, .sentinel, .sentinel], laidTests := true, laidLooks := .later }
def CompactChangesNothingUptoCardSaid : Prop := Claim7.holds Tryz.pinned (.plain (OpenSpec.upto compactChangesNothingSpec)) compactChangesNothingUptoCard
end Rows
end Go.Proofs.YtnodfnjmhcjnfaaGreatDoor
