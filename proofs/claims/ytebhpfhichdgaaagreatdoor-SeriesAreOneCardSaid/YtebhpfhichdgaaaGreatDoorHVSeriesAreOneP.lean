/- SeriesAreOne returns true for every input, and leaves its input as it was: the given card. No condition. -/
import Derived.Test.YtebhpfhichdgaaaGreatDoorHVSeriesAreOneQ
namespace Go.Proofs.YtebhpfhichdgaaaGreatDoor.seriesAreOne
open Go.ChangeShapes Go.WideShapes Go.ChangeAt Go.RowKit
theorem card1 : Rows.seriesAreOneRow.wfByText (OpenSpec.ofChange Rows.seriesAreOneSpec) = true := by kernel_rfl
theorem card2 : Tryz.pinned.checked.prog.mainIs = some (Rows.seriesAreOneCard.stood.harness.1, Rows.seriesAreOneCard.stood.harness.2.toList) := by kernel_rfl
theorem card3 : false = Rows.seriesAreOneRow.goesBy Tryz.pinned.checked.prog := by kernel_rfl

/-- ████ THE CARD ████ -/
theorem proved : Rows.SeriesAreOneCardSaid :=
  Claim7.holds_tied_plain_at .later [] _ _ _ _ over (fun _ h => by cases h) card1 (fun _ h => by cases h) seriesAreOne_row_tie rfl ⟨rfl, rfl⟩ card2 rfl plain card3
end Go.Proofs.YtebhpfhichdgaaaGreatDoor.seriesAreOne
