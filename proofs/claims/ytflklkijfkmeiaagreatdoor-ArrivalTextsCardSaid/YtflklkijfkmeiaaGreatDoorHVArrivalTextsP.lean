/- ArrivalTexts returns true for every input, and leaves its input as it was: the given card. No condition. -/
import Derived.Test.YtflklkijfkmeiaaGreatDoorHVArrivalTextsQ
namespace Go.Proofs.YtflklkijfkmeiaaGreatDoor.arrivalTexts
open Go.ChangeShapes Go.WideShapes Go.ChangeAt Go.RowKit
theorem card1 : Rows.arrivalTextsRow.wfByText (OpenSpec.ofChange Rows.arrivalTextsSpec) = true := by kernel_rfl
theorem card2 : Tryz.pinned.checked.prog.mainIs = some (Rows.arrivalTextsCard.stood.harness.1, Rows.arrivalTextsCard.stood.harness.2.toList) := by kernel_rfl
theorem card3 : false = Rows.arrivalTextsRow.goesBy Tryz.pinned.checked.prog := by kernel_rfl

/-- ████ THE CARD ████ -/
theorem proved : Rows.ArrivalTextsCardSaid :=
  Claim7.holds_tied_plain_at .later [] _ _ _ _ over (fun _ h => by cases h) card1 (fun _ h => by cases h) arrivalTexts_row_tie rfl ⟨rfl, rfl⟩ card2 rfl plain card3
end Go.Proofs.YtflklkijfkmeiaaGreatDoor.arrivalTexts
