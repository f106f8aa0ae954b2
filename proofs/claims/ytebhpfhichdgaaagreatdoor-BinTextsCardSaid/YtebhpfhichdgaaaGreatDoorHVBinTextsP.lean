/- BinTexts returns true for every input, and leaves its input as it was: the given card. No condition. -/
import Derived.Test.YtebhpfhichdgaaaGreatDoorHVBinTextsQ
namespace Go.Proofs.YtebhpfhichdgaaaGreatDoor.binTexts
open Go.ChangeShapes Go.WideShapes Go.ChangeAt Go.RowKit
theorem card1 : Rows.binTextsRow.wfByText (OpenSpec.ofChange Rows.binTextsSpec) = true := by kernel_rfl
theorem card2 : Tryz.pinned.checked.prog.mainIs = some (Rows.binTextsCard.stood.harness.1, Rows.binTextsCard.stood.harness.2.toList) := by kernel_rfl
theorem card3 : false = Rows.binTextsRow.goesBy Tryz.pinned.checked.prog := by kernel_rfl

/-- ████ THE CARD ████ -/
theorem proved : Rows.BinTextsCardSaid :=
  Claim7.holds_tied_plain_at .later [] _ _ _ _ over (fun _ h => by cases h) card1 (fun _ h => by cases h) binTexts_row_tie rfl ⟨rfl, rfl⟩ card2 rfl plain card3
end Go.Proofs.YtebhpfhichdgaaaGreatDoor.binTexts
