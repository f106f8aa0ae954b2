/- TagsOrdered returns true for every input, and leaves its input as it was: the given card. No condition. -/
import Derived.Test.YtagoolooikpabaaGreatDoorHVTagsOrderedQ
namespace Go.Proofs.YtagoolooikpabaaGreatDoor.tagsOrdered
open Go.ChangeShapes Go.WideShapes Go.ChangeAt Go.RowKit
theorem card1 : Rows.tagsOrderedRow.wfByText (OpenSpec.ofChange Rows.tagsOrderedSpec) = true := by kernel_rfl
theorem card2 : Tryz.pinned.checked.prog.mainIs = some (Rows.tagsOrderedCard.stood.harness.1, Rows.tagsOrderedCard.stood.harness.2.toList) := by kernel_rfl
theorem card3 : false = Rows.tagsOrderedRow.goesBy Tryz.pinned.checked.prog := by kernel_rfl

theorem proved : Rows.TagsOrderedCardSaid :=
 Claim7.holds_tied_plain_at .later [] _ _ _ _ over (fun _ h => by cases h) card1 (fun _ h => by cases h) tagsOrdered_row_tie rfl ⟨rfl, rfl⟩ card2 rfl plain card3
end Go.Proofs.YtagoolooikpabaaGreatDoor.tagsOrdered
