/- TagsEvaluated returns true for every input, and leaves its input as it was: the given card. No condition. -/
import Derived.Test.YtagoolooikpabaaGreatDoorHVTagsEvaluatedQ
namespace Go.Proofs.YtagoolooikpabaaGreatDoor.tagsEvaluated
open Go.ChangeShapes Go.WideShapes Go.ChangeAt Go.RowKit
theorem card1 : Rows.tagsEvaluatedRow.wfByText (OpenSpec.ofChange Rows.tagsEvaluatedSpec) = true := by kernel_rfl
theorem card2 : Tryz.pinned.checked.prog.mainIs = some (Rows.tagsEvaluatedCard.stood.harness.1, Rows.tagsEvaluatedCard.stood.harness.2.toList) := by kernel_rfl
theorem card3 : false = Rows.tagsEvaluatedRow.goesBy Tryz.pinned.checked.prog := by kernel_rfl

theorem proved : Rows.TagsEvaluatedCardSaid :=
 Claim7.holds_tied_plain_at .later [] _ _ _ _ over (fun _ h => by cases h) card1 (fun _ h => by cases h) tagsEvaluated_row_tie rfl ⟨rfl, rfl⟩ card2 rfl plain card3
end Go.Proofs.YtagoolooikpabaaGreatDoor.tagsEvaluated
