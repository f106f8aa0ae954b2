/- ExpressionsEvaluated returns true for every input, and leaves its input as it was: the given card. No condition. -/
import Derived.Test.YtlnfiflbpmicgaaGreatDoorHVExpressionsEvaluatedQ
namespace Go.Proofs.YtlnfiflbpmicgaaGreatDoor.expressionsEvaluated
open Go.ChangeShapes Go.WideShapes Go.ChangeAt Go.RowKit
theorem card1 : Rows.expressionsEvaluatedRow.wfByText (OpenSpec.ofChange Rows.expressionsEvaluatedSpec) = true := by kernel_rfl
theorem card2 : Tryz.pinned.checked.prog.mainIs = some (Rows.expressionsEvaluatedCard.stood.harness.1, Rows.expressionsEvaluatedCard.stood.harness.2.toList) := by kernel_rfl
theorem card3 : false = Rows.expressionsEvaluatedRow.goesBy Tryz.pinned.checked.prog := by kernel_rfl

theorem proved : Rows.ExpressionsEvaluatedCardSaid :=
  Claim7.holds_tied_plain_at .later [] _ _ _ _ over (fun _ h => by cases h) card1 (fun _ h => by cases h) expressionsEvaluated_row_tie rfl ⟨rfl, rfl⟩ card2 rfl plain card3
end Go.Proofs.YtlnfiflbpmicgaaGreatDoor.expressionsEvaluated
