/- OrderIsPossible returns true for every input, and leaves its input as it was: the given card. No condition. -/
import Derived.Test.YtagoolooikpabaaGreatDoorHVOrderIsPossibleQ
namespace Go.Proofs.YtagoolooikpabaaGreatDoor.orderIsPossible
open Go.ChangeShapes Go.WideShapes Go.ChangeAt Go.RowKit
theorem card1 : Rows.orderIsPossibleRow.wfByText (OpenSpec.ofChange Rows.orderIsPossibleSpec) = true := by kernel_rfl
theorem card2 : Tryz.pinned.checked.prog.mainIs = some (Rows.orderIsPossibleCard.stood.harness.1, Rows.orderIsPossibleCard.stood.harness.2.toList) := by kernel_rfl
theorem card3 : false = Rows.orderIsPossibleRow.goesBy Tryz.pinned.checked.prog := by kernel_rfl

theorem proved : Rows.OrderIsPossibleCardSaid :=
 Claim7.holds_tied_plain_at .later [] _ _ _ _ over (fun _ h => by cases h) card1 (fun _ h => by cases h) orderIsPossible_row_tie rfl ⟨rfl, rfl⟩ card2 rfl plain card3
end Go.Proofs.YtagoolooikpabaaGreatDoor.orderIsPossible
