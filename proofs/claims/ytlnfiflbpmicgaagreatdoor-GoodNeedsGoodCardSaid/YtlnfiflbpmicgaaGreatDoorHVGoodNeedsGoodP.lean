/- GoodNeedsGood returns true for every input, and leaves its input as it was: the given card. No condition. -/
import Derived.Test.YtlnfiflbpmicgaaGreatDoorHVGoodNeedsGoodQ
namespace Go.Proofs.YtlnfiflbpmicgaaGreatDoor.goodNeedsGood
open Go.ChangeShapes Go.WideShapes Go.ChangeAt Go.RowKit
theorem card1 : Rows.goodNeedsGoodRow.wfByText (OpenSpec.ofChange Rows.goodNeedsGoodSpec) = true := by kernel_rfl
theorem card2 : Tryz.pinned.checked.prog.mainIs = some (Rows.goodNeedsGoodCard.stood.harness.1, Rows.goodNeedsGoodCard.stood.harness.2.toList) := by kernel_rfl
theorem card3 : false = Rows.goodNeedsGoodRow.goesBy Tryz.pinned.checked.prog := by kernel_rfl

/-- ████ THE CARD ████ -/
theorem proved : Rows.GoodNeedsGoodCardSaid :=
  Claim7.holds_tied_plain_at .later [] _ _ _ _ over (fun _ h => by cases h) card1 (fun _ h => by cases h) goodNeedsGood_row_tie rfl ⟨rfl, rfl⟩ card2 rfl plain card3
end Go.Proofs.YtlnfiflbpmicgaaGreatDoor.goodNeedsGood
