/- CompactChangesNothing returns true for every input, and leaves its input as it was: the given card. No condition. -/
import Derived.Test.YtnodfnjmhcjnfaaGreatDoorHVCompactChangesNothingQ
namespace Go.Proofs.YtnodfnjmhcjnfaaGreatDoor.compactChangesNothing
open Go.ChangeShapes Go.WideShapes Go.ChangeAt Go.RowKit
theorem card1 : Rows.compactChangesNothingRow.wfByText (OpenSpec.ofChange Rows.compactChangesNothingSpec) = true := by kernel_rfl
theorem card2 : Tryz.pinned.checked.prog.mainIs = some (Rows.compactChangesNothingCard.stood.harness.1, Rows.compactChangesNothingCard.stood.harness.2.toList) := by kernel_rfl
theorem card3 : false = Rows.compactChangesNothingRow.goesBy Tryz.pinned.checked.prog := by kernel_rfl

/-- ████ THE CARD ████ -/
theorem proved : Rows.CompactChangesNothingCardSaid :=
  Claim7.holds_tied_plain_at .later [] _ _ _ _ over (fun _ h => by cases h) card1 (fun _ h => by cases h) compactChangesNothing_row_tie rfl ⟨rfl, rfl⟩ card2 rfl plain card3
end Go.Proofs.YtnodfnjmhcjnfaaGreatDoor.compactChangesNothing
