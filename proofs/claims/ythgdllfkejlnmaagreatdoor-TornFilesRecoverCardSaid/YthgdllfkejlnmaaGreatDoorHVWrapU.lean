/- A number as a byte. No condition. -/
import Derived.Test.YthgdllfkejlnmaaGreatDoorHVBytes
namespace Go.Proofs.YthgdllfkejlnmaaGreatDoor
open Go Go.RowKit
theorem wrapU (r : Int) : ∃ x : UInt8, IntKind.u8.wrap r = (x.toNat : Int) := by
  have h : 0 ≤ IntKind.u8.wrap r ∧ IntKind.u8.wrap r < 256 := by rw [IntKind.wrap_u8]; omega
  exact ⟨u8I (IntKind.u8.wrap r), (u8I_toNat _ h).symm⟩
end Go.Proofs.YthgdllfkejlnmaaGreatDoor
