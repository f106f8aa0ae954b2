/- Fractions in lowest terms. Condition: numbers as they are in memory. -/
import Derived.Test.YthgdllfkejlnmaaGreatDoorHVGA
namespace Go.Proofs.YthgdllfkejlnmaaGreatDoor
open Go Go.RowKit
set_option maxRecDepth 100000
set_option linter.all false
set_option maxHeartbeats 1000000
variable {H : Hp} {K : AV → Hp → Prop}
@[go_sem] theorem wrapU_pos (n : Int) (h : 0 ≤ n ∧ n ≤ 18446744073709551615) : IntKind.u64.wrap n = n := by
  unfold IntKind.wrap
  simp [IntKind.bits, IntKind.signed]
  omega
theorem wrapU_neg (n : Int) (h : -9223372036854775808 ≤ n ∧ n < 0) : IntKind.u64.wrap n = n + 18446744073709551616 := by
  unfold IntKind.wrap
  simp [IntKind.bits, IntKind.signed]
  omega
def gcdF (n d : Int) : Nat := Nat.gcd n.natAbs d.natAbs
end Go.Proofs.YthgdllfkejlnmaaGreatDoor
