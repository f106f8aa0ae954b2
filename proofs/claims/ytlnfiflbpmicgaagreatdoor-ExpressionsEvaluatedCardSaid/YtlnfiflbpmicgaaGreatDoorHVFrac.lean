/- Fractions in lowest terms. Condition: numbers as they are in memory. -/
import Derived.Test.YtlnfiflbpmicgaaGreatDoorHVGA
set_option linter.all false
namespace Go.Proofs.YtlnfiflbpmicgaaGreatDoor
open Go Go.RowKit
set_option maxRecDepth 100000
set_option maxHeartbeats 1000000
variable {H : Hp} {K : AV → Hp → Prop}
end Go.Proofs.YtlnfiflbpmicgaaGreatDoor
