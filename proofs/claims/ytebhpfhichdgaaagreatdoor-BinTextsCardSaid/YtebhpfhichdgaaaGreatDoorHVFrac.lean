/- Fractions in lowest terms. Condition: numbers as they are in memory. -/
import Derived.Test.YtebhpfhichdgaaaGreatDoorHVGA
namespace Go.Proofs.YtebhpfhichdgaaaGreatDoor
open Go Go.RowKit
set_option maxRecDepth 100000
set_option linter.all false
set_option maxHeartbeats 1000000
variable {H : Hp} {K : AV → Hp → Prop}
end Go.Proofs.YtebhpfhichdgaaaGreatDoor
