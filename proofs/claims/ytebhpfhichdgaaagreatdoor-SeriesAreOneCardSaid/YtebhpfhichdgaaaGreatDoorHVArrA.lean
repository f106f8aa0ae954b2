/- Arrivals: their faults by themselves, and their order, in the program and in the document's answer. No condition. -/
import Derived.Test.YtebhpfhichdgaaaGreatDoorHVBufG
import Derived.Test.YtebhpfhichdgaaaGreatDoorHVGA
namespace Go.Proofs.YtebhpfhichdgaaaGreatDoor
open Go Go.RowKit
set_option maxRecDepth 100000
set_option linter.all false
set_option maxHeartbeats 1000000
variable {H : Hp} {K : AV → Hp → Prop}
structure Arr where
  nd : ByteArray
  t : Int
  p : Pk
end Go.Proofs.YtebhpfhichdgaaaGreatDoor
