/- Several texts in one: What a buffer does: no program in sight, and what follows. No condition. -/
import Derived.Test.YtebhpfhichdgaaaGreatDoorHVGB
import Derived.Test.YtebhpfhichdgaaaGreatDoorHVGA
import Derived.Test.YtebhpfhichdgaaaGreatDoorHVAnswerR
/- What a buffer does: no program in sight. No condition. -/
namespace Go.Proofs.YtebhpfhichdgaaaGreatDoor
open Go Go.RowKit
set_option maxRecDepth 100000
set_option linter.all false
structure Pk where
  n : Int
  tag : ByteArray
  s : Smp
structure Hd where
  p : Pk
  sent : Bool
/-! ### what stays -/
/-! ### rows -/
end Go.Proofs.YtebhpfhichdgaaaGreatDoor
/- Packets acked, and packets sent. No condition. -/
namespace Go.Proofs.YtebhpfhichdgaaaGreatDoor
open Go Go.RowKit
set_option maxRecDepth 100000
set_option linter.all false
set_option maxHeartbeats 2000000
variable {H : Hp} {K : AV → Hp → Prop}
end Go.Proofs.YtebhpfhichdgaaaGreatDoor
