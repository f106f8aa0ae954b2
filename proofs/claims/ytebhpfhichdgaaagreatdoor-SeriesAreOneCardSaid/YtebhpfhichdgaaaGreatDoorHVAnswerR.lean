/- The coarsest level that answers a query: the document's answer. Condition: few holds, numbers as those of levels. -/
import Derived.Test.YtebhpfhichdgaaaGreatDoorHVStr
import Derived.Test.YtebhpfhichdgaaaGreatDoorHVGA
import Derived.LoopNIn
import Derived.Test.YtebhpfhichdgaaaGreatDoorHVGC
import Derived.Test.YtebhpfhichdgaaaGreatDoorHVGF
import Derived.Test.YtebhpfhichdgaaaGreatDoorHVBack
namespace Go.Proofs.YtebhpfhichdgaaaGreatDoor
open Go Go.RowKit
set_option maxRecDepth 100000
set_option linter.all false
set_option maxHeartbeats 2000000
variable {H : Hp} {K : AV → Hp → Prop}
theorem WkL.hok {m : Nat} {vs vs' : List AV} {H G : Hp} (h : HOk H → WkL m vs H vs' G) : WkL m vs H vs' G := fun B w0 ι w zs hs => h hs.hok B w0 ι w zs hs
end Go.Proofs.YtebhpfhichdgaaaGreatDoor
