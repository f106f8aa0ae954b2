/- The coarsest level that answers a query: the document's answer. Condition: few holds, numbers as those of levels. -/
import Derived.Test.YtgcjenfdndhhpaaGreatDoorHVGD
import Derived.Test.YtgcjenfdndhhpaaGreatDoorHVGA
import Derived.LoopNIn
import Derived.Test.YtgcjenfdndhhpaaGreatDoorHVGC
import Derived.Test.YtgcjenfdndhhpaaGreatDoorHVGF
import Derived.Test.YtgcjenfdndhhpaaGreatDoorHVBack
namespace Go.Proofs.YtgcjenfdndhhpaaGreatDoor
open Go Go.RowKit
set_option maxRecDepth 100000
set_option linter.all false
set_option maxHeartbeats 2000000
variable {H : Hp} {K : AV → Hp → Prop}
theorem WkL.hok {m : Nat} {vs vs' : List AV} {H G : Hp} (h : HOk H → WkL m vs H vs' G) : WkL m vs H vs' G := fun B w0 ι w zs hs => h hs.hok B w0 ι w zs hs
end Go.Proofs.YtgcjenfdndhhpaaGreatDoor
