/- Steps of a buffer, as they are drawn. No condition. -/
import Derived.Test.YtflklkijfkmeiaaGreatDoorHVAnswerR
import Derived.Test.YtflklkijfkmeiaaGreatDoorHVStr
import Derived.Test.YtflklkijfkmeiaaGreatDoorHVHoldsD
namespace Go.Proofs.YtflklkijfkmeiaaGreatDoor
open Go Go.RowKit
set_option maxRecDepth 100000
set_option linter.all false
set_option maxHeartbeats 2000000
variable {H : Hp} {K : AV → Hp → Prop}
theorem SWp.thn {P : Program} {n N : Nat} {L : List Tmp} {x y : Code} {Q : AExit → Fr → Hp → Prop} {F : Fr} (h : SWp P n N L x (QS P n N L y Q) F H) : SWp P n N L (.seq x y) Q F H := SWp.seq h
end Go.Proofs.YtflklkijfkmeiaaGreatDoor
