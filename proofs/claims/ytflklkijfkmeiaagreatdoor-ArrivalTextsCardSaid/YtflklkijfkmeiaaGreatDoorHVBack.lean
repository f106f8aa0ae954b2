/- slices.Backward over levels, gone through. No condition. -/
import Derived.Test.YtflklkijfkmeiaaGreatDoorHCoreRange
import Derived.Test.YtflklkijfkmeiaaGreatDoorHVGA
import Derived.RangeFuncBound
import Derived.RangeFuncCalls
import Derived.Shelf.Abstract
import Derived.WalkKit
import Derived.OwnWalkIn
import Derived.TacticsInMore
import Derived.LoopNIn
import Derived.LoopIn
import Derived.Test.YtflklkijfkmeiaaGreatDoorProg
namespace Go.Proofs.YtflklkijfkmeiaaGreatDoor
open Go Go.RowKit Go.Shelf
theorem fenB_round (r : Option Nat) : (fen r).round = r := rfl
theorem fenB_depth (r : Option Nat) : (fen r).depth = none := rfl
attribute [local go_sem] Oper.semAt_some Oper.semAt_none fenB_round fenB_depth
set_option maxRecDepth 100000
end Go.Proofs.YtflklkijfkmeiaaGreatDoor
