/- slices.Insert of one byte. No condition. -/
import Derived.Shelf.Spec.SlicesInsertGrow
import Derived.Test.YthgdllfkejlnmaaGreatDoorProg
import Derived.Test.YthgdllfkejlnmaaGreatDoorHCoreC
namespace Go.Proofs.YthgdllfkejlnmaaGreatDoor
open Go Go.RowKit Go.Shelf Go.Lib
set_option maxRecDepth 100000
set_option linter.all false
set_option maxHeartbeats 4000000
/-- the row that a growing Insert makes, ahead of what is put in -/
def insRow (cs : List Value) (i G : Nat) : Array Value := (cs.take i).toArray ++ Builtin.zeroCells (Value.int .u8 0).cells (cs.length + 1 - i) ++ Builtin.zeroCells (Value.int .u8 0).cells (G - (cs.length + 1))
end Go.Proofs.YthgdllfkejlnmaaGreatDoor
