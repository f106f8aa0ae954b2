/- slices.Delete of bytes, laid from the kit's contract. No condition. -/
import Derived.Shelf.SlicesE.Delete
import Derived.Test.YthgdllfkejlnmaaGreatDoorHVInsert
namespace Go.Proofs.YthgdllfkejlnmaaGreatDoor
open Go Go.RowKit Go.Shelf
end Go.Proofs.YthgdllfkejlnmaaGreatDoor
