/- A strings.Builder. -/
import Derived.Test.YtlnfiflbpmicgaaGreatDoorHVTxtS
import Derived.Test.YtlnfiflbpmicgaaGreatDoorHVSmp
import Derived.Test.YtlnfiflbpmicgaaGreatDoorHVGA
import Derived.Test.YtlnfiflbpmicgaaGreatDoorHCoreDrawS
import Derived.Test.YtlnfiflbpmicgaaGreatDoorHVNums
import Derived.Shelf.Strings.BuilderK
namespace Go.Proofs.YtlnfiflbpmicgaaGreatDoor
open Go Go.RowKit Go.Shelf
set_option maxRecDepth 100000
set_option linter.all false
set_option maxHeartbeats 4000000
variable {H : Hp} {K : AV → Hp → Prop}
end Go.Proofs.YtlnfiflbpmicgaaGreatDoor
