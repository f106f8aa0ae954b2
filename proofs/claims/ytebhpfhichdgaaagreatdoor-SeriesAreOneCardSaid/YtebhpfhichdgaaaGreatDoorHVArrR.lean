/- Arrivals sorted, joined and compacted: the program's Merge. Condition: names' sizes; at most 20 arrivals. -/
import Derived.Test.YtebhpfhichdgaaaGreatDoorHVArrC
import Derived.Shelf.Sort.Plain
import Derived.Test.YtebhpfhichdgaaaGreatDoorHVGA
import Derived.Test.YtebhpfhichdgaaaGreatDoorHVGF
import Derived.Test.YtebhpfhichdgaaaGreatDoorHVStr
import Derived.Test.YtebhpfhichdgaaaGreatDoorHVRows
import Derived.Test.YtebhpfhichdgaaaGreatDoorHVGK
namespace Go.Proofs.YtebhpfhichdgaaaGreatDoor
open Go Go.RowKit
set_option maxRecDepth 100000
set_option linter.all false
set_option maxHeartbeats 1000000
variable {H : Hp} {K : AV → Hp → Prop}
instance arrDec : DecidableEq Arr := fun a b =>
  if h : a.nd = b.nd ∧ a.t = b.t ∧ a.p = b.p then isTrue (by cases a; cases b; simp_all) else isFalse (by rintro rfl; simp at h)
end Go.Proofs.YtebhpfhichdgaaaGreatDoor
