/- Arrivals whose packets are not the same where they should be: the program's answer. No condition. -/
import Derived.Test.YtebhpfhichdgaaaGreatDoorHVArrB
namespace Go.Proofs.YtebhpfhichdgaaaGreatDoor
open Go Go.RowKit
set_option maxRecDepth 100000
set_option linter.all false
set_option maxHeartbeats 1000000
variable {H : Hp} {K : AV → Hp → Prop}
instance pkDec : DecidableEq Pk := fun a b =>
  if h : a.n = b.n ∧ a.tag = b.tag ∧ a.s = b.s then isTrue (by cases a; cases b; simp_all) else isFalse (by rintro rfl; simp at h)
end Go.Proofs.YtebhpfhichdgaaaGreatDoor
