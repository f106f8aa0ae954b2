/- Package buffer's functions. Condition: the list is not huge. -/
import Derived.Test.YtebhpfhichdgaaaGreatDoorHVGK
import Derived.Test.YtebhpfhichdgaaaGreatDoorHVGA
import Derived.Test.YtebhpfhichdgaaaGreatDoorHVAnswerR
import Derived.Test.YtebhpfhichdgaaaGreatDoorHVStr
import Derived.Test.YtebhpfhichdgaaaGreatDoorHVRows
namespace Go.Proofs.YtebhpfhichdgaaaGreatDoor
open Go Go.RowKit
set_option maxRecDepth 100000
set_option linter.all false
set_option maxHeartbeats 2000000
variable {H : Hp} {K : AV → Hp → Prop}
theorem ACalls.hok {P : Program} {f : FuncId} {args : List AV} {H : Hp} {K : AV → Hp → Prop} (h : ACalls P f args H (fun v G => HOk G → K v G)) : ACalls P f args H K :=
  fun B w0 ι w vs hs hr ho => (h B w0 ι w vs hs hr ho).mono fun _ _ ⟨ι', v, av, H', h1, h2, h3, h4, h5, h6, h7⟩ => ⟨ι', v, av, H', h1, h2, h3, h4, h5, h6, h7 h4.scope⟩
end Go.Proofs.YtebhpfhichdgaaaGreatDoor
