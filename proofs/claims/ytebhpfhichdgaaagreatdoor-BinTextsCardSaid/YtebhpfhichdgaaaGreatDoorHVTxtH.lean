/- The reference reads words, numbers, samples. -/
import Derived.Test.YtebhpfhichdgaaaGreatDoorHVTxtG
import Derived.Test.YtebhpfhichdgaaaGreatDoorHVTxtQ
namespace Go.Proofs.YtebhpfhichdgaaaGreatDoor
open Go Go.RowKit
set_option maxRecDepth 100000
set_option linter.all false
set_option maxHeartbeats 2000000
variable {H : Hp} {K : AV → Hp → Prop}
theorem splitL_le (c : UInt8) (l : List UInt8) : (splitL c l).length ≤ l.length + 1 := by
  rw [splitL_len]
  have := List.length_filter_le (fun x => decide (x = c)) l
  omega
end Go.Proofs.YtebhpfhichdgaaaGreatDoor
