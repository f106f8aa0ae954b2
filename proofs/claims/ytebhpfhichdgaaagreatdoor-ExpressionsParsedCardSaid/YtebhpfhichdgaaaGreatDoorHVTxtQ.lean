/- The reference's texts of samples. -/
import Derived.Test.YtebhpfhichdgaaaGreatDoorHVTxtJ
import Derived.Test.YtebhpfhichdgaaaGreatDoorHVTxtC
import Derived.Test.YtebhpfhichdgaaaGreatDoorHVChg
import Derived.Test.YtebhpfhichdgaaaGreatDoorHVAtoi
import Derived.Test.YtebhpfhichdgaaaGreatDoorHVGA
namespace Go.Proofs.YtebhpfhichdgaaaGreatDoor
open Go Go.RowKit
set_option maxRecDepth 100000
set_option linter.all false
set_option maxHeartbeats 2000000
variable {H : Hp} {K : AV → Hp → Prop}
theorem itoa_pos (n : Int) : 0 < (Lib.itoa n).length := by
  have h := (dec_dig n.natAbs n.natAbs (Nat.le_refl _)).2.1
  have h2 : 0 < (Lib.decDigits n.natAbs).length := by
    rcases Nat.eq_zero_or_pos (Lib.decDigits n.natAbs).length with h3 | h3
    · exact absurd (List.length_eq_zero_iff.1 h3) h
    · exact h3
  unfold Lib.itoa
  split
  · simp
  · first | exact h2 | (rw [show n.toNat = n.natAbs by omega]; exact h2)
end Go.Proofs.YtebhpfhichdgaaaGreatDoor
