/- Expressions: what they come to. No program in sight. -/
import Derived.Test.YtebhpfhichdgaaaGreatDoorHVExpM
namespace Go.Proofs.YtebhpfhichdgaaaGreatDoor
open Go Go.RowKit
set_option maxRecDepth 100000
set_option linter.all false
set_option maxHeartbeats 1000000
def ExOk : Ex → Prop
  | .num n => 0 ≤ n ∧ n ≤ 999999999
  | .tag x s => (x ≠ [] ∧ x.length ≤ 40 ∧ fnN x = 0) ∧ ∀ n, s = some n → 0 ≤ n ∧ n ≤ 86400000
  | .neg a => ExOk a
  | .bin c a b => c ∈ ([43, 45, 42, 47, 60, 61] : List UInt8) ∧ ExOk a ∧ ExOk b
  | .f1 f a => fnN f = 1 ∧ ExOk a
  | .f2 f a b => fnN f = 2 ∧ ExOk a ∧ ExOk b
  | .f3 f a b c => fnN f = 3 ∧ ExOk a ∧ ExOk b ∧ ExOk c
end Go.Proofs.YtebhpfhichdgaaaGreatDoor
