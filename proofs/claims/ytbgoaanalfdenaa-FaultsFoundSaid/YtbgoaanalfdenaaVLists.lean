/- Levels that are drawn. No condition. -/
import Derived.Test.YtbgoaanalfdenaaVLevels
namespace Go.Proofs.Ytbgoaanalfdenaa
open Go Go.RowKit
set_option maxRecDepth 100000
set_option linter.all false
set_option maxHeartbeats 1000000
variable {H : Hp} {K : AV → Hp → Prop}
/-- levels as they are drawn: numbers within bounds -/
def Level.near (y : Level) : Prop := -1 ≤ y.step ∧ y.step ≤ 86400001 ∧ 0 ≤ y.keep ∧ y.keep ≤ 345686400001
end Go.Proofs.Ytbgoaanalfdenaa
