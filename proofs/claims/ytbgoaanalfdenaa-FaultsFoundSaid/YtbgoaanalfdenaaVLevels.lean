/- What is wrong with levels. No condition. -/
import Derived.Test.YtbgoaanalfdenaaVLevE
namespace Go.Proofs.Ytbgoaanalfdenaa
open Go Go.RowKit
set_option maxRecDepth 100000
set_option linter.all false
variable {H : Hp} {K : AV → Hp → Prop}
end Go.Proofs.Ytbgoaanalfdenaa
