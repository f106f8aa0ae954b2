/- Arrivals sorted by slices.SortFunc: the document's order, walked in the kit's words, and the kit's contract laid. Condition: numbers are not huge. -/
import Derived.Test.YtppmkgaobeccfaaGreatHVArrA
import Derived.Shelf.SlSortCmp.WholeK
import Derived.Test.YtppmkgaobeccfaaGreatHVGA
import Derived.Test.YtppmkgaobeccfaaGreatProg
namespace Go.Proofs.YtppmkgaobeccfaaGreat
open Go Go.RowKit Go.Shelf
set_option maxRecDepth 100000
set_option linter.all false
set_option maxHeartbeats 2000000
variable {H : Hp} {K : AV → Hp → Prop}
def arOk (x : Arr) : Prop := (-1000000000000000 ≤ x.t ∧ x.t ≤ 1000000000000000) ∧ (-1000000000000000 ≤ x.p.n ∧ x.p.n ≤ 1000000000000000)
end Go.Proofs.YtppmkgaobeccfaaGreat
