/- Bins that grow. No condition. -/
import Derived.Test.YtbgoaanalfdenaaVBins
import Derived.Test.YtbgoaanalfdenaaVGr
namespace Go.Proofs.Ytbgoaanalfdenaa
open Go Go.RowKit
set_option maxRecDepth 100000
set_option linter.all false
set_option maxHeartbeats 1000000
variable {H : Hp} {K : AV → Hp → Prop}
theorem fold_next {l : List Bin} {k : Nat} (hk : k < l.length) : foldB (l.take (k + 1)) = putB (foldB (l.take k)) l[k] := by
  rw [List.take_succ_eq_append_getElem hk, foldB_snoc]
end Go.Proofs.Ytbgoaanalfdenaa
