/- What is wrong with arrivals: the program's answer and the document's. Condition: names are not longer than a machine holds. -/
import Derived.Test.YtgcjenfdndhhpaaGreatHVArrM
namespace Go.Proofs.YtgcjenfdndhhpaaGreat
open Go Go.RowKit
set_option maxRecDepth 100000
set_option linter.all false
set_option maxHeartbeats 1000000
variable {H : Hp} {K : AV → Hp → Prop}
theorem cmpB_flip : ∀ a b : List UInt8, Lib.compareBytes b a = -Lib.compareBytes a b
  | [], [] => rfl
  | [], _ :: _ => rfl
  | _ :: _, [] => rfl
  | x :: xs, y :: ys => by
    have ih := cmpB_flip xs ys
    unfold Lib.compareBytes
    grind
theorem cmpS_flip (a b : ByteArray) : cmpS b a = -cmpS a b := by unfold cmpS; exact cmpB_flip _ _
end Go.Proofs.YtgcjenfdndhhpaaGreat
