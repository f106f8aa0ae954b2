/- The first time at which nothing is kept: the document's answer; the error of what is asked. Condition: few holds, numbers as those of levels. -/
import Derived.Test.YtnpdbnkgipkgaaaGreatHVAnswerP
import Derived.Test.YtnpdbnkgipkgaaaGreatHVGE
namespace Go.Proofs.YtnpdbnkgipkgaaaGreat
open Go Go.RowKit
set_option maxRecDepth 100000
set_option linter.all false
set_option maxHeartbeats 2000000
variable {H : Hp} {K : AV → Hp → Prop}
theorem heldB_one (x : Hold) (tag : ByteArray) (w0 w1 t : Int) : heldB [x] tag w0 w1 t = hold1 tag w0 w1 t x := by simp [heldB]
theorem heldB_no {h : List Hold} {tag : ByteArray} {w0 w1 t : Int} : heldB h tag w0 w1 t = false ↔ ∀ y ∈ h, hold1 tag w0 w1 t y = false := by
  unfold heldB; rw [List.any_eq_false]; simp
end Go.Proofs.YtnpdbnkgipkgaaaGreat
