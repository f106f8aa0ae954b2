/- CompleteOf: the document's answer. Condition: at most a million; numbers from 1 to a million. -/
import Derived.Test.YtgcjenfdndhhpaaGreatHVArrN
namespace Go.Proofs.YtgcjenfdndhhpaaGreat
open Go Go.RowKit
set_option maxRecDepth 100000
set_option linter.all false
set_option maxHeartbeats 1000000
variable {H : Hp} {K : AV → Hp → Prop}
theorem cplG_le {α : Type} [DecidableEq α] : ∀ (t : List α) (p : α), (cplG p t).length ≤ t.length
  | [], _ => by simp [cplG]
  | y :: t, p => by
    have ih := cplG_le t y
    unfold cplG
    split <;> simp <;> omega
theorem cplF_le {α : Type} [DecidableEq α] (l : List α) : (cplF l).length ≤ l.length := by
  cases l with
  | nil => exact Nat.le_refl _
  | cons x t => have := cplG_le t x; unfold cplF; simp; omega
end Go.Proofs.YtgcjenfdndhhpaaGreat
