/- Several texts in one: What is wrong with arrivals: the program's answer and the document's, and what follows. No condition. -/
import Derived.Test.YtgcjenfdndhhpaaGreatDoorHVArrM
import Derived.Test.YtgcjenfdndhhpaaGreatDoorHVGK
/- What is wrong with arrivals: the program's answer and the document's. Condition: names are not longer than a machine holds. -/
namespace Go.Proofs.YtgcjenfdndhhpaaGreatDoor
open Go Go.RowKit
set_option maxRecDepth 100000
set_option linter.all false
set_option maxHeartbeats 1000000
variable {H : Hp} {K : AV → Hp → Prop}
theorem cmpB_flip : ∀ a b : List UInt8, Lib.compareBytes b a = -Lib.compareBytes a b
  | [], [] => rfl
  | [], _ :: _ => rfl
  | _ :: _, [] => rfl
  | x :: xs, y :: ys => by
    have ih := cmpB_flip xs ys
    unfold Lib.compareBytes
    grind
theorem cmpS_flip (a b : ByteArray) : cmpS b a = -cmpS a b := by unfold cmpS; exact cmpB_flip _ _
end Go.Proofs.YtgcjenfdndhhpaaGreatDoor
/- CompleteOf: the document's answer. Condition: at most a million; numbers from 1 to a million. -/
namespace Go.Proofs.YtgcjenfdndhhpaaGreatDoor
open Go Go.RowKit
set_option maxRecDepth 100000
set_option linter.all false
set_option maxHeartbeats 1000000
variable {H : Hp} {K : AV → Hp → Prop}
theorem cplG_le {α : Type} [DecidableEq α] : ∀ (t : List α) (p : α), (cplG p t).length ≤ t.length
  | [], _ => by simp [cplG]
  | y :: t, p => by
    have ih := cplG_le t y
    unfold cplG
    split <;> simp <;> omega
theorem cplF_le {α : Type} [DecidableEq α] (l : List α) : (cplF l).length ≤ l.length := by
  cases l with
  | nil => exact Nat.le_refl _
  | cons x t => have := cplG_le t x; unfold cplF; simp; omega
end Go.Proofs.YtgcjenfdndhhpaaGreatDoor
