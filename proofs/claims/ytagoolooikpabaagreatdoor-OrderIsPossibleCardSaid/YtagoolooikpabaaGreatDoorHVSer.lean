/- Series with their tags: what is wrong with them, in the program and in the document. Condition: names' sizes, lists not huge. -/
import Derived.Test.YtagoolooikpabaaGreatDoorHVSmp
import Derived.Test.YtagoolooikpabaaGreatDoorHVHold
set_option linter.all false
namespace Go.Proofs.YtagoolooikpabaaGreatDoor
open Go Go.RowKit
set_option maxRecDepth 100000
set_option maxHeartbeats 1000000
variable {H : Hp} {K : AV → Hp → Prop}
structure Ser where
 tg : ByteArray
 l : List Smp
def Ser.fine (x : Ser) : Prop := x.tg.size ≤ 1000 ∧ x.l.length ≤ 1000000000
theorem errGo_eachS {α : Type} (f : Nat → α → α → Int) (p0 : α) (l : List α) (h : errGo f 0 p0 l = 0) : ∀ k (hk : k < l.length), f k (prv p0 l k) l[k] = 0 := by
 have key : ∀ k, k ≤ l.length → errGo f k (prv p0 l k) (l.drop k) = 0 := by
  intro k
  induction k with
  | zero => intro _; exact h
  | succ k ih =>
   intro hk
   have h1 := ih (by omega)
   rw [errGo_step f p0 l k (by omega)] at h1
   split at h1
   ·exact h1
   ·rename_i h2; exact absurd h1 h2
 intro k hk
 have h1 := key k (by omega)
 rw [errGo_step f p0 l k hk] at h1
 split at h1
 ·assumption
 ·exact h1
end Go.Proofs.YtagoolooikpabaaGreatDoor
