/- A range over a function, over the plain heap. No condition. -/
import Derived.Test.YtgcjenfdndhhpaaGreatDoorHCoreC
import Derived.RangeFuncIn
import Derived.RangeFuncLeaves
import Derived.RangeFuncRecord
import Derived.RangeFuncOwn
namespace Go.Proofs.YtgcjenfdndhhpaaGreatDoor
open Go Go.RowKit
set_option linter.all false

section
variable {P : Program} {B B' : Nat → Prop} {w0 w w' : World} {ι ι' ι0 : En} {H H' : Hp} {F : Fr} {a : Act} {N n m : Nat} {L : List Tmp} {dd : List Deferred}
theorem own_live {o : AObj} (h : o.owned = true) : o.live = true := by cases o <;> simp_all [AObj.owned, AObj.live]


/-! ### the call's end -/

/-! ### the statement itself -/
/-! ### rules -/
end
section
variable {P : Program} {n N m : Nat} (Q : AExit → Fr → Hp → Prop) (F F' : Fr) (H H' : Hp)
variable {H H'} in
end
end Go.Proofs.YtgcjenfdndhhpaaGreatDoor
