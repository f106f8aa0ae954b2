/- Regions that draw their order and call what turns nothing: the text's order is enough. No condition. -/
import Derived.Test.YtagoolooikpabaaGreatDoorHCoreDrawS0
set_option linter.all false
namespace Go.Proofs.YtagoolooikpabaaGreatDoor
open Go Go.RowKit
section
variable {Y : Sys} {P : Program} {n N : Nat} {L : List Tmp} {ops : Array Oper} {K K' : Fr → Hp → Prop} {F : Fr} {H : Hp} {o : Oper}
end
/-! ### calls that are known -/
def aSp (v : Option AV) (H : Hp) (K : AV → Hp → Prop) : Prop := match v with
 | some v => K v H
 | none => False
section
variable {P : Program} {dom : FuncId → Bool} {sp : FuncId → List AV → Option AV} {n N : Nat} {L : List Tmp} {ops : Array Oper} {F : Fr} {H : Hp}
end
/-! ### steps -/
section
variable (P : Program) (dom : FuncId → Bool) (sp : FuncId → List AV → Option AV) (F : Fr) (H : Hp) (K : Fr → Hp → Prop) (J : AV → Hp → Prop)
variable (ev : Operand → AV)
@[congr] theorem asp_congr {v v' : Option AV} {H H' : Hp} (h1 : v = v') (h2 : H = H') : aSp v H J = aSp v' H' J := by rw [h1, h2]
end
end Go.Proofs.YtagoolooikpabaaGreatDoor
