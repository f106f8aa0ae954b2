/- Several texts in one: Regions that draw their order and call what turns nothing: the text's order is enough, and what follows. No condition. -/
import Derived.Test.YtagoolooikpabaaGreatDoorHCoreC
set_option linter.all false
namespace Go.Proofs.YtagoolooikpabaaGreatDoor
open Go Go.RowKit
structure Sys where
 op : Op → (Operand → AV) → Hp → (AV → Hp → Prop) → Prop
 cA : Op → Bool
 cB : Op → Bool
 mono : ∀ {o : Op} {ev : Operand → AV} {H : Hp} {J J' : AV → Hp → Prop}, (∀ v H', J v H' → J' v H') → op o ev H J → op o ev H J'
 congr : ∀ {o : Op} {ev ev' : Operand → AV} {H : Hp} {J : AV → Hp → Prop}, (∀ x ∈ o.operands, ev x = ev' x) → op o ev H J = op o ev' H J
 det : ∀ {o : Op} {ev : Operand → AV} {H : Hp} {J : AV → Hp → Prop}, cA o = true ∨ cB o = true → op o ev H J → ∃ v, op o ev H (fun u H' => u = v ∧ H' = H) ∧ J v H
 stay : ∀ {o : Op} {ev : Operand → AV} {H H' : Hp} {v : AV}, cA o = true → op o ev H (fun u H'' => u = v ∧ H'' = H) → op o ev H' (fun u H'' => u = v ∧ H'' = H')
end Go.Proofs.YtagoolooikpabaaGreatDoor
namespace Go.Proofs.YtagoolooikpabaaGreatDoor
open Go Go.RowKit
section
variable {Y : Sys} {P : Program} {n N : Nat} {L : List Tmp} {ops : Array Oper} {K K' : Fr → Hp → Prop} {F : Fr} {H : Hp} {o : Oper}
end
/-! ### calls that are known -/
def aSp (v : Option AV) (H : Hp) (K : AV → Hp → Prop) : Prop := match v with
 | some v => K v H
 | none => False
section
variable {P : Program} {dom : FuncId → Bool} {sp : FuncId → List AV → Option AV} {n N : Nat} {L : List Tmp} {ops : Array Oper} {F : Fr} {H : Hp}
end
/-! ### steps -/
section
variable (P : Program) (dom : FuncId → Bool) (sp : FuncId → List AV → Option AV) (F : Fr) (H : Hp) (K : Fr → Hp → Prop) (J : AV → Hp → Prop)
variable (ev : Operand → AV)
@[congr] theorem asp_congr {v v' : Option AV} {H H' : Hp} (h1 : v = v') (h2 : H = H') : aSp v H J = aSp v' H' J := by rw [h1, h2]
end
end Go.Proofs.YtagoolooikpabaaGreatDoor
