/- Regions that draw their order and call what turns nothing: the text's order is enough. No condition. -/
import Derived.Test.YtagoolooikpabaaGreatDoorHCoreC
set_option linter.all false
namespace Go.Proofs.YtagoolooikpabaaGreatDoor
open Go Go.RowKit
structure Sys where
 op : Op → (Operand → AV) → Hp → (AV → Hp → Prop) → Prop
 cA : Op → Bool
 cB : Op → Bool
 mono : ∀ {o : Op} {ev : Operand → AV} {H : Hp} {J J' : AV → Hp → Prop}, (∀ v H', J v H' → J' v H') → op o ev H J → op o ev H J'
 congr : ∀ {o : Op} {ev ev' : Operand → AV} {H : Hp} {J : AV → Hp → Prop}, (∀ x ∈ o.operands, ev x = ev' x) → op o ev H J = op o ev' H J
 det : ∀ {o : Op} {ev : Operand → AV} {H : Hp} {J : AV → Hp → Prop}, cA o = true ∨ cB o = true → op o ev H J → ∃ v, op o ev H (fun u H' => u = v ∧ H' = H) ∧ J v H
 stay : ∀ {o : Op} {ev : Operand → AV} {H H' : Hp} {v : AV}, cA o = true → op o ev H (fun u H'' => u = v ∧ H'' = H) → op o ev H' (fun u H'' => u = v ∧ H'' = H')
end Go.Proofs.YtagoolooikpabaaGreatDoor
