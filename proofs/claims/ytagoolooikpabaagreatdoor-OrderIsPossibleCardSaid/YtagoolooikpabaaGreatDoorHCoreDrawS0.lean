/- Regions that draw their order and call what turns nothing: the text's order is enough. No condition. -/
import Derived.Test.YtagoolooikpabaaGreatDoorHCoreD
set_option linter.all false
namespace Go.Proofs.YtagoolooikpabaaGreatDoor
open Go Go.RowKit
structure Sys where
 op : Op → (Operand → AV) → Hp → (AV → Hp → Prop) → Prop
 cA : Op → Bool
 cB : Op → Bool
 mono : ∀ {o : Op} {ev : Operand → AV} {H : Hp} {J J' : AV → Hp → Prop}, (∀ v H', J v H' → J' v H') → op o ev H J → op o ev H J'
 congr : ∀ {o : Op} {ev ev' : Operand → AV} {H : Hp} {J : AV → Hp → Prop}, (∀ x ∈ o.operands, ev x = ev' x) → op o ev H J = op o ev' H J
 det : ∀ {o : Op} {ev : Operand → AV} {H : Hp} {J : AV → Hp → Prop}, cA o = true ∨ cB o = true → op o ev H J → ∃ v, op o ev H (fun u H' => u = v ∧ H' = H) ∧ J v H
 stay : ∀ {o : Op} {ev : Operand → AV} {H H' : Hp} {v : AV}, cA o = true → op o ev H (fun u H'' => u = v ∧ H'' = H) → op o ev H' (fun u H'' => u = v ∧ H'' = H')
def RVY (Y : Sys) (op : Op) (ev : Operand → AV) (H : Hp) (v : AV) : Prop := Y.op op ev H (fun u H' => u = v ∧ H' = H)
def aGuardY (Y : Sys) (ops : Array Oper) (o : Oper) (K : Fr → Hp → Prop) (F : Fr) (H : Hp) : Prop :=
 match o.guard with
 | none => Y.op o.op (evC F) H (fun v H' => K (F.put o.dst v) H')
 | some (j, want) => match (ops[j]?).bind (·.dst) with
  | some t => match F t with
   | .c (.bool b) => (b = want → Y.op o.op (evC F) H (fun v H' => K (F.put o.dst v) H')) ∧ (b = !want → K (F.put o.dst (.tup [])) H)
   | .tup [] => K (F.put o.dst (.tup [])) H
   | _ => False
  | none => False
def aOpsY (Y : Sys) (ops : Array Oper) (K : Fr → Hp → Prop) : List Oper → Fr → Hp → Prop
 | [], F, H => K F H
 | o :: rest, F, H => aGuardY Y ops o (aOpsY Y ops K rest) F H
def aIdxY (Y : Sys) (ops : Array Oper) (K : Fr → Hp → Prop) (i : Nat) (F : Fr) (H : Hp) : Prop :=
 match ops[i]? with
 | some o => aGuardY Y ops o K F H
 | none => K F H
def aAnyY (Y : Sys) (ops : Array Oper) (K : Fr → Hp → Prop) : Nat → Array Bool → Fr → Hp → Prop
 | 0, listed, F, H => Region.ready .any ops listed = [] ∧ K F H
 | fuel + 1, listed, F, H => (Region.ready .any ops listed = [] → K F H) ∧ ∀ i ∈ Region.ready .any ops listed, aIdxY Y ops (aAnyY Y ops K fuel (listed.setIfInBounds i true)) i F H
end Go.Proofs.YtagoolooikpabaaGreatDoor
