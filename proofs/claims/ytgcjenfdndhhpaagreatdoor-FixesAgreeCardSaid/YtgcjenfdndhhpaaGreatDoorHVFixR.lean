/- The document's answer for fixes: which moments they concern, and what a moment's sample is after them. No condition. -/
import Derived.Test.YtgcjenfdndhhpaaGreatDoorHVFixM
import Derived.Test.YtgcjenfdndhhpaaGreatDoorHVArrF
namespace Go.Proofs.YtgcjenfdndhhpaaGreatDoor
open Go Go.RowKit
set_option maxRecDepth 100000
set_option linter.all false
set_option maxHeartbeats 1000000
variable {H : Hp} {K : AV → Hp → Prop}
def tchB (x : Fix) (t : Int) : Bool := if x.kind = 1 then decide (x.s.t = t) else if x.kind = 2 then decide (x.t = t) else decide (x.w1 ≤ t ∧ t < x.w2)
/-- one fix more, at a moment -/
def stF (made t : Int) (u : Smp × Bool) (y : Fix) : Smp × Bool := if ¬ y.made ≤ made ∨ tchB y t = false then u else if y.kind = 1 then (y.s, true) else if y.kind = 2 then (u.1, false) else
  if u.1.q ≠ 2 then (if y.q = 2 then (⟨u.1.t, 0, y.q⟩, u.2) else (⟨u.1.t, u.1.v, y.q⟩, u.2)) else (⟨u.1.t, 0, u.1.q⟩, u.2)
def iniF (l : List Smp) (t : Int) : Smp × Bool := match l.find? (fun x => decide (x.t = t)) with
  | some x => (x, true)
  | none => (⟨0, 0, 0⟩, false)
def fxAt (l : List Smp) (fs : List Fix) (t made : Int) : Smp × Bool := fs.foldl (stF made t) (iniF l t)
def setsF (fs : List Fix) : List Int := (fs.filter fun f => decide (f.kind = 1)).map fun f => f.s.t
/-- the moments of a series and its fixes, rising -/
def momsF (l : List Smp) (fs : List Fix) : List Int := cplF (srtI (l.map (·.t) ++ setsF fs))
end Go.Proofs.YtgcjenfdndhhpaaGreatDoor
