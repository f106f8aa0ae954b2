/- slices.Backward over levels, gone through. No condition. -/
import Derived.Test.YtnpdbnkgipkgaaaGreatHCoreRange
import Derived.Test.YtnpdbnkgipkgaaaGreatHVGA
import Derived.RangeFuncBound
import Derived.RangeFuncCalls
import Derived.Shelf.Abstract
import Derived.WalkKit
import Derived.OwnWalkIn
import Derived.TacticsInMore
import Derived.LoopNIn
import Derived.LoopIn
import Derived.Test.YtnpdbnkgipkgaaaGreatProg
namespace Go.Proofs.YtnpdbnkgipkgaaaGreat
open Go Go.RowKit Go.Shelf
theorem fenB_round (r : Option Nat) : (fen r).round = r := rfl
theorem fenB_depth (r : Option Nat) : (fen r).depth = none := rfl
attribute [local go_sem] Oper.semAt_some Oper.semAt_none fenB_round fenB_depth
set_option maxRecDepth 100000
set_option linter.all false in
set_option maxHeartbeats 2000000 in
set_option maxRecDepth 100000 in
set_option maxHeartbeats 2000000 in
def lvAt (lv : List Level) (k : Nat) : Level := lv.getD (lv.length - 1 - k) ⟨0, 0⟩
theorem cells_two {Z : Nat → Nat → Option Value} {a c : Int} {b o : Nat} (h : relCells Z [.int .i64 a, .int .i64 c] b o) : Z b o = some (.int .i64 a) ∧ Z b (o + 1) = some (.int .i64 c) := by
  obtain ⟨⟨u, h1, h2⟩, ⟨v, h3, h4⟩, _⟩ := h
  have h2 : u = .int .i64 a := h2
  have h4 : v = .int .i64 c := h4
  subst h2; subst h4
  exact ⟨h1, h3⟩
end Go.Proofs.YtnpdbnkgipkgaaaGreat
