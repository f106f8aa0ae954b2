/- How a level lies. No condition. -/
import Derived.Test.YtkmkkjlfnobciaaGreatDoorVStream
namespace Go.Proofs.YtkmkkjlfnobciaaGreatDoor
open Go Go.RowKit
set_option maxRecDepth 100000
set_option linter.all false
def encL (x : Level) : List AC := [.int .i64 x.step, .int .i64 x.keep]
attribute [go_sem] encL
theorem pureL_encL (l : List Level) : pureL (l.map encL) = true := by simp [pureL, encL, AC.pure]
end Go.Proofs.YtkmkkjlfnobciaaGreatDoor
