/- Bins: combined, put. Condition: the sums are small. -/
import Derived.Test.YtbgoaanalfdenaaVSmp
namespace Go.Proofs.Ytbgoaanalfdenaa
open Go Go.RowKit
set_option maxRecDepth 100000
set_option linter.all false
set_option maxHeartbeats 1000000
variable {H : Hp} {K : AV → Hp → Prop}
structure Bin where
  a : Int
  s : Int
  n : Int
  m : Int
  lo : Int
  hi : Int
deriving DecidableEq
def encN (x : Bin) : List AC := [.int .i64 x.a, .int .i64 x.s, .int .i64 x.n, .int .i64 x.m, .int .i64 x.lo, .int .i64 x.hi]
attribute [go_sem, simp] encN
def combB (x y : Bin) : Bin := ⟨x.a, x.s + y.s, x.n + y.n, x.m + y.m, if x.n = 0 then y.lo else if y.n = 0 then x.lo else min x.lo y.lo, if x.n = 0 then y.hi else if y.n = 0 then x.hi else max x.hi y.hi⟩
def Bin.bd (x : Bin) (B : Int) : Prop := -B ≤ x.s ∧ x.s ≤ B ∧ -B ≤ x.n ∧ x.n ≤ B ∧ -B ≤ x.m ∧ x.m ≤ B
def putB (l : List Bin) (b : Bin) : List Bin := match l.getLast? with
  | none => [b]
  | some x => if x.a = b.a then l.dropLast ++ [combB x b] else l ++ [b]
theorem pureL_encN (l : List Bin) : pureL (l.map encN) = true := by simp [pureL, AC.pure]
end Go.Proofs.Ytbgoaanalfdenaa
