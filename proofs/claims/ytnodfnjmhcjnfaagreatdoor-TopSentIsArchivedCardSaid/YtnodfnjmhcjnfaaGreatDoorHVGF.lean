/- Several texts in one: Fractions in lowest terms, and what follows. No condition. -/
import Derived.Test.YtnodfnjmhcjnfaaGreatDoorHVGA
import Derived.Test.YtnodfnjmhcjnfaaGreatDoorHVBack
import Derived.Test.YtnodfnjmhcjnfaaGreatDoorHVGD
import Derived.Test.YtnodfnjmhcjnfaaGreatDoorHVGC
/- Fractions in lowest terms. Condition: numbers as they are in memory. -/
namespace Go.Proofs.YtnodfnjmhcjnfaaGreatDoor
open Go Go.RowKit
set_option maxRecDepth 100000
set_option linter.all false
set_option maxHeartbeats 1000000
variable {H : Hp} {K : AV → Hp → Prop}
@[go_sem] theorem wrapU_pos (n : Int) (h : 0 ≤ n ∧ n ≤ 18446744073709551615) : IntKind.u64.wrap n = n := by
  unfold IntKind.wrap
  simp [IntKind.bits, IntKind.signed]
  omega
end Go.Proofs.YtnodfnjmhcjnfaaGreatDoor
/- Windows, and the samples in one. Condition: the list is not huge. -/
namespace Go.Proofs.YtnodfnjmhcjnfaaGreatDoor
open Go Go.RowKit
set_option maxRecDepth 100000
set_option linter.all false
set_option maxHeartbeats 1000000
variable {H : Hp} {K : AV → Hp → Prop}
structure Win where
  a : Int
  b : Int
deriving DecidableEq
def encW (x : Win) : List AC := [.int .i64 x.a, .int .i64 x.b]
attribute [go_sem, simp] encW
def winE (w : Win) : Int := if w.a < 0 ∨ w.b < w.a ∨ 345686400000 < w.b then 1 else 0
theorem inW2_a (a b t : Int) (hk : K (.c (.bool (decide (a ≤ t ∧ t < b)))) H) : ACalls Tryz.prog 111 [.agg [.int .i64 a, .int .i64 b], (.c (.int .i64 t))] H K := by
  refine acalls Tryz.func111 rfl (by kernel_rfl) (by simp (disch := first | omega | (simp only [go_sem]; first | done | omega)) only [go_sem]) (fun hH => ?_)
  simp (disch := first | omega | (simp only [go_sem]; first | done | omega)) only [go_sem]
  repeat' (first | ((first | refine acond_d ?_ ?_ | refine acond_b ?_ ?_ | refine ag_d ?_ ?_ | refine ag_n ?_ ?_ | refine ag_bt ?_ ?_ | refine ag_bf ?_ ?_) <;> intro c <;> try simp (disch := first | omega | (simp only [go_sem]; first | done | omega)) only [go_sem, c]) | ((first | refine w_draw (by kernel_rfl) (by decide +kernel) ?_) <;> try simp (disch := first | omega | (simp only [go_sem]; first | done | omega)) only [go_sem]))
  all_goals (first | refine Ret.sameE (Nat.le_refl _) (by assumption) ?_ | refine Ret.dropE (by assumption) (Nat.le_refl _) (by assumption) (by simp [AV.ok, AV.ok1, AC.ok]) ?_) <;> (first | rfl | (simp only [AV.c.injEq, AC.bool.injEq]; rw [Bool.eq_iff_iff]; simp only [Bool.not_eq_true', decide_eq_true_eq, decide_eq_false_iff_not, Bool.and_eq_true, Bool.or_eq_true]; omega) | grind | (simp [*]; done) | (simp [*]; omega))
theorem window_a (w : Win) (hk : K (.c (.bool (decide (winE w = 0)))) H) : ACalls Tryz.prog 129 [.agg (encW w)] H K := by
  refine acalls Tryz.func129 rfl (by kernel_rfl) (by simp (disch := first | omega | (simp only [go_sem]; first | done | omega)) only [go_sem]) (fun hH => ?_)
  simp (disch := first | omega | (simp only [go_sem]; first | done | omega)) only [go_sem]
  repeat' (first | ((first | refine acond_d ?_ ?_ | refine acond_b ?_ ?_ | refine ag_d ?_ ?_ | refine ag_n ?_ ?_ | refine ag_bt ?_ ?_ | refine ag_bf ?_ ?_) <;> intro c <;> try simp (disch := first | omega | (simp only [go_sem]; first | done | omega)) only [go_sem, c]) | ((first | refine w_draw (by kernel_rfl) (by decide +kernel) ?_ | refine out_a _ _ _ _ _ ?_) <;> try simp (disch := first | omega | (simp only [go_sem]; first | done | omega)) only [go_sem]))
  all_goals exact Ret.dropE hH (Nat.le_refl _) hk trivial (by simp only [AV.c.injEq, AC.bool.injEq, winE]; rw [Bool.eq_iff_iff]; simp only [decide_eq_true_eq, Bool.false_eq_true, false_iff]; grind)
end Go.Proofs.YtnodfnjmhcjnfaaGreatDoor
/- The coarsest level that answers a query: the document's answer. Condition: few holds, numbers as those of levels. -/
namespace Go.Proofs.YtnodfnjmhcjnfaaGreatDoor
open Go Go.RowKit
set_option maxRecDepth 100000
set_option linter.all false
set_option maxHeartbeats 2000000
variable {H : Hp} {K : AV → Hp → Prop}
theorem WkL.hok {m : Nat} {vs vs' : List AV} {H G : Hp} (h : HOk H → WkL m vs H vs' G) : WkL m vs H vs' G := fun B w0 ι w zs hs => h hs.hok B w0 ι w zs hs
end Go.Proofs.YtnodfnjmhcjnfaaGreatDoor
