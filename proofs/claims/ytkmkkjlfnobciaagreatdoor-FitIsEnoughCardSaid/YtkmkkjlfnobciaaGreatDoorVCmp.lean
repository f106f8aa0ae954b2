/- Two numbers compared. No condition. -/
import Derived.Test.YtkmkkjlfnobciaaGreatDoorVa
namespace Go.Proofs.YtkmkkjlfnobciaaGreatDoor
open Go Go.RowKit
set_option maxRecDepth 100000
set_option linter.all false
variable {H : Hp} {K : AV → Hp → Prop}
theorem isNaN_a (x : Int) (hk : K (.c (.bool false)) H) : ACalls Tryz.prog 165 [(.c (.int .i64 x))] H K := by
  refine acalls Tryz.func165 rfl (by kernel_rfl) (by simp (disch := first | omega | (simp only [go_sem]; first | done | omega)) only [go_sem]) (fun hH => ?_)
  simp (disch := first | omega | (simp only [go_sem]; first | done | omega)) only [go_sem]
  (first | refine Ret.sameE (Nat.le_refl _) (by assumption) ?_ | refine Ret.dropE (by assumption) (Nat.le_refl _) (by assumption) (by simp [AV.ok, AV.ok1, AC.ok]) ?_) <;> simp
theorem compare_a (x y : Int) (hk : K (.c (.int .i64 (if x < y then -1 else if y < x then 1 else 0))) H) : ACalls Tryz.prog 121 [(.c (.int .i64 x)), (.c (.int .i64 y))] H K := by
  refine acalls Tryz.func121 rfl (by kernel_rfl) (by simp (disch := first | omega | (simp only [go_sem]; first | done | omega)) only [go_sem]) (fun hH => ?_)
  simp (disch := first | omega | (simp only [go_sem]; first | done | omega)) only [go_sem]
  repeat' (first | ((first | refine acond_d ?_ ?_ | refine acond_b ?_ ?_ | refine ag_d ?_ ?_ | refine ag_n ?_ ?_ | refine ag_bt ?_ ?_ | refine ag_bf ?_ ?_) <;> intro c <;> try simp (disch := first | omega | (simp only [go_sem]; first | done | omega)) only [go_sem, c]) | ((first | refine w_draw (by kernel_rfl) (by decide +kernel) ?_ | refine isNaN_a _ ?_) <;> try simp (disch := first | omega | (simp only [go_sem]; first | done | omega)) only [go_sem]))
  all_goals (first | refine Ret.sameE (Nat.le_refl _) (by assumption) ?_ | refine Ret.dropE (by assumption) (Nat.le_refl _) (by assumption) (by simp [AV.ok, AV.ok1, AC.ok]) ?_) <;> (first | rfl | (simp only [AV.c.injEq, AC.bool.injEq]; rw [Bool.eq_iff_iff]; simp only [Bool.not_eq_true', decide_eq_true_eq, decide_eq_false_iff_not, Bool.and_eq_true, Bool.or_eq_true]; omega) | grind | (simp [*]; done) | (simp [*]; omega))
theorem cmp_lt (x y : Int) : ((if x < y then -1 else if y < x then 1 else 0 : Int) < 0 ↔ x < y) := by
  split
  · omega
  · split <;> omega
end Go.Proofs.YtkmkkjlfnobciaaGreatDoor
