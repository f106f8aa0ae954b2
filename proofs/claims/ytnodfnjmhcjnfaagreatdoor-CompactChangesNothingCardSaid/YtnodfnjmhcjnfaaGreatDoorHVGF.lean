/- Several texts in one: Samples and bins deleted in place, and what follows. No condition. -/
import Derived.Test.YtnodfnjmhcjnfaaGreatDoorHVGA
import Derived.Test.YtnodfnjmhcjnfaaGreatDoorHVBack
/- Samples and bins deleted in place. No condition. -/
namespace Go.Proofs.YtnodfnjmhcjnfaaGreatDoor
open Go Go.RowKit
set_option maxRecDepth 100000
set_option linter.all false
set_option maxHeartbeats 1000000
variable {H : Hp} {K : AV → Hp → Prop}
theorem Ret.frzDead {ty sz n m i : Nat} {els : List (List AC)} {own : Bool} (hi : H[i]? = some (.row ty sz els own)) (hp : pureL els = true) (hm : m ≤ els.length) (hn : n ≤ H.length) (hk : K (.c (.lst sz (els.take m))) (H.set i .dead)) : Ret n (.c (.sl (some (i, 0)) m)) H K := by
  intro hH hv
  have hlt := getElem?_lt hi
  have h1 := WkL.frz (m := n) (vs := [.c (.sl (some (i, 0)) m)]) hi hp hn
  have e1 : [AV.c (AC.sl (some (i, 0)) m)].map (AV.frz i sz els) = [.c (.lst sz (els.take m))] := by simp [AV.frz, AV.frz1, AC.frz, hm]
  rw [e1] at h1
  have hok : HOk (H.set i .dead) := HOk.set hH trivial
  have h2 : WkL n [.c (.lst sz (els.take m))] (H.set i (.row ty sz els false)) [.c (.lst sz (els.take m))] (H.set i .dead) := by
    refine WkL.renL id (fun _ _ => rfl) (by simpa using hn) (fun j o hj hl => ?_) (fun j k _ _ _ _ _ _ e => e) (by simp [AV.ren, AV.ren1, AC.ren]) (by simp [AV.ok, AV.ok1, AC.ok]) hok
    by_cases e : i = j
    · subst e; rw [List.getElem?_set_self hlt] at hj; injection hj with hj; subst hj; cases hl
    · rw [List.getElem?_set_ne e] at hj
      show (H.set i (.row ty sz els false))[j]? = _
      rw [List.getElem?_set_ne e, hj, AObj.ren_id (σ := id) (n := H.length) (fun _ _ => rfl) (hH j o hj)]
  exact ⟨_, _, h1.trans h2, hk⟩
end Go.Proofs.YtnodfnjmhcjnfaaGreatDoor
/- Fractions in lowest terms. Condition: numbers as they are in memory. -/
namespace Go.Proofs.YtnodfnjmhcjnfaaGreatDoor
open Go Go.RowKit
set_option maxRecDepth 100000
set_option linter.all false
set_option maxHeartbeats 1000000
variable {H : Hp} {K : AV → Hp → Prop}
@[go_sem] theorem wrapU_pos (n : Int) (h : 0 ≤ n ∧ n ≤ 18446744073709551615) : IntKind.u64.wrap n = n := by
  unfold IntKind.wrap
  simp [IntKind.bits, IntKind.signed]
  omega
end Go.Proofs.YtnodfnjmhcjnfaaGreatDoor
/- Windows, and the samples in one. Condition: the list is not huge. -/
namespace Go.Proofs.YtnodfnjmhcjnfaaGreatDoor
open Go Go.RowKit
set_option maxRecDepth 100000
set_option linter.all false
set_option maxHeartbeats 1000000
variable {H : Hp} {K : AV → Hp → Prop}
structure Win where
  a : Int
  b : Int
deriving DecidableEq
def encW (x : Win) : List AC := [.int .i64 x.a, .int .i64 x.b]
attribute [go_sem, simp] encW
def winE (w : Win) : Int := if w.a < 0 ∨ w.b < w.a ∨ 345686400000 < w.b then 1 else 0
theorem inW2_a (a b t : Int) (hk : K (.c (.bool (decide (a ≤ t ∧ t < b)))) H) : ACalls Tryz.prog 111 [.agg [.int .i64 a, .int .i64 b], (.c (.int .i64 t))] H K := by
  refine acalls Tryz.func111 rfl (by kernel_rfl) (by simp (disch := first | omega | (simp only [go_sem]; first | done | omega)) only [go_sem]) (fun hH => ?_)
  simp (disch := first | omega | (simp only [go_sem]; first | done | omega)) only [go_sem]
  repeat' (first | ((first | refine acond_d ?_ ?_ | refine acond_b ?_ ?_ | refine ag_d ?_ ?_ | refine ag_n ?_ ?_ | refine ag_bt ?_ ?_ | refine ag_bf ?_ ?_) <;> intro c <;> try simp (disch := first | omega | (simp only [go_sem]; first | done | omega)) only [go_sem, c]) | ((first | refine w_draw (by kernel_rfl) (by decide +kernel) ?_) <;> try simp (disch := first | omega | (simp only [go_sem]; first | done | omega)) only [go_sem]))
  all_goals (first | refine Ret.sameE (Nat.le_refl _) (by assumption) ?_ | refine Ret.dropE (by assumption) (Nat.le_refl _) (by assumption) (by simp [AV.ok, AV.ok1, AC.ok]) ?_) <;> (first | rfl | (simp only [AV.c.injEq, AC.bool.injEq]; rw [Bool.eq_iff_iff]; simp only [Bool.not_eq_true', decide_eq_true_eq, decide_eq_false_iff_not, Bool.and_eq_true, Bool.or_eq_true]; omega) | grind | (simp [*]; done) | (simp [*]; omega))
theorem window_a (w : Win) (hk : K (.c (.bool (decide (winE w = 0)))) H) : ACalls Tryz.prog 129 [.agg (encW w)] H K := by
  refine acalls Tryz.func129 rfl (by kernel_rfl) (by simp (disch := first | omega | (simp only [go_sem]; first | done | omega)) only [go_sem]) (fun hH => ?_)
  simp (disch := first | omega | (simp only [go_sem]; first | done | omega)) only [go_sem]
  repeat' (first | ((first | refine acond_d ?_ ?_ | refine acond_b ?_ ?_ | refine ag_d ?_ ?_ | refine ag_n ?_ ?_ | refine ag_bt ?_ ?_ | refine ag_bf ?_ ?_) <;> intro c <;> try simp (disch := first | omega | (simp only [go_sem]; first | done | omega)) only [go_sem, c]) | ((first | refine w_draw (by kernel_rfl) (by decide +kernel) ?_ | refine out_a _ _ _ _ _ ?_) <;> try simp (disch := first | omega | (simp only [go_sem]; first | done | omega)) only [go_sem]))
  all_goals exact Ret.dropE hH (Nat.le_refl _) hk trivial (by simp only [AV.c.injEq, AC.bool.injEq, winE]; rw [Bool.eq_iff_iff]; simp only [decide_eq_true_eq, Bool.false_eq_true, false_iff]; grind)
end Go.Proofs.YtnodfnjmhcjnfaaGreatDoor
