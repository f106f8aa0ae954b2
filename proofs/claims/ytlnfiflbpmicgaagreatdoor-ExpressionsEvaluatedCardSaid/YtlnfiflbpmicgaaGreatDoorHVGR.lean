/- Several texts in one: Samples and bins deleted in place, and what follows. No condition. -/
import Derived.Test.YtlnfiflbpmicgaaGreatDoorHVSmp
import Derived.Test.YtlnfiflbpmicgaaGreatDoorHVFrac
set_option linter.all false
namespace Go.Proofs.YtlnfiflbpmicgaaGreatDoor
open Go Go.RowKit
set_option maxRecDepth 100000
set_option maxHeartbeats 1000000
variable {H : Hp} {K : AV → Hp → Prop}
theorem Ret.frzDead {ty sz n m i : Nat} {els : List (List AC)} {own : Bool} (hi : H[i]? = some (.row ty sz els own)) (hp : pureL els = true) (hm : m ≤ els.length) (hn : n ≤ H.length) (hk : K (.c (.lst sz (els.take m))) (H.set i .dead)) : Ret n (.c (.sl (some (i, 0)) m)) H K := by
  intro hH hv
  have hlt := getElem?_lt hi
  have h1 := WkL.frz (m := n) (vs := [.c (.sl (some (i, 0)) m)]) hi hp hn
  have e1 : [AV.c (AC.sl (some (i, 0)) m)].map (AV.frz i sz els) = [.c (.lst sz (els.take m))] := by simp [AV.frz, AV.frz1, AC.frz, hm]
  rw [e1] at h1
  have hok : HOk (H.set i .dead) := HOk.set hH trivial
  have h2 : WkL n [.c (.lst sz (els.take m))] (H.set i (.row ty sz els false)) [.c (.lst sz (els.take m))] (H.set i .dead) := by
    refine WkL.renL id (fun _ _ => rfl) (by simpa using hn) (fun j o hj hl => ?_) (fun j k _ _ _ _ _ _ e => e) (by simp [AV.ren, AV.ren1, AC.ren]) (by simp [AV.ok, AV.ok1, AC.ok]) hok
    by_cases e : i = j
    · subst e; rw [List.getElem?_set_self hlt] at hj; injection hj with hj; subst hj; cases hl
    · rw [List.getElem?_set_ne e] at hj
      show (H.set i (.row ty sz els false))[j]? = _
      rw [List.getElem?_set_ne e, hj, AObj.ren_id (σ := id) (n := H.length) (fun _ _ => rfl) (hH j o hj)]
  exact ⟨_, _, h1.trans h2, hk⟩
end Go.Proofs.YtlnfiflbpmicgaaGreatDoor
namespace Go.Proofs.YtlnfiflbpmicgaaGreatDoor
open Go Go.RowKit
set_option maxRecDepth 100000
set_option maxHeartbeats 1000000
variable {H : Hp} {K : AV → Hp → Prop}
structure Win where
  a : Int
  b : Int
deriving DecidableEq
def encW (x : Win) : List AC := [.int .i64 x.a, .int .i64 x.b]
attribute [go_sem, simp] encW
def winE (w : Win) : Int := if w.a < 0 ∨ w.b < w.a ∨ 345686400000 < w.b then 1 else 0
theorem inW2_a (a b t : Int) (hk : K (.c (.bool (decide (a ≤ t ∧ t < b)))) H) : ACalls Tryz.prog 74 [.agg [.int .i64 a, .int .i64 b], (.c (.int .i64 t))] H K := by
  refine acalls Tryz.func74 rfl (by kernel_rfl) (by simp (disch := first | omega | (simp only [go_sem]; try omega)) only [go_sem]) (fun hH => ?_)
  simp (disch := first | omega | (simp only [go_sem]; try omega)) only [go_sem]
  repeat' (first | ((first | refine acond_d ?_ ?_ | refine acond_b ?_ ?_ | refine ag_d ?_ ?_ | refine ag_n ?_ ?_ | refine ag_bt ?_ ?_ | refine ag_bf ?_ ?_) <;> intro c <;> try simp (disch := first | omega | (simp only [go_sem]; try omega)) only [go_sem, c]) | ((first | refine w_draw (by kernel_rfl) (by decide +kernel) ?_) <;> try simp (disch := first | omega | (simp only [go_sem]; try omega)) only [go_sem]))
  all_goals (first | refine Ret.sameE (Nat.le_refl _) (by assumption) ?_ | refine Ret.dropE (by assumption) (Nat.le_refl _) (by assumption) (by simp [AV.ok, AV.ok1, AC.ok]) ?_) <;> (first | rfl | (simp only [AV.c.injEq, AC.bool.injEq]; rw [Bool.eq_iff_iff]; simp only [Bool.not_eq_true', decide_eq_true_eq, decide_eq_false_iff_not, Bool.and_eq_true, Bool.or_eq_true]; omega) | grind | (simp [*]; done) | (simp [*]; omega))
theorem window_a (w : Win) (hk : K (.c (.bool (decide (winE w = 0)))) H) : ACalls Tryz.prog 152 [.agg (encW w)] H K := by
  refine acalls Tryz.func152 rfl (by kernel_rfl) (by simp (disch := first | omega | (simp only [go_sem]; try omega)) only [go_sem]) (fun hH => ?_)
  simp (disch := first | omega | (simp only [go_sem]; try omega)) only [go_sem]
  repeat' (first | ((first | refine acond_d ?_ ?_ | refine acond_b ?_ ?_ | refine ag_d ?_ ?_ | refine ag_n ?_ ?_ | refine ag_bt ?_ ?_ | refine ag_bf ?_ ?_) <;> intro c <;> try simp (disch := first | omega | (simp only [go_sem]; try omega)) only [go_sem, c]) | ((first | refine w_draw (by kernel_rfl) (by decide +kernel) ?_ | refine out_a _ _ _ _ _ ?_) <;> try simp (disch := first | omega | (simp only [go_sem]; try omega)) only [go_sem]))
  all_goals exact Ret.dropE hH (Nat.le_refl _) hk trivial (by simp only [AV.c.injEq, AC.bool.injEq, winE]; rw [Bool.eq_iff_iff]; simp only [decide_eq_true_eq, Bool.false_eq_true, false_iff]; grind)
theorem windowFaultR_a (w : Win) (hk : K (.c (.int .i64 (winE w))) H) : ACalls Tryz.prog 19 [.agg (encW w)] H K := by
  refine acalls Tryz.func19 rfl (by kernel_rfl) (by simp (disch := first | omega | (simp only [go_sem]; try omega)) only [go_sem]) (fun hH => ?_)
  simp (disch := first | omega | (simp only [go_sem]; try omega)) only [go_sem]
  repeat' (first | ((first | refine acond_d ?_ ?_ | refine acond_b ?_ ?_ | refine ag_d ?_ ?_ | refine ag_n ?_ ?_ | refine ag_bt ?_ ?_ | refine ag_bf ?_ ?_) <;> intro c <;> try simp (disch := first | omega | (simp only [go_sem]; try omega)) only [go_sem, c]) | ((first | refine w_draw (by kernel_rfl) (by decide +kernel) ?_ | refine in_a _ _ _ _ _ ?_) <;> try simp (disch := first | omega | (simp only [go_sem]; try omega)) only [go_sem]))
  all_goals exact Ret.dropE hH (Nat.le_refl _) hk trivial (by simp only [AV.c.injEq, AC.int.injEq, true_and, winE]; grind)
end Go.Proofs.YtlnfiflbpmicgaaGreatDoor
namespace Go.Proofs.YtlnfiflbpmicgaaGreatDoor
open Go Go.RowKit
set_option maxRecDepth 100000
set_option maxHeartbeats 2000000
variable {H : Hp} {K : AV → Hp → Prop}
theorem aWindow_a (s : Nat) (zs : List Int) (j : Int) (hs : Str H s zs j) (hj : j ≤ 1000000000)
    (hk : ∀ (w : Win), K (.agg (encW w)) (H.set s (strO zs (j + 2)))) : ACalls Tryz.prog 11 [.c (.ptr (some (s, 0, 0)))] H K := by
  have hlt := hs.lt
  have hpos := hs.pos
  have hne : H.length ≠ s := by omega
  refine acalls Tryz.func11 rfl (by kernel_rfl) (by simp (disch := first | omega | (simp only [go_sem]; try omega)) only [go_sem]) (fun hH => ?_)
  simp (disch := first | omega | (simp only [go_sem]; try omega)) only [go_sem]
  refine pick_lit s zs j [0, 0, 10, 20, 100, -1] (by first | ((repeat first | exact at0 (by simp) | refine atS ?_); done) | assumption) rfl rfl (by first | exact hs | exact hs.app _ | exact hs.set (by omega) (by omega) | exact (hs.set (by omega) (by omega)).app _) (by omega) (by simp) (by simp) (fun r1 h1 => ?_)
  clear h1
  simp (disch := first | omega | (simp only [go_sem]; try omega)) only [go_sem]
  refine pick_lit s zs (j + 1) [50, 100, 150, 300, 10, 20, 345686400000, 345686400001] (by first | ((repeat first | exact at0 (by simp) | refine atS ?_); done) | assumption) rfl rfl (by first | exact hs | exact hs.app _ | exact hs.set (by omega) (by omega) | exact (hs.set (by omega) (by omega)).app _) (by omega) (by simp) (by simp) (fun r2 h2 => ?_)
  clear h2
  simp (disch := first | omega | (simp only [go_sem]; try omega)) only [go_sem]
  have := hk ⟨r1, r2⟩
  rw [show j + 2 = j + 1 + 1 by omega] at this
  exact Ret.drop (HOk.str hH) (by simp) (by simp [AV.ok, AV.ok1, AC.ok]) this
end Go.Proofs.YtlnfiflbpmicgaaGreatDoor
