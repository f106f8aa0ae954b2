/- Several texts in one: Levels that are made to fit stay right ones: no program in sight, and what follows. No condition. -/
import Derived.Test.YtflklkijfkmeiaaGreatDoorHVGA
import Derived.Test.YtflklkijfkmeiaaGreatDoorHVGB
/- Levels that are made to fit stay right ones: no program in sight. No condition. -/
namespace Go.Proofs.YtflklkijfkmeiaaGreatDoor
open Go Go.RowKit
set_option maxRecDepth 100000
set_option linter.all false
def Down (l l' : List Level) : Prop := l'.length = l.length ∧ ∀ k (h : k < l.length) (h' : k < l'.length), l'[k].step = l[k].step ∧ l'[k].keep ≤ l[k].keep
theorem Down.refl (l : List Level) : Down l l := ⟨rfl, fun _ _ _ => ⟨rfl, Int.le_refl _⟩⟩
end Go.Proofs.YtflklkijfkmeiaaGreatDoor
/- Samples that are drawn. No condition. -/
namespace Go.Proofs.YtflklkijfkmeiaaGreatDoor
open Go Go.RowKit
set_option maxRecDepth 100000
set_option linter.all false
set_option maxHeartbeats 1000000
variable {H : Hp} {K : AV → Hp → Prop}
theorem odd_a (s : Nat) (zs : List Int) (j lo hi : Int) (hs : Str H s zs j) (hj : j ≤ 1099000000000) (h1 : -1000000000000 ≤ lo) (h2 : lo ≤ hi) (h3 : hi ≤ 1000000000000)
    (hk : ∀ (r j' : Int), j ≤ j' → j' ≤ j + 2 → (lo - 1 ≤ r ∧ r ≤ hi + 1) ∨ r = -1099511627776 ∨ r = 1099511627776 → K (.c (.int .i64 r)) (H.set s (strO zs j'))) : ACalls Tryz.prog 80 [.c (.ptr (some (s, 0, 0))), (.c (.int .i64 lo)), (.c (.int .i64 hi))] H K := by
  have hlt := hs.lt
  have hpos := hs.pos
  have hne : H.length ≠ s := by omega
  refine acalls Tryz.func80 rfl (by kernel_rfl) (by simp (disch := first | omega | (simp only [go_sem]; first | done | omega)) only [go_sem]) (fun hH => ?_)
  simp (disch := first | omega | (simp only [go_sem]; first | done | omega)) only [go_sem]
  refine flip_a s zs j 12 (by first | exact hs | exact hs.app _ | exact hs.set (by omega) (by omega) | exact (hs.set (by omega) (by omega)).app _) (by omega) (by omega) (fun b => ?_)
  simp (disch := first | omega | (simp only [go_sem]; first | done | omega)) only [go_sem]
  refine acond_b (fun c => ?_) (fun c => ?_)
  · simp (disch := first | omega | (simp only [go_sem]; first | done | omega)) only [go_sem]
    refine pick_lit s zs (j + 1) [lo - 1, hi + 1, lo, hi, -1099511627776, 1099511627776] (by first | ((repeat first | exact at0 (by simp) | refine atS ?_); done) | assumption) rfl rfl (by first | exact hs | exact hs.app _ | exact hs.set (by omega) (by omega) | exact (hs.set (by omega) (by omega)).app _) (by omega) (by simp) (by simp) (fun r hr => ?_)
    simp only [List.mem_cons, List.not_mem_nil, or_false] at hr
    simp (disch := first | omega | (simp only [go_sem]; first | done | omega)) only [go_sem]
    exact Ret.drop (HOk.str hH) (by simp) trivial (hk r (j + 1 + 1) (by omega) (by omega) (by omega))
  · simp (disch := first | omega | (simp only [go_sem]; first | done | omega)) only [go_sem]
    refine range_a s zs (j + 1) lo hi (by first | exact hs | exact hs.app _ | exact hs.set (by omega) (by omega) | exact (hs.set (by omega) (by omega)).app _) (by omega) (by omega) (by omega) (fun r h4 h5 => ?_)
    simp (disch := first | omega | (simp only [go_sem]; first | done | omega)) only [go_sem]
    exact Ret.same (by simp) (hk r (j + 1 + 1) (by omega) (by omega) (by omega))
theorem oneSample_a (s : Nat) (zs : List Int) (j : Int) (hs : Str H s zs j) (hj : j ≤ 1099000000000)
    (hk : ∀ (x : Smp), (-1 ≤ x.t ∧ x.t ≤ 345686400000) → (-9223372036854775808 ≤ x.v ∧ x.v ≤ 4611686018427387904) → (-1 ≤ x.q ∧ x.q ≤ 3) → K (.agg (encS x)) (H.set s (strO zs (j + 1 + 1 + 1)))) : ACalls Tryz.prog 81 [.c (.ptr (some (s, 0, 0)))] H K := by
  have hlt := hs.lt
  have hpos := hs.pos
  have hne : H.length ≠ s := by omega
  refine acalls Tryz.func81 rfl (by kernel_rfl) (by simp (disch := first | omega | (simp only [go_sem]; first | done | omega)) only [go_sem]) (fun hH => ?_)
  simp (disch := first | omega | (simp only [go_sem]; first | done | omega)) only [go_sem]
  refine pick_lit s zs j [0, 50, 345686399999, 345686400000, -1] (by first | ((repeat first | exact at0 (by simp) | refine atS ?_); done) | assumption) rfl rfl (by first | exact hs | exact hs.app _ | exact hs.set (by omega) (by omega) | exact (hs.set (by omega) (by omega)).app _) (by omega) (by simp) (by simp) (fun a ha => ?_)
  simp (disch := first | omega | (simp only [go_sem]; first | done | omega)) only [go_sem]
  refine pick_lit s zs (j + 1) [0, 1, 1000000, -1000000, 1000001, -1000001, 4611686018427387904, -9223372036854775808] (by first | ((repeat first | exact at0 (by simp) | refine atS ?_); done) | assumption) rfl rfl (by first | exact hs | exact hs.app _ | exact hs.set (by omega) (by omega) | exact (hs.set (by omega) (by omega)).app _) (by omega) (by simp) (by simp) (fun b hb => ?_)
  simp (disch := first | omega | (simp only [go_sem]; first | done | omega)) only [go_sem]
  refine pick_lit s zs (j + 1 + 1) [0, 1, 2, 3, -1] (by first | ((repeat first | exact at0 (by simp) | refine atS ?_); done) | assumption) rfl rfl (by first | exact hs | exact hs.app _ | exact hs.set (by omega) (by omega) | exact (hs.set (by omega) (by omega)).app _) (by omega) (by simp) (by simp) (fun c hc => ?_)
  simp only [List.mem_cons, List.not_mem_nil, or_false] at ha hb hc
  simp (disch := first | omega | (simp only [go_sem]; first | done | omega)) only [go_sem]
  have := hk ⟨a, b, c⟩ (by dsimp only; omega) (by dsimp only; omega) (by dsimp only; omega)
  exact Ret.drop (HOk.str hH) (by simp) (by simp [AV.ok, AV.ok1, AC.ok]) this
end Go.Proofs.YtflklkijfkmeiaaGreatDoor
/- Clocks that are corrected: no program in sight. No condition. -/
namespace Go.Proofs.YtflklkijfkmeiaaGreatDoor
open Go Go.RowKit
set_option maxRecDepth 100000
set_option linter.all false
structure Clk where
  n : Int
  s : Int
deriving DecidableEq
structure Clk.ok (x : Clk) : Prop where
  n : 0 ≤ x.n ∧ x.n ≤ 345686399999
  s : 0 ≤ x.s ∧ x.s ≤ 345686399999
  d : -3600000 ≤ x.n - x.s ∧ x.n - x.s ≤ 3600000
end Go.Proofs.YtflklkijfkmeiaaGreatDoor
