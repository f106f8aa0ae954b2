/- Levels that are drawn. No condition. -/
import Derived.Test.YtkmkkjlfnobciaaGreatDoorVLevels
namespace Go.Proofs.YtkmkkjlfnobciaaGreatDoor
open Go Go.RowKit
set_option maxRecDepth 100000
set_option linter.all false
set_option maxHeartbeats 1000000
variable {H : Hp} {K : AV → Hp → Prop}
theorem rightLevels_o (s : Nat) (zs : List Int) (j : Int) (hs : Str H s zs j) (hj : j ≤ 1000000000)
    (hk : ∀ (lv : List Level) (j' : Int), j ≤ j' → j' ≤ j + 6 → lvF lv = 0 → lv.length ≤ 4 → (∀ y ∈ lv, y.keep ≤ 1300 ∧ y.step ≤ 400) → K (.c (.sl (some (H.length, 0)) lv.length)) (H.set s (strO zs j') ++ [.row 57 2 (lv.map encL) true])) :
    ACalls Tryz.prog 20 [.c (.ptr (some (s, 0, 0)))] H K := by
  have hlt := hs.lt
  have hpos := hs.pos
  have hne : H.length ≠ s := by omega
  refine acalls Tryz.func20 rfl (by kernel_rfl) (by simp (disch := first | omega | (simp only [go_sem]; first | done | omega)) only [go_sem]) (fun hH => ?_)
  simp (disch := first | omega | (simp only [go_sem]; first | done | omega)) only [go_sem]
  refine pick_lit s zs j [1, 20, 50, 100] (by first | exact at0 (by simp) | exact at1 (by simp) | exact at2 (by simp) | exact at3 (by simp) | exact at4 (by simp) | exact at5 (by simp) | exact atG 6 (by simp) rfl | exact atG 7 (by simp) rfl | exact atG 8 (by simp) rfl | exact atG 9 (by simp) rfl | exact atG 10 (by simp) rfl | assumption) rfl rfl (by first | exact hs | exact hs.app _ | exact hs.set (by omega) (by omega) | exact (hs.set (by omega) (by omega)).app _) (by omega) (by simp) (by simp) (fun r0 hr0 => ?_)
  have hr0' : 1 ≤ r0 ∧ r0 ≤ 100 := by simp at hr0; omega
  simp (disch := first | omega | (simp only [go_sem]; first | done | omega)) only [go_sem]
  refine pick_lit s zs (j + 1) [10, 50, 100] (by first | exact at0 (by simp) | exact at1 (by simp) | exact at2 (by simp) | exact at3 (by simp) | exact at4 (by simp) | exact at5 (by simp) | exact atG 6 (by simp) rfl | exact atG 7 (by simp) rfl | exact atG 8 (by simp) rfl | exact atG 9 (by simp) rfl | exact atG 10 (by simp) rfl | assumption) rfl rfl (by first | exact hs | exact hs.app _ | exact hs.set (by omega) (by omega) | exact (hs.set (by omega) (by omega)).app _) (by omega) (by simp) (by simp) (fun s0 hs0 => ?_)
  simp only [List.mem_cons, List.not_mem_nil, or_false] at hs0
  simp (disch := first | omega | (simp only [go_sem]; first | done | omega)) only [go_sem]
  refine range_a s zs (j + 1 + 1) 0 3 (by first | exact hs | exact hs.app _ | exact hs.set (by omega) (by omega) | exact (hs.set (by omega) (by omega)).app _) (by omega) (by omega) (by omega) (fun r3 h30 h33 => ?_)
  simp (disch := first | omega | (simp only [go_sem]; first | done | omega)) only [go_sem]
  have hstep : ∀ k : Nat, k < 3 → isStep (s0 * 2 ^ k) ∧ (s0 * 2 ^ (k + 1)) % (s0 * 2 ^ k) = 0 ∧ s0 * 2 ^ k < s0 * 2 ^ (k + 1) ∧ s0 * 2 ^ k ≤ 400 ∧ s0 * 2 ^ (k + 1) = s0 * 2 ^ k * 2 := by
    intro k hk
    have : k = 0 ∨ k = 1 ∨ k = 2 := by omega
    rcases hs0 with rfl | rfl | rfl <;> rcases this with rfl | rfl | rfl <;> decide
  refine AWp.loop (H.length) [0, 19] [20, 3, 4, 5] (fun (q : Nat × List Level × Int × Int) => (q.1 : Int) ≤ r3 ∧ q.2.1.length = q.1 + 1 ∧ errGo lvErr 0 ⟨0, 0⟩ q.2.1 = 0 ∧ q.2.1.getLast?.getD ⟨0, 0⟩ = ⟨if q.1 = 0 then 0 else s0 * 2 ^ (q.1 - 1), q.2.2.1⟩ ∧ 1 ≤ q.2.2.1 ∧ q.2.2.1 ≤ 100 + 400 * q.1 ∧ (∀ y ∈ q.2.1, y.keep ≤ 1300 ∧ y.step ≤ 400) ∧ j + 3 ≤ q.2.2.2 ∧ q.2.2.2 ≤ j + 3 + q.1) (fun (q : Nat × List Level × Int × Int) => [(20, (.c (.int .i64 (q.1)))), (3, .c (.sl (some (H.length, 0)) (q.1 + 1))), (4, (.c (.int .i64 (s0 * 2 ^ q.1)))), (5, (.c (.int .i64 (q.2.2.1))))]) (fun (q : Nat × List Level × Int × Int) => H.set s (strO zs q.2.2.2) ++ [.row 57 2 (q.2.1.map encL) true]) (fun (q : Nat × List Level × Int × Int) => 3 - q.1) (by kernel_rfl) (fun _ => rfl) (by kernel_rfl) (by simp) (by first | (simp; done) | (simp; omega)) (by (try simp only [List.forall_mem_cons, List.not_mem_nil, false_implies, implies_true, and_true]); (try simp (disch := first | omega | (simp only [go_sem]; first | done | omega)) only [go_sem]); all_goals first | trivial | (simp [AV.ok, AV.ok1, AC.ok]; done) | (simp [AV.ok, AV.ok1, AC.ok]; omega) | (simp [AV.ok, AV.ok1, AC.ok]; assumption) | ((repeat' apply And.intro) <;> first | trivial | (simp [AV.ok, AV.ok1, AC.ok]; done) | (simp [AV.ok, AV.ok1, AC.ok]; omega) | (simp [AV.ok, AV.ok1, AC.ok]; assumption) | (refine grV_ok ?_ _; first | (simp; done) | (simp; omega) | omega))) ?_ (fun q hq _ _ => ?_)
  · refine Next.mk (0, [⟨0, r0⟩], r0, j + 1 + 1 + 1) ⟨by simpa using h30, rfl, ?_, rfl, by dsimp only; omega, by dsimp only; omega, by simp; omega, by dsimp only; omega, by dsimp only; omega⟩ ?_
    · simp [errGo, lvErr]; omega
    · simp (disch := first | omega | (simp only [go_sem]; first | done | omega)) only [go_sem]
      (refine WkL.pick [1] (by first | assumption | exact HOk.str (by assumption)) (by first | (simp; done) | (simp; omega)) rfl (by simp) (by simp [AObj.pureO, pureL, go_sem, AC.pure]) (by first | (simp [AV.ren, AV.ren1, AC.ren, pickS]; done) | (simp [AV.ren, AV.ren1, AC.ren, pickS]; omega)) (by first | (simp [AV.ok, AV.ok1, AC.ok]; done) | (simp [AV.ok, AV.ok1, AC.ok]; omega)))
  obtain ⟨k, lv, kp, j2⟩ := q
  obtain ⟨q1, q2, q3, q4, q5, q6, q7, q8, q9⟩ := hq
  dsimp only at q1 q2 q3 q4 q5 q6 q7 q8 q9
  by_cases hk3 : (k : Int) < r3
  · obtain ⟨t1, t2, t3, t4, t5⟩ := hstep k (by omega)
    simp (disch := first | omega | (simp only [go_sem]; first | done | omega)) only [go_sem]
    refine pick_lit s zs j2 [1, 30, 100, 400] (by first | exact at0 (by simp) | exact at1 (by simp) | exact at2 (by simp) | exact at3 (by simp) | exact at4 (by simp) | exact at5 (by simp) | exact atG 6 (by simp) rfl | exact atG 7 (by simp) rfl | exact atG 8 (by simp) rfl | exact atG 9 (by simp) rfl | exact atG 10 (by simp) rfl | assumption) rfl rfl (by first | exact hs | exact hs.app _ | exact hs.set (by omega) (by omega) | exact (hs.set (by omega) (by omega)).app _) (by omega) (by simp) (by simp) (fun r hr => ?_)
    have hr' : 1 ≤ r ∧ r ≤ 400 := by simp at hr; omega
    simp (disch := first | omega | (simp only [go_sem]; first | done | omega)) only [go_sem]
    refine app_sl ?_
    simp (disch := first | omega | (simp only [go_sem]; first | done | omega)) only [go_sem]
    have e : lv.map encL ++ [[.int .i64 (s0 * 2 ^ k), .int .i64 (kp + r)]] = (lv ++ [(⟨s0 * 2 ^ k, kp + r⟩ : Level)]).map encL := by simp [encL]
    rw [e]
    refine Next.mk (k + 1, lv ++ [⟨s0 * 2 ^ k, kp + r⟩], kp + r, j2 + 1) ⟨⟨by dsimp only; omega, by simp; omega, ?_, by simp, by dsimp only; omega, by dsimp only; omega, ?_, by dsimp only; omega, by dsimp only; omega⟩, by dsimp only; omega⟩ ?_
    · dsimp only
      rw [errGo_snoc _ _ _ _ _ q3, q4, q2]
      have hk0 : k ≠ 0 → 1 ≤ k := by omega
      by_cases h0 : k = 0
      · subst h0
        have a1 := t1.1
        unfold lvErr
        rw [if_neg (by intro h; rcases h with h | h | h; exact h.2 t1; all_goals (dsimp only at h; omega)), if_neg (by dsimp only; omega), if_neg (by dsimp only; omega), if_neg (by omega)]
      · obtain ⟨u1, u2, u3, u4, u5⟩ := hstep (k - 1) (by omega)
        rw [show k - 1 + 1 = k by omega] at u2 u3 u5
        have a1 := t1.1
        unfold lvErr
        rw [if_neg h0]
        rw [if_neg (by intro h; rcases h with h | h | h; exact h.2 t1; all_goals (dsimp only at h; omega)), if_neg (by dsimp only; omega), if_neg (by dsimp only; omega), if_neg (by dsimp only; omega)]
    · intro y hy
      rcases List.mem_append.1 hy with hy | hy
      · exact q7 y hy
      · simp at hy; subst hy; dsimp only; omega
    · simp (disch := first | omega | (simp only [go_sem]; first | done | omega)) only [go_sem]
      (refine WkL.pick [3] (by first | assumption | exact HOk.str (by assumption)) (by first | (simp; done) | (simp; omega)) rfl (by simp) (by simp [AObj.pureO, pureL, go_sem, AC.pure]) (by first | (simp [AV.ren, AV.ren1, AC.ren, pickS]; done) | (simp [AV.ren, AV.ren1, AC.ren, pickS]; omega)) (by first | (simp [AV.ok, AV.ok1, AC.ok]; done) | (simp [AV.ok, AV.ok1, AC.ok]; omega)))
  · simp (disch := first | omega | (simp only [go_sem]; first | done | omega)) only [go_sem]
    have hF : lvF lv = 0 := by unfold lvF; rw [if_neg (by omega), if_neg (by omega), q3]
    have := hk lv j2 (by omega) (by omega) hF (by omega) q7
    rw [q2] at this
    exact Ret.same (by simp) this
/-- levels as they are drawn: numbers within bounds -/
def Level.near (y : Level) : Prop := -1 ≤ y.step ∧ y.step ≤ 86400001 ∧ 0 ≤ y.keep ∧ y.keep ≤ 345686400001
end Go.Proofs.YtkmkkjlfnobciaaGreatDoor
