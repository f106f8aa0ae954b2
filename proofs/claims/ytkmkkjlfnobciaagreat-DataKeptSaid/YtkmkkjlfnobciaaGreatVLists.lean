/- Levels that are drawn. No condition. -/
import Derived.Test.YtkmkkjlfnobciaaGreatVLevels
namespace Go.Proofs.YtkmkkjlfnobciaaGreat
open Go Go.RowKit
set_option maxRecDepth 100000
set_option linter.all false
set_option maxHeartbeats 1000000
variable {H : Hp} {K : AV → Hp → Prop}
theorem rightLevels_o (s : Nat) (zs : List Int) (j : Int) (hs : Str H s zs j) (hj : j ≤ 1000000000)
    (hk : ∀ (lv : List Level) (j' : Int), j ≤ j' → j' ≤ j + 6 → lvF lv = 0 → lv.length ≤ 4 → (∀ y ∈ lv, y.keep ≤ 1300 ∧ y.step ≤ 400) → K (.c (.sl (some (H.length, 0)) lv.length)) (H.set s (strO zs j') ++ [.row 90 2 (lv.map encL) true])) :
    ACalls Tryz.prog 46 [.c (.ptr (some (s, 0, 0)))] H K := by
  have hlt := hs.lt
  have hpos := hs.pos
  have hne : H.length ≠ s := by omega
  refine acalls Tryz.func46 rfl (by kernel_rfl) (by simp (disch := first | omega | (simp only [go_sem]; first | done | omega)) only [go_sem]) (fun hH => ?_)
  simp (disch := first | omega | (simp only [go_sem]; first | done | omega)) only [go_sem]
  refine pick_lit s zs j [1, 20, 50, 100] (by first | exact at0 (by simp) | exact at1 (by simp) | exact at2 (by simp) | exact at3 (by simp) | exact at4 (by simp) | exact at5 (by simp) | exact atG 6 (by simp) rfl | exact atG 7 (by simp) rfl | exact atG 8 (by simp) rfl | exact atG 9 (by simp) rfl | exact atG 10 (by simp) rfl | assumption) rfl rfl (by first | exact hs | exact hs.app _ | exact hs.set (by omega) (by omega) | exact (hs.set (by omega) (by omega)).app _) (by omega) (by simp) (by simp) (fun r0 hr0 => ?_)
  have hr0' : 1 ≤ r0 ∧ r0 ≤ 100 := by simp at hr0; omega
  simp (disch := first | omega | (simp only [go_sem]; first | done | omega)) only [go_sem]
  refine pick_lit s zs (j + 1) [10, 50, 100] (by first | exact at0 (by simp) | exact at1 (by simp) | exact at2 (by simp) | exact at3 (by simp) | exact at4 (by simp) | exact at5 (by simp) | exact atG 6 (by simp) rfl | exact atG 7 (by simp) rfl | exact atG 8 (by simp) rfl | exact atG 9 (by simp) rfl | exact atG 10 (by simp) rfl | assumption) rfl rfl (by first | exact hs | exact hs.app _ | exact hs.set (by omega) (by omega) | exact (hs.set (by omega) (by omega)).app _) (by omega) (by simp) (by simp) (fun s0 hs0 => ?_)
  simp only [List.mem_cons, List.not_mem_nil, or_false] at hs0
  simp (disch := first | omega | (simp only [go_sem]; first | done | omega)) only [go_sem]
  refine range_a s zs (j + 1 + 1) 0 3 (by first | exact hs | exact hs.app _ | exact hs.set (by omega) (by omega) | exact (hs.set (by omega) (by omega)).app _) (by omega) (by omega) (by omega) (fun r3 h30 h33 => ?_)
  simp (disch := first | omega | (simp only [go_sem]; first | done | omega)) only [go_sem]
  have hstep : ∀ k : Nat, k < 3 → isStep (s0 * 2 ^ k) ∧ (s0 * 2 ^ (k + 1)) % (s0 * 2 ^ k) = 0 ∧ s0 * 2 ^ k < s0 * 2 ^ (k + 1) ∧ s0 * 2 ^ k ≤ 400 ∧ s0 * 2 ^ (k + 1) = s0 * 2 ^ k * 2 := by
    intro k hk
    have : k = 0 ∨ k = 1 ∨ k = 2 := by omega
    rcases hs0 with rfl | rfl | rfl <;> rcases this with rfl | rfl | rfl <;> decide
  refine AWp.loop (H.length) [0, 19] [20, 3, 4, 5] (fun (q : Nat × List Level × Int × Int) => (q.1 : Int) ≤ r3 ∧ q.2.1.length = q.1 + 1 ∧ errGo lvErr 0 ⟨0, 0⟩ q.2.1 = 0 ∧ q.2.1.getLast?.getD ⟨0, 0⟩ = ⟨if q.1 = 0 then 0 else s0 * 2 ^ (q.1 - 1), q.2.2.1⟩ ∧ 1 ≤ q.2.2.1 ∧ q.2.2.1 ≤ 100 + 400 * q.1 ∧ (∀ y ∈ q.2.1, y.keep ≤ 1300 ∧ y.step ≤ 400) ∧ j + 3 ≤ q.2.2.2 ∧ q.2.2.2 ≤ j + 3 + q.1) (fun (q : Nat × List Level × Int × Int) => [(20, (.c (.int .i64 (q.1)))), (3, .c (.sl (some (H.length, 0)) (q.1 + 1))), (4, (.c (.int .i64 (s0 * 2 ^ q.1)))), (5, (.c (.int .i64 (q.2.2.1))))]) (fun (q : Nat × List Level × Int × Int) => H.set s (strO zs q.2.2.2) ++ [.row 90 2 (q.2.1.map encL) true]) (fun (q : Nat × List Level × Int × Int) => 3 - q.1) (by kernel_rfl) (fun _ => rfl) (by kernel_rfl) (by simp) (by first | (simp; done) | (simp; omega)) (by (try simp only [List.forall_mem_cons, List.not_mem_nil, false_implies, implies_true, and_true]); (try simp (disch := first | omega | (simp only [go_sem]; first | done | omega)) only [go_sem]); first | trivial | (simp [AV.ok, AV.ok1, AC.ok]; done) | (simp [AV.ok, AV.ok1, AC.ok]; omega) | (simp [AV.ok, AV.ok1, AC.ok]; assumption) | ((repeat' apply And.intro) <;> first | trivial | (simp [AV.ok, AV.ok1, AC.ok]; done) | (simp [AV.ok, AV.ok1, AC.ok]; omega) | (simp [AV.ok, AV.ok1, AC.ok]; assumption) | (refine grV_ok ?_ _; first | (simp; done) | (simp; omega) | omega))) ?_ (fun q hq _ _ => ?_)
  · refine Next.mk (0, [⟨0, r0⟩], r0, j + 1 + 1 + 1) ⟨by simpa using h30, rfl, ?_, rfl, by dsimp only; omega, by dsimp only; omega, by simp; omega, by dsimp only; omega, by dsimp only; omega⟩ ?_
    · simp [errGo, lvErr]; omega
    · simp (disch := first | omega | (simp only [go_sem]; first | done | omega)) only [go_sem]
      (refine WkL.pick [1] (by first | assumption | exact HOk.str (by assumption)) (by first | (simp; done) | (simp; omega)) rfl (by simp) (by simp [AObj.pureO, pureL, go_sem, AC.pure]) (by first | (simp [AV.ren, AV.ren1, AC.ren, pickS]; done) | (simp [AV.ren, AV.ren1, AC.ren, pickS]; omega)) (by first | (simp [AV.ok, AV.ok1, AC.ok]; done) | (simp [AV.ok, AV.ok1, AC.ok]; omega)))
  obtain ⟨k, lv, kp, j2⟩ := q
  obtain ⟨q1, q2, q3, q4, q5, q6, q7, q8, q9⟩ := hq
  dsimp only at q1 q2 q3 q4 q5 q6 q7 q8 q9
  by_cases hk3 : (k : Int) < r3
  · obtain ⟨t1, t2, t3, t4, t5⟩ := hstep k (by omega)
    simp (disch := first | omega | (simp only [go_sem]; first | done | omega)) only [go_sem]
    refine pick_lit s zs j2 [1, 30, 100, 400] (by first | exact at0 (by simp) | exact at1 (by simp) | exact at2 (by simp) | exact at3 (by simp) | exact at4 (by simp) | exact at5 (by simp) | exact atG 6 (by simp) rfl | exact atG 7 (by simp) rfl | exact atG 8 (by simp) rfl | exact atG 9 (by simp) rfl | exact atG 10 (by simp) rfl | assumption) rfl rfl (by first | exact hs | exact hs.app _ | exact hs.set (by omega) (by omega) | exact (hs.set (by omega) (by omega)).app _) (by omega) (by simp) (by simp) (fun r hr => ?_)
    have hr' : 1 ≤ r ∧ r ≤ 400 := by simp at hr; omega
    simp (disch := first | omega | (simp only [go_sem]; first | done | omega)) only [go_sem]
    refine app_sl ?_
    simp (disch := first | omega | (simp only [go_sem]; first | done | omega)) only [go_sem]
    have e : lv.map encL ++ [[.int .i64 (s0 * 2 ^ k), .int .i64 (kp + r)]] = (lv ++ [(⟨s0 * 2 ^ k, kp + r⟩ : Level)]).map encL := by simp [encL]
    rw [e]
    refine Next.mk (k + 1, lv ++ [⟨s0 * 2 ^ k, kp + r⟩], kp + r, j2 + 1) ⟨⟨by dsimp only; omega, by simp; omega, ?_, by simp, by dsimp only; omega, by dsimp only; omega, ?_, by dsimp only; omega, by dsimp only; omega⟩, by dsimp only; omega⟩ ?_
    · dsimp only
      rw [errGo_snoc _ _ _ _ _ q3, q4, q2]
      have hk0 : k ≠ 0 → 1 ≤ k := by omega
      by_cases h0 : k = 0
      · subst h0
        have a1 := t1.1
        unfold lvErr
        rw [if_neg (by intro h; rcases h with h | h | h; exact h.2 t1; all_goals (dsimp only at h; omega)), if_neg (by dsimp only; omega), if_neg (by dsimp only; omega), if_neg (by omega)]
      · obtain ⟨u1, u2, u3, u4, u5⟩ := hstep (k - 1) (by omega)
        rw [show k - 1 + 1 = k by omega] at u2 u3 u5
        have a1 := t1.1
        unfold lvErr
        rw [if_neg h0]
        rw [if_neg (by intro h; rcases h with h | h | h; exact h.2 t1; all_goals (dsimp only at h; omega)), if_neg (by dsimp only; omega), if_neg (by dsimp only; omega), if_neg (by dsimp only; omega)]
    · intro y hy
      rcases List.mem_append.1 hy with hy | hy
      · exact q7 y hy
      · simp at hy; subst hy; dsimp only; omega
    · simp (disch := first | omega | (simp only [go_sem]; first | done | omega)) only [go_sem]
      (refine WkL.pick [3] (by first | assumption | exact HOk.str (by assumption)) (by first | (simp; done) | (simp; omega)) rfl (by simp) (by simp [AObj.pureO, pureL, go_sem, AC.pure]) (by first | (simp [AV.ren, AV.ren1, AC.ren, pickS]; done) | (simp [AV.ren, AV.ren1, AC.ren, pickS]; omega)) (by first | (simp [AV.ok, AV.ok1, AC.ok]; done) | (simp [AV.ok, AV.ok1, AC.ok]; omega)))
  · simp (disch := first | omega | (simp only [go_sem]; first | done | omega)) only [go_sem]
    have hF : lvF lv = 0 := by unfold lvF; rw [if_neg (by omega), if_neg (by omega), q3]
    have := hk lv j2 (by omega) (by omega) hF (by omega) q7
    rw [q2] at this
    exact Ret.same (by simp) this
/-- levels as they are drawn: numbers within bounds -/
def Level.near (y : Level) : Prop := -1 ≤ y.step ∧ y.step ≤ 86400001 ∧ 0 ≤ y.keep ∧ y.keep ≤ 345686400001
theorem levelList_o (s : Nat) (zs : List Int) (j : Int) (hs : Str H s zs j) (hj : j ≤ 1000000000)
    (hk : ∀ (lv : List Level) (j' : Int), j ≤ j' → j' ≤ j + 20 → lv.length ≤ 4 → (∀ y ∈ lv, y.near) → K (.c (clV H.length 2 (lv.map encL))) (H.set s (strO zs j') ++ [grO 90 2 (lv.map encL)])) :
    ACalls Tryz.prog 5 [.c (.ptr (some (s, 0, 0)))] H K := by
  have hlt := hs.lt
  have hpos := hs.pos
  have hne : H.length ≠ s := by omega
  refine acalls Tryz.func5 rfl (by kernel_rfl) (by simp (disch := first | omega | (simp only [go_sem]; first | done | omega)) only [go_sem]) (fun hH => ?_)
  simp (disch := first | omega | (simp only [go_sem]; first | done | omega)) only [go_sem]
  refine rightLevels_o s zs j hs hj (fun lv j1 h1 h2 hF h4 hb => ?_)
  obtain ⟨hok, h6, h0⟩ := lvF_ok hF
  have hnear : ∀ y ∈ lv, y.near := fun y hy => by
    have := hb y hy
    obtain ⟨a1, a2, a3, a4⟩ := hok y hy
    simp only [Level.near]; omega
  have fin : ∀ (lv' : List Level) (j' : Int) (G : Hp), j ≤ j' → j' ≤ j + 20 → lv'.length = lv.length → (∀ y ∈ lv', y.near) → Ret H.length (.c (.sl (some (H.length, 0)) lv.length)) (H.set s (strO zs j') ++ (.row 90 2 (lv'.map encL) true :: G)) K := by
    intro lv' j' G g1 g2 g3 g4
    have hn : lv'.map encL ≠ [] := by intro h; have := congrArg List.length h; simp at this; subst this; simp at g3; omega
    have := hk lv' j' g1 g2 (by omega) g4
    rw [clV_pos _ _ hn, grO_pos _ _ hn, List.length_map, g3] at this
    exact Ret.wk (by (refine WkL.pick [0] (by first | assumption | exact HOk.str (by assumption)) (by first | (simp; done) | (simp; omega)) rfl (by simp) (by simp [AObj.pureO, pureL, go_sem, AC.pure]) (by first | (simp [AV.ren, AV.ren1, AC.ren, pickS]; done) | (simp [AV.ren, AV.ren1, AC.ren, pickS]; omega)) (by first | (simp [AV.ok, AV.ok1, AC.ok]; done) | (simp [AV.ok, AV.ok1, AC.ok]; omega)))) this
  have nil : ∀ (j' : Int) (G : Hp), j ≤ j' → j' ≤ j + 20 → Ret H.length (.c (.sl none 0)) (H.set s (strO zs j') ++ G) K := by
    intro j' G g1 g2
    exact Ret.nil [2] (by simp) (Ret.cut (HOk.str hH) (by simp) trivial (Ret.pad (by simp) (Ret.same (by simp) (hk [] j' g1 g2 (by simp) (by simp)))))
  simp (disch := first | omega | (simp only [go_sem]; first | done | omega)) only [go_sem]
  refine flip_a s zs j1 10 (by first | exact hs | exact hs.app _ | exact hs.set (by omega) (by omega) | exact (hs.set (by omega) (by omega)).app _) (by omega) (by omega) (fun b => ?_)
  simp (disch := first | omega | (simp only [go_sem]; first | done | omega)) only [go_sem]
  refine acond_b (fun c => ?_) (fun c => ?_)
  · simp (disch := first | omega | (simp only [go_sem]; first | done | omega)) only [go_sem]
    refine next_a s zs (j1 + 1) lv.length (by first | exact hs | exact hs.app _ | exact hs.set (by omega) (by omega) | exact (hs.set (by omega) (by omega)).app _) (by omega) (by omega) (fun r hr0 hr1 => ?_)
    simp (disch := first | omega | (simp only [go_sem]; first | done | omega)) only [go_sem]
    refine pick_lit s zs (j1 + 1 + 1) [0, 7, 10, 100, 86400000, 86400001, -1] (by first | exact at0 (by simp) | exact at1 (by simp) | exact at2 (by simp) | exact at3 (by simp) | exact at4 (by simp) | exact at5 (by simp) | exact atG 6 (by simp) rfl | exact atG 7 (by simp) rfl | exact atG 8 (by simp) rfl | exact atG 9 (by simp) rfl | exact atG 10 (by simp) rfl | assumption) rfl rfl (by first | exact hs | exact hs.app _ | exact hs.set (by omega) (by omega) | exact (hs.set (by omega) (by omega)).app _) (by omega) (by simp) (by simp) (fun a ha => ?_)
    have ha' : -1 ≤ a ∧ a ≤ 86400001 := by simp at ha; omega
    simp (disch := first | omega | (simp only [go_sem]; first | done | omega)) only [go_sem]
    refine pick_lit s zs (j1 + 1 + 1 + 1) [0, 1, 100, 345686400000, 345686400001] (by first | exact at0 (by simp) | exact at1 (by simp) | exact at2 (by simp) | exact at3 (by simp) | exact at4 (by simp) | exact at5 (by simp) | exact atG 6 (by simp) rfl | exact atG 7 (by simp) rfl | exact atG 8 (by simp) rfl | exact atG 9 (by simp) rfl | exact atG 10 (by simp) rfl | assumption) rfl rfl (by first | exact hs | exact hs.app _ | exact hs.set (by omega) (by omega) | exact (hs.set (by omega) (by omega)).app _) (by omega) (by simp) (by simp) (fun b hb => ?_)
    have hb' : 0 ≤ b ∧ b ≤ 345686400001 := by simp at hb; omega
    simp (disch := first | omega | (simp only [go_sem]; first | done | omega)) only [go_sem]
    have e : (lv.map encL).set r.toNat [.int .i64 a, .int .i64 b] = (lv.set r.toNat (⟨a, b⟩ : Level)).map encL := by rw [List.map_set]; rfl
    rw [e]
    refine flip_a s zs (j1 + 1 + 1 + 1 + 1) 60 (by first | exact hs | exact hs.app _ | exact hs.set (by omega) (by omega) | exact (hs.set (by omega) (by omega)).app _) (by omega) (by omega) (fun b => ?_)
    simp (disch := first | omega | (simp only [go_sem]; first | done | omega)) only [go_sem]
    refine acond_b (fun c => ?_) (fun c => ?_)
    · simp (disch := first | omega | (simp only [go_sem]; first | done | omega)) only [go_sem]
      exact nil _ _ (by omega) (by omega)
    · simp (disch := first | omega | (simp only [go_sem]; first | done | omega)) only [go_sem]
      refine fin _ _ _ (by omega) (by omega) (List.length_set ..) (fun y hy => ?_)
      rcases List.mem_or_eq_of_mem_set hy with h | rfl
      · exact hnear y h
      · exact ⟨by dsimp only; omega, by dsimp only; omega, by dsimp only; omega, by dsimp only; omega⟩
  · simp (disch := first | omega | (simp only [go_sem]; first | done | omega)) only [go_sem]
    refine flip_a s zs (j1 + 1) 60 (by first | exact hs | exact hs.app _ | exact hs.set (by omega) (by omega) | exact (hs.set (by omega) (by omega)).app _) (by omega) (by omega) (fun b => ?_)
    simp (disch := first | omega | (simp only [go_sem]; first | done | omega)) only [go_sem]
    refine acond_b (fun c => ?_) (fun c => ?_)
    · simp (disch := first | omega | (simp only [go_sem]; first | done | omega)) only [go_sem]
      exact nil _ _ (by omega) (by omega)
    · simp (disch := first | omega | (simp only [go_sem]; first | done | omega)) only [go_sem]
      exact fin lv _ _ (by omega) (by omega) rfl hnear
end Go.Proofs.YtkmkkjlfnobciaaGreat
