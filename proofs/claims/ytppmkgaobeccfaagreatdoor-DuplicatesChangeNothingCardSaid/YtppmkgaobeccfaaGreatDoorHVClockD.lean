/- Clocks that are drawn. No condition. -/
import Derived.Test.YtppmkgaobeccfaaGreatDoorHVClock
namespace Go.Proofs.YtppmkgaobeccfaaGreatDoor
open Go Go.RowKit
set_option maxRecDepth 100000
set_option linter.all false
set_option maxHeartbeats 1000000
variable {H : Hp} {K : AV → Hp → Prop}
def farK : List Clk := [⟨0, 3600000⟩, ⟨345686399999, 345683400000⟩]
theorem farK_near : ∀ x ∈ farK, x.near := fun x hx => by
  simp only [farK, List.mem_cons, List.not_mem_nil, or_false] at hx
  rcases hx with rfl | rfl <;> (simp only [Clk.near]; omega)
theorem aClock_a (s : Nat) (zs : List Int) (j : Int) (hs : Str H s zs j) (hj : j ≤ 1000000000)
    (hk : ∀ (l : List Clk) (j' : Int), j ≤ j' → j' ≤ j + 30 → l.length ≤ 4 → (∀ x ∈ l, x.near) → K (.c (.lst 2 (l.map encK))) (H.set s (strO zs j'))) :
    ACalls Tryz.prog 43 [.c (.ptr (some (s, 0, 0)))] H K := by
  have hlt := hs.lt
  have hpos := hs.pos
  have hne : H.length ≠ s := by omega
  refine acalls Tryz.func43 rfl (by kernel_rfl) (by simp (disch := first | omega | (simp only [go_sem]; first | done | omega)) only [go_sem]) (fun hH => ?_)
  simp (disch := first | omega | (simp only [go_sem]; first | done | omega)) only [go_sem]
  refine range_a s zs j 0 10 (by first | exact hs | exact hs.app _ | exact hs.set (by omega) (by omega) | exact (hs.set (by omega) (by omega)).app _) (by omega) (by omega) (by omega) (fun n0 n1 n2 => ?_)
  simp (disch := first | omega | (simp only [go_sem]; first | done | omega)) only [go_sem]
  refine range_a s zs (j + 1) 0 20 (by first | exact hs | exact hs.app _ | exact hs.set (by omega) (by omega) | exact (hs.set (by omega) (by omega)).app _) (by omega) (by omega) (by omega) (fun m0 m1 m2 => ?_)
  simp (disch := first | omega | (simp only [go_sem]; first | done | omega)) only [go_sem]
  refine range_a s zs (j + 1 + 1) 0 4 (by first | exact hs | exact hs.app _ | exact hs.set (by omega) (by omega) | exact (hs.set (by omega) (by omega)).app _) (by omega) (by omega) (by omega) (fun r r1 r2 => ?_)
  simp (disch := first | omega | (simp only [go_sem]; first | done | omega)) only [go_sem]
  refine AWp.loop (H.length) [0, 11] [12, 3, 4, 5] (fun (q : Nat × List Clk × Int × Int × Int) => (q.1 : Int) ≤ r ∧ q.2.1.length ≤ q.1 ∧ (∀ x ∈ q.2.1, x.near) ∧ 0 ≤ q.2.2.1 ∧ q.2.2.1 ≤ 10 + 20 * q.1 ∧ 0 ≤ q.2.2.2.1 ∧ q.2.2.2.1 ≤ 20 + 21 * q.1 ∧ j ≤ q.2.2.2.2 ∧ q.2.2.2.2 ≤ j + 3 + 2 * q.1) (fun (q : Nat × List Clk × Int × Int × Int) => [(12, (.c (.int .i64 (q.1)))), (3, .c (grV H.length q.2.1)), (4, (.c (.int .i64 (q.2.2.1)))), (5, (.c (.int .i64 (q.2.2.2.1))))]) (fun (q : Nat × List Clk × Int × Int × Int) => H.set s (strO zs q.2.2.2.2) ++ [grO 147 2 (q.2.1.map encK)]) (fun (q : Nat × List Clk × Int × Int × Int) => 4 - q.1) (by kernel_rfl) (fun _ => rfl) (by kernel_rfl) (by first | (simp; done) | omega) (by first | (simp; done) | (simp; omega) | omega) (by (try simp only [List.forall_mem_cons, List.not_mem_nil, false_implies, implies_true, and_true]); (try simp (disch := first | omega | (simp only [go_sem]; first | done | omega)) only [go_sem]); all_goals first | trivial | (simp [AV.ok, AV.ok1, AC.ok]; done) | (simp [AV.ok, AV.ok1, AC.ok]; omega) | (simp [AV.ok, AV.ok1, AC.ok]; assumption) | ((repeat' apply And.intro) <;> first | trivial | (simp [AV.ok, AV.ok1, AC.ok]; done) | (simp [AV.ok, AV.ok1, AC.ok]; omega) | (simp [AV.ok, AV.ok1, AC.ok]; assumption) | (refine grV_ok ?_ _; first | (simp; done) | (simp; omega) | omega))) ?_ (fun q hq _ _ => ?_)
  · refine Next.mk (0, [], n0, m0, j + 1 + 1 + 1) ⟨by dsimp only; omega, by simp, by simp, by dsimp only; omega, by dsimp only; omega, by dsimp only; omega, by dsimp only; omega, by dsimp only; omega, by dsimp only; omega⟩ ?_
    exact WkL.pad (by simp)
  obtain ⟨k, l, n, m, j1⟩ := q
  obtain ⟨q1, q2, q3, q4, q5, q6, q7, q8, q9⟩ := hq
  dsimp only at q1 q2 q3 q4 q5 q6 q7 q8 q9
  by_cases hlt2 : (k : Int) < r
  · simp (disch := first | omega | (simp only [go_sem]; first | done | omega)) only [go_sem]
    (refine app_gr (enc := encK) (e := 147) (sz := 2) (bs := 16) (z := [.int .i64 0, .int .i64 0]) (l) (⟨n, m⟩) (by kernel_rfl) (by kernel_rfl) (by kernel_rfl) (by kernel_rfl) (by first | exact at0 (by simp) | exact at1 (by simp) | exact at2 (by simp) | exact at3 (by simp) | exact at4 (by simp) | exact at5 (by simp) | exact atG 6 (by simp) rfl | exact atG 7 (by simp) rfl | exact atG 8 (by simp) rfl | exact atG 9 (by simp) rfl | exact atG 10 (by simp) rfl | exact atG 11 (by simp) rfl | exact atG 12 (by simp) rfl | exact atG 13 (by simp) rfl | exact atG 14 (by simp) rfl | exact atG 15 (by simp) rfl | assumption) (by first | (simp (disch := first | omega | (simp only [go_sem]; first | done | omega)) only [go_sem]; done) | (simp (disch := first | omega | (simp only [go_sem]; first | done | omega)) only [go_sem]; rfl) | (simp (disch := first | omega | (simp only [go_sem]; first | done | omega)) only [go_sem]; simp [go_sem]; done) | (simp (disch := first | omega | (simp only [go_sem]; first | done | omega)) only [go_sem]; simp [*]; done)) rfl (by decide) (by omega) (by omega) (by rfl) ?_)
    simp (disch := first | omega | (simp only [go_sem]; first | done | omega)) only [go_sem]
    refine pick_lit s zs j1 [1, 7, 20] (by first | exact at0 (by simp) | exact at1 (by simp) | exact at2 (by simp) | exact at3 (by simp) | exact at4 (by simp) | exact at5 (by simp) | exact atG 6 (by simp) rfl | exact atG 7 (by simp) rfl | exact atG 8 (by simp) rfl | exact atG 9 (by simp) rfl | exact atG 10 (by simp) rfl | exact atG 11 (by simp) rfl | exact atG 12 (by simp) rfl | exact atG 13 (by simp) rfl | exact atG 14 (by simp) rfl | exact atG 15 (by simp) rfl | assumption) rfl rfl (by first | exact hs | exact hs.app _ | exact hs.set (by omega) (by omega) | exact (hs.set (by omega) (by omega)).app _) (by omega) (by simp) (by simp) (fun a ha => ?_)
    simp only [List.mem_cons, List.not_mem_nil, or_false] at ha
    simp (disch := first | omega | (simp only [go_sem]; first | done | omega)) only [go_sem]
    refine pick_lit s zs (j1 + 1) [1, 6, 21] (by first | exact at0 (by simp) | exact at1 (by simp) | exact at2 (by simp) | exact at3 (by simp) | exact at4 (by simp) | exact at5 (by simp) | exact atG 6 (by simp) rfl | exact atG 7 (by simp) rfl | exact atG 8 (by simp) rfl | exact atG 9 (by simp) rfl | exact atG 10 (by simp) rfl | exact atG 11 (by simp) rfl | exact atG 12 (by simp) rfl | exact atG 13 (by simp) rfl | exact atG 14 (by simp) rfl | exact atG 15 (by simp) rfl | assumption) rfl rfl (by first | exact hs | exact hs.app _ | exact hs.set (by omega) (by omega) | exact (hs.set (by omega) (by omega)).app _) (by omega) (by simp) (by simp) (fun b hb => ?_)
    simp only [List.mem_cons, List.not_mem_nil, or_false] at hb
    simp (disch := first | omega | (simp only [go_sem]; first | done | omega)) only [go_sem]
    refine Next.mk (k + 1, l ++ [⟨n, m⟩], n + a, m + b, j1 + 1 + 1) ⟨⟨by dsimp only; omega, by simp; omega, fun x hx => ?_, by dsimp only; omega, by dsimp only; omega, by dsimp only; omega, by dsimp only; omega, by dsimp only; omega, by dsimp only; omega⟩, by dsimp only; omega⟩ ?_
    · rcases List.mem_append.1 hx with h | h
      · exact q3 x h
      · simp at h; subst h; simp only [Clk.near]; omega
    · ((try simp (disch := first | omega | (simp only [go_sem]; first | done | omega)) only [go_sem]); (first | refine WkL.pick [0] ?_ ?_ rfl ?_ ?_ ?_ ?_ | refine WkL.pick [1] ?_ ?_ rfl ?_ ?_ ?_ ?_ | refine WkL.pick [2] ?_ ?_ rfl ?_ ?_ ?_ ?_ | refine WkL.pick [3] ?_ ?_ rfl ?_ ?_ ?_ ?_ | refine WkL.pick [4] ?_ ?_ rfl ?_ ?_ ?_ ?_ | refine WkL.pick [5] ?_ ?_ rfl ?_ ?_ ?_ ?_ | refine WkL.pick [6] ?_ ?_ rfl ?_ ?_ ?_ ?_ | refine WkL.pick [7] ?_ ?_ rfl ?_ ?_ ?_ ?_ | refine WkL.pick [8] ?_ ?_ rfl ?_ ?_ ?_ ?_ | refine WkL.pick [9] ?_ ?_ rfl ?_ ?_ ?_ ?_ | refine WkL.pick [10] ?_ ?_ rfl ?_ ?_ ?_ ?_ | refine WkL.pick [11] ?_ ?_ rfl ?_ ?_ ?_ ?_ | refine WkL.pick [12] ?_ ?_ rfl ?_ ?_ ?_ ?_ | refine WkL.pick [13] ?_ ?_ rfl ?_ ?_ ?_ ?_ | refine WkL.pick [14] ?_ ?_ rfl ?_ ?_ ?_ ?_ | refine WkL.pick [15] ?_ ?_ rfl ?_ ?_ ?_ ?_) <;> first | assumption | exact HOk.str (by assumption) | (simp; done) | (simp; omega) | (simp [pureO_gr, AObj.pureO, pureL, go_sem, AC.pure]; done) | (simp only [List.all_cons, List.all_nil, Bool.and_true]; exact pureO_gr (pureL_map _ (fun x => by simp [go_sem, AC.pure]))) | ((try simp only [List.map_cons, List.map_nil, av_ren_gr]); simp [AV.ren, AV.ren1, AC.ren, renP, pickS]; first | done | omega) | (simp only [List.forall_mem_cons, List.not_mem_nil, false_implies, implies_true, and_true]; (repeat' apply And.intro) <;> first | trivial | exact grV_ok (by simp) _ | exact okN_grO (fun x => by simp [go_sem, AC.pure]) | exact okN_map (fun x => by simp [go_sem, AC.pure]) | (simp [AV.ok, AV.ok1, AC.ok]; done) | (simp [AV.ok, AV.ok1, AC.ok]; omega) | (simp [AObj.okN, AC.ok]; done)) | (simp [AObj.okN]; done))
  · have hll : l.length ≤ 4 := by omega
    by_cases hl : l = []
    · subst hl
      simp (disch := first | omega | (simp only [go_sem]; first | done | omega)) only [go_sem]
      refine flip_a s zs j1 25 (by first | exact hs | exact hs.app _ | exact hs.set (by omega) (by omega) | exact (hs.set (by omega) (by omega)).app _) (by omega) (by omega) (fun b2 => ?_)
      simp (disch := first | omega | (simp only [go_sem]; first | done | omega)) only [go_sem]
      refine acond_b (fun c2 => ?_) (fun c2 => ?_)
      · simp (disch := first | omega | (simp only [go_sem]; first | done | omega)) only [go_sem]
        exact Ret.frzRow 1 (HOk.str hH) (by simp) rfl (pureL_encK farK) (by simp) (by simp [farK]) (hk farK _ (by omega) (by omega) (by simp [farK]) farK_near)
      · simp (disch := first | omega | (simp only [go_sem]; first | done | omega)) only [go_sem]
        exact Ret.frzGr 0 (HOk.str hH) (by simp) rfl rfl (by simp [grV]) (hk [] _ (by omega) (by omega) (by simp) (by simp))
    · have hl1 : 0 < l.length := List.length_pos_iff.2 hl
      have hne2 : l.map encK ≠ [] := by simpa using hl
      rw [grV_pos _ hl, grO_pos _ _ hne2]
      simp (disch := first | omega | (simp only [go_sem]; first | done | omega)) only [go_sem]
      refine flip_a s zs j1 15 (by first | exact hs | exact hs.app _ | exact hs.set (by omega) (by omega) | exact (hs.set (by omega) (by omega)).app _) (by omega) (by omega) (fun b1 => ?_)
      simp (disch := first | omega | (simp only [go_sem]; first | done | omega)) only [go_sem]
      refine acond_b (fun c1 => ?_) (fun c1 => ?_)
      · simp (disch := first | omega | (simp only [go_sem]; first | done | omega)) only [go_sem]
        refine next_a s zs (j1 + 1) l.length (by first | exact hs | exact hs.app _ | exact hs.set (by omega) (by omega) | exact (hs.set (by omega) (by omega)).app _) (by omega) (by omega) (fun x x0 x1 => ?_)
        simp (disch := first | omega | (simp only [go_sem]; first | done | omega)) only [go_sem]
        refine odd_a s zs (j1 + 1 + 1) 0 50 (by first | exact hs | exact hs.app _ | exact hs.set (by omega) (by omega) | exact (hs.set (by omega) (by omega)).app _) (by omega) (by omega) (by omega) (by omega) (fun a j2 g1 g2 ha => ?_)
        simp (disch := first | omega | (simp only [go_sem]; first | done | omega)) only [go_sem]
        refine pick_lit s zs j2 [0, 20, 3600000, 3600051, -1] (by first | exact at0 (by simp) | exact at1 (by simp) | exact at2 (by simp) | exact at3 (by simp) | exact at4 (by simp) | exact at5 (by simp) | exact atG 6 (by simp) rfl | exact atG 7 (by simp) rfl | exact atG 8 (by simp) rfl | exact atG 9 (by simp) rfl | exact atG 10 (by simp) rfl | exact atG 11 (by simp) rfl | exact atG 12 (by simp) rfl | exact atG 13 (by simp) rfl | exact atG 14 (by simp) rfl | exact atG 15 (by simp) rfl | assumption) rfl rfl (by first | exact hs | exact hs.app _ | exact hs.set (by omega) (by omega) | exact (hs.set (by omega) (by omega)).app _) (by omega) (by simp) (by simp) (fun b hb => ?_)
        simp only [List.mem_cons, List.not_mem_nil, or_false] at hb
        simp (disch := first | omega | (simp only [go_sem]; first | done | omega)) only [go_sem]
        have e : (l.map encK).set x.toNat [.int .i64 a, .int .i64 b] = (l.set x.toNat ⟨a, b⟩).map encK := by rw [List.map_set]; rfl
        rw [e]
        have hnr : ∀ y ∈ l.set x.toNat ⟨a, b⟩, y.near := fun y hy => by
          rcases List.mem_or_eq_of_mem_set hy with h | rfl
          · exact q3 y h
          · simp only [Clk.near]; omega
        refine flip_a s zs (j2 + 1) 25 (by first | exact hs | exact hs.app _ | exact hs.set (by omega) (by omega) | exact (hs.set (by omega) (by omega)).app _) (by omega) (by omega) (fun b2 => ?_)
        simp (disch := first | omega | (simp only [go_sem]; first | done | omega)) only [go_sem]
        refine acond_b (fun c2 => ?_) (fun c2 => ?_)
        · simp (disch := first | omega | (simp only [go_sem]; first | done | omega)) only [go_sem]
          exact Ret.frzRow 2 (HOk.str hH) (by simp) rfl (pureL_encK farK) (by simp) (by simp [farK]) (hk farK _ (by omega) (by omega) (by simp [farK]) farK_near)
        · simp (disch := first | omega | (simp only [go_sem]; first | done | omega)) only [go_sem]
          exact Ret.frzRow 0 (HOk.str hH) (by simp) rfl (pureL_encK _) (by simp) (by simp) (hk _ _ (by omega) (by omega) (by simp; omega) hnr)
      · simp (disch := first | omega | (simp only [go_sem]; first | done | omega)) only [go_sem]
        refine flip_a s zs (j1 + 1) 25 (by first | exact hs | exact hs.app _ | exact hs.set (by omega) (by omega) | exact (hs.set (by omega) (by omega)).app _) (by omega) (by omega) (fun b2 => ?_)
        simp (disch := first | omega | (simp only [go_sem]; first | done | omega)) only [go_sem]
        refine acond_b (fun c2 => ?_) (fun c2 => ?_)
        · simp (disch := first | omega | (simp only [go_sem]; first | done | omega)) only [go_sem]
          exact Ret.frzRow 1 (HOk.str hH) (by simp) rfl (pureL_encK farK) (by simp) (by simp [farK]) (hk farK _ (by omega) (by omega) (by simp [farK]) farK_near)
        · simp (disch := first | omega | (simp only [go_sem]; first | done | omega)) only [go_sem]
          exact Ret.frzRow 0 (HOk.str hH) (by simp) rfl (pureL_encK _) (by simp) (by simp) (hk l _ (by omega) (by omega) (by omega) q3)
end Go.Proofs.YtppmkgaobeccfaaGreatDoor
