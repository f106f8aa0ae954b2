/- Series merged: the order of samples, its comparison by the code and by the document. -/
import Derived.Test.YtmmjphncnnmdaaaHVPdqH
import Derived.Test.YtmmjphncnnmdaaaHVMoment
import Derived.Test.YtmmjphncnnmdaaaHVGA
namespace Go.Proofs.Ytmmjphncnnmdaaa
open Go Go.RowKit
set_option maxRecDepth 100000
set_option linter.all false
set_option maxHeartbeats 1000000
variable {H : Hp} {K : AV → Hp → Prop}
theorem growS_a (n : Nat) (h1 : n ≤ 1000000) (hk0 : n = 0 → K (.c (.sl none 0)) H) (hk : 0 < n → K (.c (.sl (some (H.length, 0)) 0)) (H ++ [.row 46 3 (List.replicate n [.int .i64 0, .int .i64 0, .int .i64 0]) true])) : ACalls Try.prog 83 [.c (.sl none 0), (.c (.int .i64 n))] H K := by
  rcases Nat.eq_zero_or_pos n with rfl | h0
  · refine acalls Try.func83 rfl (by kernel_rfl) (by simp (disch := first | omega | (simp only [go_sem]; first | done | omega)) only [go_sem]) (fun hH => ?_)
    simp (disch := first | omega | (simp only [go_sem]; first | done | omega)) only [go_sem]
    exact Ret.same (Nat.le_refl _) (hk0 rfl)
  refine acalls Try.func83 rfl (by kernel_rfl) (by simp (disch := first | omega | (simp only [go_sem]; first | done | omega)) only [go_sem]) (fun hH => ?_)
  simp (disch := first | omega | (simp only [go_sem]; first | done | omega)) only [go_sem]
  have hs : szT Try.prog 46 = 3 := by kernel_rfl
  have hb : Try.prog.bytesOf 46 = 24 := by kernel_rfl
  refine app_zer (e := 46) (z := [.int .i64 0, .int .i64 0, .int .i64 0]) (by kernel_rfl) (by kernel_rfl) (by kernel_rfl) (by rw [hs]; rfl) (by rw [hs]; decide) h0 (by rw [hb]; omega) (by omega) ?_
  rw [hs]
  simp (disch := first | omega | (simp only [go_sem]; first | done | omega)) only [go_sem]
  exact Ret.same (by simp) (hk h0)
theorem concatS_a (l m : List Smp) (hl : l.length ≤ 100000) (hm : m.length ≤ 100000) (hk : K (.c (grV H.length (l ++ m))) (H ++ [grO 46 3 ((l ++ m).map encS)])) : ACalls Try.prog 52 [.c (.lst 1 [[.lst 3 (l.map encS)], [.lst 3 (m.map encS)]])] H K := by
  refine acalls Try.func52 rfl (by kernel_rfl) (by simp (disch := first | omega | (simp only [go_sem]; first | done | omega)) only [go_sem]) (fun hH => ?_)
  simp (disch := first | omega | (simp only [go_sem]; first | done | omega)) only [go_sem]
  refine AWp.loop (H.length) [0, 9, 10] [11, 3] (fun (q : Nat × Nat) => (q.1 = 0 ∧ q.2 = 0) ∨ (q.1 = 1 ∧ q.2 = l.length) ∨ (q.1 = 2 ∧ q.2 = l.length + m.length)) (fun (q : Nat × Nat) => [(11, (.c (.int .i64 (q.1)))), (3, (.c (.int .i64 (q.2))))]) (fun (q : Nat × Nat) => H) (fun (q : Nat × Nat) => 2 - q.1) (by kernel_rfl) (fun _ => rfl) (by kernel_rfl) (by simp) (by first | (simp; done) | (simp; omega)) (by (try simp only [List.forall_mem_cons, List.not_mem_nil, false_implies, implies_true, and_true]); (try simp (disch := first | omega | (simp only [go_sem]; first | done | omega)) only [go_sem]); all_goals first | trivial | (simp [AV.ok, AV.ok1, AC.ok]; done) | (simp [AV.ok, AV.ok1, AC.ok]; omega) | (simp [AV.ok, AV.ok1, AC.ok]; assumption) | ((repeat' apply And.intro) <;> first | trivial | (simp [AV.ok, AV.ok1, AC.ok]; done) | (simp [AV.ok, AV.ok1, AC.ok]; omega) | (simp [AV.ok, AV.ok1, AC.ok]; assumption) | (refine grV_ok ?_ _; first | (simp; done) | (simp; omega) | omega))) ?_ (fun q hq _ _ => ?_)
  · exact Next.mk (0, 0) (by simp) (by (try simp (disch := first | omega | (simp only [go_sem]; first | done | omega)) only [go_sem]); (first | refine WkL.eq ?_ ?_ | refine WkL.rest (by assumption) ?_ ?_ ?_ | refine WkL.keepL (by assumption) rfl ?_ ?_ ?_ ?_) <;> first | rfl | (simp; done) | (simp; omega) | (simp only [List.cons.injEq, AV.c.injEq, AC.int.injEq, AC.bool.injEq, AC.str.injEq, and_true, true_and, Int.natCast_add, Int.natCast_one, Int.cast_ofNat_Int]; omega) | (simp [AV.ok, AV.ok1, AC.ok]; done) | (simp [AV.ok, AV.ok1, AC.ok]; omega) | (simp only [List.forall_mem_cons, List.not_mem_nil, false_implies, implies_true, and_true]; (repeat' apply And.intro) <;> first | exact okN_map (fun x => by simp [go_sem, AC.pure]) | exact okN_grO (fun x => by simp [go_sem, AC.pure]) | (simp [AObj.okN, AC.ok]; done) | (simp [AObj.okN, AC.ok]; omega)) | (simp [*]; done) | grind)
  obtain ⟨k, n⟩ := q
  dsimp only at hq
  rcases hq with ⟨rfl, rfl⟩ | ⟨rfl, rfl⟩ | ⟨rfl, rfl⟩
  · simp (disch := first | omega | (simp only [go_sem]; first | done | omega)) only [go_sem]
    exact Next.mk (1, l.length) ⟨by simp, by simp⟩ (by (try simp (disch := first | omega | (simp only [go_sem]; first | done | omega)) only [go_sem]); (first | refine WkL.eq ?_ ?_ | refine WkL.rest (by assumption) ?_ ?_ ?_ | refine WkL.keepL (by assumption) rfl ?_ ?_ ?_ ?_) <;> first | rfl | (simp; done) | (simp; omega) | (simp only [List.cons.injEq, AV.c.injEq, AC.int.injEq, AC.bool.injEq, AC.str.injEq, and_true, true_and, Int.natCast_add, Int.natCast_one, Int.cast_ofNat_Int]; omega) | (simp [AV.ok, AV.ok1, AC.ok]; done) | (simp [AV.ok, AV.ok1, AC.ok]; omega) | (simp only [List.forall_mem_cons, List.not_mem_nil, false_implies, implies_true, and_true]; (repeat' apply And.intro) <;> first | exact okN_map (fun x => by simp [go_sem, AC.pure]) | exact okN_grO (fun x => by simp [go_sem, AC.pure]) | (simp [AObj.okN, AC.ok]; done) | (simp [AObj.okN, AC.ok]; omega)) | (simp [*]; done) | grind)
  · simp (disch := first | omega | (simp only [go_sem]; first | done | omega)) only [go_sem]
    exact Next.mk (2, l.length + m.length) ⟨by simp, by simp⟩ (by (try simp (disch := first | omega | (simp only [go_sem]; first | done | omega)) only [go_sem]); (first | refine WkL.eq ?_ ?_ | refine WkL.rest (by assumption) ?_ ?_ ?_ | refine WkL.keepL (by assumption) rfl ?_ ?_ ?_ ?_) <;> first | rfl | (simp; done) | (simp; omega) | (simp only [List.cons.injEq, AV.c.injEq, AC.int.injEq, AC.bool.injEq, AC.str.injEq, and_true, true_and, Int.natCast_add, Int.natCast_one, Int.cast_ofNat_Int]; omega) | (simp [AV.ok, AV.ok1, AC.ok]; done) | (simp [AV.ok, AV.ok1, AC.ok]; omega) | (simp only [List.forall_mem_cons, List.not_mem_nil, false_implies, implies_true, and_true]; (repeat' apply And.intro) <;> first | exact okN_map (fun x => by simp [go_sem, AC.pure]) | exact okN_grO (fun x => by simp [go_sem, AC.pure]) | (simp [AObj.okN, AC.ok]; done) | (simp [AObj.okN, AC.ok]; omega)) | (simp [*]; done) | grind)
  simp (disch := first | omega | (simp only [go_sem]; first | done | omega)) only [go_sem]
  refine growS_a (l.length + m.length) (by omega) (fun h0 => ?_) (fun h0 => ?_)
  · have hl0 : l = [] := List.length_eq_zero_iff.1 (by omega)
    have hm0 : m = [] := List.length_eq_zero_iff.1 (by omega)
    subst hl0; subst hm0
    simp (disch := first | omega | (simp only [go_sem]; first | done | omega)) only [go_sem]
    refine AWp.loop (H.length) [25, 26] [27, 6] (fun (k : Nat) => k ≤ 2) (fun (k : Nat) => [(27, (.c (.int .i64 k))), (6, .c (.sl none 0))]) (fun (k : Nat) => H) (fun (k : Nat) => 2 - k) (by kernel_rfl) (fun _ => rfl) (by kernel_rfl) (by simp) (by first | (simp; done) | (simp; omega)) (by (try simp only [List.forall_mem_cons, List.not_mem_nil, false_implies, implies_true, and_true]); (try simp (disch := first | omega | (simp only [go_sem]; first | done | omega)) only [go_sem]); all_goals first | trivial | (simp [AV.ok, AV.ok1, AC.ok]; done) | (simp [AV.ok, AV.ok1, AC.ok]; omega) | (simp [AV.ok, AV.ok1, AC.ok]; assumption) | ((repeat' apply And.intro) <;> first | trivial | (simp [AV.ok, AV.ok1, AC.ok]; done) | (simp [AV.ok, AV.ok1, AC.ok]; omega) | (simp [AV.ok, AV.ok1, AC.ok]; assumption) | (refine grV_ok ?_ _; first | (simp; done) | (simp; omega) | omega))) ?_ (fun k hq _ _ => ?_)
    · exact Next.mk 0 (by simp) (by (try simp (disch := first | omega | (simp only [go_sem]; first | done | omega)) only [go_sem]); (first | refine WkL.eq ?_ ?_ | refine WkL.rest (by assumption) ?_ ?_ ?_ | refine WkL.keepL (by assumption) rfl ?_ ?_ ?_ ?_) <;> first | rfl | (simp; done) | (simp; omega) | (simp only [List.cons.injEq, AV.c.injEq, AC.int.injEq, AC.bool.injEq, AC.str.injEq, and_true, true_and, Int.natCast_add, Int.natCast_one, Int.cast_ofNat_Int]; omega) | (simp [AV.ok, AV.ok1, AC.ok]; done) | (simp [AV.ok, AV.ok1, AC.ok]; omega) | (simp only [List.forall_mem_cons, List.not_mem_nil, false_implies, implies_true, and_true]; (repeat' apply And.intro) <;> first | exact okN_map (fun x => by simp [go_sem, AC.pure]) | exact okN_grO (fun x => by simp [go_sem, AC.pure]) | (simp [AObj.okN, AC.ok]; done) | (simp [AObj.okN, AC.ok]; omega)) | (simp [*]; done) | grind)
    have : k = 0 ∨ k = 1 ∨ k = 2 := by omega
    rcases this with rfl | rfl | rfl
    · simp (disch := first | omega | (simp only [go_sem]; first | done | omega)) only [go_sem]
      refine app_lst ?_
      simp (disch := first | omega | (simp only [go_sem]; first | done | omega)) only [go_sem]
      exact Next.mk 1 ⟨by simp, by simp⟩ (by (try simp (disch := first | omega | (simp only [go_sem]; first | done | omega)) only [go_sem]); (first | refine WkL.eq ?_ ?_ | refine WkL.rest (by assumption) ?_ ?_ ?_ | refine WkL.keepL (by assumption) rfl ?_ ?_ ?_ ?_) <;> first | rfl | (simp; done) | (simp; omega) | (simp only [List.cons.injEq, AV.c.injEq, AC.int.injEq, AC.bool.injEq, AC.str.injEq, and_true, true_and, Int.natCast_add, Int.natCast_one, Int.cast_ofNat_Int]; omega) | (simp [AV.ok, AV.ok1, AC.ok]; done) | (simp [AV.ok, AV.ok1, AC.ok]; omega) | (simp only [List.forall_mem_cons, List.not_mem_nil, false_implies, implies_true, and_true]; (repeat' apply And.intro) <;> first | exact okN_map (fun x => by simp [go_sem, AC.pure]) | exact okN_grO (fun x => by simp [go_sem, AC.pure]) | (simp [AObj.okN, AC.ok]; done) | (simp [AObj.okN, AC.ok]; omega)) | (simp [*]; done) | grind)
    · simp (disch := first | omega | (simp only [go_sem]; first | done | omega)) only [go_sem]
      refine app_lst ?_
      simp (disch := first | omega | (simp only [go_sem]; first | done | omega)) only [go_sem]
      exact Next.mk 2 ⟨by simp, by simp⟩ (by (try simp (disch := first | omega | (simp only [go_sem]; first | done | omega)) only [go_sem]); (first | refine WkL.eq ?_ ?_ | refine WkL.rest (by assumption) ?_ ?_ ?_ | refine WkL.keepL (by assumption) rfl ?_ ?_ ?_ ?_) <;> first | rfl | (simp; done) | (simp; omega) | (simp only [List.cons.injEq, AV.c.injEq, AC.int.injEq, AC.bool.injEq, AC.str.injEq, and_true, true_and, Int.natCast_add, Int.natCast_one, Int.cast_ofNat_Int]; omega) | (simp [AV.ok, AV.ok1, AC.ok]; done) | (simp [AV.ok, AV.ok1, AC.ok]; omega) | (simp only [List.forall_mem_cons, List.not_mem_nil, false_implies, implies_true, and_true]; (repeat' apply And.intro) <;> first | exact okN_map (fun x => by simp [go_sem, AC.pure]) | exact okN_grO (fun x => by simp [go_sem, AC.pure]) | (simp [AObj.okN, AC.ok]; done) | (simp [AObj.okN, AC.ok]; omega)) | (simp [*]; done) | grind)
    · simp (disch := first | omega | (simp only [go_sem]; first | done | omega)) only [go_sem]
      exact Ret.pad (Nat.le_refl _) (Ret.same (by simp) hk)
  simp (disch := first | omega | (simp only [go_sem]; first | done | omega)) only [go_sem]
  refine AWp.loop (H.length) [25, 26] [27, 6] (fun (q : Nat × Nat × List (List AC)) => (q.1 = 0 ∧ q.2.1 = 0 ∧ q.2.2 = List.replicate (l.length + m.length) [.int .i64 0, .int .i64 0, .int .i64 0]) ∨ (q.1 = 1 ∧ q.2.1 = l.length ∧ ((l = [] ∧ q.2.2 = List.replicate (l.length + m.length) [.int .i64 0, .int .i64 0, .int .i64 0]) ∨ (l ≠ [] ∧ q.2.2 = l.map encS))) ∨ (q.1 = 2 ∧ q.2.1 = l.length + m.length ∧ q.2.2 = (l ++ m).map encS)) (fun (q : Nat × Nat × List (List AC)) => [(27, (.c (.int .i64 (q.1)))), (6, .c (.sl (some (H.length, 0)) q.2.1))]) (fun (q : Nat × Nat × List (List AC)) => H ++ [.row 46 3 q.2.2 true]) (fun (q : Nat × Nat × List (List AC)) => 2 - q.1) (by kernel_rfl) (fun _ => rfl) (by kernel_rfl) (by simp) (by first | (simp; done) | (simp; omega)) (by (try simp only [List.forall_mem_cons, List.not_mem_nil, false_implies, implies_true, and_true]); (try simp (disch := first | omega | (simp only [go_sem]; first | done | omega)) only [go_sem]); all_goals first | trivial | (simp [AV.ok, AV.ok1, AC.ok]; done) | (simp [AV.ok, AV.ok1, AC.ok]; omega) | (simp [AV.ok, AV.ok1, AC.ok]; assumption) | ((repeat' apply And.intro) <;> first | trivial | (simp [AV.ok, AV.ok1, AC.ok]; done) | (simp [AV.ok, AV.ok1, AC.ok]; omega) | (simp [AV.ok, AV.ok1, AC.ok]; assumption) | (refine grV_ok ?_ _; first | (simp; done) | (simp; omega) | omega))) ?_ (fun q hq _ _ => ?_)
  · exact Next.mk (0, 0, List.replicate (l.length + m.length) [.int .i64 0, .int .i64 0, .int .i64 0]) (by simp) (by ((try simp (disch := first | omega | (simp only [go_sem]; first | done | omega)) only [go_sem]); (first | refine WkL.pick [0] ?_ ?_ rfl ?_ ?_ ?_ ?_ | refine WkL.pick [1] ?_ ?_ rfl ?_ ?_ ?_ ?_ | refine WkL.pick [2] ?_ ?_ rfl ?_ ?_ ?_ ?_ | refine WkL.pick [3] ?_ ?_ rfl ?_ ?_ ?_ ?_ | refine WkL.pick [4] ?_ ?_ rfl ?_ ?_ ?_ ?_ | refine WkL.pick [5] ?_ ?_ rfl ?_ ?_ ?_ ?_ | refine WkL.pick [6] ?_ ?_ rfl ?_ ?_ ?_ ?_ | refine WkL.pick [7] ?_ ?_ rfl ?_ ?_ ?_ ?_ | refine WkL.pick [8] ?_ ?_ rfl ?_ ?_ ?_ ?_ | refine WkL.pick [9] ?_ ?_ rfl ?_ ?_ ?_ ?_ | refine WkL.pick [10] ?_ ?_ rfl ?_ ?_ ?_ ?_ | refine WkL.pick [11] ?_ ?_ rfl ?_ ?_ ?_ ?_ | refine WkL.pick [12] ?_ ?_ rfl ?_ ?_ ?_ ?_ | refine WkL.pick [13] ?_ ?_ rfl ?_ ?_ ?_ ?_ | refine WkL.pick [14] ?_ ?_ rfl ?_ ?_ ?_ ?_ | refine WkL.pick [15] ?_ ?_ rfl ?_ ?_ ?_ ?_) <;> first | assumption | exact HOk.str (by assumption) | (simp; done) | (simp; omega) | (simp [pureO_gr, AObj.pureO, pureL, go_sem, AC.pure]; done) | (simp only [List.all_cons, List.all_nil, Bool.and_true]; exact pureO_gr (pureL_map _ (fun x => by simp [go_sem, AC.pure]))) | ((try simp only [List.map_cons, List.map_nil, av_ren_gr]); simp [AV.ren, AV.ren1, AC.ren, pickS]; first | done | omega) | (simp only [List.forall_mem_cons, List.not_mem_nil, false_implies, implies_true, and_true]; (repeat' apply And.intro) <;> first | trivial | exact grV_ok (by simp) _ | exact okN_grO (fun x => by simp [go_sem, AC.pure]) | exact okN_map (fun x => by simp [go_sem, AC.pure]) | (simp [AV.ok, AV.ok1, AC.ok]; done) | (simp [AV.ok, AV.ok1, AC.ok]; omega) | (simp [AObj.okN, AC.ok]; done)) | (simp [AObj.okN]; done)))
  obtain ⟨k, n, els⟩ := q
  dsimp only at hq
  rcases hq with ⟨rfl, rfl, rfl⟩ | ⟨rfl, rfl, hq⟩ | ⟨rfl, rfl, rfl⟩
  · by_cases hl0 : l = []
    · subst hl0
      simp (disch := first | omega | (simp only [go_sem]; first | done | omega)) only [go_sem]
      refine app_lst ?_
      simp (disch := first | omega | (simp only [go_sem]; first | done | omega)) only [go_sem]
      refine Next.mk (1, 0, List.replicate (0 + m.length) [.int .i64 0, .int .i64 0, .int .i64 0]) ⟨by simp, by simp⟩ (by ((try simp (disch := first | omega | (simp only [go_sem]; first | done | omega)) only [go_sem]); (first | refine WkL.pick [0] ?_ ?_ rfl ?_ ?_ ?_ ?_ | refine WkL.pick [1] ?_ ?_ rfl ?_ ?_ ?_ ?_ | refine WkL.pick [2] ?_ ?_ rfl ?_ ?_ ?_ ?_ | refine WkL.pick [3] ?_ ?_ rfl ?_ ?_ ?_ ?_ | refine WkL.pick [4] ?_ ?_ rfl ?_ ?_ ?_ ?_ | refine WkL.pick [5] ?_ ?_ rfl ?_ ?_ ?_ ?_ | refine WkL.pick [6] ?_ ?_ rfl ?_ ?_ ?_ ?_ | refine WkL.pick [7] ?_ ?_ rfl ?_ ?_ ?_ ?_ | refine WkL.pick [8] ?_ ?_ rfl ?_ ?_ ?_ ?_ | refine WkL.pick [9] ?_ ?_ rfl ?_ ?_ ?_ ?_ | refine WkL.pick [10] ?_ ?_ rfl ?_ ?_ ?_ ?_ | refine WkL.pick [11] ?_ ?_ rfl ?_ ?_ ?_ ?_ | refine WkL.pick [12] ?_ ?_ rfl ?_ ?_ ?_ ?_ | refine WkL.pick [13] ?_ ?_ rfl ?_ ?_ ?_ ?_ | refine WkL.pick [14] ?_ ?_ rfl ?_ ?_ ?_ ?_ | refine WkL.pick [15] ?_ ?_ rfl ?_ ?_ ?_ ?_) <;> first | assumption | exact HOk.str (by assumption) | (simp; done) | (simp; omega) | (simp [pureO_gr, AObj.pureO, pureL, go_sem, AC.pure]; done) | (simp only [List.all_cons, List.all_nil, Bool.and_true]; exact pureO_gr (pureL_map _ (fun x => by simp [go_sem, AC.pure]))) | ((try simp only [List.map_cons, List.map_nil, av_ren_gr]); simp [AV.ren, AV.ren1, AC.ren, pickS]; first | done | omega) | (simp only [List.forall_mem_cons, List.not_mem_nil, false_implies, implies_true, and_true]; (repeat' apply And.intro) <;> first | trivial | exact grV_ok (by simp) _ | exact okN_grO (fun x => by simp [go_sem, AC.pure]) | exact okN_map (fun x => by simp [go_sem, AC.pure]) | (simp [AV.ok, AV.ok1, AC.ok]; done) | (simp [AV.ok, AV.ok1, AC.ok]; omega) | (simp [AObj.okN, AC.ok]; done)) | (simp [AObj.okN]; done)))
    · obtain ⟨x, xs, rfl⟩ : ∃ x xs, l = x :: xs := List.exists_cons_of_ne_nil hl0
      simp (disch := first | omega | (simp only [go_sem]; first | done | omega)) only [go_sem]
      refine app_lst ?_
      simp only [List.length_cons] at hl
      simp (disch := first | omega | (simp only [go_sem]; first | done | omega)) only [go_sem]
      refine Next.mk (1, xs.length + 1, (x :: xs).map encS) ⟨by simp, by simp⟩ ?_
      ((try simp (disch := first | omega | (simp only [go_sem]; first | done | omega)) only [go_sem]); (first | refine WkL.pick [0] ?_ ?_ rfl ?_ ?_ ?_ ?_ | refine WkL.pick [1] ?_ ?_ rfl ?_ ?_ ?_ ?_ | refine WkL.pick [2] ?_ ?_ rfl ?_ ?_ ?_ ?_ | refine WkL.pick [3] ?_ ?_ rfl ?_ ?_ ?_ ?_ | refine WkL.pick [4] ?_ ?_ rfl ?_ ?_ ?_ ?_ | refine WkL.pick [5] ?_ ?_ rfl ?_ ?_ ?_ ?_ | refine WkL.pick [6] ?_ ?_ rfl ?_ ?_ ?_ ?_ | refine WkL.pick [7] ?_ ?_ rfl ?_ ?_ ?_ ?_ | refine WkL.pick [8] ?_ ?_ rfl ?_ ?_ ?_ ?_ | refine WkL.pick [9] ?_ ?_ rfl ?_ ?_ ?_ ?_ | refine WkL.pick [10] ?_ ?_ rfl ?_ ?_ ?_ ?_ | refine WkL.pick [11] ?_ ?_ rfl ?_ ?_ ?_ ?_ | refine WkL.pick [12] ?_ ?_ rfl ?_ ?_ ?_ ?_ | refine WkL.pick [13] ?_ ?_ rfl ?_ ?_ ?_ ?_ | refine WkL.pick [14] ?_ ?_ rfl ?_ ?_ ?_ ?_ | refine WkL.pick [15] ?_ ?_ rfl ?_ ?_ ?_ ?_) <;> first | assumption | exact HOk.str (by assumption) | (simp; done) | (simp; omega) | (simp [pureO_gr, AObj.pureO, pureL, go_sem, AC.pure]; done) | (simp only [List.all_cons, List.all_nil, Bool.and_true]; exact pureO_gr (pureL_map _ (fun x => by simp [go_sem, AC.pure]))) | ((try simp only [List.map_cons, List.map_nil, av_ren_gr]); simp [AV.ren, AV.ren1, AC.ren, pickS]; first | done | omega) | (simp only [List.forall_mem_cons, List.not_mem_nil, false_implies, implies_true, and_true]; (repeat' apply And.intro) <;> first | trivial | exact grV_ok (by simp) _ | exact okN_grO (fun x => by simp [go_sem, AC.pure]) | exact okN_map (fun x => by simp [go_sem, AC.pure]) | (simp [AV.ok, AV.ok1, AC.ok]; done) | (simp [AV.ok, AV.ok1, AC.ok]; omega) | (simp [AObj.okN, AC.ok]; done)) | (simp [AObj.okN]; done))
  · rcases hq with ⟨rfl, rfl⟩ | ⟨hl0, rfl⟩
    · have hm0 : m ≠ [] := by rintro rfl; simp at h0
      obtain ⟨x, xs, rfl⟩ : ∃ x xs, m = x :: xs := List.exists_cons_of_ne_nil hm0
      simp only [List.length_cons] at hm
      simp (disch := first | omega | (simp only [go_sem]; first | done | omega)) only [go_sem]
      refine app_lst ?_
      simp (disch := first | omega | (simp only [go_sem]; first | done | omega)) only [go_sem]
      refine Next.mk (2, xs.length + 1, (x :: xs).map encS) ⟨by simp, by simp⟩ ?_
      ((try simp (disch := first | omega | (simp only [go_sem]; first | done | omega)) only [go_sem]); (first | refine WkL.pick [0] ?_ ?_ rfl ?_ ?_ ?_ ?_ | refine WkL.pick [1] ?_ ?_ rfl ?_ ?_ ?_ ?_ | refine WkL.pick [2] ?_ ?_ rfl ?_ ?_ ?_ ?_ | refine WkL.pick [3] ?_ ?_ rfl ?_ ?_ ?_ ?_ | refine WkL.pick [4] ?_ ?_ rfl ?_ ?_ ?_ ?_ | refine WkL.pick [5] ?_ ?_ rfl ?_ ?_ ?_ ?_ | refine WkL.pick [6] ?_ ?_ rfl ?_ ?_ ?_ ?_ | refine WkL.pick [7] ?_ ?_ rfl ?_ ?_ ?_ ?_ | refine WkL.pick [8] ?_ ?_ rfl ?_ ?_ ?_ ?_ | refine WkL.pick [9] ?_ ?_ rfl ?_ ?_ ?_ ?_ | refine WkL.pick [10] ?_ ?_ rfl ?_ ?_ ?_ ?_ | refine WkL.pick [11] ?_ ?_ rfl ?_ ?_ ?_ ?_ | refine WkL.pick [12] ?_ ?_ rfl ?_ ?_ ?_ ?_ | refine WkL.pick [13] ?_ ?_ rfl ?_ ?_ ?_ ?_ | refine WkL.pick [14] ?_ ?_ rfl ?_ ?_ ?_ ?_ | refine WkL.pick [15] ?_ ?_ rfl ?_ ?_ ?_ ?_) <;> first | assumption | exact HOk.str (by assumption) | (simp; done) | (simp; omega) | (simp [pureO_gr, AObj.pureO, pureL, go_sem, AC.pure]; done) | (simp only [List.all_cons, List.all_nil, Bool.and_true]; exact pureO_gr (pureL_map _ (fun x => by simp [go_sem, AC.pure]))) | ((try simp only [List.map_cons, List.map_nil, av_ren_gr]); simp [AV.ren, AV.ren1, AC.ren, pickS]; first | done | omega) | (simp only [List.forall_mem_cons, List.not_mem_nil, false_implies, implies_true, and_true]; (repeat' apply And.intro) <;> first | trivial | exact grV_ok (by simp) _ | exact okN_grO (fun x => by simp [go_sem, AC.pure]) | exact okN_map (fun x => by simp [go_sem, AC.pure]) | (simp [AV.ok, AV.ok1, AC.ok]; done) | (simp [AV.ok, AV.ok1, AC.ok]; omega) | (simp [AObj.okN, AC.ok]; done)) | (simp [AObj.okN]; done))
    · by_cases hm0 : m = []
      · subst hm0
        simp (disch := first | omega | (simp only [go_sem]; first | done | omega)) only [go_sem]
        refine app_lst ?_
        simp (disch := first | omega | (simp only [go_sem]; first | done | omega)) only [go_sem]
        refine Next.mk (2, l.length, l.map encS) ⟨by simp, by simp⟩ ?_
        ((try simp (disch := first | omega | (simp only [go_sem]; first | done | omega)) only [go_sem]); (first | refine WkL.pick [0] ?_ ?_ rfl ?_ ?_ ?_ ?_ | refine WkL.pick [1] ?_ ?_ rfl ?_ ?_ ?_ ?_ | refine WkL.pick [2] ?_ ?_ rfl ?_ ?_ ?_ ?_ | refine WkL.pick [3] ?_ ?_ rfl ?_ ?_ ?_ ?_ | refine WkL.pick [4] ?_ ?_ rfl ?_ ?_ ?_ ?_ | refine WkL.pick [5] ?_ ?_ rfl ?_ ?_ ?_ ?_ | refine WkL.pick [6] ?_ ?_ rfl ?_ ?_ ?_ ?_ | refine WkL.pick [7] ?_ ?_ rfl ?_ ?_ ?_ ?_ | refine WkL.pick [8] ?_ ?_ rfl ?_ ?_ ?_ ?_ | refine WkL.pick [9] ?_ ?_ rfl ?_ ?_ ?_ ?_ | refine WkL.pick [10] ?_ ?_ rfl ?_ ?_ ?_ ?_ | refine WkL.pick [11] ?_ ?_ rfl ?_ ?_ ?_ ?_ | refine WkL.pick [12] ?_ ?_ rfl ?_ ?_ ?_ ?_ | refine WkL.pick [13] ?_ ?_ rfl ?_ ?_ ?_ ?_ | refine WkL.pick [14] ?_ ?_ rfl ?_ ?_ ?_ ?_ | refine WkL.pick [15] ?_ ?_ rfl ?_ ?_ ?_ ?_) <;> first | assumption | exact HOk.str (by assumption) | (simp; done) | (simp; omega) | (simp [pureO_gr, AObj.pureO, pureL, go_sem, AC.pure]; done) | (simp only [List.all_cons, List.all_nil, Bool.and_true]; exact pureO_gr (pureL_map _ (fun x => by simp [go_sem, AC.pure]))) | ((try simp only [List.map_cons, List.map_nil, av_ren_gr]); simp [AV.ren, AV.ren1, AC.ren, pickS]; first | done | omega) | (simp only [List.forall_mem_cons, List.not_mem_nil, false_implies, implies_true, and_true]; (repeat' apply And.intro) <;> first | trivial | exact grV_ok (by simp) _ | exact okN_grO (fun x => by simp [go_sem, AC.pure]) | exact okN_map (fun x => by simp [go_sem, AC.pure]) | (simp [AV.ok, AV.ok1, AC.ok]; done) | (simp [AV.ok, AV.ok1, AC.ok]; omega) | (simp [AObj.okN, AC.ok]; done)) | (simp [AObj.okN]; done))
      · obtain ⟨x, xs, rfl⟩ : ∃ x xs, m = x :: xs := List.exists_cons_of_ne_nil hm0
        simp only [List.length_cons] at hm
        simp (disch := first | omega | (simp only [go_sem]; first | done | omega)) only [go_sem]
        refine app_lst ?_
        simp (disch := first | omega | (simp only [go_sem]; first | done | omega)) only [go_sem]
        refine Next.mk (2, l.length + (xs.length + 1), (l.map encS).take l.length ++ (x :: xs).map encS) ⟨by simp [List.take_of_length_le], by simp⟩ ?_
        ((try simp (disch := first | omega | (simp only [go_sem]; first | done | omega)) only [go_sem]); (first | refine WkL.pick [0] ?_ ?_ rfl ?_ ?_ ?_ ?_ | refine WkL.pick [1] ?_ ?_ rfl ?_ ?_ ?_ ?_ | refine WkL.pick [2] ?_ ?_ rfl ?_ ?_ ?_ ?_ | refine WkL.pick [3] ?_ ?_ rfl ?_ ?_ ?_ ?_ | refine WkL.pick [4] ?_ ?_ rfl ?_ ?_ ?_ ?_ | refine WkL.pick [5] ?_ ?_ rfl ?_ ?_ ?_ ?_ | refine WkL.pick [6] ?_ ?_ rfl ?_ ?_ ?_ ?_ | refine WkL.pick [7] ?_ ?_ rfl ?_ ?_ ?_ ?_ | refine WkL.pick [8] ?_ ?_ rfl ?_ ?_ ?_ ?_ | refine WkL.pick [9] ?_ ?_ rfl ?_ ?_ ?_ ?_ | refine WkL.pick [10] ?_ ?_ rfl ?_ ?_ ?_ ?_ | refine WkL.pick [11] ?_ ?_ rfl ?_ ?_ ?_ ?_ | refine WkL.pick [12] ?_ ?_ rfl ?_ ?_ ?_ ?_ | refine WkL.pick [13] ?_ ?_ rfl ?_ ?_ ?_ ?_ | refine WkL.pick [14] ?_ ?_ rfl ?_ ?_ ?_ ?_ | refine WkL.pick [15] ?_ ?_ rfl ?_ ?_ ?_ ?_) <;> first | assumption | exact HOk.str (by assumption) | (simp; done) | (simp; omega) | (simp [pureO_gr, AObj.pureO, pureL, go_sem, AC.pure]; done) | (simp only [List.all_cons, List.all_nil, Bool.and_true]; exact pureO_gr (pureL_map _ (fun x => by simp [go_sem, AC.pure]))) | ((try simp only [List.map_cons, List.map_nil, av_ren_gr]); simp [AV.ren, AV.ren1, AC.ren, pickS]; first | done | omega) | (simp only [List.forall_mem_cons, List.not_mem_nil, false_implies, implies_true, and_true]; (repeat' apply And.intro) <;> first | trivial | exact grV_ok (by simp) _ | exact okN_grO (fun x => by simp [go_sem, AC.pure]) | exact okN_map (fun x => by simp [go_sem, AC.pure]) | (simp [AV.ok, AV.ok1, AC.ok]; done) | (simp [AV.ok, AV.ok1, AC.ok]; omega) | (simp [AObj.okN, AC.ok]; done)) | (simp [AObj.okN]; done))
  · have hne : l ++ m ≠ [] := by
      intro h
      obtain ⟨rfl, rfl⟩ := List.append_eq_nil_iff.1 h
      simp at h0
    have hne2 : (l ++ m).map encS ≠ [] := by simpa using hne
    have hpos : 0 < l.length + m.length := h0
    rw [grV_pos _ hne, grO_pos _ _ hne2, List.length_append] at hk
    simp (disch := first | omega | (simp only [go_sem]; first | done | omega)) only [go_sem]
    exact Ret.same (by simp) hk
def ltM (a b : Smp) : Bool := decide (momC a b < 0)
theorem momC_eq (a b : Smp) : momC a b = if a.t < b.t then -1 else if b.t < a.t then 1 else if a.q < b.q then -1 else if b.q < a.q then 1 else if b.v < a.v then -1 else if a.v < b.v then 1 else 0 := by
  unfold momC cmpI
  by_cases h1 : a.t < b.t
  · simp [firstE, h1]
  by_cases h2 : b.t < a.t
  · simp [firstE, h1, h2]
  by_cases h3 : a.q < b.q
  · simp [firstE, h1, h2, h3]
  by_cases h4 : b.q < a.q
  · simp [firstE, h1, h2, h3, h4]
  by_cases h5 : b.v < a.v
  · simp [firstE, h1, h2, h3, h4, h5]
  by_cases h6 : a.v < b.v
  · simp [firstE, h1, h2, h3, h4, h5, h6]
  · simp [firstE, h1, h2, h3, h4, h5, h6]
theorem ltM_iff (a b : Smp) : ltM a b = true ↔ (a.t < b.t ∨ (a.t = b.t ∧ (a.q < b.q ∨ (a.q = b.q ∧ b.v < a.v)))) := by
  unfold ltM
  rw [decide_eq_true_eq, momC_eq]
  repeat' split
  all_goals omega
theorem swoM : Go.Sort.SWO ltM where
  irrefl := fun x => by
    rw [Bool.eq_false_iff, ne_eq, ltM_iff]; omega
  trans := fun x y z h1 h2 => by
    rw [ltM_iff] at *; omega
  ntrans := fun x y z h1 h2 => by
    rw [Bool.eq_false_iff, ne_eq, ltM_iff] at *; omega
theorem cmpM : CmpA 54 ltM (fun _ => True) where
  he := by kernel_rfl
  hf := fun x y H K _ _ hk => byMoment_a x y (hk _ rfl)
def sameT (x y : Smp) : Bool := decide (x.t = y.t)
theorem eqM : EqA 56 sameT where
  he := by kernel_rfl
  hf := fun x y H K hk => by
    refine acalls Try.func56 rfl (by kernel_rfl) (by simp (disch := first | omega | (simp only [go_sem]; first | done | omega)) only [go_sem]) (fun hH => ?_)
    simp (disch := first | omega | (simp only [go_sem]; first | done | omega)) only [go_sem]
    exact Ret.drop hH (Nat.le_refl _) trivial hk
theorem eqR : EqA 61 sameT where
  he := by kernel_rfl
  hf := fun x y H K hk => by
    refine acalls Try.func61 rfl (by kernel_rfl) (by simp (disch := first | omega | (simp only [go_sem]; first | done | omega)) only [go_sem]) (fun hH => ?_)
    simp (disch := first | omega | (simp only [go_sem]; first | done | omega)) only [go_sem]
    exact Ret.drop hH (Nat.le_refl _) trivial hk
/-- numbers one by one, of two lists of three -/
theorem cmp3_a (a b c x y z : Int) (hk : K (.c (.int .i64 (firstE [cmpI a x, cmpI b y, cmpI c z]))) H) : ACalls Try.prog 60 [.c (.lst 1 [[.int .i64 a], [.int .i64 b], [.int .i64 c]]), .c (.lst 1 [[.int .i64 x], [.int .i64 y], [.int .i64 z]])] H K := by
  refine acalls Try.func60 rfl (by kernel_rfl) (by simp (disch := first | omega | (simp only [go_sem]; first | done | omega)) only [go_sem]) (fun hH => ?_)
  simp (disch := first | omega | (simp only [go_sem]; first | done | omega)) only [go_sem]
  refine AWp.loop (H.length) [0, 1, 9, 10] [11] (fun (k : Nat) => k ≤ 3 ∧ firstE [cmpI a x, cmpI b y, cmpI c z] = firstE ([cmpI a x, cmpI b y, cmpI c z].drop k)) (fun (k : Nat) => [(11, (.c (.int .i64 k)))]) (fun (k : Nat) => H) (fun (k : Nat) => 3 - k) (by kernel_rfl) (fun _ => rfl) (by kernel_rfl) (by simp) (by first | (simp; done) | (simp; omega)) (by (try simp only [List.forall_mem_cons, List.not_mem_nil, false_implies, implies_true, and_true]); (try simp (disch := first | omega | (simp only [go_sem]; first | done | omega)) only [go_sem]); all_goals first | trivial | (simp [AV.ok, AV.ok1, AC.ok]; done) | (simp [AV.ok, AV.ok1, AC.ok]; omega) | (simp [AV.ok, AV.ok1, AC.ok]; assumption) | ((repeat' apply And.intro) <;> first | trivial | (simp [AV.ok, AV.ok1, AC.ok]; done) | (simp [AV.ok, AV.ok1, AC.ok]; omega) | (simp [AV.ok, AV.ok1, AC.ok]; assumption) | (refine grV_ok ?_ _; first | (simp; done) | (simp; omega) | omega))) ?_ (fun k hk1 _ _ => ?_)
  · exact Next.mk 0 ⟨by omega, rfl⟩ (by (try simp (disch := first | omega | (simp only [go_sem]; first | done | omega)) only [go_sem]); (first | refine WkL.eq ?_ ?_ | refine WkL.rest (by assumption) ?_ ?_ ?_ | refine WkL.keepL (by assumption) rfl ?_ ?_ ?_ ?_) <;> first | rfl | (simp; done) | (simp; omega) | (simp only [List.cons.injEq, AV.c.injEq, AC.int.injEq, AC.bool.injEq, AC.str.injEq, and_true, true_and, Int.natCast_add, Int.natCast_one, Int.cast_ofNat_Int]; omega) | (simp [AV.ok, AV.ok1, AC.ok]; done) | (simp [AV.ok, AV.ok1, AC.ok]; omega) | (simp only [List.forall_mem_cons, List.not_mem_nil, false_implies, implies_true, and_true]; (repeat' apply And.intro) <;> first | exact okN_map (fun x => by simp [go_sem, AC.pure]) | exact okN_grO (fun x => by simp [go_sem, AC.pure]) | (simp [AObj.okN, AC.ok]; done) | (simp [AObj.okN, AC.ok]; omega)) | (simp [*]; done) | grind)
  obtain ⟨k1, k2⟩ := hk1
  obtain rfl | rfl | rfl | rfl : k = 0 ∨ k = 1 ∨ k = 2 ∨ k = 3 := by omega
  · simp (disch := first | omega | (simp only [go_sem]; first | done | omega)) only [go_sem]
    refine compare_a a x ?_
    simp (disch := first | omega | (simp only [go_sem]; first | done | omega)) only [go_sem]
    refine acond_b (fun c' => ?_) (fun c' => ?_)
    · have c0 : cmpI a x = 0 := of_decide_eq_true c'
      simp (disch := first | omega | (simp only [go_sem]; first | done | omega)) only [go_sem]
      refine Next.mk 1 ⟨⟨by omega, by rw [k2]; simp [firstE, c0]⟩, by omega⟩ (by (try simp (disch := first | omega | (simp only [go_sem]; first | done | omega)) only [go_sem]); (first | refine WkL.eq ?_ ?_ | refine WkL.rest (by assumption) ?_ ?_ ?_ | refine WkL.keepL (by assumption) rfl ?_ ?_ ?_ ?_) <;> first | rfl | (simp; done) | (simp; omega) | (simp only [List.cons.injEq, AV.c.injEq, AC.int.injEq, AC.bool.injEq, AC.str.injEq, and_true, true_and, Int.natCast_add, Int.natCast_one, Int.cast_ofNat_Int]; omega) | (simp [AV.ok, AV.ok1, AC.ok]; done) | (simp [AV.ok, AV.ok1, AC.ok]; omega) | (simp only [List.forall_mem_cons, List.not_mem_nil, false_implies, implies_true, and_true]; (repeat' apply And.intro) <;> first | exact okN_map (fun x => by simp [go_sem, AC.pure]) | exact okN_grO (fun x => by simp [go_sem, AC.pure]) | (simp [AObj.okN, AC.ok]; done) | (simp [AObj.okN, AC.ok]; omega)) | (simp [*]; done) | grind)
    · have c0 : ¬ cmpI a x = 0 := of_decide_eq_false c'
      simp (disch := first | omega | (simp only [go_sem]; first | done | omega)) only [go_sem]
      have k3 : firstE [cmpI a x, cmpI b y, cmpI c z] = cmpI a x := by rw [k2]; simp [firstE, c0]
      rw [k3] at hk
      exact Ret.same (Nat.le_refl _) hk
  · simp (disch := first | omega | (simp only [go_sem]; first | done | omega)) only [go_sem]
    refine compare_a b y ?_
    simp (disch := first | omega | (simp only [go_sem]; first | done | omega)) only [go_sem]
    refine acond_b (fun c' => ?_) (fun c' => ?_)
    · have c0 : cmpI b y = 0 := of_decide_eq_true c'
      simp (disch := first | omega | (simp only [go_sem]; first | done | omega)) only [go_sem]
      refine Next.mk 2 ⟨⟨by omega, by rw [k2]; simp [firstE, c0]⟩, by omega⟩ (by (try simp (disch := first | omega | (simp only [go_sem]; first | done | omega)) only [go_sem]); (first | refine WkL.eq ?_ ?_ | refine WkL.rest (by assumption) ?_ ?_ ?_ | refine WkL.keepL (by assumption) rfl ?_ ?_ ?_ ?_) <;> first | rfl | (simp; done) | (simp; omega) | (simp only [List.cons.injEq, AV.c.injEq, AC.int.injEq, AC.bool.injEq, AC.str.injEq, and_true, true_and, Int.natCast_add, Int.natCast_one, Int.cast_ofNat_Int]; omega) | (simp [AV.ok, AV.ok1, AC.ok]; done) | (simp [AV.ok, AV.ok1, AC.ok]; omega) | (simp only [List.forall_mem_cons, List.not_mem_nil, false_implies, implies_true, and_true]; (repeat' apply And.intro) <;> first | exact okN_map (fun x => by simp [go_sem, AC.pure]) | exact okN_grO (fun x => by simp [go_sem, AC.pure]) | (simp [AObj.okN, AC.ok]; done) | (simp [AObj.okN, AC.ok]; omega)) | (simp [*]; done) | grind)
    · have c0 : ¬ cmpI b y = 0 := of_decide_eq_false c'
      simp (disch := first | omega | (simp only [go_sem]; first | done | omega)) only [go_sem]
      have k3 : firstE [cmpI a x, cmpI b y, cmpI c z] = cmpI b y := by rw [k2]; simp [firstE, c0]
      rw [k3] at hk
      exact Ret.same (Nat.le_refl _) hk
  · simp (disch := first | omega | (simp only [go_sem]; first | done | omega)) only [go_sem]
    refine compare_a c z ?_
    simp (disch := first | omega | (simp only [go_sem]; first | done | omega)) only [go_sem]
    refine acond_b (fun c' => ?_) (fun c' => ?_)
    · have c0 : cmpI c z = 0 := of_decide_eq_true c'
      simp (disch := first | omega | (simp only [go_sem]; first | done | omega)) only [go_sem]
      refine Next.mk 3 ⟨⟨by omega, by rw [k2]; simp [firstE, c0]⟩, by omega⟩ (by (try simp (disch := first | omega | (simp only [go_sem]; first | done | omega)) only [go_sem]); (first | refine WkL.eq ?_ ?_ | refine WkL.rest (by assumption) ?_ ?_ ?_ | refine WkL.keepL (by assumption) rfl ?_ ?_ ?_ ?_) <;> first | rfl | (simp; done) | (simp; omega) | (simp only [List.cons.injEq, AV.c.injEq, AC.int.injEq, AC.bool.injEq, AC.str.injEq, and_true, true_and, Int.natCast_add, Int.natCast_one, Int.cast_ofNat_Int]; omega) | (simp [AV.ok, AV.ok1, AC.ok]; done) | (simp [AV.ok, AV.ok1, AC.ok]; omega) | (simp only [List.forall_mem_cons, List.not_mem_nil, false_implies, implies_true, and_true]; (repeat' apply And.intro) <;> first | exact okN_map (fun x => by simp [go_sem, AC.pure]) | exact okN_grO (fun x => by simp [go_sem, AC.pure]) | (simp [AObj.okN, AC.ok]; done) | (simp [AObj.okN, AC.ok]; omega)) | (simp [*]; done) | grind)
    · have c0 : ¬ cmpI c z = 0 := of_decide_eq_false c'
      simp (disch := first | omega | (simp only [go_sem]; first | done | omega)) only [go_sem]
      have k3 : firstE [cmpI a x, cmpI b y, cmpI c z] = cmpI c z := by rw [k2]; simp [firstE, c0]
      rw [k3] at hk
      exact Ret.same (Nat.le_refl _) hk
  · simp (disch := first | omega | (simp only [go_sem]; first | done | omega)) only [go_sem]
    have k3 : firstE [cmpI a x, cmpI b y, cmpI c z] = 0 := by rw [k2]; rfl
    rw [k3] at hk
    exact Ret.same (Nat.le_refl _) hk
/-- a number's negative is one -/
def inV (x : Smp) : Prop := -9223372036854775807 ≤ x.v ∧ x.v ≤ 9223372036854775807
theorem cmpI_neg (x y : Int) : cmpI (0 - x) (0 - y) = cmpI y x := by
  unfold cmpI
  by_cases h1 : y < x
  · rw [if_pos (by omega), if_pos h1]
  · rw [if_neg (by omega), if_neg h1]
    by_cases h2 : x < y
    · rw [if_pos (by omega), if_pos h2]
    · rw [if_neg (by omega), if_neg h2]
theorem cmpR : CmpA 59 ltM inV where
  he := by kernel_rfl
  hf := fun x y H K hx hy hk => by
    obtain ⟨hx1, hx2⟩ := hx
    obtain ⟨hy1, hy2⟩ := hy
    have hm : firstE [cmpI x.t y.t, cmpI x.q y.q, cmpI (0 - x.v) (0 - y.v)] = momC x y := by rw [cmpI_neg]; rfl
    have hk2 := hk (momC x y) rfl
    rw [← hm] at hk2
    refine acalls Try.func59 rfl (by kernel_rfl) (by simp (disch := first | omega | (simp only [go_sem]; first | done | omega)) only [go_sem]) (fun hH => ?_)
    simp (disch := first | omega | (simp only [go_sem]; first | done | omega)) only [go_sem]
    refine ACalls.lit (i := H.length + 2) (ty := 3) (sz := 1) (els := [[.int .i64 x.t], [.int .i64 x.q], [.int .i64 (0 - x.v)]]) (own := true) (by simp) (by simp [pureL, AC.pure]) (args' := [.c (.lst 1 [[.int .i64 x.t], [.int .i64 x.q], [.int .i64 (0 - x.v)]]), .c (.sl (some (H.length + 3, 0)) 3)]) (by simp [AV.frz1, AC.frz]) ?_
    refine ACalls.lit (i := H.length + 3) (ty := 3) (sz := 1) (els := [[.int .i64 y.t], [.int .i64 y.q], [.int .i64 (0 - y.v)]]) (own := true) (by simp) (by simp [pureL, AC.pure]) (args' := [.c (.lst 1 [[.int .i64 x.t], [.int .i64 x.q], [.int .i64 (0 - x.v)]]), .c (.lst 1 [[.int .i64 y.t], [.int .i64 y.q], [.int .i64 (0 - y.v)]])]) (by simp [AV.frz1, AC.frz]) ?_
    refine cmp3_a _ _ _ _ _ _ ?_
    simp (disch := first | omega | (simp only [go_sem]; first | done | omega)) only [go_sem]
    exact Ret.drop hH (Nat.le_refl _) trivial hk2
end Go.Proofs.Ytmmjphncnnmdaaa
