/- The first time at which nothing is kept: the document's answer; the error of what is asked. Condition: few holds, numbers as those of levels. -/
import Derived.Test.YthgdllfkejlnmaaGreatHVAnswerP
import Derived.Test.YthgdllfkejlnmaaGreatHVGE
namespace Go.Proofs.YthgdllfkejlnmaaGreat
open Go Go.RowKit
set_option maxRecDepth 100000
set_option linter.all false
set_option maxHeartbeats 2000000
variable {H : Hp} {K : AV → Hp → Prop}
theorem answerFault_a (w : Win) (step t : Int) (hk : K (.c (.int .i64 (winA w step t))) H) : ACalls Tryz.prog 23 [.agg (encW w), (.c (.int .i64 step)), (.c (.int .i64 t))] H K := by
  refine acalls Tryz.func23 rfl (by kernel_rfl) (by simp (disch := first | omega | (simp only [go_sem]; first | done | omega)) only [go_sem]) (fun hH => ?_)
  simp (disch := first | omega | (simp only [go_sem]; first | done | omega)) only [go_sem]
  by_cases c4 : w.a < 0 ∨ w.b ≤ w.a ∨ t < w.b ∨ ¬(0 ≤ t ∧ t ≤ 345686399999) ∨ ¬isStep step
  · have e2 : winA w step t = 1 := by unfold winA; rw [if_pos c4]
    rw [e2] at hk
    repeat' (first | ((first | refine acond_d ?_ ?_ | refine acond_b ?_ ?_ | refine ag_d ?_ ?_ | refine ag_n ?_ ?_ | refine ag_bt ?_ ?_ | refine ag_bf ?_ ?_) <;> intro c <;> try simp (disch := first | omega | (simp only [go_sem]; first | done | omega)) only [go_sem, c]) | ((first | refine w_draw (by kernel_rfl) (by decide +kernel) ?_ | refine momentR_a _ _ _ ?_ | refine stepR_a _ _ _ ?_) <;> try simp (disch := first | omega | (simp only [go_sem]; first | done | omega)) only [go_sem]))
    all_goals exact Ret.drop hH (Nat.le_refl _) trivial hk
  have e4 : winA w step t = if w.a % step ≠ 0 ∨ w.b % step ≠ 0 then 16 else 0 := by unfold winA; rw [if_neg c4]
  rw [e4] at hk
  have hw0 : 0 ≤ w.a := by omega
  have hw1 : w.a < w.b := by omega
  have hw2 : w.b ≤ t := by omega
  have ht0 : 0 ≤ t := by omega
  have ht1 : t ≤ 345686399999 := by omega
  have hsp : isStep step := Classical.byContradiction fun h => c4 (.inr (.inr (.inr (.inr h))))
  have hs1 : 1 ≤ step := hsp.1
  have hs2 : step ≤ 86400000 := hsp.2.1
  simp (disch := first | omega | (simp only [go_sem]; first | done | omega)) only [go_sem]
  refine momentR_a _ _ _ ?_
  simp (disch := first | omega | (simp only [go_sem]; first | done | omega)) only [go_sem]
  refine stepR_a _ _ _ ?_
  by_cases d1 : w.a % step = 0
  case neg =>
    rw [if_pos (.inl d1)] at hk
    simp (disch := first | omega | (simp only [go_sem]; first | done | omega)) only [go_sem, hsp, d1]
    exact Ret.drop hH (Nat.le_refl _) trivial hk
  by_cases d2 : w.b % step = 0
  case neg =>
    rw [if_pos (.inr d2)] at hk
    simp (disch := first | omega | (simp only [go_sem]; first | done | omega)) only [go_sem, hsp, d1, d2]
    exact Ret.drop hH (Nat.le_refl _) trivial hk
  rw [if_neg (by rintro (h | h) <;> exact h (by assumption))] at hk
  simp (disch := first | omega | (simp only [go_sem]; first | done | omega)) only [go_sem, hsp, d1, d2]
  exact Ret.drop hH (Nat.le_refl _) trivial hk
theorem heldB_one (x : Hold) (tag : ByteArray) (w0 w1 t : Int) : heldB [x] tag w0 w1 t = hold1 tag w0 w1 t x := by simp [heldB]
theorem heldB_no {h : List Hold} {tag : ByteArray} {w0 w1 t : Int} : heldB h tag w0 w1 t = false ↔ ∀ y ∈ h, hold1 tag w0 w1 t y = false := by
  unfold heldB; rw [List.any_eq_false]; simp
theorem endsOf_a (l : List Level) (h : List Hold) (tag : ByteArray) (m : Int) (hl : l.length ≤ 1000) (hx : ∀ x ∈ l, x.ok) (hlen : h.length ≤ 12) (hht : ∀ y ∈ h, y.t0 < y.t1 ∧ 0 ≤ y.t0 ∧ y.t1 ≤ 345686400000 ∧ 0 ≤ y.made ∧ y.made < y.ends ∧ y.ends ≤ 345686400000) (hm : 0 ≤ m) (hm2 : m ≤ 345686399999)
    (hk : K (.tup [(.c (.int .i64 (if 345686400000 ≤ endsR l (ofF h tag) m then 0 else endsR l (ofF h tag) m))), (.c (.bool (decide (¬345686400000 ≤ endsR l (ofF h tag) m))))]) H) : ACalls Tryz.prog 30 [.c (.lst 2 (l.map encL)), .c (.lst 6 (h.map encH)), (.c (.str tag)), (.c (.int .i64 m))] H K := by
  refine acalls Tryz.func30 rfl (by kernel_rfl) (by simp (disch := first | omega | (simp only [go_sem]; first | done | omega)) only [go_sem]) (fun hH => ?_)
  simp (disch := first | omega | (simp only [go_sem]; first | done | omega)) only [go_sem]
  refine AWp.loop (H.length) [1, 2, 3, 18, 19] [20, 10] (fun (k : Nat) => k ≤ l.length ∧ 0 ≤ endsR (l.take k) (ofF h tag) m ∧ endsR (l.take k) (ofF h tag) m ≤ 3000000000000) (fun (k : Nat) => [(20, (.c (.int .i64 k))), (10, (.c (.int .i64 (endsR (l.take k) (ofF h tag) m))))]) (fun (k : Nat) => H) (fun (k : Nat) => l.length - k) (by kernel_rfl) (fun _ => rfl) (by kernel_rfl) (by simp) (by first | (simp; done) | (simp; omega)) (by (try simp only [List.forall_mem_cons, List.not_mem_nil, false_implies, implies_true, and_true]); (try simp (disch := first | omega | (simp only [go_sem]; first | done | omega)) only [go_sem]); all_goals first | trivial | (simp [AV.ok, AV.ok1, AC.ok]; done) | (simp [AV.ok, AV.ok1, AC.ok]; omega) | (simp [AV.ok, AV.ok1, AC.ok]; assumption) | ((repeat' apply And.intro) <;> first | trivial | (simp [AV.ok, AV.ok1, AC.ok]; done) | (simp [AV.ok, AV.ok1, AC.ok]; omega) | (simp [AV.ok, AV.ok1, AC.ok]; assumption) | (refine grV_ok ?_ _; first | (simp; done) | (simp; omega) | omega))) ?_ (fun k hk0 _ _ => ?_)
  · refine Next.mk 0 ⟨by omega, by simp [endsR], by simp [endsR]⟩ ?_
    (try simp (disch := first | omega | (simp only [go_sem]; first | done | omega)) only [go_sem]); (first | refine WkL.eq ?_ ?_ | refine WkL.rest (by assumption) ?_ ?_ ?_ | refine WkL.keepL (by assumption) rfl ?_ ?_ ?_ ?_) <;> first | rfl | (simp; done) | (simp; omega) | (simp only [List.cons.injEq, AV.c.injEq, AC.int.injEq, AC.bool.injEq, AC.str.injEq, and_true, true_and, Int.natCast_add, Int.natCast_one, Int.cast_ofNat_Int]; omega) | (simp [AV.ok, AV.ok1, AC.ok]; done) | (simp [AV.ok, AV.ok1, AC.ok]; omega) | (simp only [List.forall_mem_cons, List.not_mem_nil, false_implies, implies_true, and_true]; (repeat' apply And.intro) <;> first | exact okN_map (fun x => by simp [go_sem, AC.pure]) | exact okN_grO (fun x => by simp [go_sem, AC.pure]) | (simp [AObj.okN, AC.ok]; done) | (simp [AObj.okN, AC.ok]; omega)) | (simp [*]; done) | grind
  obtain ⟨hk1, hk2, hk3⟩ := hk0
  by_cases hlt : k < l.length
  · have hnx := endsR_next (ofF h tag) m hlt
    have hxk := hx _ (List.getElem_mem hlt)
    have hok := hxk
    obtain ⟨x0, x1, x2, x3⟩ := hxk
    have hiv := ivl_bd l[k] m hok hm (by omega)
    generalize endsR (l.take k) (ofF h tag) m = e at *
    simp (disch := first | omega | (simp only [go_sem]; first | done | omega)) only [go_sem]
    refine intervalR_a l[k] m x0 x1 (by omega) hm ?_
    simp (disch := first | omega | (simp only [go_sem]; first | done | omega)) only [go_sem]
    obtain ⟨w0, hw0⟩ : ∃ w0, w0 = (ivl l[k] m).1 := ⟨_, rfl⟩
    obtain ⟨w1, hw1⟩ : ∃ w1, w1 = (ivl l[k] m).2 := ⟨_, rfl⟩
    rw [← hw0, ← hw1] at hnx hiv ⊢
    obtain ⟨st, hst⟩ : ∃ st, st = w1 + l[k].keep + 1 := ⟨_, rfl⟩
    refine AWp.loop (H.length + 2) [1, 2, 3, 10, 13, 18, 19, 20] [14, 15] (fun (s : Int × Bool) => (st ≤ s.1 ∧ s.1 ≤ 1000000000000) ∧ (∀ u, st ≤ u → u < s.1 → heldB h tag w0 w1 u = true) ∧ (s.2 = false → heldB h tag w0 w1 s.1 = false)) (fun (s : Int × Bool) => [(14, (.c (.int .i64 (s.1)))), (15, (.c (.bool (s.2))))]) (fun (s : Int × Bool) => H ++ [.row 127 2 [encL l[k]] true, .row 35 2 [[.int .i64 w0, .int .i64 w1]] true]) (fun (s : Int × Bool) => (1000000000001 - s.1).toNat * 2 + (if s.2 = true then 1 else 0)) (by kernel_rfl) (fun _ => rfl) (by kernel_rfl) (by simp) (by first | (simp; done) | (simp; omega)) (by (try simp only [List.forall_mem_cons, List.not_mem_nil, false_implies, implies_true, and_true]); (try simp (disch := first | omega | (simp only [go_sem]; first | done | omega)) only [go_sem]); all_goals first | trivial | (simp [AV.ok, AV.ok1, AC.ok]; done) | (simp [AV.ok, AV.ok1, AC.ok]; omega) | (simp [AV.ok, AV.ok1, AC.ok]; assumption) | ((repeat' apply And.intro) <;> first | trivial | (simp [AV.ok, AV.ok1, AC.ok]; done) | (simp [AV.ok, AV.ok1, AC.ok]; omega) | (simp [AV.ok, AV.ok1, AC.ok]; assumption) | (refine grV_ok ?_ _; first | (simp; done) | (simp; omega) | omega))) ?_ (fun s hs _ _ => ?_)
    · refine Next.mk (st, true) ⟨⟨by dsimp only; omega, by dsimp only; omega⟩, fun u h1 h2 => by dsimp only at h2; omega, fun h => by cases h⟩ ?_
      rw [hst]
      (try simp (disch := first | omega | (simp only [go_sem]; first | done | omega)) only [go_sem]); (first | refine WkL.eq ?_ ?_ | refine WkL.rest (by assumption) ?_ ?_ ?_ | refine WkL.keepL (by assumption) rfl ?_ ?_ ?_ ?_) <;> first | rfl | (simp; done) | (simp; omega) | (simp only [List.cons.injEq, AV.c.injEq, AC.int.injEq, AC.bool.injEq, AC.str.injEq, and_true, true_and, Int.natCast_add, Int.natCast_one, Int.cast_ofNat_Int]; omega) | (simp [AV.ok, AV.ok1, AC.ok]; done) | (simp [AV.ok, AV.ok1, AC.ok]; omega) | (simp only [List.forall_mem_cons, List.not_mem_nil, false_implies, implies_true, and_true]; (repeat' apply And.intro) <;> first | exact okN_map (fun x => by simp [go_sem, AC.pure]) | exact okN_grO (fun x => by simp [go_sem, AC.pure]) | (simp [AObj.okN, AC.ok]; done) | (simp [AObj.okN, AC.ok]; omega)) | (simp [*]; done) | grind
    obtain ⟨t0, g0⟩ := s
    obtain ⟨⟨i1, i2⟩, i3, i4⟩ := hs
    dsimp only at i1 i2 i3 i4
    cases g0 with
    | true =>
      simp (disch := first | omega | (simp only [go_sem]; first | done | omega)) only [go_sem]
      refine AWp.loop (H.length + 2) [1, 2, 3, 10, 13, 18, 19, 20, 34, 35] [36, 14, 15] (fun (s : Nat × Int × Bool) => s.1 ≤ h.length ∧ (t0 ≤ s.2.1 ∧ s.2.1 ≤ 1000000000000) ∧ (∀ u, st ≤ u → u < s.2.1 → heldB h tag w0 w1 u = true) ∧ (s.2.2 = false → s.2.1 = t0 ∧ ∀ y ∈ h.take s.1, hold1 tag w0 w1 t0 y = false) ∧ (s.2.2 = true → t0 < s.2.1)) (fun (s : Nat × Int × Bool) => [(36, (.c (.int .i64 (s.1)))), (14, (.c (.int .i64 (s.2.1)))), (15, (.c (.bool (s.2.2))))]) (fun (s : Nat × Int × Bool) => H ++ [.row 127 2 [encL l[k]] true, .row 35 2 [[.int .i64 w0, .int .i64 w1]] true]) (fun (s : Nat × Int × Bool) => h.length - s.1) (by kernel_rfl) (fun _ => rfl) (by kernel_rfl) (by simp) (by first | (simp; done) | (simp; omega)) (by (try simp only [List.forall_mem_cons, List.not_mem_nil, false_implies, implies_true, and_true]); (try simp (disch := first | omega | (simp only [go_sem]; first | done | omega)) only [go_sem]); all_goals first | trivial | (simp [AV.ok, AV.ok1, AC.ok]; done) | (simp [AV.ok, AV.ok1, AC.ok]; omega) | (simp [AV.ok, AV.ok1, AC.ok]; assumption) | ((repeat' apply And.intro) <;> first | trivial | (simp [AV.ok, AV.ok1, AC.ok]; done) | (simp [AV.ok, AV.ok1, AC.ok]; omega) | (simp [AV.ok, AV.ok1, AC.ok]; assumption) | (refine grV_ok ?_ _; first | (simp; done) | (simp; omega) | omega))) ?_ (fun s hs _ _ => ?_)
      · refine Next.mk (0, t0, false) ⟨by dsimp only; omega, ⟨Int.le_refl _, i2⟩, i3, fun _ => ⟨rfl, by simp⟩, fun h => by cases h⟩ ?_
        (try simp (disch := first | omega | (simp only [go_sem]; first | done | omega)) only [go_sem]); (first | refine WkL.eq ?_ ?_ | refine WkL.rest (by assumption) ?_ ?_ ?_ | refine WkL.keepL (by assumption) rfl ?_ ?_ ?_ ?_) <;> first | rfl | (simp; done) | (simp; omega) | (simp only [List.cons.injEq, AV.c.injEq, AC.int.injEq, AC.bool.injEq, AC.str.injEq, and_true, true_and, Int.natCast_add, Int.natCast_one, Int.cast_ofNat_Int]; omega) | (simp [AV.ok, AV.ok1, AC.ok]; done) | (simp [AV.ok, AV.ok1, AC.ok]; omega) | (simp only [List.forall_mem_cons, List.not_mem_nil, false_implies, implies_true, and_true]; (repeat' apply And.intro) <;> first | exact okN_map (fun x => by simp [go_sem, AC.pure]) | exact okN_grO (fun x => by simp [go_sem, AC.pure]) | (simp [AObj.okN, AC.ok]; done) | (simp [AObj.okN, AC.ok]; omega)) | (simp [*]; done) | grind
      obtain ⟨j, t1, g1⟩ := s
      obtain ⟨j1, ⟨j2, j3⟩, j4, j5, j6⟩ := hs
      dsimp only at j1 j2 j3 j4 j5 j6
      by_cases hj : j < h.length
      · have hhj := hht h[j] (List.getElem_mem hj)
        simp (disch := first | omega | (simp only [go_sem]; first | done | omega)) only [go_sem]
        refine ACalls.lit (i := H.length + 3) (ty := 130) (sz := 6) (els := [h[j]].map encH) (own := true) (at3 rfl) (pureL_encH [h[j]]) (args' := [.c (.lst 6 ([h[j]].map encH)), (.c (.str tag)), .agg [.int .i64 w0, .int .i64 w1], (.c (.int .i64 t1))]) (by simp [AV.frz1, AC.frz]) ?_
        refine heldAt_a [h[j]] tag w0 w1 t1 (by simp) ?_
        rw [heldB_one]
        have hsh := stepE_held (y := h[j]) (List.getElem_mem hj) j4
        unfold stepE at hsh
        simp (disch := first | omega | (simp only [go_sem]; first | done | omega)) only [go_sem]
        refine acond_b (fun c => ?_) (fun c => ?_)
        · rw [if_pos c] at hsh
          have hlt1 : t1 < h[j].ends := (of_decide_eq_true c).2.2.2.2
          simp (disch := first | omega | (simp only [go_sem]; first | done | omega)) only [go_sem]
          refine Next.mk (j + 1, h[j].ends, true) ⟨⟨by dsimp only; omega, ⟨by dsimp only; omega, by dsimp only; omega⟩, hsh, fun h => (by cases h), fun _ => (by dsimp only; omega)⟩, by dsimp only; omega⟩ ?_
          (try simp (disch := first | omega | (simp only [go_sem]; first | done | omega)) only [go_sem]); (first | refine WkL.eq ?_ ?_ | refine WkL.rest (by assumption) ?_ ?_ ?_ | refine WkL.keepL (by assumption) rfl ?_ ?_ ?_ ?_) <;> first | rfl | (simp; done) | (simp; omega) | (simp only [List.cons.injEq, AV.c.injEq, AC.int.injEq, AC.bool.injEq, AC.str.injEq, and_true, true_and, Int.natCast_add, Int.natCast_one, Int.cast_ofNat_Int]; omega) | (simp [AV.ok, AV.ok1, AC.ok]; done) | (simp [AV.ok, AV.ok1, AC.ok]; omega) | (simp only [List.forall_mem_cons, List.not_mem_nil, false_implies, implies_true, and_true]; (repeat' apply And.intro) <;> first | exact okN_map (fun x => by simp [go_sem, AC.pure]) | exact okN_grO (fun x => by simp [go_sem, AC.pure]) | (simp [AObj.okN, AC.ok]; done) | (simp [AObj.okN, AC.ok]; omega)) | (simp [*]; done) | grind
        · simp (disch := first | omega | (simp only [go_sem]; first | done | omega)) only [go_sem]
          refine Next.mk (j + 1, t1, g1) ⟨⟨by dsimp only; omega, ⟨j2, j3⟩, j4, fun hg => ?_, j6⟩, by dsimp only; omega⟩ ?_
          · obtain ⟨k1, k2⟩ := j5 hg
            dsimp only at k1 ⊢
            refine ⟨k1, fun y hy => ?_⟩
            rw [List.take_succ_eq_append_getElem hj] at hy
            rcases List.mem_append.1 hy with hy | hy
            · exact k2 y hy
            · simp at hy; subst hy; rw [← k1]; exact c
          · (try simp (disch := first | omega | (simp only [go_sem]; first | done | omega)) only [go_sem]); (first | refine WkL.eq ?_ ?_ | refine WkL.rest (by assumption) ?_ ?_ ?_ | refine WkL.keepL (by assumption) rfl ?_ ?_ ?_ ?_) <;> first | rfl | (simp; done) | (simp; omega) | (simp only [List.cons.injEq, AV.c.injEq, AC.int.injEq, AC.bool.injEq, AC.str.injEq, and_true, true_and, Int.natCast_add, Int.natCast_one, Int.cast_ofNat_Int]; omega) | (simp [AV.ok, AV.ok1, AC.ok]; done) | (simp [AV.ok, AV.ok1, AC.ok]; omega) | (simp only [List.forall_mem_cons, List.not_mem_nil, false_implies, implies_true, and_true]; (repeat' apply And.intro) <;> first | exact okN_map (fun x => by simp [go_sem, AC.pure]) | exact okN_grO (fun x => by simp [go_sem, AC.pure]) | (simp [AObj.okN, AC.ok]; done) | (simp [AObj.okN, AC.ok]; omega)) | (simp [*]; done) | grind
      · have hjl : j = h.length := by omega
        subst hjl
        simp (disch := first | omega | (simp only [go_sem]; first | done | omega)) only [go_sem]
        refine Next.mk (t1, g1) ⟨⟨⟨by dsimp only; omega, j3⟩, j4, fun hg => ?_⟩, ?_⟩ ?_
        · obtain ⟨k1, k2⟩ := j5 hg
          rw [List.take_length] at k2
          dsimp only
          rw [k1]
          exact heldB_no.2 k2
        · cases g1 with
          | true => have := j6 rfl; simp; omega
          | false => have := (j5 rfl).1; simp; omega
        · (try simp (disch := first | omega | (simp only [go_sem]; first | done | omega)) only [go_sem]); (first | refine WkL.eq ?_ ?_ | refine WkL.rest (by assumption) ?_ ?_ ?_ | refine WkL.keepL (by assumption) rfl ?_ ?_ ?_ ?_) <;> first | rfl | (simp; done) | (simp; omega) | (simp only [List.cons.injEq, AV.c.injEq, AC.int.injEq, AC.bool.injEq, AC.str.injEq, and_true, true_and, Int.natCast_add, Int.natCast_one, Int.cast_ofNat_Int]; omega) | (simp [AV.ok, AV.ok1, AC.ok]; done) | (simp [AV.ok, AV.ok1, AC.ok]; omega) | (simp only [List.forall_mem_cons, List.not_mem_nil, false_implies, implies_true, and_true]; (repeat' apply And.intro) <;> first | exact okN_map (fun x => by simp [go_sem, AC.pure]) | exact okN_grO (fun x => by simp [go_sem, AC.pure]) | (simp [AObj.okN, AC.ok]; done) | (simp [AObj.okN, AC.ok]; omega)) | (simp [*]; done) | grind
    | false =>
      have hfin := ends_first (x := l[k]) (by omega) (fun y hy => (hht y hy).1) (by omega) (by rw [← hst]; exact i3) (i4 rfl)
      simp (disch := first | omega | (simp only [go_sem]; first | done | omega)) only [go_sem]
      refine Next.mk (k + 1) ⟨⟨by omega, ?_, ?_⟩, by omega⟩ ?_
      · rw [hnx]; omega
      · rw [hnx]; omega
      · rw [hnx, ← hfin]
        (try simp (disch := first | omega | (simp only [go_sem]; first | done | omega)) only [go_sem]); (first | refine WkL.eq ?_ ?_ | refine WkL.rest (by assumption) ?_ ?_ ?_ | refine WkL.keepL (by assumption) rfl ?_ ?_ ?_ ?_) <;> first | rfl | (simp; done) | (simp; omega) | (simp only [List.cons.injEq, AV.c.injEq, AC.int.injEq, AC.bool.injEq, AC.str.injEq, and_true, true_and, Int.natCast_add, Int.natCast_one, Int.cast_ofNat_Int]; omega) | (simp [AV.ok, AV.ok1, AC.ok]; done) | (simp [AV.ok, AV.ok1, AC.ok]; omega) | (simp only [List.forall_mem_cons, List.not_mem_nil, false_implies, implies_true, and_true]; (repeat' apply And.intro) <;> first | exact okN_map (fun x => by simp [go_sem, AC.pure]) | exact okN_grO (fun x => by simp [go_sem, AC.pure]) | (simp [AObj.okN, AC.ok]; done) | (simp [AObj.okN, AC.ok]; omega)) | (simp [*]; done) | grind
  · rw [List.take_of_length_le (by omega)] at hk2 hk3 ⊢
    generalize endsR l (ofF h tag) m = e at *
    by_cases c : 345686400000 ≤ e
    · rw [if_pos c, decide_eq_false (by simpa using c)] at hk
      simp (disch := first | omega | (simp only [go_sem]; first | done | omega)) only [go_sem, c]
      exact Ret.same (Nat.le_refl _) hk
    · rw [if_neg c, decide_eq_true c] at hk
      simp (disch := first | omega | (simp only [go_sem]; first | done | omega)) only [go_sem, c]
      exact Ret.same (Nat.le_refl _) hk
end Go.Proofs.YthgdllfkejlnmaaGreat
