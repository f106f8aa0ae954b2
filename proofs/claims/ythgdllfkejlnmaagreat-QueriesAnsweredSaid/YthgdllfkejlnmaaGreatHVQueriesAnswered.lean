/- QueriesAnswered: what the law's function answers for all numbers it is given. No condition. -/
import Derived.Test.YthgdllfkejlnmaaGreatHVAnswerR
import Derived.Test.YthgdllfkejlnmaaGreatHVMean
import Derived.Test.YthgdllfkejlnmaaGreatHVGI
import Derived.Test.YthgdllfkejlnmaaGreatHVGE
import Derived.Test.YthgdllfkejlnmaaGreatHVGC
namespace Go.Proofs.YthgdllfkejlnmaaGreat
open Go Go.RowKit
set_option maxRecDepth 100000
set_option linter.all false
set_option maxHeartbeats 4000000
variable {H : Hp} {K : AV → Hp → Prop}
theorem levelListF_a (s : Nat) (zs : List Int) (j : Int) (hs : Str H s zs j) (hj : j ≤ 1000000000)
    (hk : ∀ (lv : List Level) (j' : Int), j ≤ j' → j' ≤ j + 20 → lv.length ≤ 4 → K (.c (.lst 2 (lv.map encL))) (H.set s (strO zs j'))) :
    ACalls Tryz.prog 7 [.c (.ptr (some (s, 0, 0)))] H K := by
  refine ACalls.postR (levelList_o s zs j hs hj (K := fun v G => ∃ lv j', j ≤ j' ∧ j' ≤ j + 20 ∧ lv.length ≤ 4 ∧ v = .c (clV H.length 2 (lv.map encL)) ∧ G = H.set s (strO zs j') ++ [grO 127 2 (lv.map encL)]) (fun lv j' h1 h2 h3 _ => ⟨lv, j', h1, h2, h3, rfl, rfl⟩)) ?_
  rintro hH _ _ ⟨lv, j', h1, h2, h3, rfl, rfl⟩
  have := WkL.frzCl1 (A := H.set s (strO zs j')) (n := H.length) (ty := 127) (sz := 2) (l := lv.map encL) (HOk.str hH) (by simp) (pureL_encL _)
  rw [List.length_set] at this
  exact Ret.wk this (hk lv j' h1 h2 h3)
theorem ok_eq {h : List Hold} {tag : ByteArray} {w : Win} {step t : Int} {x : Level} (hx : x.ok) (hht : ∀ y ∈ h, y.t0 < y.t1) (hw0 : 0 ≤ w.a) (hw1 : w.a < w.b) (hw2 : w.b ≤ 400000000000) : okP (ofF h tag) w step t x = okR h tag w step t x := by
  unfold okP okR
  by_cases hf : fitsL x w step = true
  · rw [hf, Bool.true_and, Bool.true_and]
    have hf2 := of_decide_eq_true hf
    have h0 : 0 ≤ x.step := hx.1
    have hm := fun m (hm : m ∈ momsR x h w t) => momsR_in hw1 hm
    have e : (momsR x h w t).any (fun m => !keepRB x h tag m t) = (momsR x h w t).any (fun m => !keepB x (ofF h tag) m t) := by
      rw [Bool.eq_iff_iff, List.any_eq_true, List.any_eq_true]
      constructor
      · rintro ⟨m, g1, g2⟩
        have := hm m g1
        rw [keep_eq x h tag m t hx (by omega) (by omega) hht] at g2
        exact ⟨m, g1, g2⟩
      · rintro ⟨m, g1, g2⟩
        have := hm m g1
        rw [← keep_eq x h tag m t hx (by omega) (by omega) hht] at g2
        exact ⟨m, g1, g2⟩
    rw [e]
    have p1 := momsP_all (x := x) (h := ofF h tag) (w := w) (t := t) h0 (fun y hy => hht y (List.mem_filter.1 hy).1) hw1 hf2.2.1 hf2.2.2
    have p2 := momsR_all (x := x) (h := h) (h' := ofF h tag) (w := w) (t := t) h0 hht (fun y hy => (List.mem_filter.1 hy).1) hw1 hf2.2.1 hf2.2.2
    rw [Bool.eq_iff_iff, Bool.not_eq_true', Bool.not_eq_true', p1, p2]
  · rw [Bool.not_eq_true] at hf
    rw [hf, Bool.false_and, Bool.false_and]
theorem queriesAnswered_a (zs : List Int) (hz : zs.length ≤ 9223372036854775807) (hk : K (.c (.bool true)) H) : ACalls Tryz.prog 3 [.c (.lst 1 (zs.map encI))] H K := by
  have st : ∀ (k : Int) (L : Hp), 0 ≤ k → k ≤ 1000000000 → Str (H ++ strO zs k :: L) H.length zs k := fun k L h1 h2 => ⟨hz, h1, by omega, by simp⟩
  refine acallsS Tryz.func3 rfl (by simp (disch := first | omega | (simp only [go_sem]; first | done | omega)) only [go_sem]) (fun hH => ?_)
  (refine SWp.go (by kernel_rfl) ?_; simp (disch := first | omega | (simp only [go_sem]; first | done | omega)) only [go_sem])
  (refine SWp.go (by kernel_rfl) ?_; simp (disch := first | omega | (simp only [go_sem]; first | done | omega)) only [go_sem])
  (refine SWp.go (by kernel_rfl) ?_; simp (disch := first | omega | (simp only [go_sem]; first | done | omega)) only [go_sem])
  refine levelListF_a H.length zs 0 (st 0 _ (by omega) (by omega)) (by omega) (fun lv j1 g1 g2 g3 => ?_)
  simp (disch := first | omega | (simp only [go_sem]; first | done | omega)) only [go_sem]
  refine holds_a H.length zs j1 (st _ _ (by omega) (by omega)) (by omega) (fun h j2 g4 g5 g6 g7 => ?_)
  simp (disch := first | omega | (simp only [go_sem]; first | done | omega)) only [go_sem]
  refine some_lit H.length zs j2 [⟨#[116, 97]⟩, ⟨#[116, 97]⟩, ⟨#[116, 98]⟩, ⟨#[65]⟩] (by first | exact at0 (by simp) | exact at1 (by simp) | exact at2 (by simp) | exact at3 (by simp) | exact at4 (by simp) | exact at5 (by simp) | exact atG 6 (by simp) rfl | exact atG 7 (by simp) rfl | exact atG 8 (by simp) rfl | exact atG 9 (by simp) rfl | exact atG 10 (by simp) rfl | exact atG 11 (by simp) rfl | exact atG 12 (by simp) rfl | exact atG 13 (by simp) rfl | exact atG 14 (by simp) rfl | exact atG 15 (by simp) rfl | assumption) rfl rfl (st _ _ (by omega) (by omega)) (by omega) (by simp) (by simp) (fun tag htag => ?_)
  have htg : tag.size ≤ 1000 := by
    have : ∀ x ∈ ([⟨#[116, 97]⟩, ⟨#[116, 97]⟩, ⟨#[116, 98]⟩, ⟨#[65]⟩] : List ByteArray), x.size ≤ 1000 := by decide
    exact this _ htag
  clear htag
  simp (disch := first | omega | (simp only [go_sem]; first | done | omega)) only [go_sem]
  refine aStep_a H.length zs (j2 + 1) (st _ _ (by omega) (by omega)) (by omega) (fun step hstep => ?_)
  have hst2 : -10 ≤ step ∧ step ≤ 172800000 := by simp at hstep; omega
  clear hstep
  simp (disch := first | omega | (simp only [go_sem]; first | done | omega)) only [go_sem]
  refine retainTime_a H.length zs (j2 + 1 + 1) (st _ _ (by omega) (by omega)) (by omega) (fun t ht => ?_)
  have ht2 : -1 ≤ t ∧ t ≤ 345686400000 := by simp at ht; omega
  clear ht
  simp (disch := first | omega | (simp only [go_sem]; first | done | omega)) only [go_sem]
  refine pick_lit H.length zs (j2 + 1 + 1 + 1) [0, 5, 10, 50, 60, 100, 200, -1] (by first | exact at0 (by simp) | exact at1 (by simp) | exact at2 (by simp) | exact at3 (by simp) | exact at4 (by simp) | exact at5 (by simp) | exact atG 6 (by simp) rfl | exact atG 7 (by simp) rfl | exact atG 8 (by simp) rfl | exact atG 9 (by simp) rfl | exact atG 10 (by simp) rfl | exact atG 11 (by simp) rfl | exact atG 12 (by simp) rfl | exact atG 13 (by simp) rfl | exact atG 14 (by simp) rfl | exact atG 15 (by simp) rfl | assumption) rfl rfl (st _ _ (by omega) (by omega)) (by omega) (by simp) (by simp) (fun m hm => ?_)
  have hm2 : -1 ≤ m ∧ m ≤ 200 := by simp at hm; omega
  clear hm
  have g7s : ∀ x ∈ h, x.short := fun x hx => (g7 x hx).1
  have g7n : ∀ x ∈ h, x.near := fun x hx => (g7 x hx).2
  simp (disch := first | omega | (simp only [go_sem]; first | done | omega)) only [go_sem]
  (refine SWp.go (by kernel_rfl) ?_; simp (disch := first | omega | (simp only [go_sem]; first | done | omega)) only [go_sem])
  refine range_a H.length zs (j2 + 1 + 1 + 1 + 1) 0 12 (st _ _ (by omega) (by omega)) (by omega) (by omega) (by omega) (fun r1 r2 r3 => ?_)
  simp (disch := first | omega | (simp only [go_sem]; first | done | omega)) only [go_sem]
  refine range_a H.length zs (j2 + 1 + 1 + 1 + 1 + 1) 5 30 (st _ _ (by omega) (by omega)) (by omega) (by omega) (by omega) (fun r4 r5 r6 => ?_)
  simp (disch := first | omega | (simp only [go_sem]; first | done | omega)) only [go_sem]
  refine SWp.cut (H.length) [] [3, 4, 5, 6, 7, 8, 9, 10] (fun (s : Win × Int) => (-1000000000 ≤ s.1.a ∧ s.1.a ≤ 1000000000 ∧ -1000000000 ≤ s.1.b ∧ s.1.b ≤ 1000000000) ∧ 0 ≤ s.2 ∧ s.2 ≤ 10000) (fun (s : Win × Int) => [(3, .c (.ptr (some (H.length, 0, 0)))), (4, .c (.lst 2 (lv.map encL))), (5, .c (.lst 6 (h.map encH))), (6, (.c (.str tag))), (7, (.c (.int .i64 step))), (8, (.c (.int .i64 t))), (9, (.c (.int .i64 m))), (10, .c (.ptr (some (H.length + 1, 0, 0))))]) (fun (s : Win × Int) => H ++ [strO zs s.2, .row 35 2 [encW s.1] true]) (fun _ => rfl) (by kernel_rfl) (by simp) (by first | (simp; done) | (simp; omega)) (by (try simp only [List.forall_mem_cons, List.not_mem_nil, false_implies, implies_true, and_true]); (try simp (disch := first | omega | (simp only [go_sem]; first | done | omega)) only [go_sem]); all_goals first | trivial | (simp [AV.ok, AV.ok1, AC.ok]; done) | (simp [AV.ok, AV.ok1, AC.ok]; omega) | (simp [AV.ok, AV.ok1, AC.ok]; assumption) | ((repeat' apply And.intro) <;> first | trivial | (simp [AV.ok, AV.ok1, AC.ok]; done) | (simp [AV.ok, AV.ok1, AC.ok]; omega) | (simp [AV.ok, AV.ok1, AC.ok]; assumption) | (refine grV_ok ?_ _; first | (simp; done) | (simp; omega) | omega))) ?_ (fun s hs _ _ => ?_)
  · refine SWp.of (by kernel_rfl) ?_
    simp (disch := first | omega | (simp only [go_sem]; first | done | omega)) only [go_sem]
    refine stepFault_a _ _ step ?_
    by_cases hsp : isStep step
    case neg =>
      rw [if_neg hsp]
      simp (disch := first | omega | (simp only [go_sem]; first | done | omega)) only [go_sem]
      refine Next.mk (⟨10 * r1, 10 * r4⟩, j2 + 1 + 1 + 1 + 1 + 1 + 1) ⟨⟨by dsimp only; omega, by dsimp only; omega, by dsimp only; omega, by dsimp only; omega⟩, by dsimp only; omega, by dsimp only; omega⟩ ?_
      ((try simp (disch := first | omega | (simp only [go_sem]; first | done | omega)) only [go_sem]); (refine WkL.pick [0, 3] ?_ ?_ rfl ?_ ?_ ?_ ?_) <;> first | (simp only [List.map_cons, List.map_nil, av_ren_gr]; (try simp only [AV.ren, AV.ren1, AC.ren, renP]); (try simp only [pickS_add, pickS_zero]); rfl) | (simp only [List.all_cons, List.all_nil, Bool.and_true, Bool.and_eq_true]; (repeat' apply And.intro) <;> first | exact pureO_gr (pureL_map _ (fun x => by simp [go_sem, AC.pure])) | (simp [AObj.pureO, pureL, go_sem, AC.pure]; done)) | assumption | exact HOk.str (by assumption) | (simp; done) | (simp; omega) | (simp [pureO_gr, AObj.pureO, pureL, go_sem, AC.pure]; done) | (simp only [List.all_cons, List.all_nil, Bool.and_true]; exact pureO_gr (pureL_map _ (fun x => by simp [go_sem, AC.pure]))) | ((try simp only [List.map_cons, List.map_nil, av_ren_gr]); simp [AV.ren, AV.ren1, AC.ren, pickS]; first | done | omega) | (simp only [List.forall_mem_cons, List.not_mem_nil, false_implies, implies_true, and_true]; (repeat' apply And.intro) <;> first | trivial | exact grV_ok (by simp) _ | exact okN_grO (fun x => by simp [go_sem, AC.pure]) | exact okN_map (fun x => by simp [go_sem, AC.pure]) | (simp [AV.ok, AV.ok1, AC.ok]; done) | (simp [AV.ok, AV.ok1, AC.ok]; omega) | (simp [AObj.okN, AC.ok]; done)) | (simp [AObj.okN]; done))
    rw [if_pos hsp]
    have hs1 : 1 ≤ step := hsp.1
    have hs2 : step ≤ 86400000 := hsp.2.1
    have m1 := Int.emod_nonneg (10 * r1) (show step ≠ 0 by omega)
    have m2 := Int.emod_lt_of_pos (10 * r1) (show 0 < step by omega)
    have m3 := Int.emod_nonneg (10 * r4) (show step ≠ 0 by omega)
    have m4 := Int.emod_lt_of_pos (10 * r4) (show 0 < step by omega)
    simp (disch := first | omega | (simp only [go_sem]; first | done | omega)) only [go_sem]
    refine flip_a H.length zs (j2 + 1 + 1 + 1 + 1 + 1 + 1) 4 (st _ _ (by omega) (by omega)) (by omega) (by omega) (fun fl => ?_)
    cases fl
    · simp (disch := first | omega | (simp only [go_sem]; first | done | omega)) only [go_sem]
      refine w_draw (by kernel_rfl) (by decide +kernel) ?_
      simp (disch := first | omega | (simp only [go_sem]; first | done | omega)) only [go_sem]
      refine Next.mk (⟨10 * r1 - 10 * r1 % step, 10 * r4 + step - 10 * r4 % step⟩, j2 + 1 + 1 + 1 + 1 + 1 + 1 + 1) ⟨⟨by dsimp only; omega, by dsimp only; omega, by dsimp only; omega, by dsimp only; omega⟩, by dsimp only; omega, by dsimp only; omega⟩ ?_
      ((try simp (disch := first | omega | (simp only [go_sem]; first | done | omega)) only [go_sem]); (refine WkL.pick [0, 3] ?_ ?_ rfl ?_ ?_ ?_ ?_) <;> first | (simp only [List.map_cons, List.map_nil, av_ren_gr]; (try simp only [AV.ren, AV.ren1, AC.ren, renP]); (try simp only [pickS_add, pickS_zero]); rfl) | (simp only [List.all_cons, List.all_nil, Bool.and_true, Bool.and_eq_true]; (repeat' apply And.intro) <;> first | exact pureO_gr (pureL_map _ (fun x => by simp [go_sem, AC.pure])) | (simp [AObj.pureO, pureL, go_sem, AC.pure]; done)) | assumption | exact HOk.str (by assumption) | (simp; done) | (simp; omega) | (simp [pureO_gr, AObj.pureO, pureL, go_sem, AC.pure]; done) | (simp only [List.all_cons, List.all_nil, Bool.and_true]; exact pureO_gr (pureL_map _ (fun x => by simp [go_sem, AC.pure]))) | ((try simp only [List.map_cons, List.map_nil, av_ren_gr]); simp [AV.ren, AV.ren1, AC.ren, pickS]; first | done | omega) | (simp only [List.forall_mem_cons, List.not_mem_nil, false_implies, implies_true, and_true]; (repeat' apply And.intro) <;> first | trivial | exact grV_ok (by simp) _ | exact okN_grO (fun x => by simp [go_sem, AC.pure]) | exact okN_map (fun x => by simp [go_sem, AC.pure]) | (simp [AV.ok, AV.ok1, AC.ok]; done) | (simp [AV.ok, AV.ok1, AC.ok]; omega) | (simp [AObj.okN, AC.ok]; done)) | (simp [AObj.okN]; done))
    · simp (disch := first | omega | (simp only [go_sem]; first | done | omega)) only [go_sem]
      refine Next.mk (⟨10 * r1, 10 * r4⟩, j2 + 1 + 1 + 1 + 1 + 1 + 1 + 1) ⟨⟨by dsimp only; omega, by dsimp only; omega, by dsimp only; omega, by dsimp only; omega⟩, by dsimp only; omega, by dsimp only; omega⟩ ?_
      ((try simp (disch := first | omega | (simp only [go_sem]; first | done | omega)) only [go_sem]); (refine WkL.pick [0, 3] ?_ ?_ rfl ?_ ?_ ?_ ?_) <;> first | (simp only [List.map_cons, List.map_nil, av_ren_gr]; (try simp only [AV.ren, AV.ren1, AC.ren, renP]); (try simp only [pickS_add, pickS_zero]); rfl) | (simp only [List.all_cons, List.all_nil, Bool.and_true, Bool.and_eq_true]; (repeat' apply And.intro) <;> first | exact pureO_gr (pureL_map _ (fun x => by simp [go_sem, AC.pure])) | (simp [AObj.pureO, pureL, go_sem, AC.pure]; done)) | assumption | exact HOk.str (by assumption) | (simp; done) | (simp; omega) | (simp [pureO_gr, AObj.pureO, pureL, go_sem, AC.pure]; done) | (simp only [List.all_cons, List.all_nil, Bool.and_true]; exact pureO_gr (pureL_map _ (fun x => by simp [go_sem, AC.pure]))) | ((try simp only [List.map_cons, List.map_nil, av_ren_gr]); simp [AV.ren, AV.ren1, AC.ren, pickS]; first | done | omega) | (simp only [List.forall_mem_cons, List.not_mem_nil, false_implies, implies_true, and_true]; (repeat' apply And.intro) <;> first | trivial | exact grV_ok (by simp) _ | exact okN_grO (fun x => by simp [go_sem, AC.pure]) | exact okN_map (fun x => by simp [go_sem, AC.pure]) | (simp [AV.ok, AV.ok1, AC.ok]; done) | (simp [AV.ok, AV.ok1, AC.ok]; omega) | (simp [AObj.okN, AC.ok]; done)) | (simp [AObj.okN]; done))
  obtain ⟨w, j3⟩ := s
  obtain ⟨⟨i1, i2, i3, i4⟩, i5, i6⟩ := hs
  dsimp only at i1 i2 i3 i4 i5 i6 ⊢
  (refine SWp.go (by kernel_rfl) ?_; simp (disch := first | omega | (simp only [go_sem]; first | done | omega)) only [go_sem])
  refine binList_a H.length zs j3 step (st _ _ (by omega) (by omega)) (by omega) hst2 (fun b j4 k1 k2 k3 => ?_)
  simp (disch := first | omega | (simp only [go_sem]; first | done | omega)) only [go_sem]
  (refine SWp.go (by kernel_rfl) ?_; simp (disch := first | omega | (simp only [go_sem]; first | done | omega)) only [go_sem])
  refine answer_a lv h tag w step t (by omega) (by omega) g7s g7n htg (by omega) ?_
  simp (disch := first | omega | (simp only [go_sem]; first | done | omega)) only [go_sem]
  (refine SWp.go (by kernel_rfl) ?_; simp (disch := first | omega | (simp only [go_sem]; first | done | omega)) only [go_sem])
  refine sum_a b step w (by omega) ?_
  simp (disch := first | omega | (simp only [go_sem]; first | done | omega)) only [go_sem]
  (refine SWp.go (by kernel_rfl) ?_; simp (disch := first | omega | (simp only [go_sem]; first | done | omega)) only [go_sem])
  refine mean_a b step w (by omega) ?_
  obtain ⟨M, hM⟩ : ∃ M, M = meanRes b step w := ⟨_, rfl⟩
  obtain ⟨f1, f2, hf⟩ : ∃ f1 f2 : Int, M.1 = [.int .i64 f1, .int .i64 f2] := by
    rw [hM]; unfold meanRes frcF
    split
    · exact ⟨_, _, rfl⟩
    · split
      · exact ⟨_, _, rfl⟩
      · exact ⟨_, _, rfl⟩
  rw [← hM, hf]
  simp (disch := first | omega | (simp only [go_sem]; first | done | omega)) only [go_sem]
  (refine SWp.go (by kernel_rfl) ?_; simp (disch := first | omega | (simp only [go_sem]; first | done | omega)) only [go_sem])
  refine ends_a lv h tag m (by omega) (by omega) g7s g7n htg ?_
  simp (disch := first | omega | (simp only [go_sem]; first | done | omega)) only [go_sem]
  obtain ⟨A, hA⟩ : ∃ A, A = ansRes lv h tag w step t := ⟨_, rfl⟩
  obtain ⟨S, hS⟩ : ∃ S, S = sumRes b step w := ⟨_, rfl⟩
  obtain ⟨E, hE⟩ : ∃ E, E = endsRes lv h tag m := ⟨_, rfl⟩
  rw [← hA, ← hS, ← hE]
  obtain ⟨three, h3⟩ : ∃ x, x = firstE [firstE [lvF lv, hdF h, tagE tag], if 0 ≤ m ∧ m ≤ 345686399999 then 0 else 1] := ⟨_, rfl⟩
  obtain ⟨one, h1⟩ : ∃ x, x = ansE lv h tag w step t := ⟨_, rfl⟩
  refine SWp.cut (H.length) [] [4, 5, 6, 7, 8, 9, 10, 11, 12, 13, 14, 15, 16, 17, 18, 19, 20, 21, 22, 23, 24, 25, 26] (fun (s : Unit) => True) (fun (s : Unit) => [(4, .c (.lst 2 (lv.map encL))), (5, .c (.lst 6 (h.map encH))), (6, (.c (.str tag))), (7, (.c (.int .i64 step))), (8, (.c (.int .i64 t))), (9, (.c (.int .i64 m))), (10, .c (.ptr (some (H.length + 1, 0, 0)))), (11, .c (.lst 6 (b.map encN))), (12, (.c (.int .i64 (A.1)))), (13, (.c (.bool (A.2.1)))), (14, (.c (.int .i64 (A.2.2)))), (15, (.c (.int .i64 (S.1)))), (16, (.c (.int .i64 (S.2.1)))), (17, (.c (.int .i64 (S.2.2)))), (18, .c (.ptr (some (H.length + 2, 0, 0)))), (19, (.c (.bool (M.2.1)))), (20, (.c (.int .i64 (M.2.2)))), (21, (.c (.int .i64 (E.1)))), (22, (.c (.bool (E.2.1)))), (23, (.c (.int .i64 (E.2.2)))), (24, (.c (.int .i64 one))), (25, (.c (.int .i64 (bnF b step)))), (26, (.c (.int .i64 three)))]) (fun (s : Unit) => H ++ [strO zs j4, .row 35 2 [encW w] true, .row 46 2 [[.int .i64 f1, .int .i64 f2]] true]) (fun _ => rfl) (by kernel_rfl) (by simp) (by first | (simp; done) | (simp; omega)) (by (try simp only [List.forall_mem_cons, List.not_mem_nil, false_implies, implies_true, and_true]); (try simp (disch := first | omega | (simp only [go_sem]; first | done | omega)) only [go_sem]); all_goals first | trivial | (simp [AV.ok, AV.ok1, AC.ok]; done) | (simp [AV.ok, AV.ok1, AC.ok]; omega) | (simp [AV.ok, AV.ok1, AC.ok]; assumption) | ((repeat' apply And.intro) <;> first | trivial | (simp [AV.ok, AV.ok1, AC.ok]; done) | (simp [AV.ok, AV.ok1, AC.ok]; omega) | (simp [AV.ok, AV.ok1, AC.ok]; assumption) | (refine grV_ok ?_ _; first | (simp; done) | (simp; omega) | omega))) ?_ (fun s hs _ _ => ?_)
  · refine SWp.of (by kernel_rfl) ?_
    simp (disch := first | omega | (simp only [go_sem]; first | done | omega)) only [go_sem]
    repeat' (first | ((first | refine acond_d ?_ ?_ | refine acond_b ?_ ?_ | refine ag_d ?_ ?_ | refine ag_n ?_ ?_ | refine ag_bt ?_ ?_ | refine ag_bf ?_ ?_ | refine agt_d ?_ ?_ | refine agt_n ?_ ?_ | refine agt_bt ?_ ?_ | refine agt_bf ?_ ?_) <;> intro c <;> try simp (disch := first | omega | (simp only [go_sem]; first | done | omega)) only [go_sem, c]) | ((first | refine w_draw (by kernel_rfl) (by decide +kernel) ?_ | refine rulesFault_a lv h tag (by omega) (by omega) g7s htg ?_ | refine answerFault_a w step t ?_ | refine errs_lit (firstE [lvF lv, hdF h, tagE tag]) (winA w step t) (by first | exact at0 (by simp) | exact at1 (by simp) | exact at2 (by simp) | exact at3 (by simp) | exact at4 (by simp) | exact at5 (by simp) | exact atG 6 (by simp) rfl | exact atG 7 (by simp) rfl | exact atG 8 (by simp) rfl | exact atG 9 (by simp) rfl | exact atG 10 (by simp) rfl | exact atG 11 (by simp) rfl | exact atG 12 (by simp) rfl | exact atG 13 (by simp) rfl | exact atG 14 (by simp) rfl | exact atG 15 (by simp) rfl | assumption) rfl rfl ?_ | refine binsFault_a b step (by omega) ?_ | refine momentFaultR_a m ?_ | refine errs_lit (firstE [lvF lv, hdF h, tagE tag]) (if 0 ≤ m ∧ m ≤ 345686399999 then 0 else 1) (by first | exact at0 (by simp) | exact at1 (by simp) | exact at2 (by simp) | exact at3 (by simp) | exact at4 (by simp) | exact at5 (by simp) | exact atG 6 (by simp) rfl | exact atG 7 (by simp) rfl | exact atG 8 (by simp) rfl | exact atG 9 (by simp) rfl | exact atG 10 (by simp) rfl | exact atG 11 (by simp) rfl | exact atG 12 (by simp) rfl | exact atG 13 (by simp) rfl | exact atG 14 (by simp) rfl | exact atG 15 (by simp) rfl | assumption) rfl rfl ?_ | refine w_tree (.one 0 (.one 1 (.one 2 (.one 5 (.one 6 (.one 10 (.one 11 (.one 13 (.one 14 (.one 15 (.one 17 (.two 3 (.one 4 (.one 7 (.one 8 (.one 9 (.one 12 (.one 16 (.one 18 (.one 19 (.one 20 (.one 21 (.one 22 (.one 23 .done)))))))))))) 4 (.one 3 (.one 7 (.one 8 (.one 9 (.one 12 (.one 16 (.one 18 (.one 19 (.one 20 (.one 21 (.one 22 (.one 23 .done)))))))))))))))))))))))) (by kernel_rfl) (by decide +kernel) ?_) <;> try simp (disch := first | omega | (simp only [go_sem]; first | done | omega)) only [go_sem]) | (refine And.intro ?_ ?_ <;> try simp (disch := first | omega | (simp only [go_sem]; first | done | omega)) only [go_sem]))
    all_goals
      refine Next.mk () trivial ?_
      rw [h1, h3]
      unfold ansE
      (try simp (disch := first | omega | (simp only [go_sem]; first | done | omega)) only [go_sem]); (first | refine WkL.eq ?_ ?_ | refine WkL.rest (by assumption) ?_ ?_ ?_ | refine WkL.keepL (by assumption) rfl ?_ ?_ ?_ ?_) <;> first | rfl | (simp; done) | (simp; omega) | (simp only [List.cons.injEq, AV.c.injEq, AC.int.injEq, AC.bool.injEq, AC.str.injEq, and_true, true_and, Int.natCast_add, Int.natCast_one, Int.cast_ofNat_Int]; omega) | (simp [AV.ok, AV.ok1, AC.ok]; done) | (simp [AV.ok, AV.ok1, AC.ok]; omega) | (simp only [List.forall_mem_cons, List.not_mem_nil, false_implies, implies_true, and_true]; (repeat' apply And.intro) <;> first | exact okN_map (fun x => by simp [go_sem, AC.pure]) | exact okN_grO (fun x => by simp [go_sem, AC.pure]) | (simp [AObj.okN, AC.ok]; done) | (simp [AObj.okN, AC.ok]; omega)) | (simp [*]; done) | grind
  clear hs s
  have eS : S.2.2 = sumE b step w := by
    rw [hS]; unfold sumRes
    by_cases c : sumE b step w = 0
    · rw [if_neg (by rw [c]; decide), c]
    · rw [if_pos c]
  have eM : M.2.2 = sumE b step w := by
    rw [hM]; unfold meanRes
    by_cases c : sumE b step w = 0
    · rw [if_neg (by rw [c]; decide), c]; split <;> rfl
    · rw [if_pos c]
  have eA : A.2.2 = one := by
    rw [hA, h1]; unfold ansRes
    by_cases c : ansE lv h tag w step t = 0
    · rw [if_neg (by rw [c]; decide), c]
    · rw [if_pos c]
  have eE : E.2.2 = three := by
    rw [hE, h3, firstE_2]; unfold endsRes
    by_cases c : firstE [lvF lv, hdF h, tagE tag] = 0
    · rw [if_neg (by rw [c]; decide), if_pos c]
      by_cases c2 : 0 ≤ m ∧ m ≤ 345686399999
      · rw [if_neg (by simpa using c2), if_pos c2]; split <;> rfl
      · rw [if_pos c2, if_neg c2]
    · rw [if_pos c, if_neg c]
  refine SWp.cut (H.length + 3) [4, 5, 6, 7, 8, 9, 10, 11, 12, 13, 14, 15, 16, 17, 18, 19, 20, 21, 22, 23, 24, 26] [25] (fun (s : Unit) => True) (fun (s : Unit) => [(25, (.c (.int .i64 (sumE b step w))))]) (fun (s : Unit) => H ++ [strO zs j4, .row 35 2 [encW w] true, .row 46 2 [[.int .i64 f1, .int .i64 f2]] true]) (fun _ => rfl) (by kernel_rfl) (by simp) (by first | (simp; done) | (simp; omega)) (by (try simp only [List.forall_mem_cons, List.not_mem_nil, false_implies, implies_true, and_true]); (try simp (disch := first | omega | (simp only [go_sem]; first | done | omega)) only [go_sem]); all_goals first | trivial | (simp [AV.ok, AV.ok1, AC.ok]; done) | (simp [AV.ok, AV.ok1, AC.ok]; omega) | (simp [AV.ok, AV.ok1, AC.ok]; assumption) | ((repeat' apply And.intro) <;> first | trivial | (simp [AV.ok, AV.ok1, AC.ok]; done) | (simp [AV.ok, AV.ok1, AC.ok]; omega) | (simp [AV.ok, AV.ok1, AC.ok]; assumption) | (refine grV_ok ?_ _; first | (simp; done) | (simp; omega) | omega))) ?_ (fun s hs _ _ => ?_)
  · refine SWp.of (by kernel_rfl) ?_
    simp (disch := first | omega | (simp only [go_sem]; first | done | omega)) only [go_sem]
    by_cases c : bnF b step = 0
    case neg =>
      have e : sumE b step w = bnF b step := by unfold sumE; rw [if_pos c]
      simp (disch := first | omega | (simp only [go_sem]; first | done | omega)) only [go_sem, c]
      refine Next.mk () trivial ?_
      rw [e]
      (try simp (disch := first | omega | (simp only [go_sem]; first | done | omega)) only [go_sem]); (first | refine WkL.eq ?_ ?_ | refine WkL.rest (by assumption) ?_ ?_ ?_ | refine WkL.keepL (by assumption) rfl ?_ ?_ ?_ ?_) <;> first | rfl | (simp; done) | (simp; omega) | (simp only [List.cons.injEq, AV.c.injEq, AC.int.injEq, AC.bool.injEq, AC.str.injEq, and_true, true_and, Int.natCast_add, Int.natCast_one, Int.cast_ofNat_Int]; omega) | (simp [AV.ok, AV.ok1, AC.ok]; done) | (simp [AV.ok, AV.ok1, AC.ok]; omega) | (simp only [List.forall_mem_cons, List.not_mem_nil, false_implies, implies_true, and_true]; (repeat' apply And.intro) <;> first | exact okN_map (fun x => by simp [go_sem, AC.pure]) | exact okN_grO (fun x => by simp [go_sem, AC.pure]) | (simp [AObj.okN, AC.ok]; done) | (simp [AObj.okN, AC.ok]; omega)) | (simp [*]; done) | grind
    have hb := bnF_ok c
    have e : sumE b step w = (if winE w ≠ 0 then 1 else if w.a % step ≠ 0 ∨ (w.b % step ≠ 0 ∧ w.b ≠ 345686400000) then 16 else 0) := by unfold sumE; rw [if_neg (by rw [c]; decide)]
    simp (disch := first | omega | (simp only [go_sem]; first | done | omega)) only [go_sem, c]
    refine sumFault_a step w hb.1 ?_
    rw [← e]
    simp (disch := first | omega | (simp only [go_sem]; first | done | omega)) only [go_sem]
    refine Next.mk () trivial ?_
    (try simp (disch := first | omega | (simp only [go_sem]; first | done | omega)) only [go_sem]); (first | refine WkL.eq ?_ ?_ | refine WkL.rest (by assumption) ?_ ?_ ?_ | refine WkL.keepL (by assumption) rfl ?_ ?_ ?_ ?_) <;> first | rfl | (simp; done) | (simp; omega) | (simp only [List.cons.injEq, AV.c.injEq, AC.int.injEq, AC.bool.injEq, AC.str.injEq, and_true, true_and, Int.natCast_add, Int.natCast_one, Int.cast_ofNat_Int]; omega) | (simp [AV.ok, AV.ok1, AC.ok]; done) | (simp [AV.ok, AV.ok1, AC.ok]; omega) | (simp only [List.forall_mem_cons, List.not_mem_nil, false_implies, implies_true, and_true]; (repeat' apply And.intro) <;> first | exact okN_map (fun x => by simp [go_sem, AC.pure]) | exact okN_grO (fun x => by simp [go_sem, AC.pure]) | (simp [AObj.okN, AC.ok]; done) | (simp [AObj.okN, AC.ok]; omega)) | (simp [*]; done) | grind
  clear hs s
  (refine SWp.go (by kernel_rfl) ?_; simp (disch := first | omega | (simp only [go_sem]; first | done | omega)) only [go_sem])
  (refine SWp.go (by kernel_rfl) ?_; simp (disch := first | omega | (simp only [go_sem]; first | done | omega)) only [go_sem])
  refine SWp.cut (H.length + 4) [4, 5, 6, 7, 8, 9, 10, 11, 12, 13, 14, 15, 16, 17, 18, 19, 20, 21, 22, 23, 24, 25, 26, 28, 29, 30, 32, 33, 34] [27, 31] (fun (s : Unit) => True) (fun (s : Unit) => [(27, (.c (.int .i64 (A.1)))), (31, (.c (.bool (A.2.1))))]) (fun (s : Unit) => H ++ [strO zs j4, .row 35 2 [encW w] true, .row 46 2 [[.int .i64 f1, .int .i64 f2]] true, .row 46 2 [[.int .i64 0, .int .i64 0]] true]) (fun _ => rfl) (by kernel_rfl) (by simp) (by first | (simp; done) | (simp; omega)) (by (try simp only [List.forall_mem_cons, List.not_mem_nil, false_implies, implies_true, and_true]); (try simp (disch := first | omega | (simp only [go_sem]; first | done | omega)) only [go_sem]); all_goals first | trivial | (simp [AV.ok, AV.ok1, AC.ok]; done) | (simp [AV.ok, AV.ok1, AC.ok]; omega) | (simp [AV.ok, AV.ok1, AC.ok]; assumption) | ((repeat' apply And.intro) <;> first | trivial | (simp [AV.ok, AV.ok1, AC.ok]; done) | (simp [AV.ok, AV.ok1, AC.ok]; omega) | (simp [AV.ok, AV.ok1, AC.ok]; assumption) | (refine grV_ok ?_ _; first | (simp; done) | (simp; omega) | omega))) ?_ (fun s hs _ _ => ?_)
  · refine SWp.of (by kernel_rfl) ?_
    simp (disch := first | omega | (simp only [go_sem]; first | done | omega)) only [go_sem]
    by_cases c : one = 0
    case neg =>
      have e : A = (0, false, one) := by rw [hA, h1]; unfold ansRes; rw [if_pos (by rw [← h1]; exact c)]
      rw [e]
      simp (disch := first | omega | (simp only [go_sem]; first | done | omega)) only [go_sem, c]
      refine Next.mk () trivial ?_
      (try simp (disch := first | omega | (simp only [go_sem]; first | done | omega)) only [go_sem]); (first | refine WkL.eq ?_ ?_ | refine WkL.rest (by assumption) ?_ ?_ ?_ | refine WkL.keepL (by assumption) rfl ?_ ?_ ?_ ?_) <;> first | rfl | (simp; done) | (simp; omega) | (simp only [List.cons.injEq, AV.c.injEq, AC.int.injEq, AC.bool.injEq, AC.str.injEq, and_true, true_and, Int.natCast_add, Int.natCast_one, Int.cast_ofNat_Int]; omega) | (simp [AV.ok, AV.ok1, AC.ok]; done) | (simp [AV.ok, AV.ok1, AC.ok]; omega) | (simp only [List.forall_mem_cons, List.not_mem_nil, false_implies, implies_true, and_true]; (repeat' apply And.intro) <;> first | exact okN_map (fun x => by simp [go_sem, AC.pure]) | exact okN_grO (fun x => by simp [go_sem, AC.pure]) | (simp [AObj.okN, AC.ok]; done) | (simp [AObj.okN, AC.ok]; omega)) | (simp [*]; done) | grind
    rw [h1] at c
    unfold ansE at c
    obtain ⟨c1, c2⟩ := firstE_two c
    obtain ⟨c3, c4, c5⟩ := firstE_three c1
    have hx := (lvF_ok c3).1
    have hht := hdF_times c4
    have c6 : ¬(w.a < 0 ∨ w.b ≤ w.a ∨ t < w.b ∨ ¬(0 ≤ t ∧ t ≤ 345686399999) ∨ ¬isStep step) := by
      intro h; unfold winA at c2; rw [if_pos h] at c2; cases c2
    have hsp : isStep step := Classical.byContradiction fun h => c6 (.inr (.inr (.inr (.inr h))))
    have eA2 : A = ((ansGo (fun k : Nat => (lv[k]?).any (okR h tag w step t)) lv.length).1, (ansGo (fun k : Nat => (lv[k]?).any (okR h tag w step t)) lv.length).2, 0) := by
      rw [hA]; unfold ansRes ansE
      rw [if_neg (by rw [c]; decide)]
      have ep : (fun k : Nat => (lv[k]?).any (okP (ofF h tag) w step t)) = (fun k : Nat => (lv[k]?).any (okR h tag w step t)) := by
        funext k
        cases hk2 : lv[k]? with
        | none => rfl
        | some x => exact ok_eq (hx x (List.mem_of_getElem? hk2)) (fun y hy => (hht y hy).1) (by omega) (by omega) (by omega)
      rw [ep]
    have c7 : one = 0 := by rw [h1]; exact c
    simp (disch := first | omega | (simp only [go_sem]; first | done | omega)) only [go_sem, c7]
    refine answerOf_a lv h tag w step t (by omega) hx (by omega) g7n hht (by omega) (by omega) (by omega) (by omega) hsp.1 hsp.2.1 ?_
    simp (disch := first | omega | (simp only [go_sem]; first | done | omega)) only [go_sem]
    refine Next.mk () trivial ?_
    rw [eA2]
    (try simp (disch := first | omega | (simp only [go_sem]; first | done | omega)) only [go_sem]); (first | refine WkL.eq ?_ ?_ | refine WkL.rest (by assumption) ?_ ?_ ?_ | refine WkL.keepL (by assumption) rfl ?_ ?_ ?_ ?_) <;> first | rfl | (simp; done) | (simp; omega) | (simp only [List.cons.injEq, AV.c.injEq, AC.int.injEq, AC.bool.injEq, AC.str.injEq, and_true, true_and, Int.natCast_add, Int.natCast_one, Int.cast_ofNat_Int]; omega) | (simp [AV.ok, AV.ok1, AC.ok]; done) | (simp [AV.ok, AV.ok1, AC.ok]; omega) | (simp only [List.forall_mem_cons, List.not_mem_nil, false_implies, implies_true, and_true]; (repeat' apply And.intro) <;> first | exact okN_map (fun x => by simp [go_sem, AC.pure]) | exact okN_grO (fun x => by simp [go_sem, AC.pure]) | (simp [AObj.okN, AC.ok]; done) | (simp [AObj.okN, AC.ok]; omega)) | (simp [*]; done) | grind
  clear hs s
  refine SWp.cut (H.length + 3) [4, 5, 6, 7, 8, 9, 10, 11, 12, 13, 14, 15, 16, 17, 18, 19, 20, 21, 22, 23, 24, 25, 26, 27, 30, 31, 33] [28, 29, 32, 34] (fun (s : Unit) => True) (fun (s : Unit) => [(28, (.c (.int .i64 (S.1)))), (29, (.c (.int .i64 (S.2.1)))), (32, (.c (.bool (M.2.1)))), (34, .c (.ptr (some (H.length + 3, 0, 0))))]) (fun (s : Unit) => H ++ [strO zs j4, .row 35 2 [encW w] true, .row 46 2 [[.int .i64 f1, .int .i64 f2]] true, .row 46 2 [[.int .i64 f1, .int .i64 f2]] true]) (fun _ => rfl) (by kernel_rfl) (by simp) (by first | (simp; done) | (simp; omega)) (by (try simp only [List.forall_mem_cons, List.not_mem_nil, false_implies, implies_true, and_true]); (try simp (disch := first | omega | (simp only [go_sem]; first | done | omega)) only [go_sem]); all_goals first | trivial | (simp [AV.ok, AV.ok1, AC.ok]; done) | (simp [AV.ok, AV.ok1, AC.ok]; omega) | (simp [AV.ok, AV.ok1, AC.ok]; assumption) | ((repeat' apply And.intro) <;> first | trivial | (simp [AV.ok, AV.ok1, AC.ok]; done) | (simp [AV.ok, AV.ok1, AC.ok]; omega) | (simp [AV.ok, AV.ok1, AC.ok]; assumption) | (refine grV_ok ?_ _; first | (simp; done) | (simp; omega) | omega))) ?_ (fun s hs _ _ => ?_)
  · refine SWp.of (by kernel_rfl) ?_
    simp (disch := first | omega | (simp only [go_sem]; first | done | omega)) only [go_sem]
    by_cases c : sumE b step w = 0
    case neg =>
      have e : S = (0, 0, sumE b step w) := by rw [hS]; unfold sumRes; rw [if_pos c]
      have e2 : M = ([.int .i64 0, .int .i64 0], false, sumE b step w) := by rw [hM]; unfold meanRes; rw [if_pos c]
      have e3 : f1 = 0 ∧ f2 = 0 := by rw [e2] at hf; simp at hf; omega
      rw [e, e2, e3.1, e3.2]
      simp (disch := first | omega | (simp only [go_sem]; first | done | omega)) only [go_sem, c]
      refine Next.mk () trivial ?_
      (try simp (disch := first | omega | (simp only [go_sem]; first | done | omega)) only [go_sem]); (first | refine WkL.eq ?_ ?_ | refine WkL.rest (by assumption) ?_ ?_ ?_ | refine WkL.keepL (by assumption) rfl ?_ ?_ ?_ ?_) <;> first | rfl | (simp; done) | (simp; omega) | (simp only [List.cons.injEq, AV.c.injEq, AC.int.injEq, AC.bool.injEq, AC.str.injEq, and_true, true_and, Int.natCast_add, Int.natCast_one, Int.cast_ofNat_Int]; omega) | (simp [AV.ok, AV.ok1, AC.ok]; done) | (simp [AV.ok, AV.ok1, AC.ok]; omega) | (simp only [List.forall_mem_cons, List.not_mem_nil, false_implies, implies_true, and_true]; (repeat' apply And.intro) <;> first | exact okN_map (fun x => by simp [go_sem, AC.pure]) | exact okN_grO (fun x => by simp [go_sem, AC.pure]) | (simp [AObj.okN, AC.ok]; done) | (simp [AObj.okN, AC.ok]; omega)) | (simp [*]; done) | grind
    have hb : bnF b step = 0 := by
      unfold sumE at c
      split at c
      · exact c
      · rename_i h; simpa using h
    have hbr := (bnF_ok hb).2.2
    have e : S = (((inB b w).map (fun x => x.s)).sum, ((inB b w).map (fun x => x.n)).sum, 0) := by rw [hS]; unfold sumRes; rw [if_neg (by rw [c]; decide)]
    have e2 : M = ((if ((inB b w).map (fun x => x.n)).sum = 0 then [.int .i64 0, .int .i64 0] else frcF ((inB b w).map (fun x => x.s)).sum ((inB b w).map (fun x => x.n)).sum), decide (¬((inB b w).map (fun x => x.n)).sum = 0), 0) := by
      rw [hM]; unfold meanRes
      rw [if_neg (by rw [c]; decide), ← hS, e]
      dsimp only
      by_cases c8 : ((inB b w).map (fun x => x.n)).sum = 0
      · rw [if_pos c8, if_pos c8, decide_eq_false (by simpa using c8)]
      · rw [if_neg c8, if_neg c8, decide_eq_true c8]
    have e3 : (if ((inB b w).map (fun x => x.n)).sum = 0 then [.int .i64 0, .int .i64 0] else frcF ((inB b w).map (fun x => x.s)).sum ((inB b w).map (fun x => x.n)).sum) = [.int .i64 f1, .int .i64 f2] := by rw [e2] at hf; exact hf
    simp (disch := first | omega | (simp only [go_sem]; first | done | omega)) only [go_sem, c]
    refine sumOf_a b w (by omega) hbr ?_
    simp (disch := first | omega | (simp only [go_sem]; first | done | omega)) only [go_sem]
    refine meanOf_a b w (by omega) hbr ?_
    rw [e3]
    simp (disch := first | omega | (simp only [go_sem]; first | done | omega)) only [go_sem]
    refine Next.mk () trivial ?_
    rw [e, e2]
    (try simp (disch := first | omega | (simp only [go_sem]; first | done | omega)) only [go_sem]); (first | refine WkL.eq ?_ ?_ | refine WkL.rest (by assumption) ?_ ?_ ?_ | refine WkL.keepL (by assumption) rfl ?_ ?_ ?_ ?_) <;> first | rfl | (simp; done) | (simp; omega) | (simp only [List.cons.injEq, AV.c.injEq, AC.int.injEq, AC.bool.injEq, AC.str.injEq, and_true, true_and, Int.natCast_add, Int.natCast_one, Int.cast_ofNat_Int]; omega) | (simp [AV.ok, AV.ok1, AC.ok]; done) | (simp [AV.ok, AV.ok1, AC.ok]; omega) | (simp only [List.forall_mem_cons, List.not_mem_nil, false_implies, implies_true, and_true]; (repeat' apply And.intro) <;> first | exact okN_map (fun x => by simp [go_sem, AC.pure]) | exact okN_grO (fun x => by simp [go_sem, AC.pure]) | (simp [AObj.okN, AC.ok]; done) | (simp [AObj.okN, AC.ok]; omega)) | (simp [*]; done) | grind
  clear hs s
  refine SWp.cut (H.length + 4) [4, 5, 6, 7, 8, 9, 10, 11, 12, 13, 14, 15, 16, 17, 18, 19, 20, 21, 22, 23, 24, 25, 26, 27, 28, 29, 31, 32, 34] [30, 33] (fun (s : Unit) => True) (fun (s : Unit) => [(30, (.c (.int .i64 (E.1)))), (33, (.c (.bool (E.2.1))))]) (fun (s : Unit) => H ++ [strO zs j4, .row 35 2 [encW w] true, .row 46 2 [[.int .i64 f1, .int .i64 f2]] true, .row 46 2 [[.int .i64 f1, .int .i64 f2]] true]) (fun _ => rfl) (by kernel_rfl) (by simp) (by first | (simp; done) | (simp; omega)) (by (try simp only [List.forall_mem_cons, List.not_mem_nil, false_implies, implies_true, and_true]); (try simp (disch := first | omega | (simp only [go_sem]; first | done | omega)) only [go_sem]); all_goals first | trivial | (simp [AV.ok, AV.ok1, AC.ok]; done) | (simp [AV.ok, AV.ok1, AC.ok]; omega) | (simp [AV.ok, AV.ok1, AC.ok]; assumption) | ((repeat' apply And.intro) <;> first | trivial | (simp [AV.ok, AV.ok1, AC.ok]; done) | (simp [AV.ok, AV.ok1, AC.ok]; omega) | (simp [AV.ok, AV.ok1, AC.ok]; assumption) | (refine grV_ok ?_ _; first | (simp; done) | (simp; omega) | omega))) ?_ (fun s hs _ _ => ?_)
  · refine SWp.of (by kernel_rfl) ?_
    simp (disch := first | omega | (simp only [go_sem]; first | done | omega)) only [go_sem]
    by_cases c : three = 0
    case neg =>
      have e : E = (0, false, three) := by
        rw [h3, firstE_2] at c
        rw [hE, h3, firstE_2]; unfold endsRes
        by_cases c8 : firstE [lvF lv, hdF h, tagE tag] = 0
        · rw [if_pos c8] at c ⊢
          rw [if_neg (by rw [c8]; decide)]
          by_cases c9 : 0 ≤ m ∧ m ≤ 345686399999
          · rw [if_pos c9] at c; exact absurd rfl c
          · rw [if_pos c9, if_neg c9]
        · rw [if_pos c8, if_neg c8]
      rw [e]
      simp (disch := first | omega | (simp only [go_sem]; first | done | omega)) only [go_sem, c]
      refine Next.mk () trivial ?_
      (try simp (disch := first | omega | (simp only [go_sem]; first | done | omega)) only [go_sem]); (first | refine WkL.eq ?_ ?_ | refine WkL.rest (by assumption) ?_ ?_ ?_ | refine WkL.keepL (by assumption) rfl ?_ ?_ ?_ ?_) <;> first | rfl | (simp; done) | (simp; omega) | (simp only [List.cons.injEq, AV.c.injEq, AC.int.injEq, AC.bool.injEq, AC.str.injEq, and_true, true_and, Int.natCast_add, Int.natCast_one, Int.cast_ofNat_Int]; omega) | (simp [AV.ok, AV.ok1, AC.ok]; done) | (simp [AV.ok, AV.ok1, AC.ok]; omega) | (simp only [List.forall_mem_cons, List.not_mem_nil, false_implies, implies_true, and_true]; (repeat' apply And.intro) <;> first | exact okN_map (fun x => by simp [go_sem, AC.pure]) | exact okN_grO (fun x => by simp [go_sem, AC.pure]) | (simp [AObj.okN, AC.ok]; done) | (simp [AObj.okN, AC.ok]; omega)) | (simp [*]; done) | grind
    rw [h3] at c
    obtain ⟨c1, c2⟩ := firstE_two c
    obtain ⟨c3, c4, c5⟩ := firstE_three c1
    have hx := (lvF_ok c3).1
    have hht := hdF_times c4
    have c9 : 0 ≤ m ∧ m ≤ 345686399999 := Classical.byContradiction fun h => by rw [if_neg h] at c2; cases c2
    have c7 : three = 0 := by rw [h3]; exact c
    have er := endsR_eq (h := ofF h tag) (m := m) c3 c9.1 (by omega) (fun y hy => g7n y (List.mem_filter.1 hy).1)
    simp (disch := first | omega | (simp only [go_sem]; first | done | omega)) only [go_sem, c7]
    refine endsOf_a lv h tag m (by omega) hx (by omega) hht c9.1 c9.2 ?_
    have e : E = (if 345686400000 ≤ endsR lv (ofF h tag) m then 0 else endsR lv (ofF h tag) m, decide (¬345686400000 ≤ endsR lv (ofF h tag) m), 0) := by
      rw [hE]; unfold endsRes
      rw [if_neg (by rw [c1]; decide), if_neg (by simpa using c9), er]
      by_cases c10 : 345686399999 ≤ endsLast lv (ofF h tag) m
      · rw [if_pos c10, if_pos (by omega), decide_eq_false (by omega)]
      · rw [if_neg c10, if_neg (by omega), decide_eq_true (by omega)]
    rw [e]
    simp (disch := first | omega | (simp only [go_sem]; first | done | omega)) only [go_sem]
    refine Next.mk () trivial ?_
    (try simp (disch := first | omega | (simp only [go_sem]; first | done | omega)) only [go_sem]); (first | refine WkL.eq ?_ ?_ | refine WkL.rest (by assumption) ?_ ?_ ?_ | refine WkL.keepL (by assumption) rfl ?_ ?_ ?_ ?_) <;> first | rfl | (simp; done) | (simp; omega) | (simp only [List.cons.injEq, AV.c.injEq, AC.int.injEq, AC.bool.injEq, AC.str.injEq, and_true, true_and, Int.natCast_add, Int.natCast_one, Int.cast_ofNat_Int]; omega) | (simp [AV.ok, AV.ok1, AC.ok]; done) | (simp [AV.ok, AV.ok1, AC.ok]; omega) | (simp only [List.forall_mem_cons, List.not_mem_nil, false_implies, implies_true, and_true]; (repeat' apply And.intro) <;> first | exact okN_map (fun x => by simp [go_sem, AC.pure]) | exact okN_grO (fun x => by simp [go_sem, AC.pure]) | (simp [AObj.okN, AC.ok]; done) | (simp [AObj.okN, AC.ok]; omega)) | (simp [*]; done) | grind
  clear hs s
  refine SWp.of (by kernel_rfl) ?_
  rw [eS, eM, eA, eE]
  simp (disch := first | omega | (simp only [go_sem]; first | done | omega)) only [go_sem]
  refine retained_a ?_
  simp (disch := first | omega | (simp only [go_sem]; first | done | omega)) only [go_sem]
  exact Ret.drop hH (Nat.le_refl _) trivial hk
end Go.Proofs.YthgdllfkejlnmaaGreat
