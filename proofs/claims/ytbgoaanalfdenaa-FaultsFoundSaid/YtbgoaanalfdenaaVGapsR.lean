/- Intervals without a sample that is not bad: the document's answer. Condition: right arguments. -/
import Derived.Test.YtbgoaanalfdenaaVGapsM
namespace Go.Proofs.Ytbgoaanalfdenaa
open Go Go.RowKit
set_option maxRecDepth 100000
set_option linter.all false
set_option maxHeartbeats 1000000
variable {H : Hp} {K : AV → Hp → Prop}
theorem gapsOf_a (l : List Smp) (w : Win) (most : Int) (h1 : serF l = 0) (hw : winE w = 0) (hm : 1 ≤ most) (hm2 : most ≤ 345686400000) (hk : K (.c (.lst 2 ((gapsF most w l).map encW))) H) : ACalls Try.prog 34 [.c (.lst 3 (l.map encS)), .agg (encW w), (.c (.int .i64 most))] H K := by
  obtain ⟨s1, s2⟩ := serF_ok' h1
  have hwb : 0 ≤ w.a ∧ w.a ≤ w.b ∧ w.b ≤ 345686400000 := by unfold winE at hw; split at hw <;> omega
  rw [gapsF_ends] at hk
  obtain ⟨W, hW⟩ : ∃ W, W = withinF l w := ⟨_, rfl⟩
  have hWl : W.length ≤ 5000 := by rw [hW]; exact Nat.le_trans (List.length_filter_le _ _) s1
  have hWs : ∀ x ∈ W, smpErr x = 0 := fun x hx => by rw [hW] at hx; exact s2 x (List.mem_filter.1 hx).1
  rw [← hW] at hk
  refine acalls Try.func34 rfl (by kernel_rfl) (by simp (disch := first | omega | (simp only [go_sem]; first | done | omega)) only [go_sem]) (fun hH => ?_)
  simp (disch := first | omega | (simp only [go_sem]; first | done | omega)) only [go_sem]
  refine sliceOf_a l w (by omega) ?_
  rw [← hW]
  simp (disch := first | omega | (simp only [go_sem]; first | done | omega)) only [go_sem]
  refine AWp.loop (H.length + 1) [2, 4, 7, 8, 19, 20] [21, 9] (fun (k : Nat) => k ≤ W.length) (fun (k : Nat) => [(21, (.c (.int .i64 k))), (9, .c (.sl (some (H.length + 1, 0)) (endsF (W.take k)).length))]) (fun (k : Nat) => H ++ [.row 49 2 [[.int .i64 w.a, .int .i64 w.b]] true, .row 3 1 ((endsF (W.take k)).map encI) true]) (fun (k : Nat) => W.length - k) (by kernel_rfl) (fun _ => rfl) (by kernel_rfl) (by simp) (by first | (simp; done) | (simp; omega)) (by (try simp only [List.forall_mem_cons, List.not_mem_nil, false_implies, implies_true, and_true]); (try simp (disch := first | omega | (simp only [go_sem]; first | done | omega)) only [go_sem]); all_goals first | trivial | (simp [AV.ok, AV.ok1, AC.ok]; done) | (simp [AV.ok, AV.ok1, AC.ok]; omega) | (simp [AV.ok, AV.ok1, AC.ok]; assumption) | ((repeat' apply And.intro) <;> first | trivial | (simp [AV.ok, AV.ok1, AC.ok]; done) | (simp [AV.ok, AV.ok1, AC.ok]; omega) | (simp [AV.ok, AV.ok1, AC.ok]; assumption) | (refine grV_ok ?_ _; first | (simp; done) | (simp; omega) | omega))) ?_ (fun k hkb _ _ => ?_)
  · exact Next.mk 0 (by omega) (by (try simp (disch := first | omega | (simp only [go_sem]; first | done | omega)) only [go_sem]); (first | refine WkL.eq ?_ ?_ | refine WkL.rest (by assumption) ?_ ?_ ?_ | refine WkL.keepL (by assumption) rfl ?_ ?_ ?_ ?_) <;> first | rfl | (simp; done) | (simp; omega) | (simp only [List.cons.injEq, AV.c.injEq, AC.int.injEq, AC.bool.injEq, AC.str.injEq, and_true, true_and, Int.natCast_add, Int.natCast_one, Int.cast_ofNat_Int]; omega) | (simp [AV.ok, AV.ok1, AC.ok]; done) | (simp [AV.ok, AV.ok1, AC.ok]; omega) | (simp only [List.forall_mem_cons, List.not_mem_nil, false_implies, implies_true, and_true]; (repeat' apply And.intro) <;> first | exact okN_map (fun x => by simp [go_sem, AC.pure]) | exact okN_grO (fun x => by simp [go_sem, AC.pure]) | (simp [AObj.okN, AC.ok]; done) | (simp [AObj.okN, AC.ok]; omega)) | (simp [*]; done) | grind)
  have hel := endsF_len (W.take k)
  have htl : (W.take k).length ≤ W.length := by rw [List.length_take]; omega
  by_cases hlt : k < W.length
  · have hn := endsF_next hlt
    obtain ⟨q1, q2, q3, q4⟩ := smp_ok' (hWs W[k] (List.getElem_mem hlt))
    by_cases c : W[k].q = 2
    · rw [if_pos c, List.append_nil] at hn
      simp (disch := first | omega | (simp only [go_sem]; first | done | omega)) only [go_sem]
      exact Next.mk (k + 1) ⟨by omega, by omega⟩ (by rw [hn]; (try simp (disch := first | omega | (simp only [go_sem]; first | done | omega)) only [go_sem]); (first | refine WkL.eq ?_ ?_ | refine WkL.rest (by assumption) ?_ ?_ ?_ | refine WkL.keepL (by assumption) rfl ?_ ?_ ?_ ?_) <;> first | rfl | (simp; done) | (simp; omega) | (simp only [List.cons.injEq, AV.c.injEq, AC.int.injEq, AC.bool.injEq, AC.str.injEq, and_true, true_and, Int.natCast_add, Int.natCast_one, Int.cast_ofNat_Int]; omega) | (simp [AV.ok, AV.ok1, AC.ok]; done) | (simp [AV.ok, AV.ok1, AC.ok]; omega) | (simp only [List.forall_mem_cons, List.not_mem_nil, false_implies, implies_true, and_true]; (repeat' apply And.intro) <;> first | exact okN_map (fun x => by simp [go_sem, AC.pure]) | exact okN_grO (fun x => by simp [go_sem, AC.pure]) | (simp [AObj.okN, AC.ok]; done) | (simp [AObj.okN, AC.ok]; omega)) | (simp [*]; done) | grind)
    · rw [if_neg c] at hn
      simp (disch := first | omega | (simp only [go_sem]; first | done | omega)) only [go_sem]
      refine app_sl ?_
      simp (disch := first | omega | (simp only [go_sem]; first | done | omega)) only [go_sem]
      have e : (endsF (W.take k)).map encI ++ [[.int .i64 W[k].t]] = (endsF (W.take k) ++ [W[k].t]).map encI := by simp [encI]
      rw [e]
      exact Next.mk (k + 1) ⟨by omega, by omega⟩ (by rw [hn]; ((try simp (disch := first | omega | (simp only [go_sem]; first | done | omega)) only [go_sem]); (first | refine WkL.pickAt [_] [0] ?_ ?_ ?_ rfl ?_ ?_ ?_ ?_ | refine WkL.pickAt [_] [1] ?_ ?_ ?_ rfl ?_ ?_ ?_ ?_ | refine WkL.pickAt [_] [2] ?_ ?_ ?_ rfl ?_ ?_ ?_ ?_ | refine WkL.pickAt [_] [3] ?_ ?_ ?_ rfl ?_ ?_ ?_ ?_ | refine WkL.pickAt [_] [4] ?_ ?_ ?_ rfl ?_ ?_ ?_ ?_ | refine WkL.pickAt [_] [5] ?_ ?_ ?_ rfl ?_ ?_ ?_ ?_ | refine WkL.pickAt [_] [6] ?_ ?_ ?_ rfl ?_ ?_ ?_ ?_ | refine WkL.pickAt [_] [7] ?_ ?_ ?_ rfl ?_ ?_ ?_ ?_ | refine WkL.pickAt [_] [8] ?_ ?_ ?_ rfl ?_ ?_ ?_ ?_ | refine WkL.pickAt [_] [9] ?_ ?_ ?_ rfl ?_ ?_ ?_ ?_ | refine WkL.pickAt [_] [10] ?_ ?_ ?_ rfl ?_ ?_ ?_ ?_ | refine WkL.pickAt [_] [11] ?_ ?_ ?_ rfl ?_ ?_ ?_ ?_ | refine WkL.pickAt [_] [12] ?_ ?_ ?_ rfl ?_ ?_ ?_ ?_ | refine WkL.pickAt [_] [13] ?_ ?_ ?_ rfl ?_ ?_ ?_ ?_ | refine WkL.pickAt [_] [14] ?_ ?_ ?_ rfl ?_ ?_ ?_ ?_ | refine WkL.pickAt [_] [15] ?_ ?_ ?_ rfl ?_ ?_ ?_ ?_ | refine WkL.pickAt [_] [16] ?_ ?_ ?_ rfl ?_ ?_ ?_ ?_ | refine WkL.pickAt [_] [17] ?_ ?_ ?_ rfl ?_ ?_ ?_ ?_) <;> first | assumption | exact HOk.str (by assumption) | (simp; done) | (simp; omega) | (simp [pureO_gr, AObj.pureO, pureL, go_sem, AC.pure]; done) | (simp only [List.all_cons, List.all_nil, Bool.and_true]; exact pureO_gr (pureL_map _ (fun x => by simp [go_sem, AC.pure]))) | ((try simp only [List.map_cons, List.map_nil, av_ren_gr]); simp [AV.ren, AV.ren1, AC.ren, pickS]; first | done | omega) | (simp only [List.forall_mem_cons, List.not_mem_nil, false_implies, implies_true, and_true]; (repeat' apply And.intro) <;> first | trivial | exact grV_ok (by simp) _ | exact okN_grO (fun x => by simp [go_sem, AC.pure]) | exact okN_map (fun x => by simp [go_sem, AC.pure]) | (simp [AV.ok, AV.ok1, AC.ok]; done) | (simp [AV.ok, AV.ok1, AC.ok]; omega) | (simp [AObj.okN, AC.ok]; done)) | (simp [AObj.okN]; done)))
  · have hke : k = W.length := by omega
    subst hke
    have hel2 := endsF_len W
    rw [List.take_length]
    simp (disch := first | omega | (simp only [go_sem]; first | done | omega)) only [go_sem]
    refine app_sl ?_
    simp (disch := first | omega | (simp only [go_sem]; first | done | omega)) only [go_sem]
    have e : (endsF W).map encI ++ [[.int .i64 w.b]] = (endsF W ++ [w.b]).map encI := by simp [encI]
    rw [e]
    obtain ⟨T, hT⟩ : ∃ T, T = endsF W ++ [w.b] := ⟨_, rfl⟩
    have hTl : T.length = (endsF W).length + 1 := by rw [hT]; simp
    have hTb : ∀ t ∈ T, 0 ≤ t ∧ t ≤ 345686400000 := fun t ht => by
      rw [hT] at ht
      rcases List.mem_append.1 ht with h | h
      · obtain ⟨x, hx, rfl⟩ := endsF_mem h
        have := (smp_ok' (hWs x hx)).1
        omega
      · simp at h; subst h; omega
    rw [← hT] at hk ⊢
    rw [← hTl]
    refine AWp.loop (H.length + 4) [2, 38, 39] [40, 8, 7] (fun (k : Nat) => k ≤ T.length) (fun (k : Nat) => [(40, (.c (.int .i64 k))), (8, (.c (.int .i64 (((T.take k).foldl (gapTo most) (w.a, [])).1)))), (7, .c (grV (H.length + 4) ((T.take k).foldl (gapTo most) (w.a, [])).2))]) (fun (k : Nat) => H ++ [.row 49 2 [[.int .i64 w.a, .int .i64 w.b]] true, .dead, .row 3 1 [[.int .i64 w.b]] true, .row 3 1 (T.map encI) true, grO 49 2 (((T.take k).foldl (gapTo most) (w.a, [])).2.map encW)]) (fun (k : Nat) => T.length - k) (by kernel_rfl) (fun _ => rfl) (by kernel_rfl) (by simp) (by first | (simp; done) | (simp; omega)) (by (try simp only [List.forall_mem_cons, List.not_mem_nil, false_implies, implies_true, and_true]); (try simp (disch := first | omega | (simp only [go_sem]; first | done | omega)) only [go_sem]); all_goals first | trivial | (simp [AV.ok, AV.ok1, AC.ok]; done) | (simp [AV.ok, AV.ok1, AC.ok]; omega) | (simp [AV.ok, AV.ok1, AC.ok]; assumption) | ((repeat' apply And.intro) <;> first | trivial | (simp [AV.ok, AV.ok1, AC.ok]; done) | (simp [AV.ok, AV.ok1, AC.ok]; omega) | (simp [AV.ok, AV.ok1, AC.ok]; assumption) | (refine grV_ok ?_ _; first | (simp; done) | (simp; omega) | omega))) ?_ (fun k hkb _ _ => ?_)
    · exact Next.mk 0 (by omega) (by simp (disch := first | omega | (simp only [go_sem]; first | done | omega)) only [go_sem]; exact WkL.padP [_, _, _, _] (by simp))
    have hgl := gapTo_len most (T.take k) (w.a, [])
    have hgb := gapTo_bd most 345686400000 (T.take k) (w.a, []) (fun t ht => hTb t (List.mem_of_mem_take ht)) (by dsimp only; omega) (by dsimp only; omega)
    have htl : (T.take k).length ≤ T.length := by rw [List.length_take]; omega
    simp only [List.length_nil, Nat.zero_add] at hgl
    by_cases hlt : k < T.length
    · have hn := fold_take (gapTo most) (w.a, []) hlt
      have htb := hTb T[k] (List.getElem_mem hlt)
      generalize (T.take k).foldl (gapTo most) (w.a, []) = s at *
      obtain ⟨fr, L⟩ := s
      dsimp only at hgl hgb
      simp (disch := first | omega | (simp only [go_sem]; first | done | omega)) only [go_sem]
      refine acond_d (fun c => ?_) (fun c => ?_)
      · rw [gapTo, if_pos c] at hn
        simp (disch := first | omega | (simp only [go_sem]; first | done | omega)) only [go_sem]
        (refine app_gr (enc := encW) (e := 49) (sz := 2) (bs := 16) (z := [.int .i64 0, .int .i64 0]) (L) (⟨fr, T[k]⟩) (by kernel_rfl) (by kernel_rfl) (by kernel_rfl) (by kernel_rfl) (by first | exact at0 (by simp) | exact at1 (by simp) | exact at2 (by simp) | exact at3 (by simp) | exact at4 (by simp) | exact at5 (by simp) | exact atG 6 (by simp) rfl | exact atG 7 (by simp) rfl | exact atG 8 (by simp) rfl | exact atG 9 (by simp) rfl | exact atG 10 (by simp) rfl | assumption) (by first | (simp (disch := first | omega | (simp only [go_sem]; first | done | omega)) only [go_sem]; done) | (simp (disch := first | omega | (simp only [go_sem]; first | done | omega)) only [go_sem]; rfl) | (simp (disch := first | omega | (simp only [go_sem]; first | done | omega)) only [go_sem]; simp [go_sem]; done) | (simp (disch := first | omega | (simp only [go_sem]; first | done | omega)) only [go_sem]; simp [*]; done)) rfl (by decide) (by omega) (by omega) (by rfl) ?_)
        simp (disch := first | omega | (simp only [go_sem]; first | done | omega)) only [go_sem]
        exact Next.mk (k + 1) ⟨by omega, by omega⟩ (by rw [hn]; ((try simp (disch := first | omega | (simp only [go_sem]; first | done | omega)) only [go_sem]); (first | refine WkL.pickAt [_, _, _, _] [0] ?_ ?_ ?_ rfl ?_ ?_ ?_ ?_ | refine WkL.pickAt [_, _, _, _] [1] ?_ ?_ ?_ rfl ?_ ?_ ?_ ?_ | refine WkL.pickAt [_, _, _, _] [2] ?_ ?_ ?_ rfl ?_ ?_ ?_ ?_ | refine WkL.pickAt [_, _, _, _] [3] ?_ ?_ ?_ rfl ?_ ?_ ?_ ?_ | refine WkL.pickAt [_, _, _, _] [4] ?_ ?_ ?_ rfl ?_ ?_ ?_ ?_ | refine WkL.pickAt [_, _, _, _] [5] ?_ ?_ ?_ rfl ?_ ?_ ?_ ?_ | refine WkL.pickAt [_, _, _, _] [6] ?_ ?_ ?_ rfl ?_ ?_ ?_ ?_ | refine WkL.pickAt [_, _, _, _] [7] ?_ ?_ ?_ rfl ?_ ?_ ?_ ?_ | refine WkL.pickAt [_, _, _, _] [8] ?_ ?_ ?_ rfl ?_ ?_ ?_ ?_ | refine WkL.pickAt [_, _, _, _] [9] ?_ ?_ ?_ rfl ?_ ?_ ?_ ?_ | refine WkL.pickAt [_, _, _, _] [10] ?_ ?_ ?_ rfl ?_ ?_ ?_ ?_ | refine WkL.pickAt [_, _, _, _] [11] ?_ ?_ ?_ rfl ?_ ?_ ?_ ?_ | refine WkL.pickAt [_, _, _, _] [12] ?_ ?_ ?_ rfl ?_ ?_ ?_ ?_ | refine WkL.pickAt [_, _, _, _] [13] ?_ ?_ ?_ rfl ?_ ?_ ?_ ?_ | refine WkL.pickAt [_, _, _, _] [14] ?_ ?_ ?_ rfl ?_ ?_ ?_ ?_ | refine WkL.pickAt [_, _, _, _] [15] ?_ ?_ ?_ rfl ?_ ?_ ?_ ?_ | refine WkL.pickAt [_, _, _, _] [16] ?_ ?_ ?_ rfl ?_ ?_ ?_ ?_ | refine WkL.pickAt [_, _, _, _] [17] ?_ ?_ ?_ rfl ?_ ?_ ?_ ?_) <;> first | assumption | exact HOk.str (by assumption) | (simp; done) | (simp; omega) | (simp [pureO_gr, AObj.pureO, pureL, go_sem, AC.pure]; done) | (simp only [List.all_cons, List.all_nil, Bool.and_true]; exact pureO_gr (pureL_map _ (fun x => by simp [go_sem, AC.pure]))) | ((try simp only [List.map_cons, List.map_nil, av_ren_gr]); simp [AV.ren, AV.ren1, AC.ren, pickS]; first | done | omega) | (simp only [List.forall_mem_cons, List.not_mem_nil, false_implies, implies_true, and_true]; (repeat' apply And.intro) <;> first | trivial | exact grV_ok (by simp) _ | exact okN_grO (fun x => by simp [go_sem, AC.pure]) | exact okN_map (fun x => by simp [go_sem, AC.pure]) | (simp [AV.ok, AV.ok1, AC.ok]; done) | (simp [AV.ok, AV.ok1, AC.ok]; omega) | (simp [AObj.okN, AC.ok]; done)) | (simp [AObj.okN]; done)))
      · rw [gapTo, if_neg c, List.append_nil] at hn
        simp (disch := first | omega | (simp only [go_sem]; first | done | omega)) only [go_sem]
        exact Next.mk (k + 1) ⟨by omega, by omega⟩ (by rw [hn]; ((try simp (disch := first | omega | (simp only [go_sem]; first | done | omega)) only [go_sem]); (first | refine WkL.pickAt [_, _, _, _] [0] ?_ ?_ ?_ rfl ?_ ?_ ?_ ?_ | refine WkL.pickAt [_, _, _, _] [1] ?_ ?_ ?_ rfl ?_ ?_ ?_ ?_ | refine WkL.pickAt [_, _, _, _] [2] ?_ ?_ ?_ rfl ?_ ?_ ?_ ?_ | refine WkL.pickAt [_, _, _, _] [3] ?_ ?_ ?_ rfl ?_ ?_ ?_ ?_ | refine WkL.pickAt [_, _, _, _] [4] ?_ ?_ ?_ rfl ?_ ?_ ?_ ?_ | refine WkL.pickAt [_, _, _, _] [5] ?_ ?_ ?_ rfl ?_ ?_ ?_ ?_ | refine WkL.pickAt [_, _, _, _] [6] ?_ ?_ ?_ rfl ?_ ?_ ?_ ?_ | refine WkL.pickAt [_, _, _, _] [7] ?_ ?_ ?_ rfl ?_ ?_ ?_ ?_ | refine WkL.pickAt [_, _, _, _] [8] ?_ ?_ ?_ rfl ?_ ?_ ?_ ?_ | refine WkL.pickAt [_, _, _, _] [9] ?_ ?_ ?_ rfl ?_ ?_ ?_ ?_ | refine WkL.pickAt [_, _, _, _] [10] ?_ ?_ ?_ rfl ?_ ?_ ?_ ?_ | refine WkL.pickAt [_, _, _, _] [11] ?_ ?_ ?_ rfl ?_ ?_ ?_ ?_ | refine WkL.pickAt [_, _, _, _] [12] ?_ ?_ ?_ rfl ?_ ?_ ?_ ?_ | refine WkL.pickAt [_, _, _, _] [13] ?_ ?_ ?_ rfl ?_ ?_ ?_ ?_ | refine WkL.pickAt [_, _, _, _] [14] ?_ ?_ ?_ rfl ?_ ?_ ?_ ?_ | refine WkL.pickAt [_, _, _, _] [15] ?_ ?_ ?_ rfl ?_ ?_ ?_ ?_ | refine WkL.pickAt [_, _, _, _] [16] ?_ ?_ ?_ rfl ?_ ?_ ?_ ?_ | refine WkL.pickAt [_, _, _, _] [17] ?_ ?_ ?_ rfl ?_ ?_ ?_ ?_) <;> first | assumption | exact HOk.str (by assumption) | (simp; done) | (simp; omega) | (simp [pureO_gr, AObj.pureO, pureL, go_sem, AC.pure]; done) | (simp only [List.all_cons, List.all_nil, Bool.and_true]; exact pureO_gr (pureL_map _ (fun x => by simp [go_sem, AC.pure]))) | ((try simp only [List.map_cons, List.map_nil, av_ren_gr]); simp [AV.ren, AV.ren1, AC.ren, pickS]; first | done | omega) | (simp only [List.forall_mem_cons, List.not_mem_nil, false_implies, implies_true, and_true]; (repeat' apply And.intro) <;> first | trivial | exact grV_ok (by simp) _ | exact okN_grO (fun x => by simp [go_sem, AC.pure]) | exact okN_map (fun x => by simp [go_sem, AC.pure]) | (simp [AV.ok, AV.ok1, AC.ok]; done) | (simp [AV.ok, AV.ok1, AC.ok]; omega) | (simp [AObj.okN, AC.ok]; done)) | (simp [AObj.okN]; done)))
    · rw [List.take_of_length_le (by omega)]
      simp (disch := first | omega | (simp only [go_sem]; first | done | omega)) only [go_sem]
      exact Ret.frzGr 4 hH (Nat.le_refl _) rfl (pureL_encW _) (map_grV _ _ _).symm hk
end Go.Proofs.Ytbgoaanalfdenaa
