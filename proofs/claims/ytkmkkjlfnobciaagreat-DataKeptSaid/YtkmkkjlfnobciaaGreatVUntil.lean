/- How long data is kept: the program. Condition: few holds, numbers as those of levels. -/
import Derived.Test.YtkmkkjlfnobciaaGreatVSortH
import Derived.Test.YtkmkkjlfnobciaaGreatVCmp
namespace Go.Proofs.YtkmkkjlfnobciaaGreat
open Go Go.RowKit
set_option maxRecDepth 100000
set_option linter.all false
set_option maxHeartbeats 1000000
variable {H : Hp} {K : AV → Hp → Prop}
def ivl (x : Level) (m : Int) : Int × Int := if x.step = 0 then (m, m + 1) else (m / x.step * x.step, m / x.step * x.step + x.step)
theorem interval_a (x : Level) (m : Int) (h0 : 0 ≤ x.step) (h1 : x.step ≤ 86400000) (hm : -1000000000000 ≤ m) (hm2 : m ≤ 1000000000000) (hm0 : 0 ≤ m) (hk : K (.agg [.int .i64 (ivl x m).1, .int .i64 (ivl x m).2]) H) : ACalls Tryz.prog 89 [.agg (encL x), (.c (.int .i64 m))] H K := by
  by_cases hs : x.step = 0
  · rw [show ivl x m = (m, m + 1) by simp [ivl, hs]] at hk
    refine acalls Tryz.func89 rfl (by kernel_rfl) (by simp (disch := first | omega | (simp only [go_sem]; first | done | omega)) only [go_sem]) (fun hH => ?_)
    simp (disch := first | omega | (simp only [go_sem]; first | done | omega)) only [go_sem, hs]
    exact Ret.drop hH (Nat.le_refl _) (by simp [AV.ok, AV.ok1, AC.ok]) hk
  · have t0 : 0 ≤ m / x.step := Int.ediv_nonneg (by omega) (by omega)
    have t1 : m / x.step * x.step ≤ m := Int.ediv_mul_le _ hs
    have t2 : 0 ≤ m / x.step * x.step := Int.mul_nonneg t0 (by omega)
    rw [show ivl x m = (m / x.step * x.step, m / x.step * x.step + x.step) by simp [ivl, hs]] at hk
    refine acalls Tryz.func89 rfl (by kernel_rfl) (by simp (disch := first | omega | (simp only [go_sem]; first | done | omega)) only [go_sem]) (fun hH => ?_)
    simp (disch := first | omega | (simp only [go_sem]; first | done | omega)) only [go_sem, hs]
    refine w_draw (by kernel_rfl) (by decide +kernel) ?_
    simp (disch := first | omega | (simp only [go_sem]; first | done | omega)) only [go_sem]
    exact Ret.drop hH (Nat.le_refl _) (by simp [AV.ok, AV.ok1, AC.ok]) hk
theorem intervalR_a (x : Level) (m : Int) (h0 : 0 ≤ x.step) (h1 : x.step ≤ 86400000) (hm2 : m ≤ 1000000000000) (hm0 : 0 ≤ m) (hk : K (.agg [.int .i64 (ivl x m).1, .int .i64 (ivl x m).2]) H) : ACalls Tryz.prog 96 [.agg (encL x), (.c (.int .i64 m))] H K := by
  by_cases hs : x.step = 0
  · rw [show ivl x m = (m, m + 1) by simp [ivl, hs]] at hk
    refine acalls Tryz.func96 rfl (by kernel_rfl) (by simp (disch := first | omega | (simp only [go_sem]; first | done | omega)) only [go_sem]) (fun hH => ?_)
    simp (disch := first | omega | (simp only [go_sem]; first | done | omega)) only [go_sem, hs]
    exact Ret.drop hH (Nat.le_refl _) (by simp [AV.ok, AV.ok1, AC.ok]) hk
  · have t0 : m - m % x.step = m / x.step * x.step := by have := Int.emod_add_ediv_mul m x.step; omega
    have t1 : 0 ≤ m % x.step := Int.emod_nonneg _ hs
    have t2 : m % x.step < x.step := Int.emod_lt_of_pos _ (by omega)
    rw [show ivl x m = (m - m % x.step, m - m % x.step + x.step) by simp [ivl, hs, t0]] at hk
    refine acalls Tryz.func96 rfl (by kernel_rfl) (by simp (disch := first | omega | (simp only [go_sem]; first | done | omega)) only [go_sem]) (fun hH => ?_)
    simp (disch := first | omega | (simp only [go_sem]; first | done | omega)) only [go_sem, hs]
    exact Ret.drop hH (Nat.le_refl _) (by simp [AV.ok, AV.ok1, AC.ok]) hk
def madeLt (x y : Hold) : Bool := decide (x.made < y.made)
theorem until1_a (x y : Hold) (hk : K (.c (.int .i64 (if x.made < y.made then -1 else if y.made < x.made then 1 else 0))) H) : ACalls Tryz.prog 117 [.agg (encH x), .agg (encH y)] H K := by
  refine acalls Tryz.func117 rfl (by kernel_rfl) (by simp (disch := first | omega | (simp only [go_sem]; first | done | omega)) only [go_sem]) (fun hH => ?_)
  simp (disch := first | omega | (simp only [go_sem]; first | done | omega)) only [go_sem]
  repeat' (first | ((first | refine acond_d ?_ ?_ | refine acond_b ?_ ?_ | refine ag_d ?_ ?_ | refine ag_n ?_ ?_ | refine ag_bt ?_ ?_ | refine ag_bf ?_ ?_) <;> intro c <;> try simp (disch := first | omega | (simp only [go_sem]; first | done | omega)) only [go_sem, c]) | ((first | refine w_draw (by kernel_rfl) (by decide +kernel) ?_ | refine compare_a _ _ ?_) <;> try simp (disch := first | omega | (simp only [go_sem]; first | done | omega)) only [go_sem]))
  all_goals (first | refine Ret.sameE (Nat.le_refl _) (by assumption) ?_ | refine Ret.dropE (by assumption) (Nat.le_refl _) (by assumption) (by simp [AV.ok, AV.ok1, AC.ok]) ?_) <;> (first | rfl | (simp only [AV.c.injEq, AC.bool.injEq]; rw [Bool.eq_iff_iff]; simp only [Bool.not_eq_true', decide_eq_true_eq, decide_eq_false_iff_not, Bool.and_eq_true, Bool.or_eq_true]; omega) | grind | (simp [*]; done) | (simp [*]; omega))
def meets (w0 w1 : Int) (x : Hold) : Bool := decide (max x.t0 w0 < min x.t1 w1)
def stepU (last : Int) (x : Hold) : Int := if x.made ≤ last + 1 then max last (x.ends - 1) else last
def untilF (keep : Int) (h : List Hold) (w0 w1 : Int) : Int := (isortG madeLt (h.filter (meets w0 w1))).foldl stepU (w1 + keep)
def Hold.near (x : Hold) : Prop := -2000000000000 ≤ x.t0 ∧ x.t0 ≤ 2000000000000 ∧ -2000000000000 ≤ x.t1 ∧ x.t1 ≤ 2000000000000 ∧ -2000000000000 ≤ x.made ∧ x.made ≤ 2000000000000 ∧ -2000000000000 ≤ x.ends ∧ x.ends ≤ 2000000000000
theorem foldU_bd : ∀ (l : List Hold) (a : Int), (∀ x ∈ l, x.near) → -3000000000000 ≤ a → a ≤ 3000000000000 → -3000000000000 ≤ l.foldl stepU a ∧ l.foldl stepU a ≤ 3000000000000
  | [], a, _, h1, h2 => ⟨h1, h2⟩
  | x :: l, a, h, h1, h2 => by
    rw [List.foldl_cons]
    have hx := h x (by simp)
    simp only [Hold.near] at hx
    refine foldU_bd l _ (fun y hy => h y (by simp [hy])) ?_ ?_ <;> (unfold stepU; split <;> omega)
theorem pureL_encH (l : List Hold) : pureL (l.map encH) = true := pureL_map l (fun x => by simp [AC.pure])
theorem until_a (x : Level) (h : List Hold) (w0 w1 : Int) (hlen : h.length ≤ 12) (hn : ∀ y ∈ h, y.near) (hw : 0 ≤ w0 ∧ w0 ≤ 2000000000000 ∧ 0 ≤ w1 ∧ w1 ≤ 2000000000000) (hkp : 0 ≤ x.keep ∧ x.keep ≤ 400000000000)
    (hk : K (.c (.int .i64 (untilF x.keep h w0 w1))) H) : ACalls Tryz.prog 88 [.agg (encL x), .c (.lst 6 (h.map encH)), .agg [.int .i64 w0, .int .i64 w1]] H K := by
  refine acalls Tryz.func88 rfl (by kernel_rfl) (by simp (disch := first | omega | (simp only [go_sem]; first | done | omega)) only [go_sem]) (fun hH => ?_)
  simp (disch := first | omega | (simp only [go_sem]; first | done | omega)) only [go_sem]
  refine AWp.loop (H.length + 2) [3, 5, 13, 14] [15, 7] (fun (k : Nat) => k ≤ h.length) (fun (k : Nat) => [(15, (.c (.int .i64 k))), (7, .c (grV (H.length + 2) ((h.take k).filter (meets w0 w1))))]) (fun (k : Nat) => H ++ [.row 90 2 [encL x] true, .row 67 2 [[.int .i64 w0, .int .i64 w1]] true, grO 94 6 (((h.take k).filter (meets w0 w1)).map encH)]) (fun (k : Nat) => h.length - k) (by kernel_rfl) (fun _ => rfl) (by kernel_rfl) (by simp) (by first | (simp; done) | (simp; omega)) (by (try simp only [List.forall_mem_cons, List.not_mem_nil, false_implies, implies_true, and_true]); (try simp (disch := first | omega | (simp only [go_sem]; first | done | omega)) only [go_sem]); first | trivial | (simp [AV.ok, AV.ok1, AC.ok]; done) | (simp [AV.ok, AV.ok1, AC.ok]; omega) | (simp [AV.ok, AV.ok1, AC.ok]; assumption) | ((repeat' apply And.intro) <;> first | trivial | (simp [AV.ok, AV.ok1, AC.ok]; done) | (simp [AV.ok, AV.ok1, AC.ok]; omega) | (simp [AV.ok, AV.ok1, AC.ok]; assumption) | (refine grV_ok ?_ _; first | (simp; done) | (simp; omega) | omega))) ?_ (fun k hkb _ _ => ?_)
  · refine Next.mk 0 (by omega) ?_
    simp (disch := first | omega | (simp only [go_sem]; first | done | omega)) only [go_sem]
    exact WkL.padP [_, _] (by simp)
  have hfl : ((h.take k).filter (meets w0 w1)).length ≤ 1000 := by
    have h1 := List.length_filter_le (meets w0 w1) (h.take k)
    have h2 : (h.take k).length ≤ h.length := by rw [List.length_take]; omega
    omega
  by_cases hlt : k < h.length
  · have hnx : (h.take (k + 1)).filter (meets w0 w1) = (h.take k).filter (meets w0 w1) ++ (if meets w0 w1 h[k] = true then [h[k]] else []) := by
      rw [List.take_succ_eq_append_getElem hlt, List.filter_append]
      congr 1
      by_cases c : meets w0 w1 h[k] = true <;> simp [c]
    have hnk := hn h[k] (List.getElem_mem hlt)
    simp (disch := first | omega | (simp only [go_sem]; first | done | omega)) only [go_sem]
    refine acond_d (fun c => ?_) (fun c => ?_)
    · have c2 : meets w0 w1 h[k] = true := decide_eq_true c
      rw [if_pos c2] at hnx
      simp (disch := first | omega | (simp only [go_sem]; first | done | omega)) only [go_sem]
      (refine app_gr (enc := encH) (e := 94) (sz := 6) (bs := 64) (z := [.str ⟨#[]⟩, .str ⟨#[]⟩, .int .i64 0, .int .i64 0, .int .i64 0, .int .i64 0]) ((h.take k).filter (meets w0 w1)) (h[k]) (by kernel_rfl) (by kernel_rfl) (by kernel_rfl) (by kernel_rfl) (by first | exact at0 (by simp) | exact at1 (by simp) | exact at2 (by simp) | exact at3 (by simp) | exact at4 (by simp) | exact at5 (by simp) | exact atG 6 (by simp) rfl | exact atG 7 (by simp) rfl | exact atG 8 (by simp) rfl | exact atG 9 (by simp) rfl | exact atG 10 (by simp) rfl | assumption) (by first | (simp (disch := first | omega | (simp only [go_sem]; first | done | omega)) only [go_sem]; done) | (simp (disch := first | omega | (simp only [go_sem]; first | done | omega)) only [go_sem]; rfl) | (simp (disch := first | omega | (simp only [go_sem]; first | done | omega)) only [go_sem]; simp [go_sem]; done) | (simp (disch := first | omega | (simp only [go_sem]; first | done | omega)) only [go_sem]; simp [*]; done)) rfl (by decide) (by omega) (by omega) (by rfl) ?_)
      simp (disch := first | omega | (simp only [go_sem]; first | done | omega)) only [go_sem]
      exact Next.mk (k + 1) ⟨by omega, by omega⟩ (by rw [hnx]; ((try simp (disch := first | omega | (simp only [go_sem]; first | done | omega)) only [go_sem]); (first | refine WkL.pickAt [_, _] [0] ?_ ?_ ?_ rfl ?_ ?_ ?_ ?_ | refine WkL.pickAt [_, _] [1] ?_ ?_ ?_ rfl ?_ ?_ ?_ ?_ | refine WkL.pickAt [_, _] [2] ?_ ?_ ?_ rfl ?_ ?_ ?_ ?_ | refine WkL.pickAt [_, _] [3] ?_ ?_ ?_ rfl ?_ ?_ ?_ ?_ | refine WkL.pickAt [_, _] [4] ?_ ?_ ?_ rfl ?_ ?_ ?_ ?_ | refine WkL.pickAt [_, _] [5] ?_ ?_ ?_ rfl ?_ ?_ ?_ ?_ | refine WkL.pickAt [_, _] [6] ?_ ?_ ?_ rfl ?_ ?_ ?_ ?_ | refine WkL.pickAt [_, _] [7] ?_ ?_ ?_ rfl ?_ ?_ ?_ ?_ | refine WkL.pickAt [_, _] [8] ?_ ?_ ?_ rfl ?_ ?_ ?_ ?_ | refine WkL.pickAt [_, _] [9] ?_ ?_ ?_ rfl ?_ ?_ ?_ ?_ | refine WkL.pickAt [_, _] [10] ?_ ?_ ?_ rfl ?_ ?_ ?_ ?_ | refine WkL.pickAt [_, _] [11] ?_ ?_ ?_ rfl ?_ ?_ ?_ ?_ | refine WkL.pickAt [_, _] [12] ?_ ?_ ?_ rfl ?_ ?_ ?_ ?_ | refine WkL.pickAt [_, _] [13] ?_ ?_ ?_ rfl ?_ ?_ ?_ ?_ | refine WkL.pickAt [_, _] [14] ?_ ?_ ?_ rfl ?_ ?_ ?_ ?_ | refine WkL.pickAt [_, _] [15] ?_ ?_ ?_ rfl ?_ ?_ ?_ ?_ | refine WkL.pickAt [_, _] [16] ?_ ?_ ?_ rfl ?_ ?_ ?_ ?_ | refine WkL.pickAt [_, _] [17] ?_ ?_ ?_ rfl ?_ ?_ ?_ ?_) <;> first | assumption | exact HOk.str (by assumption) | (simp; done) | (simp; omega) | (simp [pureO_gr, AObj.pureO, pureL, go_sem, AC.pure]; done) | (simp only [List.all_cons, List.all_nil, Bool.and_true]; exact pureO_gr (pureL_map _ (fun x => by simp [go_sem, AC.pure]))) | ((try simp only [List.map_cons, List.map_nil, av_ren_gr]); simp [AV.ren, AV.ren1, AC.ren, pickS]; first | done | omega) | (simp only [List.forall_mem_cons, List.not_mem_nil, false_implies, implies_true, and_true]; (repeat' apply And.intro) <;> first | trivial | exact grV_ok (by simp) _ | exact okN_grO (fun x => by simp [go_sem, AC.pure]) | exact okN_map (fun x => by simp [go_sem, AC.pure]) | (simp [AV.ok, AV.ok1, AC.ok]; done) | (simp [AV.ok, AV.ok1, AC.ok]; omega) | (simp [AObj.okN, AC.ok]; done)) | (simp [AObj.okN]; done)))
    · have c2 : meets w0 w1 h[k] = false := decide_eq_false c
      rw [c2, if_neg (by simp), List.append_nil] at hnx
      simp (disch := first | omega | (simp only [go_sem]; first | done | omega)) only [go_sem]
      exact Next.mk (k + 1) ⟨by omega, by omega⟩ (by rw [hnx]; ((try simp (disch := first | omega | (simp only [go_sem]; first | done | omega)) only [go_sem]); (first | refine WkL.pickAt [_, _] [0] ?_ ?_ ?_ rfl ?_ ?_ ?_ ?_ | refine WkL.pickAt [_, _] [1] ?_ ?_ ?_ rfl ?_ ?_ ?_ ?_ | refine WkL.pickAt [_, _] [2] ?_ ?_ ?_ rfl ?_ ?_ ?_ ?_ | refine WkL.pickAt [_, _] [3] ?_ ?_ ?_ rfl ?_ ?_ ?_ ?_ | refine WkL.pickAt [_, _] [4] ?_ ?_ ?_ rfl ?_ ?_ ?_ ?_ | refine WkL.pickAt [_, _] [5] ?_ ?_ ?_ rfl ?_ ?_ ?_ ?_ | refine WkL.pickAt [_, _] [6] ?_ ?_ ?_ rfl ?_ ?_ ?_ ?_ | refine WkL.pickAt [_, _] [7] ?_ ?_ ?_ rfl ?_ ?_ ?_ ?_ | refine WkL.pickAt [_, _] [8] ?_ ?_ ?_ rfl ?_ ?_ ?_ ?_ | refine WkL.pickAt [_, _] [9] ?_ ?_ ?_ rfl ?_ ?_ ?_ ?_ | refine WkL.pickAt [_, _] [10] ?_ ?_ ?_ rfl ?_ ?_ ?_ ?_ | refine WkL.pickAt [_, _] [11] ?_ ?_ ?_ rfl ?_ ?_ ?_ ?_ | refine WkL.pickAt [_, _] [12] ?_ ?_ ?_ rfl ?_ ?_ ?_ ?_ | refine WkL.pickAt [_, _] [13] ?_ ?_ ?_ rfl ?_ ?_ ?_ ?_ | refine WkL.pickAt [_, _] [14] ?_ ?_ ?_ rfl ?_ ?_ ?_ ?_ | refine WkL.pickAt [_, _] [15] ?_ ?_ ?_ rfl ?_ ?_ ?_ ?_ | refine WkL.pickAt [_, _] [16] ?_ ?_ ?_ rfl ?_ ?_ ?_ ?_ | refine WkL.pickAt [_, _] [17] ?_ ?_ ?_ rfl ?_ ?_ ?_ ?_) <;> first | assumption | exact HOk.str (by assumption) | (simp; done) | (simp; omega) | (simp [pureO_gr, AObj.pureO, pureL, go_sem, AC.pure]; done) | (simp only [List.all_cons, List.all_nil, Bool.and_true]; exact pureO_gr (pureL_map _ (fun x => by simp [go_sem, AC.pure]))) | ((try simp only [List.map_cons, List.map_nil, av_ren_gr]); simp [AV.ren, AV.ren1, AC.ren, pickS]; first | done | omega) | (simp only [List.forall_mem_cons, List.not_mem_nil, false_implies, implies_true, and_true]; (repeat' apply And.intro) <;> first | trivial | exact grV_ok (by simp) _ | exact okN_grO (fun x => by simp [go_sem, AC.pure]) | exact okN_map (fun x => by simp [go_sem, AC.pure]) | (simp [AV.ok, AV.ok1, AC.ok]; done) | (simp [AV.ok, AV.ok1, AC.ok]; omega) | (simp [AObj.okN, AC.ok]; done)) | (simp [AObj.okN]; done)))
  · rw [List.take_of_length_le (by omega)] at hfl ⊢
    have hl12 : (h.filter (meets w0 w1)).length ≤ 12 := by have h1 := List.length_filter_le (meets w0 w1) h; omega
    simp (disch := first | omega | (simp only [go_sem]; first | done | omega)) only [go_sem]
    refine sortH_a _ (fun x y => if x.made < y.made then -1 else if y.made < x.made then 1 else 0) madeLt (fun _ => True) (by kernel_rfl) (fun x y _ _ => by rw [cmp_lt x.made y.made]; simp [madeLt]) (fun x y H K _ _ hK => until1_a x y hK) (h.filter (meets w0 w1)) (by first | exact at0 (by simp) | exact at1 (by simp) | exact at2 (by simp) | exact at3 (by simp) | exact at4 (by simp) | exact at5 (by simp) | exact atG 6 (by simp) rfl | exact atG 7 (by simp) rfl | exact atG 8 (by simp) rfl | exact atG 9 (by simp) rfl | exact atG 10 (by simp) rfl | assumption) (fun _ _ => trivial) hl12 ?_
    simp (disch := first | omega | (simp only [go_sem]; first | done | omega)) only [go_sem]
    have hSl : (isortG madeLt (h.filter (meets w0 w1))).length = (h.filter (meets w0 w1)).length := isortG_len _ _
    have hSn : ∀ y ∈ isortG madeLt (h.filter (meets w0 w1)), y.near := fun y hy => hn y (List.mem_filter.1 ((isortG_mem _ _ _).1 hy)).1
    have hU : untilF x.keep h w0 w1 = (isortG madeLt (h.filter (meets w0 w1))).foldl stepU (w1 + x.keep) := rfl
    generalize isortG madeLt (h.filter (meets w0 w1)) = S at *
    obtain ⟨n, hnn⟩ : ∃ n, n = (h.filter (meets w0 w1)).length := ⟨_, rfl⟩
    refine AWp.loop (H.length + 3) [44, 45] [46, 10] (fun (k : Nat) => k ≤ n) (fun (k : Nat) => [(46, (.c (.int .i64 k))), (10, (.c (.int .i64 ((S.take k).foldl stepU (w1 + x.keep)))))]) (fun (k : Nat) => H ++ [.row 90 2 [encL x] true, .row 67 2 [[.int .i64 w0, .int .i64 w1]] true, grO 94 6 (S.map encH)]) (fun (k : Nat) => n - k) (by kernel_rfl) (fun _ => rfl) (by kernel_rfl) (by simp) (by first | (simp; done) | (simp; omega)) (by (try simp only [List.forall_mem_cons, List.not_mem_nil, false_implies, implies_true, and_true]); (try simp (disch := first | omega | (simp only [go_sem]; first | done | omega)) only [go_sem]); first | trivial | (simp [AV.ok, AV.ok1, AC.ok]; done) | (simp [AV.ok, AV.ok1, AC.ok]; omega) | (simp [AV.ok, AV.ok1, AC.ok]; assumption) | ((repeat' apply And.intro) <;> first | trivial | (simp [AV.ok, AV.ok1, AC.ok]; done) | (simp [AV.ok, AV.ok1, AC.ok]; omega) | (simp [AV.ok, AV.ok1, AC.ok]; assumption) | (refine grV_ok ?_ _; first | (simp; done) | (simp; omega) | omega))) ?_ (fun k hkb _ _ => ?_)
    · exact Next.mk 0 (by omega) (by (try simp (disch := first | omega | (simp only [go_sem]; first | done | omega)) only [go_sem]); (first | refine WkL.eq ?_ ?_ | refine WkL.rest (by assumption) ?_ ?_ ?_ | refine WkL.keepL (by assumption) rfl ?_ ?_ ?_ ?_) <;> first | rfl | (simp; done) | (simp; omega) | (simp only [List.cons.injEq, AV.c.injEq, AC.int.injEq, AC.bool.injEq, AC.str.injEq, and_true, true_and, Int.natCast_add, Int.natCast_one, Int.cast_ofNat_Int]; omega) | (simp [AV.ok, AV.ok1, AC.ok]; done) | (simp [AV.ok, AV.ok1, AC.ok]; omega) | (simp only [List.forall_mem_cons, List.not_mem_nil, false_implies, implies_true, and_true]; (repeat' apply And.intro) <;> first | exact okN_map (fun x => by simp [go_sem, AC.pure]) | exact okN_grO (fun x => by simp [go_sem, AC.pure]) | (simp [AObj.okN, AC.ok]; done) | (simp [AObj.okN, AC.ok]; omega)) | (simp [*]; done) | grind)
    have hbd := foldU_bd (S.take k) (w1 + x.keep) (fun y hy => hSn y (List.mem_of_mem_take hy)) (by omega) (by omega)
    by_cases hlt2 : k < n
    · have hkS : k < S.length := by omega
      have hlt3 : k < (h.filter (meets w0 w1)).length := by omega
      have hnx : (S.take (k + 1)).foldl stepU (w1 + x.keep) = stepU ((S.take k).foldl stepU (w1 + x.keep)) S[k] := by
        rw [List.take_succ_eq_append_getElem hkS, List.foldl_append]; rfl
      have hnk := hSn S[k] (List.getElem_mem hkS)
      simp only [Hold.near] at hnk
      generalize (S.take k).foldl stepU (w1 + x.keep) = a at *
      simp (disch := first | omega | (simp only [go_sem]; first | done | omega)) only [go_sem]
      refine acond_d (fun c => ?_) (fun c => ?_)
      · rw [stepU, if_pos c] at hnx
        simp (disch := first | omega | (simp only [go_sem]; first | done | omega)) only [go_sem]
        exact Next.mk (k + 1) ⟨by omega, by omega⟩ (by rw [hnx]; (try simp (disch := first | omega | (simp only [go_sem]; first | done | omega)) only [go_sem]); (first | refine WkL.eq ?_ ?_ | refine WkL.rest (by assumption) ?_ ?_ ?_ | refine WkL.keepL (by assumption) rfl ?_ ?_ ?_ ?_) <;> first | rfl | (simp; done) | (simp; omega) | (simp only [List.cons.injEq, AV.c.injEq, AC.int.injEq, AC.bool.injEq, AC.str.injEq, and_true, true_and, Int.natCast_add, Int.natCast_one, Int.cast_ofNat_Int]; omega) | (simp [AV.ok, AV.ok1, AC.ok]; done) | (simp [AV.ok, AV.ok1, AC.ok]; omega) | (simp only [List.forall_mem_cons, List.not_mem_nil, false_implies, implies_true, and_true]; (repeat' apply And.intro) <;> first | exact okN_map (fun x => by simp [go_sem, AC.pure]) | exact okN_grO (fun x => by simp [go_sem, AC.pure]) | (simp [AObj.okN, AC.ok]; done) | (simp [AObj.okN, AC.ok]; omega)) | (simp [*]; done) | grind)
      · rw [stepU, if_neg c] at hnx
        simp (disch := first | omega | (simp only [go_sem]; first | done | omega)) only [go_sem]
        exact Next.mk (k + 1) ⟨by omega, by omega⟩ (by rw [hnx]; (try simp (disch := first | omega | (simp only [go_sem]; first | done | omega)) only [go_sem]); (first | refine WkL.eq ?_ ?_ | refine WkL.rest (by assumption) ?_ ?_ ?_ | refine WkL.keepL (by assumption) rfl ?_ ?_ ?_ ?_) <;> first | rfl | (simp; done) | (simp; omega) | (simp only [List.cons.injEq, AV.c.injEq, AC.int.injEq, AC.bool.injEq, AC.str.injEq, and_true, true_and, Int.natCast_add, Int.natCast_one, Int.cast_ofNat_Int]; omega) | (simp [AV.ok, AV.ok1, AC.ok]; done) | (simp [AV.ok, AV.ok1, AC.ok]; omega) | (simp only [List.forall_mem_cons, List.not_mem_nil, false_implies, implies_true, and_true]; (repeat' apply And.intro) <;> first | exact okN_map (fun x => by simp [go_sem, AC.pure]) | exact okN_grO (fun x => by simp [go_sem, AC.pure]) | (simp [AObj.okN, AC.ok]; done) | (simp [AObj.okN, AC.ok]; omega)) | (simp [*]; done) | grind)
    · rw [List.take_of_length_le (by omega), ← hU]
      simp (disch := first | omega | (simp only [go_sem]; first | done | omega)) only [go_sem]
      exact Ret.drop hH (Nat.le_refl _) (by simp [AV.ok, AV.ok1, AC.ok]) hk
end Go.Proofs.YtkmkkjlfnobciaaGreat
