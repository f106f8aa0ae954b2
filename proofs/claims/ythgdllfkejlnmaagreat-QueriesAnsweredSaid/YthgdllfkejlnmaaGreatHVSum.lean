/- The sum over bins in a window: the program. No condition. -/
import Derived.Test.YthgdllfkejlnmaaGreatHVGI
import Derived.Test.YthgdllfkejlnmaaGreatHVGF
namespace Go.Proofs.YthgdllfkejlnmaaGreat
open Go Go.RowKit
set_option maxRecDepth 100000
set_option linter.all false
set_option maxHeartbeats 1000000
variable {H : Hp} {K : AV → Hp → Prop}
def sumE (b : List Bin) (step : Int) (w : Win) : Int := if bnF b step ≠ 0 then bnF b step else if winE w ≠ 0 then 1 else if w.a % step ≠ 0 ∨ (w.b % step ≠ 0 ∧ w.b ≠ 345686400000) then 16 else 0
def inB (b : List Bin) (w : Win) : List Bin := b.filter (fun x => decide (w.a ≤ x.a ∧ x.a < w.b))
def sumRes (b : List Bin) (step : Int) (w : Win) : Int × Int × Int := if sumE b step w ≠ 0 then (0, 0, sumE b step w) else (((inB b w).map (fun x => x.s)).sum, ((inB b w).map (fun x => x.n)).sum, 0)
theorem windowFaultB_a (b : List Bin) (step : Int) (w : Win) (hl : b.length ≤ 1099511627776) (hk : K (.c (.int .i64 (sumE b step w))) H) : ACalls Tryz.prog 89 [.c (.lst 6 (b.map encN)), (.c (.int .i64 step)), .agg (encW w)] H K := by
  refine acalls Tryz.func89 rfl (by kernel_rfl) (by simp (disch := first | omega | (simp only [go_sem]; first | done | omega)) only [go_sem]) (fun hH => ?_)
  simp (disch := first | omega | (simp only [go_sem]; first | done | omega)) only [go_sem]
  refine checkBins_a b step hl ?_
  simp (disch := first | omega | (simp only [go_sem]; first | done | omega)) only [go_sem]
  refine acond_d (fun c => ?_) (fun c => ?_)
  rotate_left
  · rw [show sumE b step w = bnF b step by unfold sumE; rw [if_pos c]] at hk
    simp (disch := first | omega | (simp only [go_sem]; first | done | omega)) only [go_sem]
    exact Ret.drop hH (Nat.le_refl _) trivial hk
  have hs := (bnF_ok c).1
  have hs1 : 1 ≤ step := hs.1
  have hs2 : step ≤ 86400000 := hs.2.1
  simp (disch := first | omega | (simp only [go_sem]; first | done | omega)) only [go_sem]
  refine window_a w ?_
  simp (disch := first | omega | (simp only [go_sem]; first | done | omega)) only [go_sem]
  refine acond_d (fun c2 => ?_) (fun c2 => ?_)
  rotate_left
  · rw [show sumE b step w = 1 by unfold sumE; rw [if_neg (by simp [c]), if_pos c2]] at hk
    simp (disch := first | omega | (simp only [go_sem]; first | done | omega)) only [go_sem]
    exact Ret.drop hH (Nat.le_refl _) trivial hk
  have hw : 0 ≤ w.a ∧ w.a ≤ w.b ∧ w.b ≤ 345686400000 := by
    unfold winE at c2
    split at c2 <;> omega
  have e3 : sumE b step w = if w.a % step ≠ 0 ∨ (w.b % step ≠ 0 ∧ w.b ≠ 345686400000) then 16 else 0 := by
    unfold sumE
    rw [if_neg (by simp [c]), if_neg (by simp [c2])]
  simp (disch := first | omega | (simp only [go_sem]; first | done | omega)) only [go_sem]
  by_cases d3 : w.b = 345686400000
  · by_cases d1 : w.a % step = 0 <;> by_cases d2 : (345686400000 : Int) % step = 0
    all_goals simp (disch := first | omega | (simp only [go_sem]; first | done | omega)) only [go_sem, d1, d2, d3]
    all_goals simp only [d1, d3, ne_eq, not_true_eq_false, not_false_eq_true, and_self, and_true, and_false, true_and, false_and, or_self, or_true, or_false, true_or, false_or, if_true, if_false] at e3
    all_goals rw [e3] at hk
    all_goals exact Ret.drop hH (Nat.le_refl _) trivial hk
  · by_cases d1 : w.a % step = 0 <;> by_cases d2 : w.b % step = 0
    all_goals simp (disch := first | omega | (simp only [go_sem]; first | done | omega)) only [go_sem, d1, d2, d3]
    all_goals simp only [d1, d2, d3, ne_eq, not_true_eq_false, not_false_eq_true, and_self, and_true, and_false, true_and, false_and, or_self, or_true, or_false, true_or, false_or, if_true, if_false] at e3
    all_goals rw [e3] at hk
    all_goals exact Ret.drop hH (Nat.le_refl _) trivial hk
theorem inB_next {b : List Bin} {k : Nat} (w : Win) (h : k < b.length) : inB (b.take (k + 1)) w = inB (b.take k) w ++ (if w.a ≤ b[k].a ∧ b[k].a < w.b then [b[k]] else []) := by
  unfold inB
  rw [List.take_succ_eq_append_getElem h, List.filter_append]
  congr 1
  by_cases c : w.a ≤ b[k].a ∧ b[k].a < w.b <;> simp [c]
theorem inB_bd (w : Win) : ∀ b : List Bin, (∀ x ∈ b, x.right) → -5000000000000 * (b.length : Int) ≤ ((inB b w).map (fun x => x.s)).sum ∧ ((inB b w).map (fun x => x.s)).sum ≤ 5000000000000 * (b.length : Int) ∧ 0 ≤ ((inB b w).map (fun x => x.n)).sum ∧ ((inB b w).map (fun x => x.n)).sum ≤ 5000000 * (b.length : Int)
  | [], _ => by simp [inB]
  | x :: b, h => by
    have ih := inB_bd w b (fun y hy => h y (by simp [hy]))
    have hx := h x (by simp)
    simp only [Bin.right] at hx
    unfold inB at *
    by_cases c : w.a ≤ x.a ∧ x.a < w.b
    · rw [List.filter_cons_of_pos (by simpa using c)]
      simp only [List.map_cons, List.sum_cons, List.length_cons]
      omega
    · rw [List.filter_cons_of_neg (by simpa using c)]
      simp only [List.length_cons]
      omega
theorem sum_a (b : List Bin) (step : Int) (w : Win) (hl : b.length ≤ 1099511627776) (hk : K (.tup [(.c (.int .i64 ((sumRes b step w).1))), (.c (.int .i64 ((sumRes b step w).2.1))), (.c (.int .i64 ((sumRes b step w).2.2)))]) H) : ACalls Tryz.prog 18 [.c (.lst 6 (b.map encN)), (.c (.int .i64 step)), .agg (encW w)] H K := by
  refine acalls Tryz.func18 rfl (by kernel_rfl) (by simp (disch := first | omega | (simp only [go_sem]; first | done | omega)) only [go_sem]) (fun hH => ?_)
  simp (disch := first | omega | (simp only [go_sem]; first | done | omega)) only [go_sem]
  refine windowFaultB_a b step w hl ?_
  simp (disch := first | omega | (simp only [go_sem]; first | done | omega)) only [go_sem]
  refine acond_d (fun c => ?_) (fun c => ?_)
  rotate_left
  · rw [show sumRes b step w = (0, 0, sumE b step w) by unfold sumRes; rw [if_pos c]] at hk
    simp (disch := first | omega | (simp only [go_sem]; first | done | omega)) only [go_sem]
    exact Ret.drop hH (Nat.le_refl _) (by simp [AV.ok, AV.ok1, AC.ok]) hk
  have hb : bnF b step = 0 := by
    unfold sumE at c
    split at c
    · exact c
    · rename_i h; simpa using h
  obtain ⟨_, hbl, hbr⟩ := bnF_ok hb
  rw [show sumRes b step w = (((inB b w).map (fun x => x.s)).sum, ((inB b w).map (fun x => x.n)).sum, 0) by unfold sumRes; rw [if_neg (by rw [c]; decide)]] at hk
  simp (disch := first | omega | (simp only [go_sem]; first | done | omega)) only [go_sem]
  refine AWp.loop (H.length + 1) [5, 21, 22] [23, 10, 11] (fun (k : Nat) => k ≤ b.length) (fun (k : Nat) => [(23, (.c (.int .i64 k))), (10, (.c (.int .i64 (((inB (b.take k) w).map (fun x => x.s)).sum)))), (11, (.c (.int .i64 (((inB (b.take k) w).map (fun x => x.n)).sum))))]) (fun (k : Nat) => H ++ [.row 35 2 [encW w] true]) (fun (k : Nat) => b.length - k) (by kernel_rfl) (fun _ => rfl) (by kernel_rfl) (by simp) (by first | (simp; done) | (simp; omega)) (by (try simp only [List.forall_mem_cons, List.not_mem_nil, false_implies, implies_true, and_true]); (try simp (disch := first | omega | (simp only [go_sem]; first | done | omega)) only [go_sem]); all_goals first | trivial | (simp [AV.ok, AV.ok1, AC.ok]; done) | (simp [AV.ok, AV.ok1, AC.ok]; omega) | (simp [AV.ok, AV.ok1, AC.ok]; assumption) | ((repeat' apply And.intro) <;> first | trivial | (simp [AV.ok, AV.ok1, AC.ok]; done) | (simp [AV.ok, AV.ok1, AC.ok]; omega) | (simp [AV.ok, AV.ok1, AC.ok]; assumption) | (refine grV_ok ?_ _; first | (simp; done) | (simp; omega) | omega))) ?_ (fun k hk1 _ _ => ?_)
  · exact Next.mk 0 (by omega) (by (try simp (disch := first | omega | (simp only [go_sem]; first | done | omega)) only [go_sem]); (first | refine WkL.eq ?_ ?_ | refine WkL.rest (by assumption) ?_ ?_ ?_ | refine WkL.keepL (by assumption) rfl ?_ ?_ ?_ ?_) <;> first | rfl | (simp; done) | (simp; omega) | (simp only [List.cons.injEq, AV.c.injEq, AC.int.injEq, AC.bool.injEq, AC.str.injEq, and_true, true_and, Int.natCast_add, Int.natCast_one, Int.cast_ofNat_Int]; omega) | (simp [AV.ok, AV.ok1, AC.ok]; done) | (simp [AV.ok, AV.ok1, AC.ok]; omega) | (simp only [List.forall_mem_cons, List.not_mem_nil, false_implies, implies_true, and_true]; (repeat' apply And.intro) <;> first | exact okN_map (fun x => by simp [go_sem, AC.pure]) | exact okN_grO (fun x => by simp [go_sem, AC.pure]) | (simp [AObj.okN, AC.ok]; done) | (simp [AObj.okN, AC.ok]; omega)) | (simp [*]; done) | grind)
  have hbd := inB_bd w (b.take k) (fun x hx => hbr x (List.mem_of_mem_take hx))
  have htk : (b.take k).length ≤ b.length := by rw [List.length_take]; omega
  by_cases hlt : k < b.length
  · have hnx := inB_next w hlt
    have hx := hbr b[k] (List.getElem_mem hlt)
    simp only [Bin.right] at hx
    have hs1 : ((inB (b.take (k + 1)) w).map (fun x => x.s)).sum = if w.a ≤ b[k].a ∧ b[k].a < w.b then ((inB (b.take k) w).map (fun x => x.s)).sum + b[k].s else ((inB (b.take k) w).map (fun x => x.s)).sum := by
      rw [hnx]; split <;> simp
    have hs2 : ((inB (b.take (k + 1)) w).map (fun x => x.n)).sum = if w.a ≤ b[k].a ∧ b[k].a < w.b then ((inB (b.take k) w).map (fun x => x.n)).sum + b[k].n else ((inB (b.take k) w).map (fun x => x.n)).sum := by
      rw [hnx]; split <;> simp
    clear hnx
    generalize ((inB (b.take k) w).map (fun x => x.s)).sum = S at *
    generalize ((inB (b.take k) w).map (fun x => x.n)).sum = C at *
    simp (disch := first | omega | (simp only [go_sem]; first | done | omega)) only [go_sem]
    refine inW2_a _ _ _ ?_
    simp (disch := first | omega | (simp only [go_sem]; first | done | omega)) only [go_sem]
    refine acond_d (fun c2 => ?_) (fun c2 => ?_)
    · rw [if_pos c2] at hs1 hs2
      simp (disch := first | omega | (simp only [go_sem]; first | done | omega)) only [go_sem]
      exact Next.mk (k + 1) ⟨by omega, by omega⟩ (by rw [hs1, hs2]; (try simp (disch := first | omega | (simp only [go_sem]; first | done | omega)) only [go_sem]); (first | refine WkL.eq ?_ ?_ | refine WkL.rest (by assumption) ?_ ?_ ?_ | refine WkL.keepL (by assumption) rfl ?_ ?_ ?_ ?_) <;> first | rfl | (simp; done) | (simp; omega) | (simp only [List.cons.injEq, AV.c.injEq, AC.int.injEq, AC.bool.injEq, AC.str.injEq, and_true, true_and, Int.natCast_add, Int.natCast_one, Int.cast_ofNat_Int]; omega) | (simp [AV.ok, AV.ok1, AC.ok]; done) | (simp [AV.ok, AV.ok1, AC.ok]; omega) | (simp only [List.forall_mem_cons, List.not_mem_nil, false_implies, implies_true, and_true]; (repeat' apply And.intro) <;> first | exact okN_map (fun x => by simp [go_sem, AC.pure]) | exact okN_grO (fun x => by simp [go_sem, AC.pure]) | (simp [AObj.okN, AC.ok]; done) | (simp [AObj.okN, AC.ok]; omega)) | (simp [*]; done) | grind)
    · rw [if_neg c2] at hs1 hs2
      simp (disch := first | omega | (simp only [go_sem]; first | done | omega)) only [go_sem]
      exact Next.mk (k + 1) ⟨by omega, by omega⟩ (by rw [hs1, hs2]; (try simp (disch := first | omega | (simp only [go_sem]; first | done | omega)) only [go_sem]); (first | refine WkL.eq ?_ ?_ | refine WkL.rest (by assumption) ?_ ?_ ?_ | refine WkL.keepL (by assumption) rfl ?_ ?_ ?_ ?_) <;> first | rfl | (simp; done) | (simp; omega) | (simp only [List.cons.injEq, AV.c.injEq, AC.int.injEq, AC.bool.injEq, AC.str.injEq, and_true, true_and, Int.natCast_add, Int.natCast_one, Int.cast_ofNat_Int]; omega) | (simp [AV.ok, AV.ok1, AC.ok]; done) | (simp [AV.ok, AV.ok1, AC.ok]; omega) | (simp only [List.forall_mem_cons, List.not_mem_nil, false_implies, implies_true, and_true]; (repeat' apply And.intro) <;> first | exact okN_map (fun x => by simp [go_sem, AC.pure]) | exact okN_grO (fun x => by simp [go_sem, AC.pure]) | (simp [AObj.okN, AC.ok]; done) | (simp [AObj.okN, AC.ok]; omega)) | (simp [*]; done) | grind)
  · rw [List.take_of_length_le (by omega)]
    simp (disch := first | omega | (simp only [go_sem]; first | done | omega)) only [go_sem]
    exact Ret.drop hH (Nat.le_refl _) (by simp [AV.ok, AV.ok1, AC.ok]) hk
end Go.Proofs.YthgdllfkejlnmaaGreat
