/- The mean of the good values in a window: the program and the document's answer; sums, too. Condition: bins that are not huge. -/
import Derived.Test.YthgdllfkejlnmaaGreatHVSum
import Derived.Test.YthgdllfkejlnmaaGreatHVGF
namespace Go.Proofs.YthgdllfkejlnmaaGreat
open Go Go.RowKit
set_option maxRecDepth 100000
set_option linter.all false
set_option maxHeartbeats 1000000
variable {H : Hp} {K : AV → Hp → Prop}
theorem gcd_a (a b : Nat) (ha : a ≤ 4611686018427387904) (hb : b ≤ 4611686018427387904) (hk : K (.c (.int .i64 ((Nat.gcd a b : Nat)))) H) : ACalls Tryz.prog 163 [(.c (.int .i64 a)), (.c (.int .i64 b))] H K := by
  refine acalls Tryz.func163 rfl (by kernel_rfl) (by simp (disch := first | omega | (simp only [go_sem]; first | done | omega)) only [go_sem]) (fun hH => ?_)
  simp (disch := first | omega | (simp only [go_sem]; first | done | omega)) only [go_sem]
  refine AWp.loop (H.length) [] [0, 1] (fun (s : Nat × Nat) => s.1 ≤ 4611686018427387904 ∧ s.2 ≤ 4611686018427387904 ∧ Nat.gcd s.1 s.2 = Nat.gcd a b) (fun (s : Nat × Nat) => [(0, (.c (.int .i64 (s.1)))), (1, (.c (.int .i64 (s.2))))]) (fun (s : Nat × Nat) => H) (fun (s : Nat × Nat) => s.2) (by kernel_rfl) (fun _ => rfl) (by kernel_rfl) (by simp) (by first | (simp; done) | (simp; omega)) (by (try simp only [List.forall_mem_cons, List.not_mem_nil, false_implies, implies_true, and_true]); (try simp (disch := first | omega | (simp only [go_sem]; first | done | omega)) only [go_sem]); all_goals first | trivial | (simp [AV.ok, AV.ok1, AC.ok]; done) | (simp [AV.ok, AV.ok1, AC.ok]; omega) | (simp [AV.ok, AV.ok1, AC.ok]; assumption) | ((repeat' apply And.intro) <;> first | trivial | (simp [AV.ok, AV.ok1, AC.ok]; done) | (simp [AV.ok, AV.ok1, AC.ok]; omega) | (simp [AV.ok, AV.ok1, AC.ok]; assumption) | (refine grV_ok ?_ _; first | (simp; done) | (simp; omega) | omega))) ?_ (fun s hs _ _ => ?_)
  · exact Next.mk (a, b) ⟨ha, hb, rfl⟩ (by (try simp (disch := first | omega | (simp only [go_sem]; first | done | omega)) only [go_sem]); (first | refine WkL.eq ?_ ?_ | refine WkL.rest (by assumption) ?_ ?_ ?_ | refine WkL.keepL (by assumption) rfl ?_ ?_ ?_ ?_) <;> first | rfl | (simp; done) | (simp; omega) | (simp only [List.cons.injEq, AV.c.injEq, AC.int.injEq, AC.bool.injEq, AC.str.injEq, and_true, true_and, Int.natCast_add, Int.natCast_one, Int.cast_ofNat_Int]; omega) | (simp [AV.ok, AV.ok1, AC.ok]; done) | (simp [AV.ok, AV.ok1, AC.ok]; omega) | (simp only [List.forall_mem_cons, List.not_mem_nil, false_implies, implies_true, and_true]; (repeat' apply And.intro) <;> first | exact okN_map (fun x => by simp [go_sem, AC.pure]) | exact okN_grO (fun x => by simp [go_sem, AC.pure]) | (simp [AObj.okN, AC.ok]; done) | (simp [AObj.okN, AC.ok]; omega)) | (simp [*]; done) | grind)
  obtain ⟨x, y⟩ := s
  obtain ⟨s1, s2, s3⟩ := hs
  dsimp only at s1 s2 s3
  by_cases hy : y = 0
  · subst hy
    rw [Nat.gcd_zero_right] at s3
    rw [← s3] at hk
    simp (disch := first | omega | (simp only [go_sem]; first | done | omega)) only [go_sem]
    exact Ret.same (Nat.le_refl _) hk
  · simp (disch := first | omega | (simp only [go_sem]; first | done | omega)) only [go_sem]
    refine w_draw (by kernel_rfl) (by decide +kernel) ?_
    simp (disch := first | omega | (simp only [go_sem]; first | done | omega)) only [go_sem]
    have hm := Nat.mod_lt x (by omega : 0 < y)
    refine Next.mk (y, x % y) ⟨⟨by dsimp only; omega, by dsimp only; omega, ?_⟩, hm⟩ ?_
    · dsimp only
      rw [← s3]
      exact (Nat.gcd_comm _ _).trans ((Nat.gcd_rec y x).symm.trans (Nat.gcd_comm _ _))
    · (try simp (disch := first | omega | (simp only [go_sem]; first | done | omega)) only [go_sem]); (first | refine WkL.eq ?_ ?_ | refine WkL.rest (by assumption) ?_ ?_ ?_ | refine WkL.keepL (by assumption) rfl ?_ ?_ ?_ ?_) <;> first | rfl | (simp; done) | (simp; omega) | (simp only [List.cons.injEq, AV.c.injEq, AC.int.injEq, AC.bool.injEq, AC.str.injEq, and_true, true_and, Int.natCast_add, Int.natCast_one, Int.cast_ofNat_Int]; omega) | (simp [AV.ok, AV.ok1, AC.ok]; done) | (simp [AV.ok, AV.ok1, AC.ok]; omega) | (simp only [List.forall_mem_cons, List.not_mem_nil, false_implies, implies_true, and_true]; (repeat' apply And.intro) <;> first | exact okN_map (fun x => by simp [go_sem, AC.pure]) | exact okN_grO (fun x => by simp [go_sem, AC.pure]) | (simp [AObj.okN, AC.ok]; done) | (simp [AObj.okN, AC.ok]; omega)) | (simp [*]; done) | grind
theorem gcd_i (x y : Int) (a b : Nat) (ex : x = a) (ey : y = b) (ha : a ≤ 4611686018427387904) (hb : b ≤ 4611686018427387904) (hk : K (.c (.int .i64 ((Nat.gcd a b : Nat)))) H) : ACalls Tryz.prog 163 [(.c (.int .i64 x)), (.c (.int .i64 y))] H K := by
  subst ex; subst ey; exact gcd_a a b ha hb hk
def frcF (n d : Int) : List AC := [.int .i64 (n.tdiv (gcdF n d)), .int .i64 (d / (gcdF n d))]
theorem gcdF_pos (n d : Int) (hd : 1 ≤ d) : 1 ≤ gcdF n d ∧ (gcdF n d : Int) ≤ d := by
  unfold gcdF
  have h1 := Nat.gcd_pos_of_pos_right n.natAbs (show 0 < d.natAbs by omega)
  have h2 := Nat.gcd_le_right n.natAbs (show 0 < d.natAbs by omega)
  omega
theorem fraction_a (n d : Int) (hn : -4611686018427387904 ≤ n ∧ n ≤ 4611686018427387904) (hd : 1 ≤ d ∧ d ≤ 4611686018427387904) (hk : K (.agg (frcF n d)) H) : ACalls Tryz.prog 91 [(.c (.int .i64 n)), (.c (.int .i64 d))] H K := by
  have hg := gcdF_pos n d hd.1
  unfold frcF at hk
  refine acalls Tryz.func91 rfl (by kernel_rfl) (by simp (disch := first | omega | (simp only [go_sem]; first | done | omega)) only [go_sem]) (fun hH => ?_)
  simp (disch := first | omega | (simp only [go_sem]; first | done | omega)) only [go_sem]
  refine gcd_i _ _ n.natAbs d.natAbs (by omega) (by omega) (by omega) (by omega) ?_
  rw [show Nat.gcd n.natAbs d.natAbs = gcdF n d from rfl]
  generalize gcdF n d = g at *
  have b1 : -4611686018427387904 ≤ n.tdiv g ∧ n.tdiv g ≤ 4611686018427387904 := by
    have h1 : (n.tdiv g).natAbs ≤ n.natAbs := by rw [Int.natAbs_tdiv]; exact Nat.div_le_self _ _
    omega
  have b2 : 0 ≤ d / g ∧ d / g ≤ 4611686018427387904 := by
    have h1 := Int.ediv_nonneg (show 0 ≤ d by omega) (show (0 : Int) ≤ g by omega)
    have h2 := Int.ediv_le_self (g : Int) (show 0 ≤ d by omega)
    omega
  simp (disch := first | omega | (simp only [go_sem]; first | done | omega)) only [go_sem]
  refine w_draw (by kernel_rfl) (by decide +kernel) ?_
  simp (disch := first | omega | (simp only [go_sem]; first | done | omega)) only [go_sem]
  exact Ret.drop hH (Nat.le_refl _) (by simp [AV.ok, AV.ok1, AC.ok]) hk
def meanRes (b : List Bin) (step : Int) (w : Win) : List AC × Bool × Int :=
  if sumE b step w ≠ 0 then ([.int .i64 0, .int .i64 0], false, sumE b step w) else if (sumRes b step w).2.1 = 0 then ([.int .i64 0, .int .i64 0], false, 0) else (frcF (sumRes b step w).1 (sumRes b step w).2.1, true, 0)
theorem mean_a (b : List Bin) (step : Int) (w : Win) (hl : b.length ≤ 100000) (hk : K (.tup [.agg (meanRes b step w).1, (.c (.bool ((meanRes b step w).2.1))), (.c (.int .i64 ((meanRes b step w).2.2)))]) H) : ACalls Tryz.prog 19 [.c (.lst 6 (b.map encN)), (.c (.int .i64 step)), .agg (encW w)] H K := by
  refine acalls Tryz.func19 rfl (by kernel_rfl) (by simp (disch := first | omega | (simp only [go_sem]; first | done | omega)) only [go_sem]) (fun hH => ?_)
  simp (disch := first | omega | (simp only [go_sem]; first | done | omega)) only [go_sem]
  refine sum_a b step w (by omega) ?_
  simp (disch := first | omega | (simp only [go_sem]; first | done | omega)) only [go_sem]
  by_cases c : sumE b step w = 0
  case neg =>
    rw [show meanRes b step w = ([.int .i64 0, .int .i64 0], false, sumE b step w) by unfold meanRes; rw [if_pos c]] at hk
    have e : sumRes b step w = (0, 0, sumE b step w) := by unfold sumRes; rw [if_pos c]
    rw [e]
    simp (disch := first | omega | (simp only [go_sem]; first | done | omega)) only [go_sem, c]
    exact Ret.drop hH (Nat.le_refl _) (by simp [AV.ok, AV.ok1, AC.ok]) hk
  have hb : bnF b step = 0 := by
    unfold sumE at c
    split at c
    · exact c
    · rename_i h; simpa using h
  obtain ⟨_, _, hbr⟩ := bnF_ok hb
  have hbd := inB_bd w b hbr
  have e : sumRes b step w = (((inB b w).map (fun x => x.s)).sum, ((inB b w).map (fun x => x.n)).sum, 0) := by unfold sumRes; rw [if_neg (by rw [c]; decide)]
  unfold meanRes at hk
  rw [if_neg (by rw [c]; decide)] at hk
  rw [e] at hk ⊢
  dsimp only at hk ⊢
  generalize ((inB b w).map (fun x => x.s)).sum = S at *
  generalize ((inB b w).map (fun x => x.n)).sum = C at *
  by_cases c2 : C = 0
  · rw [if_pos c2] at hk
    simp (disch := first | omega | (simp only [go_sem]; first | done | omega)) only [go_sem, c2]
    exact Ret.drop hH (Nat.le_refl _) (by simp [AV.ok, AV.ok1, AC.ok]) hk
  · rw [if_neg c2] at hk
    simp (disch := first | omega | (simp only [go_sem]; first | done | omega)) only [go_sem, c2]
    refine fraction_a S C (by omega) (by omega) ?_
    unfold frcF at hk ⊢
    simp (disch := first | omega | (simp only [go_sem]; first | done | omega)) only [go_sem]
    exact Ret.drop hH (Nat.le_refl _) (by simp [AV.ok, AV.ok1, AC.ok]) hk
theorem sumFault_a (step : Int) (w : Win) (hs : isStep step) (hk : K (.c (.int .i64 (if winE w ≠ 0 then 1 else if w.a % step ≠ 0 ∨ (w.b % step ≠ 0 ∧ w.b ≠ 345686400000) then 16 else 0))) H) : ACalls Tryz.prog 26 [(.c (.int .i64 step)), .agg (encW w)] H K := by
  have hs1 : 1 ≤ step := hs.1
  have hs2 : step ≤ 86400000 := hs.2.1
  refine acalls Tryz.func26 rfl (by kernel_rfl) (by simp (disch := first | omega | (simp only [go_sem]; first | done | omega)) only [go_sem]) (fun hH => ?_)
  simp (disch := first | omega | (simp only [go_sem]; first | done | omega)) only [go_sem]
  refine windowFaultR_a w ?_
  simp (disch := first | omega | (simp only [go_sem]; first | done | omega)) only [go_sem]
  refine acond_d (fun c2 => ?_) (fun c2 => ?_)
  rotate_left
  · rw [if_pos c2] at hk
    have e1 : winE w = 1 := by unfold winE at c2 ⊢; split <;> simp_all
    rw [e1]
    simp (disch := first | omega | (simp only [go_sem]; first | done | omega)) only [go_sem]
    exact Ret.drop hH (Nat.le_refl _) trivial hk
  have hw : 0 ≤ w.a ∧ w.a ≤ w.b ∧ w.b ≤ 345686400000 := by
    unfold winE at c2
    split at c2 <;> omega
  rw [if_neg (by simp [c2])] at hk
  simp (disch := first | omega | (simp only [go_sem]; first | done | omega)) only [go_sem]
  by_cases d1 : w.a % step = 0
  case neg =>
    rw [if_pos (.inl d1)] at hk
    simp (disch := first | omega | (simp only [go_sem]; first | done | omega)) only [go_sem, d1]
    exact Ret.drop hH (Nat.le_refl _) trivial hk
  by_cases d2 : w.b % step = 0
  · rw [if_neg (by rintro (h | h); exact h d1; exact h.1 d2)] at hk
    simp (disch := first | omega | (simp only [go_sem]; first | done | omega)) only [go_sem, d1, d2]
    exact Ret.drop hH (Nat.le_refl _) trivial hk
  by_cases d3 : w.b = 345686400000
  · rw [if_neg (by rintro (h | h); exact h d1; exact h.2 d3)] at hk
    rw [d3] at d2
    simp (disch := first | omega | (simp only [go_sem]; first | done | omega)) only [go_sem, d1, d2, d3]
    exact Ret.drop hH (Nat.le_refl _) trivial hk
  · rw [if_pos (.inr ⟨d2, d3⟩)] at hk
    simp (disch := first | omega | (simp only [go_sem]; first | done | omega)) only [go_sem, d1, d2, d3]
    exact Ret.drop hH (Nat.le_refl _) trivial hk
theorem sumOf_a (b : List Bin) (w : Win) (hl : b.length ≤ 100000) (hb : ∀ x ∈ b, x.right) (hk : K (.tup [(.c (.int .i64 (((inB b w).map (fun x => x.s)).sum))), (.c (.int .i64 (((inB b w).map (fun x => x.n)).sum)))]) H) : ACalls Tryz.prog 28 [.c (.lst 6 (b.map encN)), .agg (encW w)] H K := by
  refine acalls Tryz.func28 rfl (by kernel_rfl) (by simp (disch := first | omega | (simp only [go_sem]; first | done | omega)) only [go_sem]) (fun hH => ?_)
  simp (disch := first | omega | (simp only [go_sem]; first | done | omega)) only [go_sem]
  refine AWp.loop (H.length + 1) [3, 10, 11] [12, 6, 7] (fun (k : Nat) => k ≤ b.length) (fun (k : Nat) => [(12, (.c (.int .i64 k))), (6, (.c (.int .i64 (((inB (b.take k) w).map (fun x => x.s)).sum)))), (7, (.c (.int .i64 (((inB (b.take k) w).map (fun x => x.n)).sum))))]) (fun (k : Nat) => H ++ [.row 35 2 [encW w] true]) (fun (k : Nat) => b.length - k) (by kernel_rfl) (fun _ => rfl) (by kernel_rfl) (by simp) (by first | (simp; done) | (simp; omega)) (by (try simp only [List.forall_mem_cons, List.not_mem_nil, false_implies, implies_true, and_true]); (try simp (disch := first | omega | (simp only [go_sem]; first | done | omega)) only [go_sem]); all_goals first | trivial | (simp [AV.ok, AV.ok1, AC.ok]; done) | (simp [AV.ok, AV.ok1, AC.ok]; omega) | (simp [AV.ok, AV.ok1, AC.ok]; assumption) | ((repeat' apply And.intro) <;> first | trivial | (simp [AV.ok, AV.ok1, AC.ok]; done) | (simp [AV.ok, AV.ok1, AC.ok]; omega) | (simp [AV.ok, AV.ok1, AC.ok]; assumption) | (refine grV_ok ?_ _; first | (simp; done) | (simp; omega) | omega))) ?_ (fun k hk1 _ _ => ?_)
  · exact Next.mk 0 (by omega) (by (try simp (disch := first | omega | (simp only [go_sem]; first | done | omega)) only [go_sem]); (first | refine WkL.eq ?_ ?_ | refine WkL.rest (by assumption) ?_ ?_ ?_ | refine WkL.keepL (by assumption) rfl ?_ ?_ ?_ ?_) <;> first | rfl | (simp; done) | (simp; omega) | (simp only [List.cons.injEq, AV.c.injEq, AC.int.injEq, AC.bool.injEq, AC.str.injEq, and_true, true_and, Int.natCast_add, Int.natCast_one, Int.cast_ofNat_Int]; omega) | (simp [AV.ok, AV.ok1, AC.ok]; done) | (simp [AV.ok, AV.ok1, AC.ok]; omega) | (simp only [List.forall_mem_cons, List.not_mem_nil, false_implies, implies_true, and_true]; (repeat' apply And.intro) <;> first | exact okN_map (fun x => by simp [go_sem, AC.pure]) | exact okN_grO (fun x => by simp [go_sem, AC.pure]) | (simp [AObj.okN, AC.ok]; done) | (simp [AObj.okN, AC.ok]; omega)) | (simp [*]; done) | grind)
  have hbd := inB_bd w (b.take k) (fun x hx => hb x (List.mem_of_mem_take hx))
  have htk : (b.take k).length ≤ b.length := by rw [List.length_take]; omega
  by_cases hlt : k < b.length
  · have hnx := inB_next w hlt
    have hx := hb b[k] (List.getElem_mem hlt)
    simp only [Bin.right] at hx
    have hs1 : ((inB (b.take (k + 1)) w).map (fun x => x.s)).sum = if w.a ≤ b[k].a ∧ b[k].a < w.b then ((inB (b.take k) w).map (fun x => x.s)).sum + b[k].s else ((inB (b.take k) w).map (fun x => x.s)).sum := by
      rw [hnx]; split <;> simp
    have hs2 : ((inB (b.take (k + 1)) w).map (fun x => x.n)).sum = if w.a ≤ b[k].a ∧ b[k].a < w.b then ((inB (b.take k) w).map (fun x => x.n)).sum + b[k].n else ((inB (b.take k) w).map (fun x => x.n)).sum := by
      rw [hnx]; split <;> simp
    clear hnx
    generalize ((inB (b.take k) w).map (fun x => x.s)).sum = S at *
    generalize ((inB (b.take k) w).map (fun x => x.n)).sum = C at *
    by_cases c1 : w.a ≤ b[k].a
    · by_cases c2 : b[k].a < w.b
      · rw [if_pos ⟨c1, c2⟩] at hs1 hs2
        simp (disch := first | omega | (simp only [go_sem]; first | done | omega)) only [go_sem, c1, c2]
        refine w_draw (by kernel_rfl) (by decide +kernel) ?_
        simp (disch := first | omega | (simp only [go_sem]; first | done | omega)) only [go_sem]
        exact Next.mk (k + 1) ⟨by omega, by omega⟩ (by rw [hs1, hs2]; (try simp (disch := first | omega | (simp only [go_sem]; first | done | omega)) only [go_sem]); (first | refine WkL.eq ?_ ?_ | refine WkL.rest (by assumption) ?_ ?_ ?_ | refine WkL.keepL (by assumption) rfl ?_ ?_ ?_ ?_) <;> first | rfl | (simp; done) | (simp; omega) | (simp only [List.cons.injEq, AV.c.injEq, AC.int.injEq, AC.bool.injEq, AC.str.injEq, and_true, true_and, Int.natCast_add, Int.natCast_one, Int.cast_ofNat_Int]; omega) | (simp [AV.ok, AV.ok1, AC.ok]; done) | (simp [AV.ok, AV.ok1, AC.ok]; omega) | (simp only [List.forall_mem_cons, List.not_mem_nil, false_implies, implies_true, and_true]; (repeat' apply And.intro) <;> first | exact okN_map (fun x => by simp [go_sem, AC.pure]) | exact okN_grO (fun x => by simp [go_sem, AC.pure]) | (simp [AObj.okN, AC.ok]; done) | (simp [AObj.okN, AC.ok]; omega)) | (simp [*]; done) | grind)
      · rw [if_neg (fun h => c2 h.2)] at hs1 hs2
        simp (disch := first | omega | (simp only [go_sem]; first | done | omega)) only [go_sem, c1, c2]
        exact Next.mk (k + 1) ⟨by omega, by omega⟩ (by rw [hs1, hs2]; (try simp (disch := first | omega | (simp only [go_sem]; first | done | omega)) only [go_sem]); (first | refine WkL.eq ?_ ?_ | refine WkL.rest (by assumption) ?_ ?_ ?_ | refine WkL.keepL (by assumption) rfl ?_ ?_ ?_ ?_) <;> first | rfl | (simp; done) | (simp; omega) | (simp only [List.cons.injEq, AV.c.injEq, AC.int.injEq, AC.bool.injEq, AC.str.injEq, and_true, true_and, Int.natCast_add, Int.natCast_one, Int.cast_ofNat_Int]; omega) | (simp [AV.ok, AV.ok1, AC.ok]; done) | (simp [AV.ok, AV.ok1, AC.ok]; omega) | (simp only [List.forall_mem_cons, List.not_mem_nil, false_implies, implies_true, and_true]; (repeat' apply And.intro) <;> first | exact okN_map (fun x => by simp [go_sem, AC.pure]) | exact okN_grO (fun x => by simp [go_sem, AC.pure]) | (simp [AObj.okN, AC.ok]; done) | (simp [AObj.okN, AC.ok]; omega)) | (simp [*]; done) | grind)
    · rw [if_neg (fun h => c1 h.1)] at hs1 hs2
      simp (disch := first | omega | (simp only [go_sem]; first | done | omega)) only [go_sem, c1]
      exact Next.mk (k + 1) ⟨by omega, by omega⟩ (by rw [hs1, hs2]; (try simp (disch := first | omega | (simp only [go_sem]; first | done | omega)) only [go_sem]); (first | refine WkL.eq ?_ ?_ | refine WkL.rest (by assumption) ?_ ?_ ?_ | refine WkL.keepL (by assumption) rfl ?_ ?_ ?_ ?_) <;> first | rfl | (simp; done) | (simp; omega) | (simp only [List.cons.injEq, AV.c.injEq, AC.int.injEq, AC.bool.injEq, AC.str.injEq, and_true, true_and, Int.natCast_add, Int.natCast_one, Int.cast_ofNat_Int]; omega) | (simp [AV.ok, AV.ok1, AC.ok]; done) | (simp [AV.ok, AV.ok1, AC.ok]; omega) | (simp only [List.forall_mem_cons, List.not_mem_nil, false_implies, implies_true, and_true]; (repeat' apply And.intro) <;> first | exact okN_map (fun x => by simp [go_sem, AC.pure]) | exact okN_grO (fun x => by simp [go_sem, AC.pure]) | (simp [AObj.okN, AC.ok]; done) | (simp [AObj.okN, AC.ok]; omega)) | (simp [*]; done) | grind)
  · rw [List.take_of_length_le (by omega)]
    simp (disch := first | omega | (simp only [go_sem]; first | done | omega)) only [go_sem]
    exact Ret.drop hH (Nat.le_refl _) (by simp [AV.ok, AV.ok1, AC.ok]) hk
theorem meanOf_a (b : List Bin) (w : Win) (hl : b.length ≤ 100000) (hb : ∀ x ∈ b, x.right) (hk : K (.tup [.agg (if ((inB b w).map (fun x => x.n)).sum = 0 then [.int .i64 0, .int .i64 0] else frcF ((inB b w).map (fun x => x.s)).sum ((inB b w).map (fun x => x.n)).sum), (.c (.bool (decide (¬((inB b w).map (fun x => x.n)).sum = 0))))]) H) : ACalls Tryz.prog 29 [.c (.lst 6 (b.map encN)), .agg (encW w)] H K := by
  have hbd := inB_bd w b hb
  refine acalls Tryz.func29 rfl (by kernel_rfl) (by simp (disch := first | omega | (simp only [go_sem]; first | done | omega)) only [go_sem]) (fun hH => ?_)
  simp (disch := first | omega | (simp only [go_sem]; first | done | omega)) only [go_sem]
  refine sumOf_a b w hl hb ?_
  generalize ((inB b w).map (fun x => x.s)).sum = S at *
  generalize ((inB b w).map (fun x => x.n)).sum = C at *
  by_cases c2 : C = 0
  · rw [if_pos c2, decide_eq_false (by simpa using c2)] at hk
    simp (disch := first | omega | (simp only [go_sem]; first | done | omega)) only [go_sem, c2]
    exact Ret.drop hH (Nat.le_refl _) (by simp [AV.ok, AV.ok1, AC.ok]) hk
  · rw [if_neg c2, decide_eq_true c2] at hk
    simp (disch := first | omega | (simp only [go_sem]; first | done | omega)) only [go_sem, c2]
    refine divisor_a S C (by omega) (by omega) ?_
    have hg := gcdF_pos S C (by omega)
    unfold frcF at hk
    generalize gcdF S C = g at *
    have b1 : -4611686018427387904 ≤ S.tdiv g ∧ S.tdiv g ≤ 4611686018427387904 := by
      have h1 : (S.tdiv g).natAbs ≤ S.natAbs := by rw [Int.natAbs_tdiv]; exact Nat.div_le_self _ _
      omega
    have b2 : 0 ≤ C / g ∧ C / g ≤ 4611686018427387904 := by
      have h1 := Int.ediv_nonneg (show 0 ≤ C by omega) (show (0 : Int) ≤ g by omega)
      have h2 := Int.ediv_le_self (g : Int) (show 0 ≤ C by omega)
      omega
    simp (disch := first | omega | (simp only [go_sem]; first | done | omega)) only [go_sem]
    refine w_draw (by kernel_rfl) (by decide +kernel) ?_
    simp (disch := first | omega | (simp only [go_sem]; first | done | omega)) only [go_sem]
    exact Ret.drop hH (Nat.le_refl _) (by simp [AV.ok, AV.ok1, AC.ok]) hk
end Go.Proofs.YthgdllfkejlnmaaGreat
