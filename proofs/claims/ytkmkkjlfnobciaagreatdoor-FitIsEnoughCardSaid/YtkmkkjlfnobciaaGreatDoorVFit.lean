/- Copies and equality of levels; Cost, most. No condition. -/
import Derived.Test.YtkmkkjlfnobciaaGreatDoorVLevels
import Derived.Test.YtkmkkjlfnobciaaGreatDoorVLev
namespace Go.Proofs.YtkmkkjlfnobciaaGreatDoor
open Go Go.RowKit
set_option maxRecDepth 100000
set_option linter.all false
variable {H : Hp} {K : AV → Hp → Prop}
theorem cloneL_a (l : List Level) (hl : l.length ≤ 1099511627776) (hk : K (.c (clV H.length 2 (l.map encL))) (H ++ [grO 57 2 (l.map encL)])) : ACalls Tryz.prog 101 [.c (.lst 2 (l.map encL))] H K := by
  cases l with
  | nil =>
    refine acalls Tryz.func101 rfl (by kernel_rfl) (by simp (disch := first | omega | (simp only [go_sem]; first | done | omega)) only [go_sem]) (fun hH => ?_)
    simp (disch := first | omega | (simp only [go_sem]; first | done | omega)) only [go_sem]
    refine asome_i (fun b _ => ?_)
    cases b
    · simp (disch := first | omega | (simp only [go_sem]; first | done | omega)) only [go_sem]
      refine app_lst ?_
      simp (disch := first | omega | (simp only [go_sem]; first | done | omega)) only [go_sem]
      exact Ret.nil [2] (by simp) (Ret.cut hH (Nat.le_refl _) trivial (Ret.pad (Nat.le_refl _) (Ret.same (by simp) hk)))
    · simp (disch := first | omega | (simp only [go_sem]; first | done | omega)) only [go_sem]
      exact Ret.nil [2] (by simp) (Ret.pad (Nat.le_refl _) (Ret.same (by simp) hk))
  | cons x xs =>
    refine acalls Tryz.func101 rfl (by kernel_rfl) (by simp (disch := first | omega | (simp only [go_sem]; first | done | omega)) only [go_sem]) (fun hH => ?_)
    simp (disch := first | omega | (simp only [go_sem]; first | done | omega)) only [go_sem]
    refine asome_i (fun b hb => ?_)
    subst hb
    simp (disch := first | omega | (simp only [go_sem]; first | done | omega)) only [go_sem]
    refine app_lst ?_
    simp only [List.length_cons] at hl
    simp (disch := first | omega | (simp only [go_sem]; first | done | omega)) only [go_sem]
    refine Ret.pick [1] hH (Nat.le_refl _) (L := [.row 57 2 ((x :: xs).map encL) true]) rfl (by simp) (by simp [AObj.pureO, pureL, encL, AC.pure]) (v' := .c (.sl (some (H.length, 0)) (xs.length + 1))) ?_ (by simp [AV.ok, AV.ok1, AC.ok]) (by simpa [clV, grO] using hk)
    simp [AV.ren, AV.ren1, AC.ren, pickS]
theorem equalL_a (l m : List Level) (hl : l.length ≤ 1099511627776) (hm : m.length ≤ 1099511627776) (hk : K (.c (.bool (decide (l = m)))) H) : ACalls Tryz.prog 31 [.c (.lst 2 (l.map encL)), .c (.lst 2 (m.map encL))] H K := by
  by_cases hlen : l.length = m.length
  · refine acalls Tryz.func31 rfl (by kernel_rfl) (by simp (disch := first | omega | (simp only [go_sem]; first | done | omega)) only [go_sem]) (fun hH => ?_)
    simp (disch := first | omega | (simp only [go_sem]; first | done | omega)) only [go_sem]
    refine AWp.loop (H.length) [0, 1, 12] [13] (fun (k : Nat) => k ≤ l.length ∧ ∀ (j : Nat) (x y : Level), j < k → l[j]? = some x → m[j]? = some y → x = y) (fun (k : Nat) => [(13, (.c (.int .i64 k)))]) (fun (k : Nat) => H) (fun (k : Nat) => l.length - k) (by kernel_rfl) (fun _ => rfl) (by kernel_rfl) (by simp) (by first | (simp; done) | (simp; omega)) (by (try simp only [List.forall_mem_cons, List.not_mem_nil, false_implies, implies_true, and_true]); (try simp (disch := first | omega | (simp only [go_sem]; first | done | omega)) only [go_sem]); all_goals first | trivial | (simp [AV.ok, AV.ok1, AC.ok]; done) | (simp [AV.ok, AV.ok1, AC.ok]; omega) | (simp [AV.ok, AV.ok1, AC.ok]; assumption) | ((repeat' apply And.intro) <;> first | trivial | (simp [AV.ok, AV.ok1, AC.ok]; done) | (simp [AV.ok, AV.ok1, AC.ok]; omega) | (simp [AV.ok, AV.ok1, AC.ok]; assumption) | (refine grV_ok ?_ _; first | (simp; done) | (simp; omega) | omega))) ?_ (fun k hk1 _ _ => ?_)
    · exact Next.mk 0 (by simp) (by (try simp (disch := first | omega | (simp only [go_sem]; first | done | omega)) only [go_sem]); (first | refine WkL.eq ?_ ?_ | refine WkL.rest (by assumption) ?_ ?_ ?_ | refine WkL.keepL (by assumption) rfl ?_ ?_ ?_ ?_) <;> first | rfl | (simp; done) | (simp; omega) | (simp only [List.cons.injEq, AV.c.injEq, AC.int.injEq, AC.bool.injEq, AC.str.injEq, and_true, true_and, Int.natCast_add, Int.natCast_one, Int.cast_ofNat_Int]; omega) | (simp [AV.ok, AV.ok1, AC.ok]; done) | (simp [AV.ok, AV.ok1, AC.ok]; omega) | (simp only [List.forall_mem_cons, List.not_mem_nil, false_implies, implies_true, and_true]; (repeat' apply And.intro) <;> first | exact okN_map (fun x => by simp [go_sem, AC.pure]) | exact okN_grO (fun x => by simp [go_sem, AC.pure]) | (simp [AObj.okN, AC.ok]; done) | (simp [AObj.okN, AC.ok]; omega)) | (simp [*]; done) | grind)
    obtain ⟨hk1, hk2⟩ := hk1
    by_cases hlt : k < l.length
    · have hcong : (decide (l[k].step = m[k].step) && decide (l[k].keep = m[k].keep)) = decide (l[k] = m[k]) := by
        generalize l[k] = x; generalize m[k] = y; cases x; cases y; simp
      simp (disch := first | omega | (simp only [go_sem]; first | done | omega)) only [go_sem]
      refine w_draw (by kernel_rfl) (by decide +kernel) ?_
      simp (disch := first | omega | (simp only [go_sem]; first | done | omega)) only [go_sem]
      rw [hcong]
      refine acond_d (fun c => ?_) (fun c => ?_)
      · simp (disch := first | omega | (simp only [go_sem]; first | done | omega)) only [go_sem]
        exact Next.mk (k + 1) ⟨⟨by omega, fun j x y hj hx hy => by
          rcases Nat.lt_or_ge j k with h | h
          · exact hk2 j x y h hx hy
          · obtain rfl : j = k := by omega
            rw [List.getElem?_eq_getElem hlt] at hx
            rw [List.getElem?_eq_getElem (by omega)] at hy
            injection hx with hx; injection hy with hy; rw [← hx, ← hy]; exact c⟩, by omega⟩ (by (try simp (disch := first | omega | (simp only [go_sem]; first | done | omega)) only [go_sem]); (first | refine WkL.eq ?_ ?_ | refine WkL.rest (by assumption) ?_ ?_ ?_ | refine WkL.keepL (by assumption) rfl ?_ ?_ ?_ ?_) <;> first | rfl | (simp; done) | (simp; omega) | (simp only [List.cons.injEq, AV.c.injEq, AC.int.injEq, AC.bool.injEq, AC.str.injEq, and_true, true_and, Int.natCast_add, Int.natCast_one, Int.cast_ofNat_Int]; omega) | (simp [AV.ok, AV.ok1, AC.ok]; done) | (simp [AV.ok, AV.ok1, AC.ok]; omega) | (simp only [List.forall_mem_cons, List.not_mem_nil, false_implies, implies_true, and_true]; (repeat' apply And.intro) <;> first | exact okN_map (fun x => by simp [go_sem, AC.pure]) | exact okN_grO (fun x => by simp [go_sem, AC.pure]) | (simp [AObj.okN, AC.ok]; done) | (simp [AObj.okN, AC.ok]; omega)) | (simp [*]; done) | grind)
      · simp (disch := first | omega | (simp only [go_sem]; first | done | omega)) only [go_sem]
        have : l ≠ m := by rintro rfl; exact c rfl
        (first | refine Ret.sameE (Nat.le_refl _) (by assumption) ?_ | refine Ret.dropE (by assumption) (Nat.le_refl _) (by assumption) (by simp [AV.ok, AV.ok1, AC.ok]) ?_) <;> simp [this]
    · simp (disch := first | omega | (simp only [go_sem]; first | done | omega)) only [go_sem]
      have : l = m := by
        apply List.ext_getElem hlen
        intro j h1 h2
        exact hk2 j _ _ (by omega) (List.getElem?_eq_getElem h1) (List.getElem?_eq_getElem h2)
      (first | refine Ret.sameE (Nat.le_refl _) (by assumption) ?_ | refine Ret.dropE (by assumption) (Nat.le_refl _) (by assumption) (by simp [AV.ok, AV.ok1, AC.ok]) ?_) <;> simp [this]
  · have : l ≠ m := by rintro rfl; exact hlen rfl
    refine acalls Tryz.func31 rfl (by kernel_rfl) (by simp (disch := first | omega | (simp only [go_sem]; first | done | omega)) only [go_sem]) (fun hH => ?_)
    simp (disch := first | omega | (simp only [go_sem]; first | done | omega)) only [go_sem]
    (first | refine Ret.sameE (Nat.le_refl _) (by assumption) ?_ | refine Ret.dropE (by assumption) (Nat.le_refl _) (by assumption) (by simp [AV.ok, AV.ok1, AC.ok]) ?_) <;> simp [this]
theorem most_a (x : Level) (rate b : Int) (hs : 0 ≤ x.step) (hs2 : x.step ≤ 86400000) (hr : 1 ≤ rate) (hr2 : rate ≤ 1000000) (hb : 0 ≤ b) (hb2 : b ≤ 1000000) (hk : K (.c (.int .i64 (mostL x rate b))) H) : ACalls Tryz.prog 103 [.agg (encL x), (.c (.int .i64 rate)), (.c (.int .i64 b))] H K := by
  have h0 : -1 * x.step ≤ (b - 1) * x.step := Int.mul_le_mul_of_nonneg_right (by omega) hs
  have h1 : (b - 1) * x.step ≤ 1000000 * x.step := Int.mul_le_mul_of_nonneg_right (by omega) hs
  refine acalls Tryz.func103 rfl (by kernel_rfl) (by simp (disch := first | omega | (simp only [go_sem]; first | done | omega)) only [go_sem]) (fun hH => ?_)
  simp (disch := first | omega | (simp only [go_sem]; first | done | omega)) only [go_sem]
  repeat' (first | ((first | refine acond_d ?_ ?_ | refine acond_b ?_ ?_ | refine ag_d ?_ ?_ | refine ag_n ?_ ?_ | refine ag_bt ?_ ?_ | refine ag_bf ?_ ?_) <;> intro c <;> try simp (disch := first | omega | (simp only [go_sem]; first | done | omega)) only [go_sem, c]) | ((first | refine w_draw (by kernel_rfl) (by decide +kernel) ?_) <;> try simp (disch := first | omega | (simp only [go_sem]; first | done | omega)) only [go_sem]))
  all_goals (first | refine Ret.sameE (Nat.le_refl _) (by assumption) ?_ | refine Ret.dropE (by assumption) (Nat.le_refl _) (by assumption) (by simp [AV.ok, AV.ok1, AC.ok]) ?_) <;> simp [mostL, *]
theorem rateFault_a (l : List Level) (rate : Int) (hn : l.length ≤ 1099511627776) (hk : K (.c (.int .i64 (rateErr l rate))) H) : ACalls Tryz.prog 98 [.c (.lst 2 (l.map encL)), (.c (.int .i64 rate))] H K := by
  refine acalls Tryz.func98 rfl (by kernel_rfl) (by simp (disch := first | omega | (simp only [go_sem]; first | done | omega)) only [go_sem]) (fun hH => ?_)
  simp (disch := first | omega | (simp only [go_sem]; first | done | omega)) only [go_sem]
  repeat' (first | ((first | refine acond_d ?_ ?_ | refine acond_b ?_ ?_ | refine ag_d ?_ ?_ | refine ag_n ?_ ?_ | refine ag_bt ?_ ?_ | refine ag_bf ?_ ?_) <;> intro c <;> try simp (disch := first | omega | (simp only [go_sem]; first | done | omega)) only [go_sem, c]) | ((first | refine w_draw (by kernel_rfl) (by decide +kernel) ?_ | refine checkLevels_a l hn ?_ | refine out_a _ _ _ _ _ ?_) <;> try simp (disch := first | omega | (simp only [go_sem]; first | done | omega)) only [go_sem]))
  all_goals (first | refine Ret.sameE (Nat.le_refl _) (by assumption) ?_ | refine Ret.dropE (by assumption) (Nat.le_refl _) (by assumption) (by simp [AV.ok, AV.ok1, AC.ok]) ?_) <;> simp [rateErr, firstE, *]
theorem costTop_a (l : List Level) (rate : Int) (hn : l.length ≤ 1099511627776) (hk : K (.tup [(.c (.int .i64 ((costRes l rate).1))), (.c (.int .i64 ((costRes l rate).2)))]) H) : ACalls Tryz.prog 28 [.c (.lst 2 (l.map encL)), (.c (.int .i64 rate))] H K := by
  by_cases h : rateErr l rate = 0
  · have h3 := firstE_two (a := lvF l) (b := if rate < 1 ∨ 1000000 < rate then 1 else 0) h
    obtain ⟨hok, h6, h0⟩ := lvF_ok h3.1
    have hr : 1 ≤ rate ∧ rate ≤ 1000000 := by have := h3.2; split at this <;> omega
    refine acalls Tryz.func28 rfl (by kernel_rfl) (by simp (disch := first | omega | (simp only [go_sem]; first | done | omega)) only [go_sem]) (fun hH => ?_)
    simp (disch := first | omega | (simp only [go_sem]; first | done | omega)) only [go_sem]
    repeat' (first | ((first | refine acond_d ?_ ?_ | refine acond_b ?_ ?_ | refine ag_d ?_ ?_ | refine ag_n ?_ ?_ | refine ag_bt ?_ ?_ | refine ag_bf ?_ ?_) <;> intro c <;> try simp (disch := first | omega | (simp only [go_sem]; first | done | omega)) only [go_sem, c]) | ((first | refine w_draw (by kernel_rfl) (by decide +kernel) ?_ | refine rateFault_a l rate hn ?_ | refine cost_a l rate hok h6 hr.1 hr.2 ?_) <;> try simp (disch := first | omega | (simp only [go_sem]; first | done | omega)) only [go_sem]))
    (first | refine Ret.sameE (Nat.le_refl _) (by assumption) ?_ | refine Ret.dropE (by assumption) (Nat.le_refl _) (by assumption) (by simp [AV.ok, AV.ok1, AC.ok]) ?_) <;> simp [costRes, h]
  · refine acalls Tryz.func28 rfl (by kernel_rfl) (by simp (disch := first | omega | (simp only [go_sem]; first | done | omega)) only [go_sem]) (fun hH => ?_)
    simp (disch := first | omega | (simp only [go_sem]; first | done | omega)) only [go_sem]
    repeat' (first | ((first | refine acond_d ?_ ?_ | refine acond_b ?_ ?_ | refine ag_d ?_ ?_ | refine ag_n ?_ ?_ | refine ag_bt ?_ ?_ | refine ag_bf ?_ ?_) <;> intro c <;> try simp (disch := first | omega | (simp only [go_sem]; first | done | omega)) only [go_sem, c]) | ((first | refine w_draw (by kernel_rfl) (by decide +kernel) ?_ | refine rateFault_a l rate hn ?_) <;> try simp (disch := first | omega | (simp only [go_sem]; first | done | omega)) only [go_sem]))
    (first | refine Ret.sameE (Nat.le_refl _) (by assumption) ?_ | refine Ret.dropE (by assumption) (Nat.le_refl _) (by assumption) (by simp [AV.ok, AV.ok1, AC.ok]) ?_) <;> simp [costRes, h]
end Go.Proofs.YtkmkkjlfnobciaaGreatDoor
