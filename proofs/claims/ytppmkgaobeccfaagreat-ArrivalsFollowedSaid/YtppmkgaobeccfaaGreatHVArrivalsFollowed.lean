/- ArrivalsFollowed: what the law's function answers for all numbers it is given. No condition. -/
import Derived.Test.YtppmkgaobeccfaaGreatHVArrV
import Derived.Test.YtppmkgaobeccfaaGreatHVArrU
import Derived.Test.YtppmkgaobeccfaaGreatHVForw
import Derived.Test.YtppmkgaobeccfaaGreatHVGC
import Derived.Test.YtppmkgaobeccfaaGreatHVGD
import Derived.Test.YtppmkgaobeccfaaGreatHVGA
namespace Go.Proofs.YtppmkgaobeccfaaGreat
open Go Go.RowKit
set_option maxRecDepth 100000
set_option linter.all false
set_option maxHeartbeats 2000000
variable {H : Hp} {K : AV → Hp → Prop}
theorem equalIq_a (l m : List Int) (hl : l.length ≤ 1099511627776) (hm : m.length ≤ 1099511627776) (hk : K (.c (.bool (decide (l = m)))) H) : ACalls Tryz.prog 24 [.c (.lst 1 (l.map encI)), .c (.lst 1 (m.map encI))] H K := by
  by_cases hlen : l.length = m.length
  · refine acalls Tryz.func24 rfl (by kernel_rfl) (by simp (disch := first | omega | (simp only [go_sem]; first | done | omega)) only [go_sem]) (fun hH => ?_)
    simp (disch := first | omega | (simp only [go_sem]; first | done | omega)) only [go_sem]
    refine AWp.loop (H.length) [0, 1, 12] [13] (fun (k : Nat) => k ≤ l.length ∧ ∀ (j : Nat) (x y : Int), j < k → l[j]? = some x → m[j]? = some y → x = y) (fun (k : Nat) => [(13, (.c (.int .i64 k)))]) (fun (k : Nat) => H) (fun (k : Nat) => l.length - k) (by kernel_rfl) (fun _ => rfl) (by kernel_rfl) (by first | (simp; done) | omega) (by first | (simp; done) | (simp; omega) | omega) (by (try simp only [List.forall_mem_cons, List.not_mem_nil, false_implies, implies_true, and_true]); (try simp (disch := first | omega | (simp only [go_sem]; first | done | omega)) only [go_sem]); all_goals first | trivial | (simp [AV.ok, AV.ok1, AC.ok]; done) | (simp [AV.ok, AV.ok1, AC.ok]; omega) | (simp [AV.ok, AV.ok1, AC.ok]; assumption) | ((repeat' apply And.intro) <;> first | trivial | (simp [AV.ok, AV.ok1, AC.ok]; done) | (simp [AV.ok, AV.ok1, AC.ok]; omega) | (simp [AV.ok, AV.ok1, AC.ok]; assumption) | (refine grV_ok ?_ _; first | (simp; done) | (simp; omega) | omega))) ?_ (fun k hk1 _ _ => ?_)
    · exact Next.mk 0 (by simp) (by (try simp (disch := first | omega | (simp only [go_sem]; first | done | omega)) only [go_sem]); (first | refine WkL.eq ?_ ?_ | refine WkL.rest (by assumption) ?_ ?_ ?_ | refine WkL.keepL (by assumption) rfl ?_ ?_ ?_ ?_) <;> first | rfl | (simp; done) | (simp; omega) | (simp only [List.cons.injEq, AV.c.injEq, AC.int.injEq, AC.bool.injEq, AC.str.injEq, and_true, true_and, Int.natCast_add, Int.natCast_one, Int.cast_ofNat_Int]; omega) | (simp [AV.ok, AV.ok1, AC.ok]; done) | (simp [AV.ok, AV.ok1, AC.ok]; omega) | (simp only [List.forall_mem_cons, List.not_mem_nil, false_implies, implies_true, and_true]; (repeat' apply And.intro) <;> first | exact okN_map (fun x => by simp [go_sem, AC.pure]) | exact okN_grO (fun x => by simp [go_sem, AC.pure]) | (simp [AObj.okN, AC.ok]; done) | (simp [AObj.okN, AC.ok]; omega)) | (simp [*]; done) | grind)
    obtain ⟨hk1, hk2⟩ := hk1
    by_cases hlt : k < l.length
    · simp (disch := first | omega | (simp only [go_sem]; first | done | omega)) only [go_sem]
      refine w_draw (by kernel_rfl) (by decide +kernel) ?_
      simp (disch := first | omega | (simp only [go_sem]; first | done | omega)) only [go_sem]
      refine acond_b (fun c => ?_) (fun c => ?_)
      · simp (disch := first | omega | (simp only [go_sem]; first | done | omega)) only [go_sem]
        exact Next.mk (k + 1) ⟨⟨by omega, fun j x y hj hx hy => by
          rcases Nat.lt_or_ge j k with h | h
          · exact hk2 j x y h hx hy
          · obtain rfl : j = k := by omega
            rw [List.getElem?_eq_getElem hlt] at hx
            rw [List.getElem?_eq_getElem (by omega)] at hy
            injection hx with hx; injection hy with hy; rw [← hx, ← hy]; revert c; generalize l[j] = u; generalize m[j] = v; first | (simp; done) | (cases u; cases v; simp)⟩, by omega⟩ (by (try simp (disch := first | omega | (simp only [go_sem]; first | done | omega)) only [go_sem]); (first | refine WkL.eq ?_ ?_ | refine WkL.rest (by assumption) ?_ ?_ ?_ | refine WkL.keepL (by assumption) rfl ?_ ?_ ?_ ?_) <;> first | rfl | (simp; done) | (simp; omega) | (simp only [List.cons.injEq, AV.c.injEq, AC.int.injEq, AC.bool.injEq, AC.str.injEq, and_true, true_and, Int.natCast_add, Int.natCast_one, Int.cast_ofNat_Int]; omega) | (simp [AV.ok, AV.ok1, AC.ok]; done) | (simp [AV.ok, AV.ok1, AC.ok]; omega) | (simp only [List.forall_mem_cons, List.not_mem_nil, false_implies, implies_true, and_true]; (repeat' apply And.intro) <;> first | exact okN_map (fun x => by simp [go_sem, AC.pure]) | exact okN_grO (fun x => by simp [go_sem, AC.pure]) | (simp [AObj.okN, AC.ok]; done) | (simp [AObj.okN, AC.ok]; omega)) | (simp [*]; done) | grind)
      · simp (disch := first | omega | (simp only [go_sem]; first | done | omega)) only [go_sem]
        have : l ≠ m := by rintro rfl; simp at c
        (first | refine Ret.sameE (Nat.le_refl _) (by assumption) ?_ | refine Ret.dropE (by assumption) (Nat.le_refl _) (by assumption) (by simp [AV.ok, AV.ok1, AC.ok]) ?_) <;> simp [this]
    · simp (disch := first | omega | (simp only [go_sem]; first | done | omega)) only [go_sem]
      have : l = m := by
        apply List.ext_getElem hlen
        intro j h1 h2
        exact hk2 j _ _ (by omega) (List.getElem?_eq_getElem h1) (List.getElem?_eq_getElem h2)
      (first | refine Ret.sameE (Nat.le_refl _) (by assumption) ?_ | refine Ret.dropE (by assumption) (Nat.le_refl _) (by assumption) (by simp [AV.ok, AV.ok1, AC.ok]) ?_) <;> simp [this]
  · have : l ≠ m := by rintro rfl; exact hlen rfl
    refine acalls Tryz.func24 rfl (by kernel_rfl) (by simp (disch := first | omega | (simp only [go_sem]; first | done | omega)) only [go_sem]) (fun hH => ?_)
    simp (disch := first | omega | (simp only [go_sem]; first | done | omega)) only [go_sem]
    (first | refine Ret.sameE (Nat.le_refl _) (by assumption) ?_ | refine Ret.dropE (by assumption) (Nat.le_refl _) (by assumption) (by simp [AV.ok, AV.ok1, AC.ok]) ?_) <;> simp [this]
theorem equalRq_a (l m : List (Int × Int)) (hl : l.length ≤ 1099511627776) (hm : m.length ≤ 1099511627776) (hk : K (.c (.bool (decide (l = m)))) H) : ACalls Tryz.prog 41 [.c (.lst 2 (l.map encRw)), .c (.lst 2 (m.map encRw))] H K := by
  by_cases hlen : l.length = m.length
  · refine acalls Tryz.func41 rfl (by kernel_rfl) (by simp (disch := first | omega | (simp only [go_sem]; first | done | omega)) only [go_sem]) (fun hH => ?_)
    simp (disch := first | omega | (simp only [go_sem]; first | done | omega)) only [go_sem]
    refine AWp.loop (H.length) [0, 1, 12] [13] (fun (k : Nat) => k ≤ l.length ∧ ∀ (j : Nat) (x y : (Int × Int)), j < k → l[j]? = some x → m[j]? = some y → x = y) (fun (k : Nat) => [(13, (.c (.int .i64 k)))]) (fun (k : Nat) => H) (fun (k : Nat) => l.length - k) (by kernel_rfl) (fun _ => rfl) (by kernel_rfl) (by first | (simp; done) | omega) (by first | (simp; done) | (simp; omega) | omega) (by (try simp only [List.forall_mem_cons, List.not_mem_nil, false_implies, implies_true, and_true]); (try simp (disch := first | omega | (simp only [go_sem]; first | done | omega)) only [go_sem]); all_goals first | trivial | (simp [AV.ok, AV.ok1, AC.ok]; done) | (simp [AV.ok, AV.ok1, AC.ok]; omega) | (simp [AV.ok, AV.ok1, AC.ok]; assumption) | ((repeat' apply And.intro) <;> first | trivial | (simp [AV.ok, AV.ok1, AC.ok]; done) | (simp [AV.ok, AV.ok1, AC.ok]; omega) | (simp [AV.ok, AV.ok1, AC.ok]; assumption) | (refine grV_ok ?_ _; first | (simp; done) | (simp; omega) | omega))) ?_ (fun k hk1 _ _ => ?_)
    · exact Next.mk 0 (by simp) (by (try simp (disch := first | omega | (simp only [go_sem]; first | done | omega)) only [go_sem]); (first | refine WkL.eq ?_ ?_ | refine WkL.rest (by assumption) ?_ ?_ ?_ | refine WkL.keepL (by assumption) rfl ?_ ?_ ?_ ?_) <;> first | rfl | (simp; done) | (simp; omega) | (simp only [List.cons.injEq, AV.c.injEq, AC.int.injEq, AC.bool.injEq, AC.str.injEq, and_true, true_and, Int.natCast_add, Int.natCast_one, Int.cast_ofNat_Int]; omega) | (simp [AV.ok, AV.ok1, AC.ok]; done) | (simp [AV.ok, AV.ok1, AC.ok]; omega) | (simp only [List.forall_mem_cons, List.not_mem_nil, false_implies, implies_true, and_true]; (repeat' apply And.intro) <;> first | exact okN_map (fun x => by simp [go_sem, AC.pure]) | exact okN_grO (fun x => by simp [go_sem, AC.pure]) | (simp [AObj.okN, AC.ok]; done) | (simp [AObj.okN, AC.ok]; omega)) | (simp [*]; done) | grind)
    obtain ⟨hk1, hk2⟩ := hk1
    by_cases hlt : k < l.length
    · simp (disch := first | omega | (simp only [go_sem]; first | done | omega)) only [go_sem]
      refine w_draw (by kernel_rfl) (by decide +kernel) ?_
      simp (disch := first | omega | (simp only [go_sem]; first | done | omega)) only [go_sem]
      refine acond_b (fun c => ?_) (fun c => ?_)
      · simp (disch := first | omega | (simp only [go_sem]; first | done | omega)) only [go_sem]
        exact Next.mk (k + 1) ⟨⟨by omega, fun j x y hj hx hy => by
          rcases Nat.lt_or_ge j k with h | h
          · exact hk2 j x y h hx hy
          · obtain rfl : j = k := by omega
            rw [List.getElem?_eq_getElem hlt] at hx
            rw [List.getElem?_eq_getElem (by omega)] at hy
            injection hx with hx; injection hy with hy; rw [← hx, ← hy]; revert c; generalize l[j] = u; generalize m[j] = v; first | (simp; done) | (cases u; cases v; simp)⟩, by omega⟩ (by (try simp (disch := first | omega | (simp only [go_sem]; first | done | omega)) only [go_sem]); (first | refine WkL.eq ?_ ?_ | refine WkL.rest (by assumption) ?_ ?_ ?_ | refine WkL.keepL (by assumption) rfl ?_ ?_ ?_ ?_) <;> first | rfl | (simp; done) | (simp; omega) | (simp only [List.cons.injEq, AV.c.injEq, AC.int.injEq, AC.bool.injEq, AC.str.injEq, and_true, true_and, Int.natCast_add, Int.natCast_one, Int.cast_ofNat_Int]; omega) | (simp [AV.ok, AV.ok1, AC.ok]; done) | (simp [AV.ok, AV.ok1, AC.ok]; omega) | (simp only [List.forall_mem_cons, List.not_mem_nil, false_implies, implies_true, and_true]; (repeat' apply And.intro) <;> first | exact okN_map (fun x => by simp [go_sem, AC.pure]) | exact okN_grO (fun x => by simp [go_sem, AC.pure]) | (simp [AObj.okN, AC.ok]; done) | (simp [AObj.okN, AC.ok]; omega)) | (simp [*]; done) | grind)
      · simp (disch := first | omega | (simp only [go_sem]; first | done | omega)) only [go_sem]
        have : l ≠ m := by rintro rfl; simp at c
        (first | refine Ret.sameE (Nat.le_refl _) (by assumption) ?_ | refine Ret.dropE (by assumption) (Nat.le_refl _) (by assumption) (by simp [AV.ok, AV.ok1, AC.ok]) ?_) <;> simp [this]
    · simp (disch := first | omega | (simp only [go_sem]; first | done | omega)) only [go_sem]
      have : l = m := by
        apply List.ext_getElem hlen
        intro j h1 h2
        exact hk2 j _ _ (by omega) (List.getElem?_eq_getElem h1) (List.getElem?_eq_getElem h2)
      (first | refine Ret.sameE (Nat.le_refl _) (by assumption) ?_ | refine Ret.dropE (by assumption) (Nat.le_refl _) (by assumption) (by simp [AV.ok, AV.ok1, AC.ok]) ?_) <;> simp [this]
  · have : l ≠ m := by rintro rfl; exact hlen rfl
    refine acalls Tryz.func41 rfl (by kernel_rfl) (by simp (disch := first | omega | (simp only [go_sem]; first | done | omega)) only [go_sem]) (fun hH => ?_)
    simp (disch := first | omega | (simp only [go_sem]; first | done | omega)) only [go_sem]
    (first | refine Ret.sameE (Nat.le_refl _) (by assumption) ?_ | refine Ret.dropE (by assumption) (Nat.le_refl _) (by assumption) (by simp [AV.ok, AV.ok1, AC.ok]) ?_) <;> simp [this]
theorem equalAq_a (l m : List Arr) (hl : l.length ≤ 1099511627776) (hm : m.length ≤ 1099511627776) (hk : K (.c (.bool (decide (l = m)))) H) : ACalls Tryz.prog 40 [.c (.lst 7 (l.map encAr)), .c (.lst 7 (m.map encAr))] H K := by
  by_cases hlen : l.length = m.length
  · refine acalls Tryz.func40 rfl (by kernel_rfl) (by simp (disch := first | omega | (simp only [go_sem]; first | done | omega)) only [go_sem]) (fun hH => ?_)
    simp (disch := first | omega | (simp only [go_sem]; first | done | omega)) only [go_sem]
    refine AWp.loop (H.length) [0, 1, 12] [13] (fun (k : Nat) => k ≤ l.length ∧ ∀ (j : Nat) (x y : Arr), j < k → l[j]? = some x → m[j]? = some y → x = y) (fun (k : Nat) => [(13, (.c (.int .i64 k)))]) (fun (k : Nat) => H) (fun (k : Nat) => l.length - k) (by kernel_rfl) (fun _ => rfl) (by kernel_rfl) (by first | (simp; done) | omega) (by first | (simp; done) | (simp; omega) | omega) (by (try simp only [List.forall_mem_cons, List.not_mem_nil, false_implies, implies_true, and_true]); (try simp (disch := first | omega | (simp only [go_sem]; first | done | omega)) only [go_sem]); all_goals first | trivial | (simp [AV.ok, AV.ok1, AC.ok]; done) | (simp [AV.ok, AV.ok1, AC.ok]; omega) | (simp [AV.ok, AV.ok1, AC.ok]; assumption) | ((repeat' apply And.intro) <;> first | trivial | (simp [AV.ok, AV.ok1, AC.ok]; done) | (simp [AV.ok, AV.ok1, AC.ok]; omega) | (simp [AV.ok, AV.ok1, AC.ok]; assumption) | (refine grV_ok ?_ _; first | (simp; done) | (simp; omega) | omega))) ?_ (fun k hk1 _ _ => ?_)
    · exact Next.mk 0 (by simp) (by (try simp (disch := first | omega | (simp only [go_sem]; first | done | omega)) only [go_sem]); (first | refine WkL.eq ?_ ?_ | refine WkL.rest (by assumption) ?_ ?_ ?_ | refine WkL.keepL (by assumption) rfl ?_ ?_ ?_ ?_) <;> first | rfl | (simp; done) | (simp; omega) | (simp only [List.cons.injEq, AV.c.injEq, AC.int.injEq, AC.bool.injEq, AC.str.injEq, and_true, true_and, Int.natCast_add, Int.natCast_one, Int.cast_ofNat_Int]; omega) | (simp [AV.ok, AV.ok1, AC.ok]; done) | (simp [AV.ok, AV.ok1, AC.ok]; omega) | (simp only [List.forall_mem_cons, List.not_mem_nil, false_implies, implies_true, and_true]; (repeat' apply And.intro) <;> first | exact okN_map (fun x => by simp [go_sem, AC.pure]) | exact okN_grO (fun x => by simp [go_sem, AC.pure]) | (simp [AObj.okN, AC.ok]; done) | (simp [AObj.okN, AC.ok]; omega)) | (simp [*]; done) | grind)
    obtain ⟨hk1, hk2⟩ := hk1
    by_cases hlt : k < l.length
    · simp (disch := first | omega | (simp only [go_sem]; first | done | omega)) only [go_sem]
      refine w_draw (by kernel_rfl) (by decide +kernel) ?_
      simp (disch := first | omega | (simp only [go_sem]; first | done | omega)) only [go_sem, arr_eqs]
      refine acond_b (fun c => ?_) (fun c => ?_)
      · simp (disch := first | omega | (simp only [go_sem]; first | done | omega)) only [go_sem]
        exact Next.mk (k + 1) ⟨⟨by omega, fun j x y hj hx hy => by
          rcases Nat.lt_or_ge j k with h | h
          · exact hk2 j x y h hx hy
          · obtain rfl : j = k := by omega
            rw [List.getElem?_eq_getElem hlt] at hx
            rw [List.getElem?_eq_getElem (by omega)] at hy
            injection hx with hx; injection hy with hy; rw [← hx, ← hy]; exact of_decide_eq_true c⟩, by omega⟩ (by (try simp (disch := first | omega | (simp only [go_sem]; first | done | omega)) only [go_sem]); (first | refine WkL.eq ?_ ?_ | refine WkL.rest (by assumption) ?_ ?_ ?_ | refine WkL.keepL (by assumption) rfl ?_ ?_ ?_ ?_) <;> first | rfl | (simp; done) | (simp; omega) | (simp only [List.cons.injEq, AV.c.injEq, AC.int.injEq, AC.bool.injEq, AC.str.injEq, and_true, true_and, Int.natCast_add, Int.natCast_one, Int.cast_ofNat_Int]; omega) | (simp [AV.ok, AV.ok1, AC.ok]; done) | (simp [AV.ok, AV.ok1, AC.ok]; omega) | (simp only [List.forall_mem_cons, List.not_mem_nil, false_implies, implies_true, and_true]; (repeat' apply And.intro) <;> first | exact okN_map (fun x => by simp [go_sem, AC.pure]) | exact okN_grO (fun x => by simp [go_sem, AC.pure]) | (simp [AObj.okN, AC.ok]; done) | (simp [AObj.okN, AC.ok]; omega)) | (simp [*]; done) | grind)
      · simp (disch := first | omega | (simp only [go_sem]; first | done | omega)) only [go_sem]
        have : l ≠ m := by rintro rfl; simp at c
        (first | refine Ret.sameE (Nat.le_refl _) (by assumption) ?_ | refine Ret.dropE (by assumption) (Nat.le_refl _) (by assumption) (by simp [AV.ok, AV.ok1, AC.ok]) ?_) <;> simp [this]
    · simp (disch := first | omega | (simp only [go_sem]; first | done | omega)) only [go_sem]
      have : l = m := by
        apply List.ext_getElem hlen
        intro j h1 h2
        exact hk2 j _ _ (by omega) (List.getElem?_eq_getElem h1) (List.getElem?_eq_getElem h2)
      (first | refine Ret.sameE (Nat.le_refl _) (by assumption) ?_ | refine Ret.dropE (by assumption) (Nat.le_refl _) (by assumption) (by simp [AV.ok, AV.ok1, AC.ok]) ?_) <;> simp [this]
  · have : l ≠ m := by rintro rfl; exact hlen rfl
    refine acalls Tryz.func40 rfl (by kernel_rfl) (by simp (disch := first | omega | (simp only [go_sem]; first | done | omega)) only [go_sem]) (fun hH => ?_)
    simp (disch := first | omega | (simp only [go_sem]; first | done | omega)) only [go_sem]
    (first | refine Ret.sameE (Nat.le_refl _) (by assumption) ?_ | refine Ret.dropE (by assumption) (Nat.le_refl _) (by assumption) (by simp [AV.ok, AV.ok1, AC.ok]) ?_) <;> simp [this]
theorem cloneAr_a (l : List Arr) (hl : l.length ≤ 1099511627776) (hk : K (.c (clV H.length 7 (l.map encAr))) (H ++ [grO 61 7 (l.map encAr)])) : ACalls Tryz.prog 27 [.c (.lst 7 (l.map encAr))] H K := by
  cases l with
  | nil =>
    refine acalls Tryz.func27 rfl (by kernel_rfl) (by simp (disch := first | omega | (simp only [go_sem]; first | done | omega)) only [go_sem]) (fun hH => ?_)
    simp (disch := first | omega | (simp only [go_sem]; first | done | omega)) only [go_sem]
    refine asome_i (fun b _ => ?_)
    cases b
    · simp (disch := first | omega | (simp only [go_sem]; first | done | omega)) only [go_sem]
      refine app_lst ?_
      simp (disch := first | omega | (simp only [go_sem]; first | done | omega)) only [go_sem]
      exact Ret.nil [7] (by simp) (Ret.cut hH (Nat.le_refl _) trivial (Ret.pad (Nat.le_refl _) (Ret.same (by simp) hk)))
    · simp (disch := first | omega | (simp only [go_sem]; first | done | omega)) only [go_sem]
      exact Ret.nil [7] (by simp) (Ret.pad (Nat.le_refl _) (Ret.same (by simp) hk))
  | cons x xs =>
    refine acalls Tryz.func27 rfl (by kernel_rfl) (by simp (disch := first | omega | (simp only [go_sem]; first | done | omega)) only [go_sem]) (fun hH => ?_)
    simp (disch := first | omega | (simp only [go_sem]; first | done | omega)) only [go_sem]
    refine asome_i (fun b hb => ?_)
    subst hb
    simp (disch := first | omega | (simp only [go_sem]; first | done | omega)) only [go_sem]
    refine app_lst ?_
    simp only [List.length_cons] at hl
    simp (disch := first | omega | (simp only [go_sem]; first | done | omega)) only [go_sem]
    refine Ret.pick [1] hH (Nat.le_refl _) (L := [.row 61 7 ((x :: xs).map encAr) true]) rfl (by simp) (by simp [AObj.pureO, pureL, encAr, AC.pure]) (v' := .c (.sl (some (H.length, 0)) (xs.length + 1))) ?_ (by simp [AV.ok, AV.ok1, AC.ok]) (by simpa [clV, grO] using hk)
    simp [AV.ren, AV.ren1, AC.ren, pickS]
theorem cloneF_a (l : List Arr) (hl : l.length ≤ 1000) (hk : K (.c (.lst 7 (l.map encAr))) H) : ACalls Tryz.prog 27 [.c (.lst 7 (l.map encAr))] H K := by
  refine ACalls.postR (cloneAr_a l (by omega) (K := fun v G => v = .c (clV H.length 7 (l.map encAr)) ∧ G = H ++ [grO 61 7 (l.map encAr)]) ⟨rfl, rfl⟩) (fun hH v G h => ?_)
  obtain ⟨rfl, rfl⟩ := h
  cases l with
  | nil => exact Ret.drop hH (by simp) trivial hk
  | cons x t => exact Ret.frzRow 0 hH (Nat.le_refl _) rfl (pureL_map _ (fun x => by simp [go_sem, AC.pure])) (by simp) (by simp) hk
theorem ndErr_e (l : List Arr) (n : ByteArray) : ndErr l n = firstE [arF l, tagE n] := by
  unfold ndErr tagE
  by_cases h : arF l = 0
  · rw [if_neg (by simp [h])]
    simp only [firstE, h, if_true]
    split <;> simp
  · rw [if_pos h]
    simp [firstE, h]
theorem mgT_e (a b : List Arr) : mgT a b = if firstE [arF a, arF b] = 0 then mgR a b else ([], firstE [arF a, arF b]) := by
  unfold mgT
  rw [ite_not]
theorem arrivalsFollowed_a (zs : List Int) (hz : zs.length ≤ 9223372036854775807) (hk : K (.c (.bool true)) H) : ACalls Tryz.prog 4 [.c (.lst 1 (zs.map encI))] H K := by
  have st : ∀ (k : Int) (L : Hp), 0 ≤ k → k ≤ 1000000000 → Str (H ++ strO zs k :: L) H.length zs k := fun k L h1 h2 => ⟨hz, h1, by omega, by simp⟩
  refine acallsS Tryz.func4 rfl (by simp (disch := first | omega | (simp only [go_sem]; first | done | omega)) only [go_sem]) (fun hH => ?_)
  (refine SWp.go (by kernel_rfl) ?_; simp (disch := first | omega | (simp only [go_sem]; first | done | omega)) only [go_sem])
  (refine SWp.go (by kernel_rfl) ?_; simp (disch := first | omega | (simp only [go_sem]; first | done | omega)) only [go_sem])
  refine SWp.go (by kernel_rfl) ?_
  simp (disch := first | omega | (simp only [go_sem]; first | done | omega)) only [go_sem]
  refine range_a H.length zs 0 0 10 (st _ _ (by omega) (by omega)) (by omega) (by omega) (by omega) (fun r r1 r2 => ?_)
  simp (disch := first | omega | (simp only [go_sem]; first | done | omega)) only [go_sem]
  refine arrivals_a H.length zs 1 r (st _ _ (by omega) (by omega)) (by omega) r1 r2 (fun a j1 g1 g2 g3 g4 => ?_)
  simp (disch := first | omega | (simp only [go_sem]; first | done | omega)) only [go_sem]
  refine range_a H.length zs j1 0 5 (st _ _ (by omega) (by omega)) (by omega) (by omega) (by omega) (fun r' r3 r4 => ?_)
  simp (disch := first | omega | (simp only [go_sem]; first | done | omega)) only [go_sem]
  refine arrivals_a H.length zs (j1 + 1) r' (st _ _ (by omega) (by omega)) (by omega) r3 (by omega) (fun b0 j2 g5 g6 g7 g8 => ?_)
  simp (disch := first | omega | (simp only [go_sem]; first | done | omega)) only [go_sem]
  refine some_lit H.length zs j2 [⟨#[110, 97]⟩, ⟨#[110, 97]⟩, ⟨#[110, 98]⟩, ⟨#[122, 122]⟩, noS] (by first | exact at0 (by simp) | exact at1 (by simp) | exact at2 (by simp) | exact at3 (by simp) | exact at4 (by simp) | exact at5 (by simp) | exact atG 6 (by simp) rfl | exact atG 7 (by simp) rfl | exact atG 8 (by simp) rfl | exact atG 9 (by simp) rfl | exact atG 10 (by simp) rfl | exact atG 11 (by simp) rfl | exact atG 12 (by simp) rfl | exact atG 13 (by simp) rfl | exact atG 14 (by simp) rfl | exact atG 15 (by simp) rfl | assumption) rfl rfl (st _ _ (by omega) (by omega)) (by omega) (by simp) (by simp) (fun node hnode => ?_)
  have hnd : node.size ≤ 1000 := by
    have : ∀ x ∈ ([⟨#[110, 97]⟩, ⟨#[110, 97]⟩, ⟨#[110, 98]⟩, ⟨#[122, 122]⟩, noS] : List ByteArray), x.size ≤ 1000 := by decide
    exact this _ hnode
  clear hnode
  have hal : a.length ≤ 10 := by omega
  have hb0l : b0.length ≤ 5 := by omega
  have hj2 : 0 ≤ j2 ∧ j2 ≤ 400 := by omega
  clear r3 r4
  simp (disch := first | omega | (simp only [go_sem]; first | done | omega)) only [go_sem]
  refine SWp.cut (H.length + 1) [3, 4, 6] [5] (fun (u : List Arr × Int) => u.1.length ≤ 10 ∧ (∀ x ∈ u.1, arFine x) ∧ 0 ≤ u.2 ∧ u.2 ≤ 1000) (fun (u : List Arr × Int) => [(5, .c (.lst 7 (u.1.map encAr)))]) (fun (u : List Arr × Int) => H ++ [strO zs u.2]) (fun _ => rfl) (by kernel_rfl) (by first | (simp; done) | omega) (by first | (simp; done) | (simp; omega) | omega) (by (try simp only [List.forall_mem_cons, List.not_mem_nil, false_implies, implies_true, and_true]); (try simp (disch := first | omega | (simp only [go_sem]; first | done | omega)) only [go_sem]); all_goals first | trivial | (simp [AV.ok, AV.ok1, AC.ok]; done) | (simp [AV.ok, AV.ok1, AC.ok]; omega) | (simp [AV.ok, AV.ok1, AC.ok]; assumption) | ((repeat' apply And.intro) <;> first | trivial | (simp [AV.ok, AV.ok1, AC.ok]; done) | (simp [AV.ok, AV.ok1, AC.ok]; omega) | (simp [AV.ok, AV.ok1, AC.ok]; assumption) | (refine grV_ok ?_ _; first | (simp; done) | (simp; omega) | omega))) ?_ (fun u hu _ _ => ?_)
  · refine SWp.of (by kernel_rfl) ?_
    by_cases ha0 : a = []
    · subst ha0
      simp (disch := first | omega | (simp only [go_sem]; first | done | omega)) only [go_sem]
      refine Next.mk (b0, j2 + 1) ⟨by dsimp only; omega, g8, by dsimp only; omega, by dsimp only; omega⟩ ?_
      (try simp (disch := first | omega | (simp only [go_sem]; first | done | omega)) only [go_sem]); (first | refine WkL.eq ?_ ?_ | refine WkL.rest (by assumption) ?_ ?_ ?_ | refine WkL.keepL (by assumption) rfl ?_ ?_ ?_ ?_) <;> first | rfl | (simp; done) | (simp; omega) | (simp only [List.cons.injEq, AV.c.injEq, AC.int.injEq, AC.bool.injEq, AC.str.injEq, and_true, true_and, Int.natCast_add, Int.natCast_one, Int.cast_ofNat_Int]; omega) | (simp [AV.ok, AV.ok1, AC.ok]; done) | (simp [AV.ok, AV.ok1, AC.ok]; omega) | (simp only [List.forall_mem_cons, List.not_mem_nil, false_implies, implies_true, and_true]; (repeat' apply And.intro) <;> first | exact okN_map (fun x => by simp [go_sem, AC.pure]) | exact okN_grO (fun x => by simp [go_sem, AC.pure]) | (simp [AObj.okN, AC.ok]; done) | (simp [AObj.okN, AC.ok]; omega)) | (simp [*]; done) | grind
    · have hpos : 0 < a.length := List.length_pos_iff.2 ha0
      simp (disch := first | omega | (simp only [go_sem]; first | done | omega)) only [go_sem, hpos]
      refine flip_a H.length zs (j2 + 1) 2 (st _ _ (by omega) (by omega)) (by omega) (by omega) (fun bb => ?_)
      simp (disch := first | omega | (simp only [go_sem]; first | done | omega)) only [go_sem]
      refine acond_b (fun c => ?_) (fun c => ?_)
      · simp (disch := first | omega | (simp only [go_sem]; first | done | omega)) only [go_sem]
        refine next_a H.length zs (j2 + 1 + 1) a.length (st _ _ (by omega) (by omega)) (by omega) (by omega) (fun x x0 x1 => ?_)
        simp (disch := first | omega | (simp only [go_sem]; first | done | omega)) only [go_sem]
        have e : (((a.map encAr).drop x.toNat).take (a.length - x.toNat)) = (a.drop x.toNat).map encAr := by
          rw [← List.map_drop, List.take_of_length_le (by simp)]
        rw [e]
        refine cloneF_a (a.drop x.toNat) (by simp; omega) ?_
        simp (disch := first | omega | (simp only [go_sem]; first | done | omega)) only [go_sem]
        refine Next.mk (a.drop x.toNat, j2 + 1 + 1 + 1) ⟨by simp; omega, fun y hy => g4 y (List.mem_of_mem_drop hy), by dsimp only; omega, by dsimp only; omega⟩ ?_
        (try simp (disch := first | omega | (simp only [go_sem]; first | done | omega)) only [go_sem]); (first | refine WkL.eq ?_ ?_ | refine WkL.rest (by assumption) ?_ ?_ ?_ | refine WkL.keepL (by assumption) rfl ?_ ?_ ?_ ?_) <;> first | rfl | (simp; done) | (simp; omega) | (simp only [List.cons.injEq, AV.c.injEq, AC.int.injEq, AC.bool.injEq, AC.str.injEq, and_true, true_and, Int.natCast_add, Int.natCast_one, Int.cast_ofNat_Int]; omega) | (simp [AV.ok, AV.ok1, AC.ok]; done) | (simp [AV.ok, AV.ok1, AC.ok]; omega) | (simp only [List.forall_mem_cons, List.not_mem_nil, false_implies, implies_true, and_true]; (repeat' apply And.intro) <;> first | exact okN_map (fun x => by simp [go_sem, AC.pure]) | exact okN_grO (fun x => by simp [go_sem, AC.pure]) | (simp [AObj.okN, AC.ok]; done) | (simp [AObj.okN, AC.ok]; omega)) | (simp [*]; done) | grind
      · simp (disch := first | omega | (simp only [go_sem]; first | done | omega)) only [go_sem]
        refine Next.mk (b0, j2 + 1 + 1) ⟨by dsimp only; omega, g8, by dsimp only; omega, by dsimp only; omega⟩ ?_
        (try simp (disch := first | omega | (simp only [go_sem]; first | done | omega)) only [go_sem]); (first | refine WkL.eq ?_ ?_ | refine WkL.rest (by assumption) ?_ ?_ ?_ | refine WkL.keepL (by assumption) rfl ?_ ?_ ?_ ?_) <;> first | rfl | (simp; done) | (simp; omega) | (simp only [List.cons.injEq, AV.c.injEq, AC.int.injEq, AC.bool.injEq, AC.str.injEq, and_true, true_and, Int.natCast_add, Int.natCast_one, Int.cast_ofNat_Int]; omega) | (simp [AV.ok, AV.ok1, AC.ok]; done) | (simp [AV.ok, AV.ok1, AC.ok]; omega) | (simp only [List.forall_mem_cons, List.not_mem_nil, false_implies, implies_true, and_true]; (repeat' apply And.intro) <;> first | exact okN_map (fun x => by simp [go_sem, AC.pure]) | exact okN_grO (fun x => by simp [go_sem, AC.pure]) | (simp [AObj.okN, AC.ok]; done) | (simp [AObj.okN, AC.ok]; omega)) | (simp [*]; done) | grind
  obtain ⟨b, j⟩ := u
  obtain ⟨u1, u2, u3, u4⟩ := hu
  dsimp only at u1 u2 ⊢
  have ha : ∀ x ∈ a, x.nd.size ≤ 1099511627776 ∧ x.p.tag.size ≤ 1099511627776 := fun x hx => by
    obtain ⟨q1, q2, _⟩ := g4 x hx
    omega
  have hb : ∀ x ∈ b, x.nd.size ≤ 1099511627776 ∧ x.p.tag.size ≤ 1099511627776 := fun x hx => by
    obtain ⟨q1, q2, _⟩ := u2 x hx
    omega
  have hP : ∀ x ∈ a ++ b, arOk x := fun x hx => by
    rcases List.mem_append.1 hx with hx | hx
    · exact (g4 x hx).ok
    · exact (u2 x hx).ok
  have hE2 := ndErr_e a node
  have hmo : ndErr a node = 0 → 0 ≤ moF a node ∧ moF a node ≤ 100000 := fun h => by
    rcases moF_in node a with e | e
    · omega
    · obtain ⟨y, hy, _, e2⟩ := evF_mem a _ e
      have h1 := (arrErr_bd (arF_all (ndErr_ar h) y hy)).2
      have h2 := (g4 y hy).2.2.2.2
      omega
  clear g1 g2 g3 g5 g6 g7 g8 st
  have hM : (mgR a b).1.length ≤ 20 := by
    have h1 : (mgM a b).length ≤ 20 := by
      unfold mgM
      have := cplF_le (isortG arLt (a ++ b))
      rw [isortG_len, List.length_append] at this
      omega
    unfold mgR
    split
    · simp
    · split
      · simp
      · exact h1
  have hD := dupF_len a a.length
  refine SWp.of (by kernel_rfl) ?_
  simp (disch := first | omega | (simp only [go_sem]; first | done | omega)) only [go_sem]
  refine mergeA_a a b (by omega) ha hb ?_
  rw [mgT_e]
  simp (disch := first | omega | (simp only [go_sem]; first | done | omega)) only [go_sem]
  refine duplicates_a a ha (by omega) ?_
  simp (disch := first | omega | (simp only [go_sem]; first | done | omega)) only [go_sem]
  refine missing_a a node (by omega) ha (by omega) hmo ?_
  simp (disch := first | omega | (simp only [go_sem]; first | done | omega)) only [go_sem]
  refine complete_a a node (by omega) ha (by omega) ?_
  simp (disch := first | omega | (simp only [go_sem]; first | done | omega)) only [go_sem]
  refine delay_a a node (by omega) ha (by omega) ?_
  simp (disch := first | omega | (simp only [go_sem]; first | done | omega)) only [go_sem]
  refine arrivalsFault_a a ha (by omega) ?_
  simp (disch := first | omega | (simp only [go_sem]; first | done | omega)) only [go_sem]
  refine arrivalsFault_a b hb (by omega) ?_
  simp (disch := first | omega | (simp only [go_sem]; first | done | omega)) only [go_sem]
  refine errs_lit (arF a) (arF b) (by first | exact at0 (by simp) | exact at1 (by simp) | exact at2 (by simp) | exact at3 (by simp) | exact at4 (by simp) | exact at5 (by simp) | exact atG 6 (by simp) rfl | exact atG 7 (by simp) rfl | exact atG 8 (by simp) rfl | exact atG 9 (by simp) rfl | exact atG 10 (by simp) rfl | exact atG 11 (by simp) rfl | exact atG 12 (by simp) rfl | exact atG 13 (by simp) rfl | exact atG 14 (by simp) rfl | exact atG 15 (by simp) rfl | assumption) rfl rfl ?_
  simp (disch := first | omega | (simp only [go_sem]; first | done | omega)) only [go_sem]
  refine nameFault_a node hnd ?_
  simp (disch := first | omega | (simp only [go_sem]; first | done | omega)) only [go_sem]
  refine errs_lit (arF a) (tagE node) (by first | exact at0 (by simp) | exact at1 (by simp) | exact at2 (by simp) | exact at3 (by simp) | exact at4 (by simp) | exact at5 (by simp) | exact atG 6 (by simp) rfl | exact atG 7 (by simp) rfl | exact atG 8 (by simp) rfl | exact atG 9 (by simp) rfl | exact atG 10 (by simp) rfl | exact atG 11 (by simp) rfl | exact atG 12 (by simp) rfl | exact atG 13 (by simp) rfl | exact atG 14 (by simp) rfl | exact atG 15 (by simp) rfl | assumption) rfl rfl ?_
  have hL : firstE [arF a, tagE node] ≠ 0 → dlR a node = (0, 0, firstE [arF a, tagE node]) := fun h => by
    unfold dlR
    rw [hE2, if_pos h]
  rw [hE2]
  have n1 : firstE [arF a, arF b] = 0 → arF a = 0 := fun h => (firstE_two h).1
  have n2 : firstE [arF a, tagE node] = 0 → arF a = 0 ∧ tagE node = 0 := fun h => firstE_two h
  have n3 : firstE [arF a, arF b] = 0 ∨ firstE [arF a, tagE node] = 0 → arF a = 0 := fun h => by
    rcases h with h | h
    · exact (firstE_two h).1
    · exact (firstE_two h).1
  generalize firstE [arF a, arF b] = E1 at *
  generalize firstE [arF a, tagE node] = E2 at *
  have hR : E2 = 0 → (rowsF (srtI (miF a node))).length ≤ 1099511627776 := fun h => by
    obtain ⟨b4, _⟩ := n2 h
    have h1 := rowsF_len (srtI (miF a node)) _ (Nat.le_refl _)
    rw [List.take_length, srtI_len] at h1
    have h2 := msF_len (evF a node) (moF a node - 1).toNat
    have h3 := hmo (hE2.trans h)
    unfold miF at h1 ⊢
    omega
  by_cases hF : arF a = 0
  · by_cases h1 : E1 = 0
    · simp (disch := first | omega | (simp only [go_sem]; first | done | omega)) only [go_sem, hF, h1]
      refine arrivalsOf_a a b (by omega) hP ?_
      generalize mgR a b = M at *
      simp (disch := first | omega | (simp only [go_sem]; first | done | omega)) only [go_sem, hF, h1]
      refine duplicatesOf_a a (by omega) ?_
      generalize dupF a a.length = D at *
      simp (disch := first | omega | (simp only [go_sem]; first | done | omega)) only [go_sem, hF, h1]
      by_cases h2 : E2 = 0
      · obtain ⟨b4, b5⟩ := n2 h2
        simp (disch := first | omega | (simp only [go_sem]; first | done | omega)) only [go_sem, hF, h1, h2]
        refine missingOf_a a node (by omega) b4 ?_
        simp (disch := first | omega | (simp only [go_sem]; first | done | omega)) only [go_sem]
        refine completeOf_a a node (by omega) b4 ?_
        simp (disch := first | omega | (simp only [go_sem]; first | done | omega)) only [go_sem]
        refine delayOf_a a node (by omega) (hE2.trans h2) ?_
        generalize rowsF (srtI (miF a node)) = R at *
        generalize upTo (evF a node) 1000001 0 = U at *
        generalize dlR a node = L at *
        simp (disch := first | omega | (simp only [go_sem]; first | done | omega)) only [go_sem]
        refine checkArrivals_a a ha (by omega) ?_
        simp (disch := first | omega | (simp only [go_sem]; first | done | omega)) only [go_sem]
        refine equalAq_a M.1 M.1 (by omega) (by omega) ?_
        rw [decide_eq_true (rfl : M.1 = M.1)]
        simp (disch := first | omega | (simp only [go_sem]; first | done | omega)) only [go_sem]
        refine equalIq_a D D (by omega) (by omega) ?_
        rw [decide_eq_true (rfl : D = D)]
        simp (disch := first | omega | (simp only [go_sem]; first | done | omega)) only [go_sem]
        refine equalRq_a R R (by omega) (by omega) ?_
        rw [decide_eq_true (rfl : R = R)]
        simp (disch := first | omega | (simp only [go_sem]; first | done | omega)) only [go_sem]
        refine forwarded_a ?_
        simp (disch := first | omega | (simp only [go_sem]; first | done | omega)) only [go_sem]
        exact Ret.drop hH (Nat.le_refl _) trivial hk
      · rw [hL h2]
        simp (disch := first | omega | (simp only [go_sem]; first | done | omega)) only [go_sem, hF, h1, h2]
        refine checkArrivals_a a ha (by omega) ?_
        simp (disch := first | omega | (simp only [go_sem]; first | done | omega)) only [go_sem]
        refine equalAq_a M.1 M.1 (by omega) (by omega) ?_
        rw [decide_eq_true (rfl : M.1 = M.1)]
        simp (disch := first | omega | (simp only [go_sem]; first | done | omega)) only [go_sem]
        refine equalIq_a D D (by omega) (by omega) ?_
        rw [decide_eq_true (rfl : D = D)]
        simp (disch := first | omega | (simp only [go_sem]; first | done | omega)) only [go_sem]
        refine ACalls.nilz [2, 2] (by simp) (equalRq_a [] [] (by simp) (by simp) ?_)
        simp (disch := first | omega | (simp only [go_sem]; first | done | omega)) only [go_sem]
        refine forwarded_a ?_
        simp (disch := first | omega | (simp only [go_sem]; first | done | omega)) only [go_sem]
        exact Ret.drop hH (Nat.le_refl _) trivial hk
    · simp (disch := first | omega | (simp only [go_sem]; first | done | omega)) only [go_sem, hF, h1]
      refine duplicatesOf_a a (by omega) ?_
      generalize dupF a a.length = D at *
      simp (disch := first | omega | (simp only [go_sem]; first | done | omega)) only [go_sem, hF, h1]
      by_cases h2 : E2 = 0
      · obtain ⟨b4, b5⟩ := n2 h2
        simp (disch := first | omega | (simp only [go_sem]; first | done | omega)) only [go_sem, hF, h1, h2]
        refine missingOf_a a node (by omega) b4 ?_
        simp (disch := first | omega | (simp only [go_sem]; first | done | omega)) only [go_sem]
        refine completeOf_a a node (by omega) b4 ?_
        simp (disch := first | omega | (simp only [go_sem]; first | done | omega)) only [go_sem]
        refine delayOf_a a node (by omega) (hE2.trans h2) ?_
        generalize rowsF (srtI (miF a node)) = R at *
        generalize upTo (evF a node) 1000001 0 = U at *
        generalize dlR a node = L at *
        simp (disch := first | omega | (simp only [go_sem]; first | done | omega)) only [go_sem]
        refine checkArrivals_a a ha (by omega) ?_
        simp (disch := first | omega | (simp only [go_sem]; first | done | omega)) only [go_sem]
        refine ACalls.nilz [7, 7] (by simp) (equalAq_a [] [] (by simp) (by simp) ?_)
        simp (disch := first | omega | (simp only [go_sem]; first | done | omega)) only [go_sem]
        refine equalIq_a D D (by omega) (by omega) ?_
        rw [decide_eq_true (rfl : D = D)]
        simp (disch := first | omega | (simp only [go_sem]; first | done | omega)) only [go_sem]
        refine equalRq_a R R (by omega) (by omega) ?_
        rw [decide_eq_true (rfl : R = R)]
        simp (disch := first | omega | (simp only [go_sem]; first | done | omega)) only [go_sem]
        refine forwarded_a ?_
        simp (disch := first | omega | (simp only [go_sem]; first | done | omega)) only [go_sem]
        exact Ret.drop hH (Nat.le_refl _) trivial hk
      · rw [hL h2]
        simp (disch := first | omega | (simp only [go_sem]; first | done | omega)) only [go_sem, hF, h1, h2]
        refine checkArrivals_a a ha (by omega) ?_
        simp (disch := first | omega | (simp only [go_sem]; first | done | omega)) only [go_sem]
        refine ACalls.nilz [7, 7] (by simp) (equalAq_a [] [] (by simp) (by simp) ?_)
        simp (disch := first | omega | (simp only [go_sem]; first | done | omega)) only [go_sem]
        refine equalIq_a D D (by omega) (by omega) ?_
        rw [decide_eq_true (rfl : D = D)]
        simp (disch := first | omega | (simp only [go_sem]; first | done | omega)) only [go_sem]
        refine ACalls.nilz [2, 2] (by simp) (equalRq_a [] [] (by simp) (by simp) ?_)
        simp (disch := first | omega | (simp only [go_sem]; first | done | omega)) only [go_sem]
        refine forwarded_a ?_
        simp (disch := first | omega | (simp only [go_sem]; first | done | omega)) only [go_sem]
        exact Ret.drop hH (Nat.le_refl _) trivial hk
  · have h1 : ¬ E1 = 0 := fun h => hF (n3 (Or.inl h))
    have h2 : ¬ E2 = 0 := fun h => hF (n3 (Or.inr h))
    rw [hL h2]
    simp (disch := first | omega | (simp only [go_sem]; first | done | omega)) only [go_sem, hF, h1, h2]
    refine checkArrivals_a a ha (by omega) ?_
    simp (disch := first | omega | (simp only [go_sem]; first | done | omega)) only [go_sem]
    refine ACalls.nilz [7, 7] (by simp) (equalAq_a [] [] (by simp) (by simp) ?_)
    simp (disch := first | omega | (simp only [go_sem]; first | done | omega)) only [go_sem]
    refine ACalls.nilz [1, 1] (by simp) (equalIq_a [] [] (by simp) (by simp) ?_)
    simp (disch := first | omega | (simp only [go_sem]; first | done | omega)) only [go_sem]
    refine ACalls.nilz [2, 2] (by simp) (equalRq_a [] [] (by simp) (by simp) ?_)
    simp (disch := first | omega | (simp only [go_sem]; first | done | omega)) only [go_sem]
    refine forwarded_a ?_
    simp (disch := first | omega | (simp only [go_sem]; first | done | omega)) only [go_sem]
    exact Ret.drop hH (Nat.le_refl _) trivial hk
end Go.Proofs.YtppmkgaobeccfaaGreat
