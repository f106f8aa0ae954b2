/- DuplicatesChangeNothing: what the law's function answers for all numbers it is given. No condition. -/
import Derived.Test.YtppmkgaobeccfaaGreatDoorHVDupD
import Derived.Test.YtppmkgaobeccfaaGreatDoorHVArrL
import Derived.Test.YtppmkgaobeccfaaGreatDoorHVClkC
import Derived.Test.YtppmkgaobeccfaaGreatDoorHVGC
import Derived.Test.YtppmkgaobeccfaaGreatDoorHVReady
namespace Go.Proofs.YtppmkgaobeccfaaGreatDoor
open Go Go.RowKit
set_option maxRecDepth 100000
set_option linter.all false
set_option maxHeartbeats 2000000
variable {H : Hp} {K : AV → Hp → Prop}
theorem equalRq_a (l m : List (Int × Int)) (hl : l.length ≤ 1099511627776) (hm : m.length ≤ 1099511627776) (hk : K (.c (.bool (decide (l = m)))) H) : ACalls Tryz.prog 18 [.c (.lst 2 (l.map encRw)), .c (.lst 2 (m.map encRw))] H K := by
  by_cases hlen : l.length = m.length
  · refine acalls Tryz.func18 rfl (by kernel_rfl) (by simp (disch := first | omega | (simp only [go_sem]; first | done | omega)) only [go_sem]) (fun hH => ?_)
    simp (disch := first | omega | (simp only [go_sem]; first | done | omega)) only [go_sem]
    refine AWp.loop (H.length) [0, 1, 12] [13] (fun (k : Nat) => k ≤ l.length ∧ ∀ (j : Nat) (x y : (Int × Int)), j < k → l[j]? = some x → m[j]? = some y → x = y) (fun (k : Nat) => [(13, (.c (.int .i64 k)))]) (fun (k : Nat) => H) (fun (k : Nat) => l.length - k) (by kernel_rfl) (fun _ => rfl) (by kernel_rfl) (by first | (simp; done) | omega) (by first | (simp; done) | (simp; omega) | omega) (by (try simp only [List.forall_mem_cons, List.not_mem_nil, false_implies, implies_true, and_true]); (try simp (disch := first | omega | (simp only [go_sem]; first | done | omega)) only [go_sem]); all_goals first | trivial | (simp [AV.ok, AV.ok1, AC.ok]; done) | (simp [AV.ok, AV.ok1, AC.ok]; omega) | (simp [AV.ok, AV.ok1, AC.ok]; assumption) | ((repeat' apply And.intro) <;> first | trivial | (simp [AV.ok, AV.ok1, AC.ok]; done) | (simp [AV.ok, AV.ok1, AC.ok]; omega) | (simp [AV.ok, AV.ok1, AC.ok]; assumption) | (refine grV_ok ?_ _; first | (simp; done) | (simp; omega) | omega))) ?_ (fun k hk1 _ _ => ?_)
    · exact Next.mk 0 (by simp) (by (try simp (disch := first | omega | (simp only [go_sem]; first | done | omega)) only [go_sem]); (first | refine WkL.eq ?_ ?_ | refine WkL.rest (by assumption) ?_ ?_ ?_ | refine WkL.keepL (by assumption) rfl ?_ ?_ ?_ ?_) <;> first | rfl | (simp; done) | (simp; omega) | (simp only [List.cons.injEq, AV.c.injEq, AC.int.injEq, AC.bool.injEq, AC.str.injEq, and_true, true_and, Int.natCast_add, Int.natCast_one, Int.cast_ofNat_Int]; omega) | (simp [AV.ok, AV.ok1, AC.ok]; done) | (simp [AV.ok, AV.ok1, AC.ok]; omega) | (simp only [List.forall_mem_cons, List.not_mem_nil, false_implies, implies_true, and_true]; (repeat' apply And.intro) <;> first | exact okN_map (fun x => by simp [go_sem, AC.pure]) | exact okN_grO (fun x => by simp [go_sem, AC.pure]) | (simp [AObj.okN, AC.ok]; done) | (simp [AObj.okN, AC.ok]; omega)) | (simp [*]; done) | grind)
    obtain ⟨hk1, hk2⟩ := hk1
    by_cases hlt : k < l.length
    · simp (disch := first | omega | (simp only [go_sem]; first | done | omega)) only [go_sem]
      refine w_draw (by kernel_rfl) (by decide +kernel) ?_
      simp (disch := first | omega | (simp only [go_sem]; first | done | omega)) only [go_sem]
      refine acond_b (fun c => ?_) (fun c => ?_)
      · simp (disch := first | omega | (simp only [go_sem]; first | done | omega)) only [go_sem]
        exact Next.mk (k + 1) ⟨⟨by omega, fun j x y hj hx hy => by
          rcases Nat.lt_or_ge j k with h | h
          · exact hk2 j x y h hx hy
          · obtain rfl : j = k := by omega
            rw [List.getElem?_eq_getElem hlt] at hx
            rw [List.getElem?_eq_getElem (by omega)] at hy
            injection hx with hx; injection hy with hy; rw [← hx, ← hy]; revert c; generalize l[j] = u; generalize m[j] = v; first | (simp; done) | (cases u; cases v; simp)⟩, by omega⟩ (by (try simp (disch := first | omega | (simp only [go_sem]; first | done | omega)) only [go_sem]); (first | refine WkL.eq ?_ ?_ | refine WkL.rest (by assumption) ?_ ?_ ?_ | refine WkL.keepL (by assumption) rfl ?_ ?_ ?_ ?_) <;> first | rfl | (simp; done) | (simp; omega) | (simp only [List.cons.injEq, AV.c.injEq, AC.int.injEq, AC.bool.injEq, AC.str.injEq, and_true, true_and, Int.natCast_add, Int.natCast_one, Int.cast_ofNat_Int]; omega) | (simp [AV.ok, AV.ok1, AC.ok]; done) | (simp [AV.ok, AV.ok1, AC.ok]; omega) | (simp only [List.forall_mem_cons, List.not_mem_nil, false_implies, implies_true, and_true]; (repeat' apply And.intro) <;> first | exact okN_map (fun x => by simp [go_sem, AC.pure]) | exact okN_grO (fun x => by simp [go_sem, AC.pure]) | (simp [AObj.okN, AC.ok]; done) | (simp [AObj.okN, AC.ok]; omega)) | (simp [*]; done) | grind)
      · simp (disch := first | omega | (simp only [go_sem]; first | done | omega)) only [go_sem]
        have : l ≠ m := by rintro rfl; simp at c
        (first | refine Ret.sameE (Nat.le_refl _) (by assumption) ?_ | refine Ret.dropE (by assumption) (Nat.le_refl _) (by assumption) (by simp [AV.ok, AV.ok1, AC.ok]) ?_) <;> simp [this]
    · simp (disch := first | omega | (simp only [go_sem]; first | done | omega)) only [go_sem]
      have : l = m := by
        apply List.ext_getElem hlen
        intro j h1 h2
        exact hk2 j _ _ (by omega) (List.getElem?_eq_getElem h1) (List.getElem?_eq_getElem h2)
      (first | refine Ret.sameE (Nat.le_refl _) (by assumption) ?_ | refine Ret.dropE (by assumption) (Nat.le_refl _) (by assumption) (by simp [AV.ok, AV.ok1, AC.ok]) ?_) <;> simp [this]
  · have : l ≠ m := by rintro rfl; exact hlen rfl
    refine acalls Tryz.func18 rfl (by kernel_rfl) (by simp (disch := first | omega | (simp only [go_sem]; first | done | omega)) only [go_sem]) (fun hH => ?_)
    simp (disch := first | omega | (simp only [go_sem]; first | done | omega)) only [go_sem]
    (first | refine Ret.sameE (Nat.le_refl _) (by assumption) ?_ | refine Ret.dropE (by assumption) (Nat.le_refl _) (by assumption) (by simp [AV.ok, AV.ok1, AC.ok]) ?_) <;> simp [this]
theorem equalSq_a (l m : List Smp) (hl : l.length ≤ 1099511627776) (hm : m.length ≤ 1099511627776) (hk : K (.c (.bool (decide (l = m)))) H) : ACalls Tryz.prog 17 [.c (.lst 3 (l.map encS)), .c (.lst 3 (m.map encS))] H K := by
  by_cases hlen : l.length = m.length
  · refine acalls Tryz.func17 rfl (by kernel_rfl) (by simp (disch := first | omega | (simp only [go_sem]; first | done | omega)) only [go_sem]) (fun hH => ?_)
    simp (disch := first | omega | (simp only [go_sem]; first | done | omega)) only [go_sem]
    refine AWp.loop (H.length) [0, 1, 12] [13] (fun (k : Nat) => k ≤ l.length ∧ ∀ (j : Nat) (x y : Smp), j < k → l[j]? = some x → m[j]? = some y → x = y) (fun (k : Nat) => [(13, (.c (.int .i64 k)))]) (fun (k : Nat) => H) (fun (k : Nat) => l.length - k) (by kernel_rfl) (fun _ => rfl) (by kernel_rfl) (by first | (simp; done) | omega) (by first | (simp; done) | (simp; omega) | omega) (by (try simp only [List.forall_mem_cons, List.not_mem_nil, false_implies, implies_true, and_true]); (try simp (disch := first | omega | (simp only [go_sem]; first | done | omega)) only [go_sem]); all_goals first | trivial | (simp [AV.ok, AV.ok1, AC.ok]; done) | (simp [AV.ok, AV.ok1, AC.ok]; omega) | (simp [AV.ok, AV.ok1, AC.ok]; assumption) | ((repeat' apply And.intro) <;> first | trivial | (simp [AV.ok, AV.ok1, AC.ok]; done) | (simp [AV.ok, AV.ok1, AC.ok]; omega) | (simp [AV.ok, AV.ok1, AC.ok]; assumption) | (refine grV_ok ?_ _; first | (simp; done) | (simp; omega) | omega))) ?_ (fun k hk1 _ _ => ?_)
    · exact Next.mk 0 (by simp) (by (try simp (disch := first | omega | (simp only [go_sem]; first | done | omega)) only [go_sem]); (first | refine WkL.eq ?_ ?_ | refine WkL.rest (by assumption) ?_ ?_ ?_ | refine WkL.keepL (by assumption) rfl ?_ ?_ ?_ ?_) <;> first | rfl | (simp; done) | (simp; omega) | (simp only [List.cons.injEq, AV.c.injEq, AC.int.injEq, AC.bool.injEq, AC.str.injEq, and_true, true_and, Int.natCast_add, Int.natCast_one, Int.cast_ofNat_Int]; omega) | (simp [AV.ok, AV.ok1, AC.ok]; done) | (simp [AV.ok, AV.ok1, AC.ok]; omega) | (simp only [List.forall_mem_cons, List.not_mem_nil, false_implies, implies_true, and_true]; (repeat' apply And.intro) <;> first | exact okN_map (fun x => by simp [go_sem, AC.pure]) | exact okN_grO (fun x => by simp [go_sem, AC.pure]) | (simp [AObj.okN, AC.ok]; done) | (simp [AObj.okN, AC.ok]; omega)) | (simp [*]; done) | grind)
    obtain ⟨hk1, hk2⟩ := hk1
    by_cases hlt : k < l.length
    · simp (disch := first | omega | (simp only [go_sem]; first | done | omega)) only [go_sem]
      refine w_draw (by kernel_rfl) (by decide +kernel) ?_
      simp (disch := first | omega | (simp only [go_sem]; first | done | omega)) only [go_sem]
      refine acond_b (fun c => ?_) (fun c => ?_)
      · simp (disch := first | omega | (simp only [go_sem]; first | done | omega)) only [go_sem]
        exact Next.mk (k + 1) ⟨⟨by omega, fun j x y hj hx hy => by
          rcases Nat.lt_or_ge j k with h | h
          · exact hk2 j x y h hx hy
          · obtain rfl : j = k := by omega
            rw [List.getElem?_eq_getElem hlt] at hx
            rw [List.getElem?_eq_getElem (by omega)] at hy
            injection hx with hx; injection hy with hy; rw [← hx, ← hy]; revert c; generalize l[j] = u; generalize m[j] = v; first | (simp; done) | (cases u; cases v; simp)⟩, by omega⟩ (by (try simp (disch := first | omega | (simp only [go_sem]; first | done | omega)) only [go_sem]); (first | refine WkL.eq ?_ ?_ | refine WkL.rest (by assumption) ?_ ?_ ?_ | refine WkL.keepL (by assumption) rfl ?_ ?_ ?_ ?_) <;> first | rfl | (simp; done) | (simp; omega) | (simp only [List.cons.injEq, AV.c.injEq, AC.int.injEq, AC.bool.injEq, AC.str.injEq, and_true, true_and, Int.natCast_add, Int.natCast_one, Int.cast_ofNat_Int]; omega) | (simp [AV.ok, AV.ok1, AC.ok]; done) | (simp [AV.ok, AV.ok1, AC.ok]; omega) | (simp only [List.forall_mem_cons, List.not_mem_nil, false_implies, implies_true, and_true]; (repeat' apply And.intro) <;> first | exact okN_map (fun x => by simp [go_sem, AC.pure]) | exact okN_grO (fun x => by simp [go_sem, AC.pure]) | (simp [AObj.okN, AC.ok]; done) | (simp [AObj.okN, AC.ok]; omega)) | (simp [*]; done) | grind)
      · simp (disch := first | omega | (simp only [go_sem]; first | done | omega)) only [go_sem]
        have : l ≠ m := by rintro rfl; simp at c
        (first | refine Ret.sameE (Nat.le_refl _) (by assumption) ?_ | refine Ret.dropE (by assumption) (Nat.le_refl _) (by assumption) (by simp [AV.ok, AV.ok1, AC.ok]) ?_) <;> simp [this]
    · simp (disch := first | omega | (simp only [go_sem]; first | done | omega)) only [go_sem]
      have : l = m := by
        apply List.ext_getElem hlen
        intro j h1 h2
        exact hk2 j _ _ (by omega) (List.getElem?_eq_getElem h1) (List.getElem?_eq_getElem h2)
      (first | refine Ret.sameE (Nat.le_refl _) (by assumption) ?_ | refine Ret.dropE (by assumption) (Nat.le_refl _) (by assumption) (by simp [AV.ok, AV.ok1, AC.ok]) ?_) <;> simp [this]
  · have : l ≠ m := by rintro rfl; exact hlen rfl
    refine acalls Tryz.func17 rfl (by kernel_rfl) (by simp (disch := first | omega | (simp only [go_sem]; first | done | omega)) only [go_sem]) (fun hH => ?_)
    simp (disch := first | omega | (simp only [go_sem]; first | done | omega)) only [go_sem]
    (first | refine Ret.sameE (Nat.le_refl _) (by assumption) ?_ | refine Ret.dropE (by assumption) (Nat.le_refl _) (by assumption) (by simp [AV.ok, AV.ok1, AC.ok]) ?_) <;> simp [this]
theorem equalAq_a (l m : List Arr) (hl : l.length ≤ 1099511627776) (hm : m.length ≤ 1099511627776) (hk : K (.c (.bool (decide (l = m)))) H) : ACalls Tryz.prog 16 [.c (.lst 7 (l.map encAr)), .c (.lst 7 (m.map encAr))] H K := by
  by_cases hlen : l.length = m.length
  · refine acalls Tryz.func16 rfl (by kernel_rfl) (by simp (disch := first | omega | (simp only [go_sem]; first | done | omega)) only [go_sem]) (fun hH => ?_)
    simp (disch := first | omega | (simp only [go_sem]; first | done | omega)) only [go_sem]
    refine AWp.loop (H.length) [0, 1, 12] [13] (fun (k : Nat) => k ≤ l.length ∧ ∀ (j : Nat) (x y : Arr), j < k → l[j]? = some x → m[j]? = some y → x = y) (fun (k : Nat) => [(13, (.c (.int .i64 k)))]) (fun (k : Nat) => H) (fun (k : Nat) => l.length - k) (by kernel_rfl) (fun _ => rfl) (by kernel_rfl) (by first | (simp; done) | omega) (by first | (simp; done) | (simp; omega) | omega) (by (try simp only [List.forall_mem_cons, List.not_mem_nil, false_implies, implies_true, and_true]); (try simp (disch := first | omega | (simp only [go_sem]; first | done | omega)) only [go_sem]); all_goals first | trivial | (simp [AV.ok, AV.ok1, AC.ok]; done) | (simp [AV.ok, AV.ok1, AC.ok]; omega) | (simp [AV.ok, AV.ok1, AC.ok]; assumption) | ((repeat' apply And.intro) <;> first | trivial | (simp [AV.ok, AV.ok1, AC.ok]; done) | (simp [AV.ok, AV.ok1, AC.ok]; omega) | (simp [AV.ok, AV.ok1, AC.ok]; assumption) | (refine grV_ok ?_ _; first | (simp; done) | (simp; omega) | omega))) ?_ (fun k hk1 _ _ => ?_)
    · exact Next.mk 0 (by simp) (by (try simp (disch := first | omega | (simp only [go_sem]; first | done | omega)) only [go_sem]); (first | refine WkL.eq ?_ ?_ | refine WkL.rest (by assumption) ?_ ?_ ?_ | refine WkL.keepL (by assumption) rfl ?_ ?_ ?_ ?_) <;> first | rfl | (simp; done) | (simp; omega) | (simp only [List.cons.injEq, AV.c.injEq, AC.int.injEq, AC.bool.injEq, AC.str.injEq, and_true, true_and, Int.natCast_add, Int.natCast_one, Int.cast_ofNat_Int]; omega) | (simp [AV.ok, AV.ok1, AC.ok]; done) | (simp [AV.ok, AV.ok1, AC.ok]; omega) | (simp only [List.forall_mem_cons, List.not_mem_nil, false_implies, implies_true, and_true]; (repeat' apply And.intro) <;> first | exact okN_map (fun x => by simp [go_sem, AC.pure]) | exact okN_grO (fun x => by simp [go_sem, AC.pure]) | (simp [AObj.okN, AC.ok]; done) | (simp [AObj.okN, AC.ok]; omega)) | (simp [*]; done) | grind)
    obtain ⟨hk1, hk2⟩ := hk1
    by_cases hlt : k < l.length
    · simp (disch := first | omega | (simp only [go_sem]; first | done | omega)) only [go_sem]
      refine w_draw (by kernel_rfl) (by decide +kernel) ?_
      simp (disch := first | omega | (simp only [go_sem]; first | done | omega)) only [go_sem, arr_eqs]
      refine acond_b (fun c => ?_) (fun c => ?_)
      · simp (disch := first | omega | (simp only [go_sem]; first | done | omega)) only [go_sem]
        exact Next.mk (k + 1) ⟨⟨by omega, fun j x y hj hx hy => by
          rcases Nat.lt_or_ge j k with h | h
          · exact hk2 j x y h hx hy
          · obtain rfl : j = k := by omega
            rw [List.getElem?_eq_getElem hlt] at hx
            rw [List.getElem?_eq_getElem (by omega)] at hy
            injection hx with hx; injection hy with hy; rw [← hx, ← hy]; exact of_decide_eq_true c⟩, by omega⟩ (by (try simp (disch := first | omega | (simp only [go_sem]; first | done | omega)) only [go_sem]); (first | refine WkL.eq ?_ ?_ | refine WkL.rest (by assumption) ?_ ?_ ?_ | refine WkL.keepL (by assumption) rfl ?_ ?_ ?_ ?_) <;> first | rfl | (simp; done) | (simp; omega) | (simp only [List.cons.injEq, AV.c.injEq, AC.int.injEq, AC.bool.injEq, AC.str.injEq, and_true, true_and, Int.natCast_add, Int.natCast_one, Int.cast_ofNat_Int]; omega) | (simp [AV.ok, AV.ok1, AC.ok]; done) | (simp [AV.ok, AV.ok1, AC.ok]; omega) | (simp only [List.forall_mem_cons, List.not_mem_nil, false_implies, implies_true, and_true]; (repeat' apply And.intro) <;> first | exact okN_map (fun x => by simp [go_sem, AC.pure]) | exact okN_grO (fun x => by simp [go_sem, AC.pure]) | (simp [AObj.okN, AC.ok]; done) | (simp [AObj.okN, AC.ok]; omega)) | (simp [*]; done) | grind)
      · simp (disch := first | omega | (simp only [go_sem]; first | done | omega)) only [go_sem]
        have : l ≠ m := by rintro rfl; simp at c
        (first | refine Ret.sameE (Nat.le_refl _) (by assumption) ?_ | refine Ret.dropE (by assumption) (Nat.le_refl _) (by assumption) (by simp [AV.ok, AV.ok1, AC.ok]) ?_) <;> simp [this]
    · simp (disch := first | omega | (simp only [go_sem]; first | done | omega)) only [go_sem]
      have : l = m := by
        apply List.ext_getElem hlen
        intro j h1 h2
        exact hk2 j _ _ (by omega) (List.getElem?_eq_getElem h1) (List.getElem?_eq_getElem h2)
      (first | refine Ret.sameE (Nat.le_refl _) (by assumption) ?_ | refine Ret.dropE (by assumption) (Nat.le_refl _) (by assumption) (by simp [AV.ok, AV.ok1, AC.ok]) ?_) <;> simp [this]
  · have : l ≠ m := by rintro rfl; exact hlen rfl
    refine acalls Tryz.func16 rfl (by kernel_rfl) (by simp (disch := first | omega | (simp only [go_sem]; first | done | omega)) only [go_sem]) (fun hH => ?_)
    simp (disch := first | omega | (simp only [go_sem]; first | done | omega)) only [go_sem]
    (first | refine Ret.sameE (Nat.le_refl _) (by assumption) ?_ | refine Ret.dropE (by assumption) (Nat.le_refl _) (by assumption) (by simp [AV.ok, AV.ok1, AC.ok]) ?_) <;> simp [this]
theorem keyTa : isKey ⟨#[116, 97]⟩ := by decide
theorem keyNa : isKey ⟨#[110, 97]⟩ := by decide
theorem stT_ok (l : List Arr) (cs : List NCl) (tag : ByteArray) (h1 : arF l = 0) (h2 : nkF cs = 0) (h3 : isKey tag) : stT l cs tag = ((stR l cs tag).1, (stR l cs tag).2, 0) := by
  unfold stT
  rw [if_neg (by simp [firstE, h1, h2]), if_pos h3]
theorem WkL.frzGr1 {A : Hp} {n ty sz : Nat} {l : List (List AC)} (hA : HOk A) (hn : n ≤ A.length) (hp : pureL l = true) : WkL n [.c (grV A.length l)] (A ++ [grO ty sz l]) [.c (.lst sz l)] A := by
  cases l with
  | nil =>
    have h1 : WkL n [.c (.sl none 0)] (A ++ [AObj.dead]) [(AV.c (.sl none 0)).nilz [sz]] (A ++ [AObj.dead]) := by
      intro B w0 ι w us hs hr ho
      match us, hr with
      | [u], hr =>
        obtain ⟨h1, h2⟩ := AV.nilz_rel [sz] hr.1 (ho (.c (.sl none 0)) (by simp))
        exact ⟨ι, Agree.refl _ _, by simp; omega, hs, ⟨h1, trivial⟩, by intro x hx; rw [List.mem_singleton] at hx; subst hx; exact h2⟩
    exact h1.trans (WkL.drop hA hn (by simp [AV.nilz, AC.nilz, AV.ok, AV.ok1, AC.ok]))
  | cons x xs => exact WkL.frzCl1 hA hn hp
theorem duplicatesChangeNothing_a (zs : List Int) (hz : zs.length ≤ 9223372036854775807) (hk : K (.c (.bool true)) H) : ACalls Tryz.prog 3 [.c (.lst 1 (zs.map encI))] H K := by
  have st : ∀ (k : Int) (L : Hp), 0 ≤ k → k ≤ 1000000000 → Str (H ++ strO zs k :: L) H.length zs k := fun k L h1 h2 => ⟨hz, h1, by omega, by simp⟩
  refine acallsS Tryz.func3 rfl (by simp (disch := first | omega | (simp only [go_sem]; first | done | omega)) only [go_sem]) (fun hH => ?_)
  (refine SWp.go (by kernel_rfl) ?_; simp (disch := first | omega | (simp only [go_sem]; first | done | omega)) only [go_sem])
  (refine SWp.go (by kernel_rfl) ?_; simp (disch := first | omega | (simp only [go_sem]; first | done | omega)) only [go_sem])
  refine SWp.go (by kernel_rfl) ?_
  simp (disch := first | omega | (simp only [go_sem]; first | done | omega)) only [go_sem]
  refine range_a H.length zs 0 0 10 (st _ _ (by omega) (by omega)) (by omega) (by omega) (by omega) (fun r r1 r2 => ?_)
  simp (disch := first | omega | (simp only [go_sem]; first | done | omega)) only [go_sem]
  refine rightArrivals_a H.length zs 1 r (st _ _ (by omega) (by omega)) (by omega) r1 r2 (fun a j1 g1 g2 g3 g4 g5 => ?_)
  have ha : ∀ x ∈ a, x.nd.size ≤ 1099511627776 ∧ x.p.tag.size ≤ 1099511627776 := fun x hx => by
    obtain ⟨q1, q2, _⟩ := g4 x hx
    omega
  simp (disch := first | omega | (simp only [go_sem]; first | done | omega)) only [go_sem]
  (refine SWp.go (by kernel_rfl) ?_; simp (disch := first | omega | (simp only [go_sem]; first | done | omega)) only [go_sem])
  refine duplicates_a a ha (by omega) ?_
  rw [g5, if_pos rfl]
  simp (disch := first | omega | (simp only [go_sem]; first | done | omega)) only [go_sem]
  (refine SWp.go (by kernel_rfl) ?_; simp (disch := first | omega | (simp only [go_sem]; first | done | omega)) only [go_sem])
  have hdl := dupF_len a a.length
  have hLs := lfF_sub a a.length (Nat.le_refl _)
  rw [List.take_length] at hLs
  have hLl := hLs.length_le
  have hL : ∀ x ∈ lfF a a.length, x.nd.size ≤ 1099511627776 ∧ x.p.tag.size ≤ 1099511627776 := fun x hx => ha x (hLs.subset hx)
  have hLF := arF_sub g5 hLs
  have hn1 : ndErr a ⟨#[110, 97]⟩ = 0 := by unfold ndErr; rw [if_neg (by simp [g5]), if_pos keyNa]
  have hn2 : ndErr (lfF a a.length) ⟨#[110, 97]⟩ = 0 := by unfold ndErr; rw [if_neg (by simp [hLF]), if_pos keyNa]
  have hmo0 : 0 ≤ moF a ⟨#[110, 97]⟩ ∧ moF a ⟨#[110, 97]⟩ ≤ 100000 := by
    rcases moF_in ⟨#[110, 97]⟩ a with e | e
    · omega
    · obtain ⟨y, hy, _, e2⟩ := evF_mem a _ e
      have h1 := (arrErr_bd (arF_all g5 y hy)).2
      have h2 := (g4 y hy).2.2.2.2
      omega
  have hmo : ndErr a ⟨#[110, 97]⟩ = 0 → 0 ≤ moF a ⟨#[110, 97]⟩ ∧ moF a ⟨#[110, 97]⟩ ≤ 100000 := fun _ => hmo0
  have hmoL : ndErr (lfF a a.length) ⟨#[110, 97]⟩ = 0 → 0 ≤ moF (lfF a a.length) ⟨#[110, 97]⟩ ∧ moF (lfF a a.length) ⟨#[110, 97]⟩ ≤ 100000 := fun _ => by rw [moF_same g5]; exact hmo0
  have hRl : (rowsF (srtI (miF a ⟨#[110, 97]⟩))).length ≤ 1099511627776 := by
    have h1 := rowsF_len (srtI (miF a ⟨#[110, 97]⟩)) _ (Nat.le_refl _)
    rw [List.take_length, srtI_len] at h1
    have h2 := msF_len (evF a ⟨#[110, 97]⟩) (moF a ⟨#[110, 97]⟩ - 1).toNat
    unfold miF at h1 ⊢
    omega
  refine SWp.cut (H.length + 1) [3, 4, 5, 6] [7] (fun (_u : Unit) => True) (fun (_u : Unit) => [(7, .c (.lst 7 ((lfF a a.length).map encAr)))]) (fun (_u : Unit) => H ++ [strO zs j1]) (fun _ => rfl) (by kernel_rfl) (by first | (simp; done) | omega) (by first | (simp; done) | (simp; omega) | omega) (by (try simp only [List.forall_mem_cons, List.not_mem_nil, false_implies, implies_true, and_true]); (try simp (disch := first | omega | (simp only [go_sem]; first | done | omega)) only [go_sem]); all_goals first | trivial | (simp [AV.ok, AV.ok1, AC.ok]; done) | (simp [AV.ok, AV.ok1, AC.ok]; omega) | (simp [AV.ok, AV.ok1, AC.ok]; assumption) | ((repeat' apply And.intro) <;> first | trivial | (simp [AV.ok, AV.ok1, AC.ok]; done) | (simp [AV.ok, AV.ok1, AC.ok]; omega) | (simp [AV.ok, AV.ok1, AC.ok]; assumption) | (refine grV_ok ?_ _; first | (simp; done) | (simp; omega) | omega))) ?_ (fun _ _ _ _ => ?_)
  · refine SWp.of (by kernel_rfl) ?_
    simp (disch := first | omega | (simp only [go_sem]; first | done | omega)) only [go_sem]
    refine AWp.loop (H.length + 1) [3, 4, 5, 6, 39, 40] [41, 7] (fun (k : Nat) => k ≤ a.length) (fun (k : Nat) => [(41, (.c (.int .i64 k))), (7, .c (grV (H.length + 1) (lfF a k)))]) (fun (k : Nat) => H ++ [strO zs j1, grO 37 7 ((lfF a k).map encAr)]) (fun (k : Nat) => a.length - k) (by kernel_rfl) (fun _ => rfl) (by kernel_rfl) (by first | (simp; done) | omega) (by first | (simp; done) | (simp; omega) | omega) (by (try simp only [List.forall_mem_cons, List.not_mem_nil, false_implies, implies_true, and_true]); (try simp (disch := first | omega | (simp only [go_sem]; first | done | omega)) only [go_sem]); all_goals first | trivial | (simp [AV.ok, AV.ok1, AC.ok]; done) | (simp [AV.ok, AV.ok1, AC.ok]; omega) | (simp [AV.ok, AV.ok1, AC.ok]; assumption) | ((repeat' apply And.intro) <;> first | trivial | (simp [AV.ok, AV.ok1, AC.ok]; done) | (simp [AV.ok, AV.ok1, AC.ok]; omega) | (simp [AV.ok, AV.ok1, AC.ok]; assumption) | (refine grV_ok ?_ _; first | (simp; done) | (simp; omega) | omega))) ?_ (fun k q1 _ _ => ?_)
    · refine Next.mk 0 (Nat.zero_le _) ?_
      exact WkL.padP [_] (by simp)
    by_cases hlt : k < a.length
    · obtain ⟨x, hx⟩ : ∃ x, x = a[k] := ⟨_, rfl⟩
      have hnx := lfF_next a hlt
      have hhas := dupF_has a hlt
      have hln : (lfF a k).length ≤ 10 := by
        have h1 := (lfF_sub a k (by omega)).length_le
        rw [List.length_take] at h1
        omega
      rw [← hx] at hnx
      have hP : ∀ o ∈ [strO zs j1], o.okN (H.length + [strO zs j1].length) := by
        intro o ho
        simp only [List.mem_singleton] at ho
        subst ho
        exact okN_pure (by simp [pureL, AC.pure]) (by simp) _
      generalize lfF a k = L at *
      simp (disch := first | omega | (simp only [go_sem]; first | done | omega)) only [go_sem, hlt, ← hx]
      refine hasIt_a (dupF a a.length) _ (by omega) ?_
      rw [hhas]
      cases hd : isD a k with
      | true =>
        rw [hd, if_pos rfl, List.append_nil] at hnx
        simp (disch := first | omega | (simp only [go_sem]; first | done | omega)) only [go_sem]
        refine Next.mk (k + 1) ⟨by omega, by omega⟩ ?_
        rw [hnx]
        ((try simp (disch := first | omega | (simp only [go_sem]; first | done | omega)) only [go_sem]); (first | refine WkL.pickAt [_] [0] ?_ ?_ ?_ rfl ?_ ?_ ?_ ?_ | refine WkL.pickAt [_] [1] ?_ ?_ ?_ rfl ?_ ?_ ?_ ?_ | refine WkL.pickAt [_] [2] ?_ ?_ ?_ rfl ?_ ?_ ?_ ?_ | refine WkL.pickAt [_] [3] ?_ ?_ ?_ rfl ?_ ?_ ?_ ?_ | refine WkL.pickAt [_] [4] ?_ ?_ ?_ rfl ?_ ?_ ?_ ?_ | refine WkL.pickAt [_] [5] ?_ ?_ ?_ rfl ?_ ?_ ?_ ?_ | refine WkL.pickAt [_] [6] ?_ ?_ ?_ rfl ?_ ?_ ?_ ?_ | refine WkL.pickAt [_] [7] ?_ ?_ ?_ rfl ?_ ?_ ?_ ?_ | refine WkL.pickAt [_] [8] ?_ ?_ ?_ rfl ?_ ?_ ?_ ?_ | refine WkL.pickAt [_] [9] ?_ ?_ ?_ rfl ?_ ?_ ?_ ?_ | refine WkL.pickAt [_] [10] ?_ ?_ ?_ rfl ?_ ?_ ?_ ?_ | refine WkL.pickAt [_] [11] ?_ ?_ ?_ rfl ?_ ?_ ?_ ?_ | refine WkL.pickAt [_] [12] ?_ ?_ ?_ rfl ?_ ?_ ?_ ?_ | refine WkL.pickAt [_] [13] ?_ ?_ ?_ rfl ?_ ?_ ?_ ?_ | refine WkL.pickAt [_] [14] ?_ ?_ ?_ rfl ?_ ?_ ?_ ?_ | refine WkL.pickAt [_] [15] ?_ ?_ ?_ rfl ?_ ?_ ?_ ?_ | refine WkL.pickAt [_] [16] ?_ ?_ ?_ rfl ?_ ?_ ?_ ?_ | refine WkL.pickAt [_] [17] ?_ ?_ ?_ rfl ?_ ?_ ?_ ?_) <;> first | assumption | exact HOk.str (by assumption) | (simp; done) | (simp; omega) | (simp [pureO_gr, AObj.pureO, pureL, go_sem, AC.pure]; done) | (simp only [List.all_cons, List.all_nil, Bool.and_true]; exact pureO_gr (pureL_map _ (fun x => by simp [go_sem, AC.pure]))) | ((try simp only [List.map_cons, List.map_nil, av_ren_gr]); simp [AV.ren, AV.ren1, AC.ren, renP, pickS]; first | done | omega) | (simp only [List.forall_mem_cons, List.not_mem_nil, false_implies, implies_true, and_true]; (repeat' apply And.intro) <;> first | trivial | exact grV_ok (by simp) _ | exact okN_grO (fun x => by simp [go_sem, AC.pure]) | exact okN_map (fun x => by simp [go_sem, AC.pure]) | (simp [AV.ok, AV.ok1, AC.ok]; done) | (simp [AV.ok, AV.ok1, AC.ok]; omega) | (simp [AObj.okN, AC.ok]; done)) | (simp [AObj.okN]; done))
      | false =>
        rw [hd, if_neg (by simp)] at hnx
        simp (disch := first | omega | (simp only [go_sem]; first | done | omega)) only [go_sem]
        (refine app_gr (enc := encAr) (e := 37) (sz := 7) (bs := 72) (z := [.str ⟨#[]⟩, .int .i64 0, .int .i64 0, .str ⟨#[]⟩, .int .i64 0, .int .i64 0, .int .i64 0]) (L) (x) (by kernel_rfl) (by kernel_rfl) (by kernel_rfl) (by kernel_rfl) (by first | exact at0 (by simp) | exact at1 (by simp) | exact at2 (by simp) | exact at3 (by simp) | exact at4 (by simp) | exact at5 (by simp) | exact atG 6 (by simp) rfl | exact atG 7 (by simp) rfl | exact atG 8 (by simp) rfl | exact atG 9 (by simp) rfl | exact atG 10 (by simp) rfl | exact atG 11 (by simp) rfl | exact atG 12 (by simp) rfl | exact atG 13 (by simp) rfl | exact atG 14 (by simp) rfl | exact atG 15 (by simp) rfl | assumption) (by first | (simp (disch := first | omega | (simp only [go_sem]; first | done | omega)) only [go_sem]; done) | (simp (disch := first | omega | (simp only [go_sem]; first | done | omega)) only [go_sem]; rfl) | (simp (disch := first | omega | (simp only [go_sem]; first | done | omega)) only [go_sem]; simp [go_sem]; done) | (simp (disch := first | omega | (simp only [go_sem]; first | done | omega)) only [go_sem]; simp [*]; done)) rfl (by decide) (by omega) (by omega) (by rfl) ?_)
        simp (disch := first | omega | (simp only [go_sem]; first | done | omega)) only [go_sem]
        refine Next.mk (k + 1) ⟨by omega, by omega⟩ ?_
        rw [hnx]
        ((try simp (disch := first | omega | (simp only [go_sem]; first | done | omega)) only [go_sem]); (first | refine WkL.pickAt [_] [0] ?_ ?_ ?_ rfl ?_ ?_ ?_ ?_ | refine WkL.pickAt [_] [1] ?_ ?_ ?_ rfl ?_ ?_ ?_ ?_ | refine WkL.pickAt [_] [2] ?_ ?_ ?_ rfl ?_ ?_ ?_ ?_ | refine WkL.pickAt [_] [3] ?_ ?_ ?_ rfl ?_ ?_ ?_ ?_ | refine WkL.pickAt [_] [4] ?_ ?_ ?_ rfl ?_ ?_ ?_ ?_ | refine WkL.pickAt [_] [5] ?_ ?_ ?_ rfl ?_ ?_ ?_ ?_ | refine WkL.pickAt [_] [6] ?_ ?_ ?_ rfl ?_ ?_ ?_ ?_ | refine WkL.pickAt [_] [7] ?_ ?_ ?_ rfl ?_ ?_ ?_ ?_ | refine WkL.pickAt [_] [8] ?_ ?_ ?_ rfl ?_ ?_ ?_ ?_ | refine WkL.pickAt [_] [9] ?_ ?_ ?_ rfl ?_ ?_ ?_ ?_ | refine WkL.pickAt [_] [10] ?_ ?_ ?_ rfl ?_ ?_ ?_ ?_ | refine WkL.pickAt [_] [11] ?_ ?_ ?_ rfl ?_ ?_ ?_ ?_ | refine WkL.pickAt [_] [12] ?_ ?_ ?_ rfl ?_ ?_ ?_ ?_ | refine WkL.pickAt [_] [13] ?_ ?_ ?_ rfl ?_ ?_ ?_ ?_ | refine WkL.pickAt [_] [14] ?_ ?_ ?_ rfl ?_ ?_ ?_ ?_ | refine WkL.pickAt [_] [15] ?_ ?_ ?_ rfl ?_ ?_ ?_ ?_ | refine WkL.pickAt [_] [16] ?_ ?_ ?_ rfl ?_ ?_ ?_ ?_ | refine WkL.pickAt [_] [17] ?_ ?_ ?_ rfl ?_ ?_ ?_ ?_) <;> first | assumption | exact HOk.str (by assumption) | (simp; done) | (simp; omega) | (simp [pureO_gr, AObj.pureO, pureL, go_sem, AC.pure]; done) | (simp only [List.all_cons, List.all_nil, Bool.and_true]; exact pureO_gr (pureL_map _ (fun x => by simp [go_sem, AC.pure]))) | ((try simp only [List.map_cons, List.map_nil, av_ren_gr]); simp [AV.ren, AV.ren1, AC.ren, renP, pickS]; first | done | omega) | (simp only [List.forall_mem_cons, List.not_mem_nil, false_implies, implies_true, and_true]; (repeat' apply And.intro) <;> first | trivial | exact grV_ok (by simp) _ | exact okN_grO (fun x => by simp [go_sem, AC.pure]) | exact okN_map (fun x => by simp [go_sem, AC.pure]) | (simp [AV.ok, AV.ok1, AC.ok]; done) | (simp [AV.ok, AV.ok1, AC.ok]; omega) | (simp [AObj.okN, AC.ok]; done)) | (simp [AObj.okN]; done))
    · have hkl : k = a.length := by omega
      subst hkl
      simp (disch := first | omega | (simp only [go_sem]; first | done | omega)) only [go_sem]
      refine Next.mk () trivial ?_
      have e1 : H ++ [strO zs j1, grO 37 7 ((lfF a a.length).map encAr)] = (H ++ [strO zs j1]) ++ [grO 37 7 ((lfF a a.length).map encAr)] := by simp
      have e2 := WkL.frzGr1 (A := H ++ [strO zs j1]) (n := H.length + 1) (ty := 37) (sz := 7) (l := (lfF a a.length).map encAr) (HOk.app hH (okN_pure (by simp [pureL, AC.pure]) (by simp) _)) (by simp) (pureL_map _ (fun x => by simp [go_sem, AC.pure]))
      rw [map_grV, List.length_append, List.length_singleton] at e2
      rw [e1]
      exact e2
  refine SWp.of (by kernel_rfl) ?_
  simp (disch := first | omega | (simp only [go_sem]; first | done | omega)) only [go_sem]
  refine parts_a H.length zs j1 a (st _ _ (by omega) (by omega)) (by omega) g3 (fun p q j2 p0 p1 p2 p3 p4 => ?_)
  have hp : ∀ x ∈ p, x.nd.size ≤ 1099511627776 ∧ x.p.tag.size ≤ 1099511627776 := fun x hx => ha x (p2.subset hx)
  have hq : ∀ x ∈ q, x.nd.size ≤ 1099511627776 ∧ x.p.tag.size ≤ 1099511627776 := fun x hx => ha x (p3.subset hx)
  have hpl := p2.length_le
  have hql := p3.length_le
  simp (disch := first | omega | (simp only [go_sem]; first | done | omega)) only [go_sem]
  refine mergeA_a p q (by omega) hp hq ?_
  rw [mg_is g5 p2 p3 p4]
  simp (disch := first | omega | (simp only [go_sem]; first | done | omega)) only [go_sem]
  refine mergeA_a q p (by omega) hq hp ?_
  rw [mg_is g5 p3 p2 (fun x hx => (p4 x hx).symm)]
  simp (disch := first | omega | (simp only [go_sem]; first | done | omega)) only [go_sem]
  refine clocks_a H.length zs j2 (st _ _ (by omega) (by omega)) (by omega) (fun cs j3 g9 g10 g11 g12 => ?_)
  simp (disch := first | omega | (simp only [go_sem]; first | done | omega)) only [go_sem]
  refine clocksFaultR_a cs (by omega) g12 ?_
  by_cases h1 : nkF cs = 0
  · simp (disch := first | omega | (simp only [go_sem]; first | done | omega)) only [go_sem, h1]
    refine stored_a a cs ⟨#[116, 97]⟩ (by decide) ha (by omega) (by first | omega | simp) (by first | exact g12 | simp) ?_
    rw [stT_ok a cs ⟨#[116, 97]⟩ g5 h1 keyTa]
    simp (disch := first | omega | (simp only [go_sem]; first | done | omega)) only [go_sem]
    refine stored_a (lfF a a.length) cs ⟨#[116, 97]⟩ (by decide) hL (by omega) (by first | omega | simp) (by first | exact g12 | simp) ?_
    rw [stT_ok (lfF a a.length) cs ⟨#[116, 97]⟩ hLF h1 keyTa, stored_same]
    have hser := stored_ser (cs := cs) ⟨#[116, 97]⟩ g5
    have hSl : (stR a cs ⟨#[116, 97]⟩).1.length ≤ 12 := by
      have h1 := stP_len a cs ⟨#[116, 97]⟩ a.length
      unfold stR
      rw [isortG_len]
      omega
    generalize (stR a cs ⟨#[116, 97]⟩).1 = S at *
    generalize (stR a cs ⟨#[116, 97]⟩).2 = S2 at *
    generalize (stR (lfF a a.length) cs ⟨#[116, 97]⟩).2 = S3 at *
    simp (disch := first | omega | (simp only [go_sem]; first | done | omega)) only [go_sem]
    refine missing_a a ⟨#[110, 97]⟩ (by decide) ha (by omega) hmo ?_
    rw [hn1, if_pos rfl]
    simp (disch := first | omega | (simp only [go_sem]; first | done | omega)) only [go_sem]
    refine missing_a (lfF a a.length) ⟨#[110, 97]⟩ (by decide) hL (by omega) hmoL ?_
    rw [hn2, if_pos rfl, missing_same g5]
    generalize rowsF (srtI (miF a ⟨#[110, 97]⟩)) = R at *
    simp (disch := first | omega | (simp only [go_sem]; first | done | omega)) only [go_sem]
    refine errsK_lit [0, 0, 0, 0, 0, 0, 0] (by first | exact at0 (by simp) | exact at1 (by simp) | exact at2 (by simp) | exact at3 (by simp) | exact at4 (by simp) | exact at5 (by simp) | exact atG 6 (by simp) rfl | exact atG 7 (by simp) rfl | exact atG 8 (by simp) rfl | exact atG 9 (by simp) rfl | exact atG 10 (by simp) rfl | exact atG 11 (by simp) rfl | exact atG 12 (by simp) rfl | exact atG 13 (by simp) rfl | exact atG 14 (by simp) rfl | exact atG 15 (by simp) rfl | assumption) rfl rfl (by simp) ?_
    rw [show firstE ([0, 0, 0, 0, 0, 0, 0] : List Int) = 0 from rfl]
    simp (disch := first | omega | (simp only [go_sem]; first | done | omega)) only [go_sem]
    refine equalAq_a a a (by omega) (by omega) ?_
    rw [decide_eq_true (rfl : a = a)]
    simp (disch := first | omega | (simp only [go_sem]; first | done | omega)) only [go_sem]
    refine equalAq_a a a (by omega) (by omega) ?_
    rw [decide_eq_true (rfl : a = a)]
    simp (disch := first | omega | (simp only [go_sem]; first | done | omega)) only [go_sem]
    refine equalSq_a S S (by omega) (by omega) ?_
    rw [decide_eq_true (rfl : S = S)]
    simp (disch := first | omega | (simp only [go_sem]; first | done | omega)) only [go_sem]
    refine equalRq_a R R (by omega) (by omega) ?_
    rw [decide_eq_true (rfl : R = R)]
    simp (disch := first | omega | (simp only [go_sem]; first | done | omega)) only [go_sem]
    refine checkSeries_a S (by omega) ?_
    rw [hser]
    simp (disch := first | omega | (simp only [go_sem]; first | done | omega)) only [go_sem]
    refine ready_a ?_
    simp (disch := first | omega | (simp only [go_sem]; first | done | omega)) only [go_sem]
    exact Ret.drop hH (Nat.le_refl _) trivial hk
  · simp (disch := first | omega | (simp only [go_sem]; first | done | omega)) only [go_sem, h1]
    refine ACalls.nilz [0, 2] (by simp) (stored_a a [] ⟨#[116, 97]⟩ (by decide) ha (by omega) (by first | omega | simp) (by first | exact g12 | simp) ?_)
    rw [stT_ok a [] ⟨#[116, 97]⟩ g5 rfl keyTa]
    simp (disch := first | omega | (simp only [go_sem]; first | done | omega)) only [go_sem]
    refine ACalls.nilz [0, 2] (by simp) (stored_a (lfF a a.length) [] ⟨#[116, 97]⟩ (by decide) hL (by omega) (by first | omega | simp) (by first | exact g12 | simp) ?_)
    rw [stT_ok (lfF a a.length) [] ⟨#[116, 97]⟩ hLF rfl keyTa, stored_same]
    have hser := stored_ser (cs := []) ⟨#[116, 97]⟩ g5
    have hSl : (stR a [] ⟨#[116, 97]⟩).1.length ≤ 12 := by
      have h1 := stP_len a [] ⟨#[116, 97]⟩ a.length
      unfold stR
      rw [isortG_len]
      omega
    generalize (stR a [] ⟨#[116, 97]⟩).1 = S at *
    generalize (stR a [] ⟨#[116, 97]⟩).2 = S2 at *
    generalize (stR (lfF a a.length) [] ⟨#[116, 97]⟩).2 = S3 at *
    simp (disch := first | omega | (simp only [go_sem]; first | done | omega)) only [go_sem]
    refine missing_a a ⟨#[110, 97]⟩ (by decide) ha (by omega) hmo ?_
    rw [hn1, if_pos rfl]
    simp (disch := first | omega | (simp only [go_sem]; first | done | omega)) only [go_sem]
    refine missing_a (lfF a a.length) ⟨#[110, 97]⟩ (by decide) hL (by omega) hmoL ?_
    rw [hn2, if_pos rfl, missing_same g5]
    generalize rowsF (srtI (miF a ⟨#[110, 97]⟩)) = R at *
    simp (disch := first | omega | (simp only [go_sem]; first | done | omega)) only [go_sem]
    refine errsK_lit [0, 0, 0, 0, 0, 0, 0] (by first | exact at0 (by simp) | exact at1 (by simp) | exact at2 (by simp) | exact at3 (by simp) | exact at4 (by simp) | exact at5 (by simp) | exact atG 6 (by simp) rfl | exact atG 7 (by simp) rfl | exact atG 8 (by simp) rfl | exact atG 9 (by simp) rfl | exact atG 10 (by simp) rfl | exact atG 11 (by simp) rfl | exact atG 12 (by simp) rfl | exact atG 13 (by simp) rfl | exact atG 14 (by simp) rfl | exact atG 15 (by simp) rfl | assumption) rfl rfl (by simp) ?_
    rw [show firstE ([0, 0, 0, 0, 0, 0, 0] : List Int) = 0 from rfl]
    simp (disch := first | omega | (simp only [go_sem]; first | done | omega)) only [go_sem]
    refine equalAq_a a a (by omega) (by omega) ?_
    rw [decide_eq_true (rfl : a = a)]
    simp (disch := first | omega | (simp only [go_sem]; first | done | omega)) only [go_sem]
    refine equalAq_a a a (by omega) (by omega) ?_
    rw [decide_eq_true (rfl : a = a)]
    simp (disch := first | omega | (simp only [go_sem]; first | done | omega)) only [go_sem]
    refine equalSq_a S S (by omega) (by omega) ?_
    rw [decide_eq_true (rfl : S = S)]
    simp (disch := first | omega | (simp only [go_sem]; first | done | omega)) only [go_sem]
    refine equalRq_a R R (by omega) (by omega) ?_
    rw [decide_eq_true (rfl : R = R)]
    simp (disch := first | omega | (simp only [go_sem]; first | done | omega)) only [go_sem]
    refine checkSeries_a S (by omega) ?_
    rw [hser]
    simp (disch := first | omega | (simp only [go_sem]; first | done | omega)) only [go_sem]
    refine ready_a ?_
    simp (disch := first | omega | (simp only [go_sem]; first | done | omega)) only [go_sem]
    exact Ret.drop hH (Nat.le_refl _) trivial hk
end Go.Proofs.YtppmkgaobeccfaaGreatDoor
