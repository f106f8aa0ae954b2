/- FixesApplied: what the law's function answers for all numbers it is given. No condition. -/
import Derived.Test.YtgcjenfdndhhpaaGreatHVFixN
import Derived.Test.YtgcjenfdndhhpaaGreatHVFixT
import Derived.Test.YtgcjenfdndhhpaaGreatHVFixW
import Derived.Test.YtgcjenfdndhhpaaGreatHVGC
import Derived.Test.YtgcjenfdndhhpaaGreatHVMoment
import Derived.Test.YtgcjenfdndhhpaaGreatHVGE
namespace Go.Proofs.YtgcjenfdndhhpaaGreat
open Go Go.RowKit
set_option maxRecDepth 100000
set_option linter.all false
set_option maxHeartbeats 2000000
variable {H : Hp} {K : AV → Hp → Prop}
theorem equalIq_a (l m : List Int) (hl : l.length ≤ 1099511627776) (hm : m.length ≤ 1099511627776) (hk : K (.c (.bool (decide (l = m)))) H) : ACalls Tryz.prog 58 [.c (.lst 1 (l.map encI)), .c (.lst 1 (m.map encI))] H K := by
  by_cases hlen : l.length = m.length
  · refine acalls Tryz.func58 rfl (by kernel_rfl) (by simp (disch := first | omega | (simp only [go_sem]; first | done | omega)) only [go_sem]) (fun hH => ?_)
    simp (disch := first | omega | (simp only [go_sem]; first | done | omega)) only [go_sem]
    refine AWp.loop (H.length) [0, 1, 12] [13] (fun (k : Nat) => k ≤ l.length ∧ ∀ (j : Nat) (x y : Int), j < k → l[j]? = some x → m[j]? = some y → x = y) (fun (k : Nat) => [(13, (.c (.int .i64 k)))]) (fun (k : Nat) => H) (fun (k : Nat) => l.length - k) (by kernel_rfl) (fun _ => rfl) (by kernel_rfl) (by first | (simp; done) | omega) (by first | (simp; done) | (simp; omega) | omega) (by (try simp only [List.forall_mem_cons, List.not_mem_nil, false_implies, implies_true, and_true]); (try simp (disch := first | omega | (simp only [go_sem]; first | done | omega)) only [go_sem]); all_goals first | trivial | (simp [AV.ok, AV.ok1, AC.ok]; done) | (simp [AV.ok, AV.ok1, AC.ok]; omega) | (simp [AV.ok, AV.ok1, AC.ok]; assumption) | ((repeat' apply And.intro) <;> first | trivial | (simp [AV.ok, AV.ok1, AC.ok]; done) | (simp [AV.ok, AV.ok1, AC.ok]; omega) | (simp [AV.ok, AV.ok1, AC.ok]; assumption) | (refine grV_ok ?_ _; first | (simp; done) | (simp; omega) | omega))) ?_ (fun k hk1 _ _ => ?_)
    · exact Next.mk 0 (by simp) (by (try simp (disch := first | omega | (simp only [go_sem]; first | done | omega)) only [go_sem]); (first | refine WkL.eq ?_ ?_ | refine WkL.rest (by assumption) ?_ ?_ ?_ | refine WkL.keepL (by assumption) rfl ?_ ?_ ?_ ?_) <;> first | rfl | (simp; done) | (simp; omega) | (simp only [List.cons.injEq, AV.c.injEq, AC.int.injEq, AC.bool.injEq, AC.str.injEq, and_true, true_and, Int.natCast_add, Int.natCast_one, Int.cast_ofNat_Int]; omega) | (simp [AV.ok, AV.ok1, AC.ok]; done) | (simp [AV.ok, AV.ok1, AC.ok]; omega) | (simp only [List.forall_mem_cons, List.not_mem_nil, false_implies, implies_true, and_true]; (repeat' apply And.intro) <;> first | exact okN_map (fun x => by simp [go_sem, AC.pure]) | exact okN_grO (fun x => by simp [go_sem, AC.pure]) | (simp [AObj.okN, AC.ok]; done) | (simp [AObj.okN, AC.ok]; omega)) | (simp [*]; done) | grind)
    obtain ⟨hk1, hk2⟩ := hk1
    by_cases hlt : k < l.length
    · simp (disch := first | omega | (simp only [go_sem]; first | done | omega)) only [go_sem]
      refine w_draw (by kernel_rfl) (by decide +kernel) ?_
      simp (disch := first | omega | (simp only [go_sem]; first | done | omega)) only [go_sem]
      refine acond_b (fun c => ?_) (fun c => ?_)
      · simp (disch := first | omega | (simp only [go_sem]; first | done | omega)) only [go_sem]
        exact Next.mk (k + 1) ⟨⟨by omega, fun j x y hj hx hy => by
          rcases Nat.lt_or_ge j k with h | h
          · exact hk2 j x y h hx hy
          · obtain rfl : j = k := by omega
            rw [List.getElem?_eq_getElem hlt] at hx
            rw [List.getElem?_eq_getElem (by omega)] at hy
            injection hx with hx; injection hy with hy; rw [← hx, ← hy]; revert c; generalize l[j] = u; generalize m[j] = v; first | (simp; done) | (cases u; cases v; simp)⟩, by omega⟩ (by (try simp (disch := first | omega | (simp only [go_sem]; first | done | omega)) only [go_sem]); (first | refine WkL.eq ?_ ?_ | refine WkL.rest (by assumption) ?_ ?_ ?_ | refine WkL.keepL (by assumption) rfl ?_ ?_ ?_ ?_) <;> first | rfl | (simp; done) | (simp; omega) | (simp only [List.cons.injEq, AV.c.injEq, AC.int.injEq, AC.bool.injEq, AC.str.injEq, and_true, true_and, Int.natCast_add, Int.natCast_one, Int.cast_ofNat_Int]; omega) | (simp [AV.ok, AV.ok1, AC.ok]; done) | (simp [AV.ok, AV.ok1, AC.ok]; omega) | (simp only [List.forall_mem_cons, List.not_mem_nil, false_implies, implies_true, and_true]; (repeat' apply And.intro) <;> first | exact okN_map (fun x => by simp [go_sem, AC.pure]) | exact okN_grO (fun x => by simp [go_sem, AC.pure]) | (simp [AObj.okN, AC.ok]; done) | (simp [AObj.okN, AC.ok]; omega)) | (simp [*]; done) | grind)
      · simp (disch := first | omega | (simp only [go_sem]; first | done | omega)) only [go_sem]
        have : l ≠ m := by rintro rfl; simp at c
        (first | refine Ret.sameE (Nat.le_refl _) (by assumption) ?_ | refine Ret.dropE (by assumption) (Nat.le_refl _) (by assumption) (by simp [AV.ok, AV.ok1, AC.ok]) ?_) <;> simp [this]
    · simp (disch := first | omega | (simp only [go_sem]; first | done | omega)) only [go_sem]
      have : l = m := by
        apply List.ext_getElem hlen
        intro j h1 h2
        exact hk2 j _ _ (by omega) (List.getElem?_eq_getElem h1) (List.getElem?_eq_getElem h2)
      (first | refine Ret.sameE (Nat.le_refl _) (by assumption) ?_ | refine Ret.dropE (by assumption) (Nat.le_refl _) (by assumption) (by simp [AV.ok, AV.ok1, AC.ok]) ?_) <;> simp [this]
  · have : l ≠ m := by rintro rfl; exact hlen rfl
    refine acalls Tryz.func58 rfl (by kernel_rfl) (by simp (disch := first | omega | (simp only [go_sem]; first | done | omega)) only [go_sem]) (fun hH => ?_)
    simp (disch := first | omega | (simp only [go_sem]; first | done | omega)) only [go_sem]
    (first | refine Ret.sameE (Nat.le_refl _) (by assumption) ?_ | refine Ret.dropE (by assumption) (Nat.le_refl _) (by assumption) (by simp [AV.ok, AV.ok1, AC.ok]) ?_) <;> simp [this]
theorem equalSq_a (l m : List Smp) (hl : l.length ≤ 1099511627776) (hm : m.length ≤ 1099511627776) (hk : K (.c (.bool (decide (l = m)))) H) : ACalls Tryz.prog 38 [.c (.lst 3 (l.map encS)), .c (.lst 3 (m.map encS))] H K := by
  by_cases hlen : l.length = m.length
  · refine acalls Tryz.func38 rfl (by kernel_rfl) (by simp (disch := first | omega | (simp only [go_sem]; first | done | omega)) only [go_sem]) (fun hH => ?_)
    simp (disch := first | omega | (simp only [go_sem]; first | done | omega)) only [go_sem]
    refine AWp.loop (H.length) [0, 1, 12] [13] (fun (k : Nat) => k ≤ l.length ∧ ∀ (j : Nat) (x y : Smp), j < k → l[j]? = some x → m[j]? = some y → x = y) (fun (k : Nat) => [(13, (.c (.int .i64 k)))]) (fun (k : Nat) => H) (fun (k : Nat) => l.length - k) (by kernel_rfl) (fun _ => rfl) (by kernel_rfl) (by first | (simp; done) | omega) (by first | (simp; done) | (simp; omega) | omega) (by (try simp only [List.forall_mem_cons, List.not_mem_nil, false_implies, implies_true, and_true]); (try simp (disch := first | omega | (simp only [go_sem]; first | done | omega)) only [go_sem]); all_goals first | trivial | (simp [AV.ok, AV.ok1, AC.ok]; done) | (simp [AV.ok, AV.ok1, AC.ok]; omega) | (simp [AV.ok, AV.ok1, AC.ok]; assumption) | ((repeat' apply And.intro) <;> first | trivial | (simp [AV.ok, AV.ok1, AC.ok]; done) | (simp [AV.ok, AV.ok1, AC.ok]; omega) | (simp [AV.ok, AV.ok1, AC.ok]; assumption) | (refine grV_ok ?_ _; first | (simp; done) | (simp; omega) | omega))) ?_ (fun k hk1 _ _ => ?_)
    · exact Next.mk 0 (by simp) (by (try simp (disch := first | omega | (simp only [go_sem]; first | done | omega)) only [go_sem]); (first | refine WkL.eq ?_ ?_ | refine WkL.rest (by assumption) ?_ ?_ ?_ | refine WkL.keepL (by assumption) rfl ?_ ?_ ?_ ?_) <;> first | rfl | (simp; done) | (simp; omega) | (simp only [List.cons.injEq, AV.c.injEq, AC.int.injEq, AC.bool.injEq, AC.str.injEq, and_true, true_and, Int.natCast_add, Int.natCast_one, Int.cast_ofNat_Int]; omega) | (simp [AV.ok, AV.ok1, AC.ok]; done) | (simp [AV.ok, AV.ok1, AC.ok]; omega) | (simp only [List.forall_mem_cons, List.not_mem_nil, false_implies, implies_true, and_true]; (repeat' apply And.intro) <;> first | exact okN_map (fun x => by simp [go_sem, AC.pure]) | exact okN_grO (fun x => by simp [go_sem, AC.pure]) | (simp [AObj.okN, AC.ok]; done) | (simp [AObj.okN, AC.ok]; omega)) | (simp [*]; done) | grind)
    obtain ⟨hk1, hk2⟩ := hk1
    by_cases hlt : k < l.length
    · simp (disch := first | omega | (simp only [go_sem]; first | done | omega)) only [go_sem]
      refine w_draw (by kernel_rfl) (by decide +kernel) ?_
      simp (disch := first | omega | (simp only [go_sem]; first | done | omega)) only [go_sem]
      refine acond_b (fun c => ?_) (fun c => ?_)
      · simp (disch := first | omega | (simp only [go_sem]; first | done | omega)) only [go_sem]
        exact Next.mk (k + 1) ⟨⟨by omega, fun j x y hj hx hy => by
          rcases Nat.lt_or_ge j k with h | h
          · exact hk2 j x y h hx hy
          · obtain rfl : j = k := by omega
            rw [List.getElem?_eq_getElem hlt] at hx
            rw [List.getElem?_eq_getElem (by omega)] at hy
            injection hx with hx; injection hy with hy; rw [← hx, ← hy]; revert c; generalize l[j] = u; generalize m[j] = v; first | (simp; done) | (cases u; cases v; simp)⟩, by omega⟩ (by (try simp (disch := first | omega | (simp only [go_sem]; first | done | omega)) only [go_sem]); (first | refine WkL.eq ?_ ?_ | refine WkL.rest (by assumption) ?_ ?_ ?_ | refine WkL.keepL (by assumption) rfl ?_ ?_ ?_ ?_) <;> first | rfl | (simp; done) | (simp; omega) | (simp only [List.cons.injEq, AV.c.injEq, AC.int.injEq, AC.bool.injEq, AC.str.injEq, and_true, true_and, Int.natCast_add, Int.natCast_one, Int.cast_ofNat_Int]; omega) | (simp [AV.ok, AV.ok1, AC.ok]; done) | (simp [AV.ok, AV.ok1, AC.ok]; omega) | (simp only [List.forall_mem_cons, List.not_mem_nil, false_implies, implies_true, and_true]; (repeat' apply And.intro) <;> first | exact okN_map (fun x => by simp [go_sem, AC.pure]) | exact okN_grO (fun x => by simp [go_sem, AC.pure]) | (simp [AObj.okN, AC.ok]; done) | (simp [AObj.okN, AC.ok]; omega)) | (simp [*]; done) | grind)
      · simp (disch := first | omega | (simp only [go_sem]; first | done | omega)) only [go_sem]
        have : l ≠ m := by rintro rfl; simp at c
        (first | refine Ret.sameE (Nat.le_refl _) (by assumption) ?_ | refine Ret.dropE (by assumption) (Nat.le_refl _) (by assumption) (by simp [AV.ok, AV.ok1, AC.ok]) ?_) <;> simp [this]
    · simp (disch := first | omega | (simp only [go_sem]; first | done | omega)) only [go_sem]
      have : l = m := by
        apply List.ext_getElem hlen
        intro j h1 h2
        exact hk2 j _ _ (by omega) (List.getElem?_eq_getElem h1) (List.getElem?_eq_getElem h2)
      (first | refine Ret.sameE (Nat.le_refl _) (by assumption) ?_ | refine Ret.dropE (by assumption) (Nat.le_refl _) (by assumption) (by simp [AV.ok, AV.ok1, AC.ok]) ?_) <;> simp [this]
  · have : l ≠ m := by rintro rfl; exact hlen rfl
    refine acalls Tryz.func38 rfl (by kernel_rfl) (by simp (disch := first | omega | (simp only [go_sem]; first | done | omega)) only [go_sem]) (fun hH => ?_)
    simp (disch := first | omega | (simp only [go_sem]; first | done | omega)) only [go_sem]
    (first | refine Ret.sameE (Nat.le_refl _) (by assumption) ?_ | refine Ret.dropE (by assumption) (Nat.le_refl _) (by assumption) (by simp [AV.ok, AV.ok1, AC.ok]) ?_) <;> simp [this]
theorem equalFq_a (l m : List Fix) (hl : l.length ≤ 1099511627776) (hm : m.length ≤ 1099511627776) (hk : K (.c (.bool (decide (l = m)))) H) : ACalls Tryz.prog 57 [.c (.lst 11 (l.map encF)), .c (.lst 11 (m.map encF))] H K := by
  by_cases hlen : l.length = m.length
  · refine acalls Tryz.func57 rfl (by kernel_rfl) (by simp (disch := first | omega | (simp only [go_sem]; first | done | omega)) only [go_sem]) (fun hH => ?_)
    simp (disch := first | omega | (simp only [go_sem]; first | done | omega)) only [go_sem]
    refine AWp.loop (H.length) [0, 1, 12] [13] (fun (k : Nat) => k ≤ l.length ∧ ∀ (j : Nat) (x y : Fix), j < k → l[j]? = some x → m[j]? = some y → x = y) (fun (k : Nat) => [(13, (.c (.int .i64 k)))]) (fun (k : Nat) => H) (fun (k : Nat) => l.length - k) (by kernel_rfl) (fun _ => rfl) (by kernel_rfl) (by first | (simp; done) | omega) (by first | (simp; done) | (simp; omega) | omega) (by (try simp only [List.forall_mem_cons, List.not_mem_nil, false_implies, implies_true, and_true]); (try simp (disch := first | omega | (simp only [go_sem]; first | done | omega)) only [go_sem]); all_goals first | trivial | (simp [AV.ok, AV.ok1, AC.ok]; done) | (simp [AV.ok, AV.ok1, AC.ok]; omega) | (simp [AV.ok, AV.ok1, AC.ok]; assumption) | ((repeat' apply And.intro) <;> first | trivial | (simp [AV.ok, AV.ok1, AC.ok]; done) | (simp [AV.ok, AV.ok1, AC.ok]; omega) | (simp [AV.ok, AV.ok1, AC.ok]; assumption) | (refine grV_ok ?_ _; first | (simp; done) | (simp; omega) | omega))) ?_ (fun k hk1 _ _ => ?_)
    · exact Next.mk 0 (by simp) (by (try simp (disch := first | omega | (simp only [go_sem]; first | done | omega)) only [go_sem]); (first | refine WkL.eq ?_ ?_ | refine WkL.rest (by assumption) ?_ ?_ ?_ | refine WkL.keepL (by assumption) rfl ?_ ?_ ?_ ?_) <;> first | rfl | (simp; done) | (simp; omega) | (simp only [List.cons.injEq, AV.c.injEq, AC.int.injEq, AC.bool.injEq, AC.str.injEq, and_true, true_and, Int.natCast_add, Int.natCast_one, Int.cast_ofNat_Int]; omega) | (simp [AV.ok, AV.ok1, AC.ok]; done) | (simp [AV.ok, AV.ok1, AC.ok]; omega) | (simp only [List.forall_mem_cons, List.not_mem_nil, false_implies, implies_true, and_true]; (repeat' apply And.intro) <;> first | exact okN_map (fun x => by simp [go_sem, AC.pure]) | exact okN_grO (fun x => by simp [go_sem, AC.pure]) | (simp [AObj.okN, AC.ok]; done) | (simp [AObj.okN, AC.ok]; omega)) | (simp [*]; done) | grind)
    obtain ⟨hk1, hk2⟩ := hk1
    by_cases hlt : k < l.length
    · simp (disch := first | omega | (simp only [go_sem]; first | done | omega)) only [go_sem]
      refine w_draw (by kernel_rfl) (by decide +kernel) ?_
      simp (disch := first | omega | (simp only [go_sem]; first | done | omega)) only [go_sem, fix_eqs]
      refine acond_b (fun c => ?_) (fun c => ?_)
      · simp (disch := first | omega | (simp only [go_sem]; first | done | omega)) only [go_sem]
        exact Next.mk (k + 1) ⟨⟨by omega, fun j x y hj hx hy => by
          rcases Nat.lt_or_ge j k with h | h
          · exact hk2 j x y h hx hy
          · obtain rfl : j = k := by omega
            rw [List.getElem?_eq_getElem hlt] at hx
            rw [List.getElem?_eq_getElem (by omega)] at hy
            injection hx with hx; injection hy with hy; rw [← hx, ← hy]; exact of_decide_eq_true c⟩, by omega⟩ (by (try simp (disch := first | omega | (simp only [go_sem]; first | done | omega)) only [go_sem]); (first | refine WkL.eq ?_ ?_ | refine WkL.rest (by assumption) ?_ ?_ ?_ | refine WkL.keepL (by assumption) rfl ?_ ?_ ?_ ?_) <;> first | rfl | (simp; done) | (simp; omega) | (simp only [List.cons.injEq, AV.c.injEq, AC.int.injEq, AC.bool.injEq, AC.str.injEq, and_true, true_and, Int.natCast_add, Int.natCast_one, Int.cast_ofNat_Int]; omega) | (simp [AV.ok, AV.ok1, AC.ok]; done) | (simp [AV.ok, AV.ok1, AC.ok]; omega) | (simp only [List.forall_mem_cons, List.not_mem_nil, false_implies, implies_true, and_true]; (repeat' apply And.intro) <;> first | exact okN_map (fun x => by simp [go_sem, AC.pure]) | exact okN_grO (fun x => by simp [go_sem, AC.pure]) | (simp [AObj.okN, AC.ok]; done) | (simp [AObj.okN, AC.ok]; omega)) | (simp [*]; done) | grind)
      · simp (disch := first | omega | (simp only [go_sem]; first | done | omega)) only [go_sem]
        have : l ≠ m := by rintro rfl; simp at c
        (first | refine Ret.sameE (Nat.le_refl _) (by assumption) ?_ | refine Ret.dropE (by assumption) (Nat.le_refl _) (by assumption) (by simp [AV.ok, AV.ok1, AC.ok]) ?_) <;> simp [this]
    · simp (disch := first | omega | (simp only [go_sem]; first | done | omega)) only [go_sem]
      have : l = m := by
        apply List.ext_getElem hlen
        intro j h1 h2
        exact hk2 j _ _ (by omega) (List.getElem?_eq_getElem h1) (List.getElem?_eq_getElem h2)
      (first | refine Ret.sameE (Nat.le_refl _) (by assumption) ?_ | refine Ret.dropE (by assumption) (Nat.le_refl _) (by assumption) (by simp [AV.ok, AV.ok1, AC.ok]) ?_) <;> simp [this]
  · have : l ≠ m := by rintro rfl; exact hlen rfl
    refine acalls Tryz.func57 rfl (by kernel_rfl) (by simp (disch := first | omega | (simp only [go_sem]; first | done | omega)) only [go_sem]) (fun hH => ?_)
    simp (disch := first | omega | (simp only [go_sem]; first | done | omega)) only [go_sem]
    (first | refine Ret.sameE (Nat.le_refl _) (by assumption) ?_ | refine Ret.dropE (by assumption) (Nat.le_refl _) (by assumption) (by simp [AV.ok, AV.ok1, AC.ok]) ?_) <;> simp [this]
/-- values of which some empty slices are read as such -/
def LeN : List AV → List AV → Prop
  | [], [] => True
  | x :: xs, y :: ys => (x = y ∨ ∃ sz r, x = .c (.sl r 0) ∧ y = .c (.lst sz [])) ∧ LeN xs ys
  | _, _ => False
theorem leN_rel {ι : En} {n : Nat} : ∀ {xs ys : List AV} {us : List Value}, LeN xs ys → relAL ι xs us → (∀ x ∈ xs, x.ok n) → relAL ι ys us ∧ ∀ y ∈ ys, y.ok n
  | [], [], [], _, _, _ => ⟨trivial, by simp⟩
  | x :: xs, y :: ys, u :: us, h, hr, ho => by
    obtain ⟨h1, h2⟩ := leN_rel h.2 hr.2 (fun z hz => ho z (by simp [hz]))
    rcases h.1 with rfl | ⟨sz, r, rfl, rfl⟩
    · exact ⟨⟨hr.1, h1⟩, fun z hz => by
        rcases List.mem_cons.1 hz with rfl | hz
        · exact ho _ (by simp)
        · exact h2 z hz⟩
    · have h3 := AV.nilz_rel [sz] hr.1 (ho _ (by simp))
      exact ⟨⟨h3.1, h1⟩, fun z hz => by
        rcases List.mem_cons.1 hz with rfl | hz
        · exact h3.2
        · exact h2 z hz⟩
  | [], [], _ :: _, _, hr, _ => hr.elim
  | _ :: _, _ :: _, [], _, hr, _ => hr.elim
theorem WkL.nilA {m : Nat} {vs vs' : List AV} (h : LeN vs vs') (hm : m ≤ H.length) : WkL m vs H vs' H :=
  fun B w0 ι w us hs hr ho => by
    obtain ⟨h1, h2⟩ := leN_rel h hr ho
    exact ⟨ι, Agree.refl _ _, hm, hs, h1, h2⟩
theorem wkRow {o : AObj} {ty : Nat} (l : List Fix) (n : Nat) (hn : n = l.length) (hA : HOk (H ++ [o])) : WkL (H.length + 1) [.c (.sl (some (H.length + 3, 0)) n)] (H ++ [o, .dead, .dead, .row ty 11 (l.map encF) true]) [.c (.lst 11 (l.map encF))] (H ++ [o]) := by
  subst hn
  refine WkL.trans (WkL.frz (i := H.length + 3) (ty := ty) (sz := 11) (els := l.map encF) (own := true) (by simp) (pureL_map _ (fun x => by simp [go_sem, AC.pure])) (by simp)) ?_
  have e1 : [AV.c (.sl (some (H.length + 3, 0)) l.length)].map (AV.frz (H.length + 3) 11 (l.map encF)) = [.c (.lst 11 (l.map encF))] := by
    simp [AV.frz, AV.frz1, AC.frz]
    exact List.take_of_length_le (by simp)
  have e2 : (H ++ [o, .dead, .dead, .row ty 11 (l.map encF) true]).set (H.length + 3) (.row ty 11 (l.map encF) false) = (H ++ [o]) ++ [.dead, .dead, .row ty 11 (l.map encF) false] := by simp
  rw [e1, e2]
  exact WkL.drop hA (by simp) (by simp [AV.ok, AV.ok1, AC.ok])
theorem hokS (hH : HOk H) (zs : List Int) (k : Int) : HOk (H ++ [strO zs k]) := HOk.app hH (okN_pure (by simp [pureL, AC.pure]) (by simp) _)
theorem mom1_a (m : Int) (hk : K (.c (.int .i64 (mom1 m))) H) : ACalls Tryz.prog 51 [(.c (.int .i64 m))] H K := momentFaultR_a m hk
theorem fixesApplied_a (zs : List Int) (hz : zs.length ≤ 9223372036854775807) (hk : K (.c (.bool true)) H) : ACalls Tryz.prog 5 [.c (.lst 1 (zs.map encI))] H K := by
  have st : ∀ (k : Int) (L : Hp), 0 ≤ k → k ≤ 1000000000 → Str (H ++ strO zs k :: L) H.length zs k := fun k L h1 h2 => ⟨hz, h1, by omega, by simp⟩
  refine acallsS Tryz.func5 rfl (by simp (disch := first | omega | (simp only [go_sem]; first | done | omega)) only [go_sem]) (fun hH => ?_)
  (refine SWp.go (by kernel_rfl) ?_; simp (disch := first | omega | (simp only [go_sem]; first | done | omega)) only [go_sem])
  (refine SWp.go (by kernel_rfl) ?_; simp (disch := first | omega | (simp only [go_sem]; first | done | omega)) only [go_sem])
  refine SWp.go (by kernel_rfl) ?_
  simp (disch := first | omega | (simp only [go_sem]; first | done | omega)) only [go_sem]
  refine samples_a H.length zs 0 6 (st _ _ (by omega) (by omega)) (by omega) (by omega) (by omega) (fun a j1 g1 g2 g3 => ?_)
  simp (disch := first | omega | (simp only [go_sem]; first | done | omega)) only [go_sem]
  refine range_a H.length zs j1 0 8 (st _ _ (by omega) (by omega)) (by omega) (by omega) (by omega) (fun n1 n1a n1b => ?_)
  simp (disch := first | omega | (simp only [go_sem]; first | done | omega)) only [go_sem]
  refine fixes_a H.length zs (j1 + 1) n1 (st _ _ (by omega) (by omega)) (by omega) n1a (by omega) (fun f j2 g4 g5 g6 g7 => ?_)
  simp (disch := first | omega | (simp only [go_sem]; first | done | omega)) only [go_sem]
  refine range_a H.length zs j2 0 4 (st _ _ (by omega) (by omega)) (by omega) (by omega) (by omega) (fun n2 n2a n2b => ?_)
  simp (disch := first | omega | (simp only [go_sem]; first | done | omega)) only [go_sem]
  refine fixes_a H.length zs (j2 + 1) n2 (st _ _ (by omega) (by omega)) (by omega) n2a (by omega) (fun g0 j3 g8 g9 g10 g11 => ?_)
  simp (disch := first | omega | (simp only [go_sem]; first | done | omega)) only [go_sem]
  refine pick_lit H.length zs j3 [0, 5, 10, 40, -1] (by first | ((repeat first | exact at0 (by simp) | refine atS ?_); done) | assumption) rfl rfl (st _ _ (by omega) (by omega)) (by omega) (by simp) (by simp) (fun at_ hat => ?_)
  simp (disch := first | omega | (simp only [go_sem]; first | done | omega)) only [go_sem]
  refine pick_lit H.length zs (j3 + 1) [3, 20, 100, 345686400000] (by first | ((repeat first | exact at0 (by simp) | refine atS ?_); done) | assumption) rfl rfl (st _ _ (by omega) (by omega)) (by omega) (by simp) (by simp) (fun to hto => ?_)
  clear hat hto
  have hfl : f.length ≤ 8 := by omega
  have hg0l : g0.length ≤ 4 := by omega
  have hal : a.length ≤ 6 := by omega
  have hj3 : 0 ≤ j3 ∧ j3 ≤ 900 := by omega
  simp (disch := first | omega | (simp only [go_sem]; first | done | omega)) only [go_sem]
  refine SWp.cut (H.length + 1) [3, 4, 5, 7, 8] [6] (fun (u : List Fix × Int) => u.1.length ≤ 10 ∧ (∀ x ∈ u.1, x.by_.size ≤ 1000 ∧ fxOk x) ∧ (∀ r, foS f u.1 = some r → r.length ≤ 12) ∧ 0 ≤ u.2 ∧ u.2 ≤ 2000) (fun (u : List Fix × Int) => [(6, .c (.lst 11 (u.1.map encF)))]) (fun (u : List Fix × Int) => H ++ [strO zs u.2]) (fun _ => rfl) (by kernel_rfl) (by first | (simp; done) | omega) (by first | (simp; done) | (simp; omega) | omega) (by (try simp only [List.forall_mem_cons, List.not_mem_nil, false_implies, implies_true, and_true]); (try simp (disch := first | omega | (simp only [go_sem]; first | done | omega)) only [go_sem]); all_goals first | trivial | (simp [AV.ok, AV.ok1, AC.ok]; done) | (simp [AV.ok, AV.ok1, AC.ok]; omega) | (simp [AV.ok, AV.ok1, AC.ok]; assumption) | ((repeat' apply And.intro) <;> first | trivial | (simp [AV.ok, AV.ok1, AC.ok]; done) | (simp [AV.ok, AV.ok1, AC.ok]; omega) | (simp [AV.ok, AV.ok1, AC.ok]; assumption) | (refine grV_ok ?_ _; first | (simp; done) | (simp; omega) | omega))) ?_ (fun u hu _ _ => ?_)
  · refine SWp.of (by kernel_rfl) ?_
    have hno : ∀ r, foS f g0 = some r → r.length ≤ 12 := fun r hr => by have := foS_len _ _ _ hr; omega
    by_cases hf0 : f = []
    · subst hf0
      simp (disch := first | omega | (simp only [go_sem]; first | done | omega)) only [go_sem]
      refine Next.mk (g0, j3 + 1 + 1) ⟨by dsimp only; omega, fun z hz => ⟨(g11 z hz).1, (g11 z hz).ok⟩, hno, by dsimp only; omega, by dsimp only; omega⟩ ?_
      (try simp (disch := first | omega | (simp only [go_sem]; first | done | omega)) only [go_sem]); (first | refine WkL.eq ?_ ?_ | refine WkL.rest (by assumption) ?_ ?_ ?_ | refine WkL.keepL (by assumption) rfl ?_ ?_ ?_ ?_) <;> first | rfl | (simp; done) | (simp; omega) | (simp only [List.cons.injEq, AV.c.injEq, AC.int.injEq, AC.bool.injEq, AC.str.injEq, and_true, true_and, Int.natCast_add, Int.natCast_one, Int.cast_ofNat_Int]; omega) | (simp [AV.ok, AV.ok1, AC.ok]; done) | (simp [AV.ok, AV.ok1, AC.ok]; omega) | (simp only [List.forall_mem_cons, List.not_mem_nil, false_implies, implies_true, and_true]; (repeat' apply And.intro) <;> first | exact okN_map (fun x => by simp [go_sem, AC.pure]) | exact okN_grO (fun x => by simp [go_sem, AC.pure]) | (simp [AObj.okN, AC.ok]; done) | (simp [AObj.okN, AC.ok]; omega)) | (simp [*]; done) | grind
    · have hpos : 0 < f.length := List.length_pos_iff.2 hf0
      simp (disch := first | omega | (simp only [go_sem]; first | done | omega)) only [go_sem, hpos]
      refine flip_a H.length zs (j3 + 1 + 1) 2 (st _ _ (by omega) (by omega)) (by omega) (by omega) (fun bb => ?_)
      simp (disch := first | omega | (simp only [go_sem]; first | done | omega)) only [go_sem]
      refine acond_b (fun c => ?_) (fun c => ?_)
      · simp (disch := first | omega | (simp only [go_sem]; first | done | omega)) only [go_sem]
        refine next_a H.length zs (j3 + 1 + 1 + 1) f.length (st _ _ (by omega) (by omega)) (by omega) (by omega) (fun x x0 x1 => ?_)
        simp (disch := first | omega | (simp only [go_sem]; first | done | omega)) only [go_sem]
        have e : (((f.map encF).drop x.toNat).take (f.length - x.toNat)) = (f.drop x.toNat).map encF := by
          rw [← List.map_drop, List.take_of_length_le (by simp)]
        rw [e]
        obtain ⟨n, hn⟩ : ∃ n, n = x.toNat := ⟨_, rfl⟩
        rw [← hn]
        have hnl : n < f.length := by omega
        obtain ⟨y, ys, hys⟩ : ∃ y ys, f.drop n = y :: ys := by
          cases h : f.drop n with
          | nil => have := congrArg List.length h; simp at this; omega
          | cons y ys => exact ⟨y, ys, rfl⟩
        have hyf : ∀ z ∈ y :: ys, z ∈ f := fun z hz => List.mem_of_mem_drop (hys ▸ hz)
        have hyl : (y :: ys).length ≤ 8 := by rw [← hys, List.length_drop]; omega
        rw [hys]
        clear e hn hys
        refine cloneFx_a (y :: ys) (by omega) ?_
        have clv : ∀ i, clV i 11 ((y :: ys).map encF) = .sl (some (i, 0)) (ys.length + 1) := fun i => by simp [clV]
        rw [grO_pos _ _ (by simp), clv]
        simp (disch := first | omega | (simp only [go_sem]; first | done | omega)) only [go_sem]
        refine flip_a H.length zs (j3 + 1 + 1 + 1 + 1) 4 (st _ _ (by omega) (by omega)) (by omega) (by omega) (fun b2 => ?_)
        simp (disch := first | omega | (simp only [go_sem]; first | done | omega)) only [go_sem]
        refine acond_b (fun c2 => ?_) (fun c2 => ?_)
        · have hy := g7 y (hyf y (by simp))
          have hym : -9223372036854775808 ≤ y.made + 1 ∧ y.made + 1 ≤ 9223372036854775807 := by obtain ⟨_, h2, _⟩ := hy; omega
          simp (disch := first | omega | (simp only [go_sem]; first | done | omega)) only [go_sem]
          refine Next.mk (⟨y.by_, y.no, y.made + 1, y.kind, y.s, y.t, y.w1, y.w2, y.q⟩ :: ys, j3 + 1 + 1 + 1 + 1 + 1) ⟨by dsimp only; exact Nat.le_trans hyl (by decide), fun z hz => ?_, fun r hr => ?_, by dsimp only; omega, by dsimp only; omega⟩ ?_
          · rcases List.mem_cons.1 hz with rfl | hz
            · obtain ⟨h1, h2, h3⟩ := hy
              exact ⟨h1, by dsimp only; omega, by dsimp only; omega⟩
            · exact ⟨(g7 z (hyf z (by simp [hz]))).1, (g7 z (hyf z (by simp [hz]))).ok⟩
          · have := foS_in _ f (fun z hz => by
              rcases List.mem_cons.1 hz with rfl | hz
              · exact ⟨y, hyf y (by simp), sameX_iff.2 ⟨rfl, rfl⟩⟩
              · exact ⟨z, hyf z (by simp [hz]), sameX_iff.2 ⟨rfl, rfl⟩⟩) r hr
            rw [this]; omega
          · simp (disch := first | omega | (simp only [go_sem]; first | done | omega)) only [go_sem]
            exact wkRow (⟨y.by_, y.no, y.made + 1, y.kind, y.s, y.t, y.w1, y.w2, y.q⟩ :: ys) (ys.length + 1) rfl (hokS hH _ _)
        · simp (disch := first | omega | (simp only [go_sem]; first | done | omega)) only [go_sem]
          refine Next.mk (y :: ys, j3 + 1 + 1 + 1 + 1 + 1) ⟨by dsimp only; omega, fun z hz => ⟨(g7 z (hyf z hz)).1, (g7 z (hyf z hz)).ok⟩, fun r hr => ?_, by dsimp only; omega, by dsimp only; omega⟩ ?_
          · have := foS_in (y :: ys) f (fun z hz => ⟨z, hyf z hz, sameX_iff.2 ⟨rfl, rfl⟩⟩) r hr
            rw [this]; omega
          · simp (disch := first | omega | (simp only [go_sem]; first | done | omega)) only [go_sem]
            exact wkRow (y :: ys) (ys.length + 1) rfl (hokS hH _ _)
      · simp (disch := first | omega | (simp only [go_sem]; first | done | omega)) only [go_sem]
        refine Next.mk (g0, j3 + 1 + 1 + 1) ⟨by dsimp only; omega, fun z hz => ⟨(g11 z hz).1, (g11 z hz).ok⟩, hno, by dsimp only; omega, by dsimp only; omega⟩ ?_
        (try simp (disch := first | omega | (simp only [go_sem]; first | done | omega)) only [go_sem]); (first | refine WkL.eq ?_ ?_ | refine WkL.rest (by assumption) ?_ ?_ ?_ | refine WkL.keepL (by assumption) rfl ?_ ?_ ?_ ?_) <;> first | rfl | (simp; done) | (simp; omega) | (simp only [List.cons.injEq, AV.c.injEq, AC.int.injEq, AC.bool.injEq, AC.str.injEq, and_true, true_and, Int.natCast_add, Int.natCast_one, Int.cast_ofNat_Int]; omega) | (simp [AV.ok, AV.ok1, AC.ok]; done) | (simp [AV.ok, AV.ok1, AC.ok]; omega) | (simp only [List.forall_mem_cons, List.not_mem_nil, false_implies, implies_true, and_true]; (repeat' apply And.intro) <;> first | exact okN_map (fun x => by simp [go_sem, AC.pure]) | exact okN_grO (fun x => by simp [go_sem, AC.pure]) | (simp [AObj.okN, AC.ok]; done) | (simp [AObj.okN, AC.ok]; omega)) | (simp [*]; done) | grind
  obtain ⟨g, j⟩ := u
  obtain ⟨u1, u2, u3, u4, u5⟩ := hu
  dsimp only at u1 u2 u3 u4 u5 ⊢
  have hf : ∀ x ∈ f, x.by_.size ≤ 1099511627776 := fun x hx => by have := (g7 x hx).1; omega
  have hg : ∀ x ∈ g, x.by_.size ≤ 1099511627776 := fun x hx => by have := (u2 x hx).1; omega
  have hP : ∀ x ∈ f ++ g, fxOk x := fun x hx => by
    rcases List.mem_append.1 hx with hx | hx
    · exact (g7 x hx).ok
    · exact (u2 x hx).2
  clear g1 g2 g3 g4 g5 g6 g7 g8 g9 g10 g11 st n1a n1b n2a n2b
  obtain ⟨M, hM⟩ : ∃ M, M = mgFT f g := ⟨_, rfl⟩
  obtain ⟨X, hX⟩ : ∃ X, X = fxdRes a f at_ := ⟨_, rfl⟩
  obtain ⟨O, hO⟩ : ∃ O, O = ovRes f at_ := ⟨_, rfl⟩
  obtain ⟨C, hC⟩ : ∃ C, C = chgRes a f at_ to := ⟨_, rfl⟩
  have hMl : M.1.length ≤ 1000 := by
    rw [hM]; unfold mgFT mgFR
    have := mgX_len f g
    split
    · simp
    · split
      · simp
      · split
        · simp
        · dsimp only; omega
  (refine SWp.go (by kernel_rfl) ?_; simp (disch := first | omega | (simp only [go_sem]; first | done | omega)) only [go_sem])
  refine mergeFixes_a f g (by omega) hf hg ?_
  rw [← hM]
  simp (disch := first | omega | (simp only [go_sem]; first | done | omega)) only [go_sem]
  (refine SWp.go (by kernel_rfl) ?_; simp (disch := first | omega | (simp only [go_sem]; first | done | omega)) only [go_sem])
  refine fixedTop_a a f at_ (by omega) hf (by omega) ?_
  rw [← hX]
  simp (disch := first | omega | (simp only [go_sem]; first | done | omega)) only [go_sem]
  (refine SWp.go (by kernel_rfl) ?_; simp (disch := first | omega | (simp only [go_sem]; first | done | omega)) only [go_sem])
  refine overridden_a f at_ hf (by omega) ?_
  rw [← hO]
  simp (disch := first | omega | (simp only [go_sem]; first | done | omega)) only [go_sem]
  (refine SWp.go (by kernel_rfl) ?_; simp (disch := first | omega | (simp only [go_sem]; first | done | omega)) only [go_sem])
  refine changesTop_a a f at_ to (by omega) hf (by omega) ?_
  rw [← hC]
  simp (disch := first | omega | (simp only [go_sem]; first | done | omega)) only [go_sem]
  (refine SWp.go (by kernel_rfl) ?_; simp (disch := first | omega | (simp only [go_sem]; first | done | omega)) only [go_sem])
  refine fixesFault_a f hf (by omega) ?_
  simp (disch := first | omega | (simp only [go_sem]; first | done | omega)) only [go_sem]
  (refine SWp.go (by kernel_rfl) ?_; simp (disch := first | omega | (simp only [go_sem]; first | done | omega)) only [go_sem])
  refine fixesFault_a g hg (by omega) ?_
  simp (disch := first | omega | (simp only [go_sem]; first | done | omega)) only [go_sem]
  refine errs_lit (fxF f) (fxF g) (by first | ((repeat first | exact at0 (by simp) | refine atS ?_); done) | assumption) rfl rfl ?_
  simp (disch := first | omega | (simp only [go_sem]; first | done | omega)) only [go_sem]
  refine seriesFault_a a (by omega) ?_
  simp (disch := first | omega | (simp only [go_sem]; first | done | omega)) only [go_sem]
  refine mom1_a at_ ?_
  simp (disch := first | omega | (simp only [go_sem]; first | done | omega)) only [go_sem]
  refine errs3_lit (serF a) (fxF f) (mom1 at_) (by first | ((repeat first | exact at0 (by simp) | refine atS ?_); done) | assumption) rfl rfl ?_
  simp (disch := first | omega | (simp only [go_sem]; first | done | omega)) only [go_sem]
  refine mom1_a at_ ?_
  simp (disch := first | omega | (simp only [go_sem]; first | done | omega)) only [go_sem]
  refine errs_lit (fxF f) (mom1 at_) (by first | ((repeat first | exact at0 (by simp) | refine atS ?_); done) | assumption) rfl rfl ?_
  simp (disch := first | omega | (simp only [go_sem]; first | done | omega)) only [go_sem]
  (refine SWp.go (by kernel_rfl) ?_; simp (disch := first | omega | (simp only [go_sem]; first | done | omega)) only [go_sem])
  refine mom1_a to ?_
  simp (disch := first | omega | (simp only [go_sem]; first | done | omega)) only [go_sem]
  refine errs_lit (firstE [serF a, fxF f, mom1 at_]) (mom1 to) (by first | ((repeat first | exact at0 (by simp) | refine atS ?_); done) | assumption) rfl rfl ?_
  simp (disch := first | omega | (simp only [go_sem]; first | done | omega)) only [go_sem]
  (refine SWp.go (by kernel_rfl) ?_; simp (disch := first | omega | (simp only [go_sem]; first | done | omega)) only [go_sem])
  have hM2 := mgF_e f g
  have hX2 := fxd_e a f at_
  have hO2 := ov_e f at_
  have hC2 := chg_e a f at_ to
  rw [← hM] at hM2
  rw [← hX] at hX2
  rw [← hO] at hO2
  rw [← hC] at hC2
  have k1 : firstE [fxF f, fxF g] = 0 → twF f = false := fun h => by
    rw [firstE2] at h
    have : fxF f = 0 := by
      by_cases e : fxF f = 0
      · exact e
      · rw [if_pos e] at h; exact absurd h e
    exact (fxF_go this).2.2
  generalize firstE [fxF f, fxF g] = E1 at *
  generalize firstE [fxF f, mom1 at_] = E3 at *
  generalize firstE [firstE [serF a, fxF f, mom1 at_], mom1 to] = E4 at *
  generalize firstE [serF a, fxF f, mom1 at_] = E2 at *
  refine SWp.cut (H.length + 1) [4, 5, 6, 7, 8, 9, 10, 11, 12, 13, 14, 15, 16, 17, 19, 20, 21] [22, 18] (fun (u : Unit) => True) (fun (u : Unit) => [(22, .c (.lst 11 (M.1.map encF))), (18, (.c (.int .i64 (M.2))))]) (fun (u : Unit) => H ++ [strO zs j]) (fun _ => rfl) (by kernel_rfl) (by first | (simp; done) | omega) (by first | (simp; done) | (simp; omega) | omega) (by (try simp only [List.forall_mem_cons, List.not_mem_nil, false_implies, implies_true, and_true]); (try simp (disch := first | omega | (simp only [go_sem]; first | done | omega)) only [go_sem]); all_goals first | trivial | (simp [AV.ok, AV.ok1, AC.ok]; done) | (simp [AV.ok, AV.ok1, AC.ok]; omega) | (simp [AV.ok, AV.ok1, AC.ok]; assumption) | ((repeat' apply And.intro) <;> first | trivial | (simp [AV.ok, AV.ok1, AC.ok]; done) | (simp [AV.ok, AV.ok1, AC.ok]; omega) | (simp [AV.ok, AV.ok1, AC.ok]; assumption) | (refine grV_ok ?_ _; first | (simp; done) | (simp; omega) | omega))) ?_ (fun u _ _ _ => ?_)
  · refine SWp.of (by kernel_rfl) ?_
    by_cases h : E1 = 0
    · simp (disch := first | omega | (simp only [go_sem]; first | done | omega)) only [go_sem, h]
      refine fixesOf_a f g (by omega) (k1 h) u3 hP ?_
      rw [if_pos h] at hM2
      rw [← hM2]
      simp (disch := first | omega | (simp only [go_sem]; first | done | omega)) only [go_sem]
      refine Next.mk () trivial ?_
      (try simp (disch := first | omega | (simp only [go_sem]; first | done | omega)) only [go_sem]); (first | refine WkL.eq ?_ ?_ | refine WkL.rest (by assumption) ?_ ?_ ?_ | refine WkL.keepL (by assumption) rfl ?_ ?_ ?_ ?_) <;> first | rfl | (simp; done) | (simp; omega) | (simp only [List.cons.injEq, AV.c.injEq, AC.int.injEq, AC.bool.injEq, AC.str.injEq, and_true, true_and, Int.natCast_add, Int.natCast_one, Int.cast_ofNat_Int]; omega) | (simp [AV.ok, AV.ok1, AC.ok]; done) | (simp [AV.ok, AV.ok1, AC.ok]; omega) | (simp only [List.forall_mem_cons, List.not_mem_nil, false_implies, implies_true, and_true]; (repeat' apply And.intro) <;> first | exact okN_map (fun x => by simp [go_sem, AC.pure]) | exact okN_grO (fun x => by simp [go_sem, AC.pure]) | (simp [AObj.okN, AC.ok]; done) | (simp [AObj.okN, AC.ok]; omega)) | (simp [*]; done) | grind
    · simp (disch := first | omega | (simp only [go_sem]; first | done | omega)) only [go_sem, h]
      rw [if_neg h] at hM2
      refine Next.mk () trivial ?_
      simp (disch := first | omega | (simp only [go_sem]; first | done | omega)) only [go_sem]
      refine WkL.trans (WkL.nilA (vs' := [.c (.lst 11 []), .c (.int .i64 E1)]) ⟨.inr ⟨11, none, rfl, rfl⟩, .inl rfl, trivial⟩ (by simp)) ?_
      rw [hM2]
      (try simp (disch := first | omega | (simp only [go_sem]; first | done | omega)) only [go_sem]); (first | refine WkL.eq ?_ ?_ | refine WkL.rest (by assumption) ?_ ?_ ?_ | refine WkL.keepL (by assumption) rfl ?_ ?_ ?_ ?_) <;> first | rfl | (simp; done) | (simp; omega) | (simp only [List.cons.injEq, AV.c.injEq, AC.int.injEq, AC.bool.injEq, AC.str.injEq, and_true, true_and, Int.natCast_add, Int.natCast_one, Int.cast_ofNat_Int]; omega) | (simp [AV.ok, AV.ok1, AC.ok]; done) | (simp [AV.ok, AV.ok1, AC.ok]; omega) | (simp only [List.forall_mem_cons, List.not_mem_nil, false_implies, implies_true, and_true]; (repeat' apply And.intro) <;> first | exact okN_map (fun x => by simp [go_sem, AC.pure]) | exact okN_grO (fun x => by simp [go_sem, AC.pure]) | (simp [AObj.okN, AC.ok]; done) | (simp [AObj.okN, AC.ok]; omega)) | (simp [*]; done) | grind
  clear hM2 k1 u3 hP
  (refine SWp.go (by kernel_rfl) ?_; simp (disch := first | omega | (simp only [go_sem]; first | done | omega)) only [go_sem])
  refine SWp.cut (H.length + 1) [4, 5, 7, 8, 9, 10, 11, 12, 13, 14, 15, 16, 17, 18, 20, 21, 22] [23, 19] (fun (u : Unit) => True) (fun (u : Unit) => [(23, .c (.lst 3 (X.1.map encS))), (19, (.c (.int .i64 (X.2))))]) (fun (u : Unit) => H ++ [strO zs j]) (fun _ => rfl) (by kernel_rfl) (by first | (simp; done) | omega) (by first | (simp; done) | (simp; omega) | omega) (by (try simp only [List.forall_mem_cons, List.not_mem_nil, false_implies, implies_true, and_true]); (try simp (disch := first | omega | (simp only [go_sem]; first | done | omega)) only [go_sem]); all_goals first | trivial | (simp [AV.ok, AV.ok1, AC.ok]; done) | (simp [AV.ok, AV.ok1, AC.ok]; omega) | (simp [AV.ok, AV.ok1, AC.ok]; assumption) | ((repeat' apply And.intro) <;> first | trivial | (simp [AV.ok, AV.ok1, AC.ok]; done) | (simp [AV.ok, AV.ok1, AC.ok]; omega) | (simp [AV.ok, AV.ok1, AC.ok]; assumption) | (refine grV_ok ?_ _; first | (simp; done) | (simp; omega) | omega))) ?_ (fun u _ _ _ => ?_)
  · refine SWp.of (by kernel_rfl) ?_
    by_cases h : E2 = 0
    · simp (disch := first | omega | (simp only [go_sem]; first | done | omega)) only [go_sem, h]
      refine fixedOf_a a f at_ (by omega) (by omega) ?_
      rw [if_pos h] at hX2
      simp (disch := first | omega | (simp only [go_sem]; first | done | omega)) only [go_sem]
      refine Next.mk () trivial ?_
      rw [hX2]
      (try simp (disch := first | omega | (simp only [go_sem]; first | done | omega)) only [go_sem]); (first | refine WkL.eq ?_ ?_ | refine WkL.rest (by assumption) ?_ ?_ ?_ | refine WkL.keepL (by assumption) rfl ?_ ?_ ?_ ?_) <;> first | rfl | (simp; done) | (simp; omega) | (simp only [List.cons.injEq, AV.c.injEq, AC.int.injEq, AC.bool.injEq, AC.str.injEq, and_true, true_and, Int.natCast_add, Int.natCast_one, Int.cast_ofNat_Int]; omega) | (simp [AV.ok, AV.ok1, AC.ok]; done) | (simp [AV.ok, AV.ok1, AC.ok]; omega) | (simp only [List.forall_mem_cons, List.not_mem_nil, false_implies, implies_true, and_true]; (repeat' apply And.intro) <;> first | exact okN_map (fun x => by simp [go_sem, AC.pure]) | exact okN_grO (fun x => by simp [go_sem, AC.pure]) | (simp [AObj.okN, AC.ok]; done) | (simp [AObj.okN, AC.ok]; omega)) | (simp [*]; done) | grind
    · simp (disch := first | omega | (simp only [go_sem]; first | done | omega)) only [go_sem, h]
      rw [if_neg h] at hX2
      refine Next.mk () trivial ?_
      simp (disch := first | omega | (simp only [go_sem]; first | done | omega)) only [go_sem]
      refine WkL.trans (WkL.nilA (vs' := [.c (.lst 3 []), .c (.int .i64 E2)]) ⟨.inr ⟨3, none, rfl, rfl⟩, .inl rfl, trivial⟩ (by simp)) ?_
      rw [hX2]
      (try simp (disch := first | omega | (simp only [go_sem]; first | done | omega)) only [go_sem]); (first | refine WkL.eq ?_ ?_ | refine WkL.rest (by assumption) ?_ ?_ ?_ | refine WkL.keepL (by assumption) rfl ?_ ?_ ?_ ?_) <;> first | rfl | (simp; done) | (simp; omega) | (simp only [List.cons.injEq, AV.c.injEq, AC.int.injEq, AC.bool.injEq, AC.str.injEq, and_true, true_and, Int.natCast_add, Int.natCast_one, Int.cast_ofNat_Int]; omega) | (simp [AV.ok, AV.ok1, AC.ok]; done) | (simp [AV.ok, AV.ok1, AC.ok]; omega) | (simp only [List.forall_mem_cons, List.not_mem_nil, false_implies, implies_true, and_true]; (repeat' apply And.intro) <;> first | exact okN_map (fun x => by simp [go_sem, AC.pure]) | exact okN_grO (fun x => by simp [go_sem, AC.pure]) | (simp [AObj.okN, AC.ok]; done) | (simp [AObj.okN, AC.ok]; omega)) | (simp [*]; done) | grind
  (refine SWp.go (by kernel_rfl) ?_; simp (disch := first | omega | (simp only [go_sem]; first | done | omega)) only [go_sem])
  refine SWp.cut (H.length + 1) [4, 5, 7, 8, 9, 10, 11, 12, 13, 14, 15, 16, 17, 18, 19, 20, 21, 22, 23, 25] [24] (fun (u : Unit) => True) (fun (u : Unit) => [(24, .c (.lst 1 (O.1.map encI)))]) (fun (u : Unit) => H ++ [strO zs j]) (fun _ => rfl) (by kernel_rfl) (by first | (simp; done) | omega) (by first | (simp; done) | (simp; omega) | omega) (by (try simp only [List.forall_mem_cons, List.not_mem_nil, false_implies, implies_true, and_true]); (try simp (disch := first | omega | (simp only [go_sem]; first | done | omega)) only [go_sem]); all_goals first | trivial | (simp [AV.ok, AV.ok1, AC.ok]; done) | (simp [AV.ok, AV.ok1, AC.ok]; omega) | (simp [AV.ok, AV.ok1, AC.ok]; assumption) | ((repeat' apply And.intro) <;> first | trivial | (simp [AV.ok, AV.ok1, AC.ok]; done) | (simp [AV.ok, AV.ok1, AC.ok]; omega) | (simp [AV.ok, AV.ok1, AC.ok]; assumption) | (refine grV_ok ?_ _; first | (simp; done) | (simp; omega) | omega))) ?_ (fun u _ _ _ => ?_)
  · refine SWp.of (by kernel_rfl) ?_
    by_cases h : E3 = 0
    · simp (disch := first | omega | (simp only [go_sem]; first | done | omega)) only [go_sem, h]
      refine overriddenOf_a f at_ (by omega) ?_
      rw [if_pos h] at hO2
      simp (disch := first | omega | (simp only [go_sem]; first | done | omega)) only [go_sem]
      refine Next.mk () trivial ?_
      rw [hO2]
      (try simp (disch := first | omega | (simp only [go_sem]; first | done | omega)) only [go_sem]); (first | refine WkL.eq ?_ ?_ | refine WkL.rest (by assumption) ?_ ?_ ?_ | refine WkL.keepL (by assumption) rfl ?_ ?_ ?_ ?_) <;> first | rfl | (simp; done) | (simp; omega) | (simp only [List.cons.injEq, AV.c.injEq, AC.int.injEq, AC.bool.injEq, AC.str.injEq, and_true, true_and, Int.natCast_add, Int.natCast_one, Int.cast_ofNat_Int]; omega) | (simp [AV.ok, AV.ok1, AC.ok]; done) | (simp [AV.ok, AV.ok1, AC.ok]; omega) | (simp only [List.forall_mem_cons, List.not_mem_nil, false_implies, implies_true, and_true]; (repeat' apply And.intro) <;> first | exact okN_map (fun x => by simp [go_sem, AC.pure]) | exact okN_grO (fun x => by simp [go_sem, AC.pure]) | (simp [AObj.okN, AC.ok]; done) | (simp [AObj.okN, AC.ok]; omega)) | (simp [*]; done) | grind
    · simp (disch := first | omega | (simp only [go_sem]; first | done | omega)) only [go_sem, h]
      rw [if_neg h] at hO2
      refine Next.mk () trivial ?_
      simp (disch := first | omega | (simp only [go_sem]; first | done | omega)) only [go_sem]
      refine WkL.trans (WkL.nilA (vs' := [.c (.lst 1 [])]) ⟨.inr ⟨1, none, rfl, rfl⟩, trivial⟩ (by simp)) ?_
      rw [hO2]
      (try simp (disch := first | omega | (simp only [go_sem]; first | done | omega)) only [go_sem]); (first | refine WkL.eq ?_ ?_ | refine WkL.rest (by assumption) ?_ ?_ ?_ | refine WkL.keepL (by assumption) rfl ?_ ?_ ?_ ?_) <;> first | rfl | (simp; done) | (simp; omega) | (simp only [List.cons.injEq, AV.c.injEq, AC.int.injEq, AC.bool.injEq, AC.str.injEq, and_true, true_and, Int.natCast_add, Int.natCast_one, Int.cast_ofNat_Int]; omega) | (simp [AV.ok, AV.ok1, AC.ok]; done) | (simp [AV.ok, AV.ok1, AC.ok]; omega) | (simp only [List.forall_mem_cons, List.not_mem_nil, false_implies, implies_true, and_true]; (repeat' apply And.intro) <;> first | exact okN_map (fun x => by simp [go_sem, AC.pure]) | exact okN_grO (fun x => by simp [go_sem, AC.pure]) | (simp [AObj.okN, AC.ok]; done) | (simp [AObj.okN, AC.ok]; omega)) | (simp [*]; done) | grind
  refine SWp.cut (H.length + 1) [4, 5, 7, 8, 9, 10, 11, 12, 13, 14, 15, 16, 17, 18, 19, 20, 22, 23, 24] [25, 21] (fun (u : Unit) => True) (fun (u : Unit) => [(25, .c (.lst 1 (C.1.map encI))), (21, (.c (.int .i64 (C.2))))]) (fun (u : Unit) => H ++ [strO zs j]) (fun _ => rfl) (by kernel_rfl) (by first | (simp; done) | omega) (by first | (simp; done) | (simp; omega) | omega) (by (try simp only [List.forall_mem_cons, List.not_mem_nil, false_implies, implies_true, and_true]); (try simp (disch := first | omega | (simp only [go_sem]; first | done | omega)) only [go_sem]); all_goals first | trivial | (simp [AV.ok, AV.ok1, AC.ok]; done) | (simp [AV.ok, AV.ok1, AC.ok]; omega) | (simp [AV.ok, AV.ok1, AC.ok]; assumption) | ((repeat' apply And.intro) <;> first | trivial | (simp [AV.ok, AV.ok1, AC.ok]; done) | (simp [AV.ok, AV.ok1, AC.ok]; omega) | (simp [AV.ok, AV.ok1, AC.ok]; assumption) | (refine grV_ok ?_ _; first | (simp; done) | (simp; omega) | omega))) ?_ (fun u _ _ _ => ?_)
  · refine SWp.of (by kernel_rfl) ?_
    by_cases h : E4 = 0
    · simp (disch := first | omega | (simp only [go_sem]; first | done | omega)) only [go_sem, h]
      refine changesOf_a a f at_ to (by omega) (by omega) ?_
      rw [if_pos h] at hC2
      simp (disch := first | omega | (simp only [go_sem]; first | done | omega)) only [go_sem]
      refine Next.mk () trivial ?_
      rw [hC2]
      (try simp (disch := first | omega | (simp only [go_sem]; first | done | omega)) only [go_sem]); (first | refine WkL.eq ?_ ?_ | refine WkL.rest (by assumption) ?_ ?_ ?_ | refine WkL.keepL (by assumption) rfl ?_ ?_ ?_ ?_) <;> first | rfl | (simp; done) | (simp; omega) | (simp only [List.cons.injEq, AV.c.injEq, AC.int.injEq, AC.bool.injEq, AC.str.injEq, and_true, true_and, Int.natCast_add, Int.natCast_one, Int.cast_ofNat_Int]; omega) | (simp [AV.ok, AV.ok1, AC.ok]; done) | (simp [AV.ok, AV.ok1, AC.ok]; omega) | (simp only [List.forall_mem_cons, List.not_mem_nil, false_implies, implies_true, and_true]; (repeat' apply And.intro) <;> first | exact okN_map (fun x => by simp [go_sem, AC.pure]) | exact okN_grO (fun x => by simp [go_sem, AC.pure]) | (simp [AObj.okN, AC.ok]; done) | (simp [AObj.okN, AC.ok]; omega)) | (simp [*]; done) | grind
    · simp (disch := first | omega | (simp only [go_sem]; first | done | omega)) only [go_sem, h]
      rw [if_neg h] at hC2
      refine Next.mk () trivial ?_
      simp (disch := first | omega | (simp only [go_sem]; first | done | omega)) only [go_sem]
      refine WkL.trans (WkL.nilA (vs' := [.c (.lst 1 []), .c (.int .i64 E4)]) ⟨.inr ⟨1, none, rfl, rfl⟩, .inl rfl, trivial⟩ (by simp)) ?_
      rw [hC2]
      (try simp (disch := first | omega | (simp only [go_sem]; first | done | omega)) only [go_sem]); (first | refine WkL.eq ?_ ?_ | refine WkL.rest (by assumption) ?_ ?_ ?_ | refine WkL.keepL (by assumption) rfl ?_ ?_ ?_ ?_) <;> first | rfl | (simp; done) | (simp; omega) | (simp only [List.cons.injEq, AV.c.injEq, AC.int.injEq, AC.bool.injEq, AC.str.injEq, and_true, true_and, Int.natCast_add, Int.natCast_one, Int.cast_ofNat_Int]; omega) | (simp [AV.ok, AV.ok1, AC.ok]; done) | (simp [AV.ok, AV.ok1, AC.ok]; omega) | (simp only [List.forall_mem_cons, List.not_mem_nil, false_implies, implies_true, and_true]; (repeat' apply And.intro) <;> first | exact okN_map (fun x => by simp [go_sem, AC.pure]) | exact okN_grO (fun x => by simp [go_sem, AC.pure]) | (simp [AObj.okN, AC.ok]; done) | (simp [AObj.okN, AC.ok]; omega)) | (simp [*]; done) | grind
  have hO3 : O.2 = E3 := by
    rw [hO2]
    split
    · rename_i h; exact h.symm
    · rfl
  have hXl : X.1.length ≤ 100000 := by
    rw [hX]; unfold fxdRes
    have h1 := serM_len (m := fxM a (fxUp f at_))
    have h2 := fxM_len a (fxUp f at_)
    have h3 := (fxUp_sub f at_).length_le
    split
    · simp
    · split
      · simp
      · dsimp only; omega
  have hOl : O.1.length ≤ 100000 := by
    rw [hO]; unfold ovRes
    have h1 := ovF_len (trF at_ f.length f) (trF at_ f.length f).length
    have h2 := trF_le at_ f f.length
    split
    · simp
    · split
      · simp
      · dsimp only; omega
  have hCl : C.1.length ≤ 100000 := by
    rw [hC2]
    split
    · have h1 := List.length_filter_le (chB a f at_ to) (momsF a f)
      have h2 : (momsF a f).length ≤ 1000 := by
        unfold momsF
        have h3 := cplF_le (srtI (a.map (·.t) ++ setsF f))
        have h4 := setsF_len f f.length
        rw [List.take_length] at h4
        rw [srtI_len, List.length_append, List.length_map] at h3
        omega
      dsimp only; omega
    · simp
  clear hM hX hO hC hO2 hX2 hC2
  refine SWp.of (by kernel_rfl) ?_
  simp (disch := first | omega | (simp only [go_sem]; first | done | omega)) only [go_sem, hO3]
  refine checkFixes_a f hf (by omega) ?_
  simp (disch := first | omega | (simp only [go_sem]; first | done | omega)) only [go_sem, hO3]
  refine equalFq_a M.1 M.1 (by omega) (by omega) ?_
  rw [decide_eq_true (rfl : M.1 = M.1)]
  simp (disch := first | omega | (simp only [go_sem]; first | done | omega)) only [go_sem, hO3]
  refine equalSq_a X.1 X.1 (by omega) (by omega) ?_
  rw [decide_eq_true (rfl : X.1 = X.1)]
  simp (disch := first | omega | (simp only [go_sem]; first | done | omega)) only [go_sem, hO3]
  refine equalIq_a O.1 O.1 (by omega) (by omega) ?_
  rw [decide_eq_true (rfl : O.1 = O.1)]
  simp (disch := first | omega | (simp only [go_sem]; first | done | omega)) only [go_sem, hO3]
  refine equalIq_a C.1 C.1 (by omega) (by omega) ?_
  rw [decide_eq_true (rfl : C.1 = C.1)]
  simp (disch := first | omega | (simp only [go_sem]; first | done | omega)) only [go_sem]
  refine sampled_a ?_
  simp (disch := first | omega | (simp only [go_sem]; first | done | omega)) only [go_sem]
  exact Ret.drop hH (Nat.le_refl _) trivial hk
end Go.Proofs.YtgcjenfdndhhpaaGreat
