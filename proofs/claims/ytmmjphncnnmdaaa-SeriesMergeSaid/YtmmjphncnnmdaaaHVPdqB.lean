/- Samples sorted in place: the pivot, and what looks whether all is sorted. Condition: the comparison is pure; fewer than 50. -/
import Derived.Test.YtmmjphncnnmdaaaHVPdqA
namespace Go.Proofs.Ytmmjphncnnmdaaa
open Go Go.RowKit
set_option maxRecDepth 100000
set_option linter.all false
set_option maxHeartbeats 1000000
variable {H : Hp} {K : AV → Hp → Prop}
/-- a cell of one integer -/
def cellI (n : Int) : AObj := .row 3 1 [[.int .i64 n]] true
attribute [go_sem] cellI
theorem order2_a {f : FuncId} {lt : Smp → Smp → Bool} {P : Smp → Prop} (hc : CmpA f lt P) {i n c a b sw : Nat} (d : Array Smp) (hi : H[i]? = some (rowA d)) (hn : n = d.size) (hcl : H[c]? = some (cellI sw)) (ha : a < d.size) (hb : b < d.size) (hsz : d.size ≤ 1000000) (hsw : sw ≤ 1000) (hP : ∀ k, k < d.size → P d[k]!)
    (hk : K (.tup [(.c (.int .i64 ((Go.Sort.order2 lt d a b sw).1))), (.c (.int .i64 ((Go.Sort.order2 lt d a b sw).2.1)))]) (H.set c (cellI (Go.Sort.order2 lt d a b sw).2.2))) :
    ACalls Try.prog 118 [.c (.sl (some (i, 0)) n), (.c (.int .i64 a)), (.c (.int .i64 b)), .c (.ptr (some (c, 0, 0))), .c (.fn f [] [])] H K := by
  subst hn
  have hilt := getElem?_lt hi
  have hclt := getElem?_lt hcl
  have he := hc.he
  have hx1 : d.toList[b]'(by simpa using hb) = d[b]! := arr_at d (by simpa using hb)
  have hx2 : d.toList[a]'(by simpa using ha) = d[a]! := arr_at d (by simpa using ha)
  have hbl : b < d.toList.length := by simpa using hb
  have hal : a < d.toList.length := by simpa using ha
  by_cases hl : lt d[b]! d[a]! = true
  · rw [show Go.Sort.order2 lt d a b sw = (b, a, sw + 1) by unfold Go.Sort.order2; rw [if_pos hl]] at hk
    refine acalls Try.func118 rfl (by kernel_rfl) (by simp (disch := first | omega | (simp only [go_sem]; first | done | omega)) only [go_sem]) (fun hH => ?_)
    simp (disch := first | omega | (simp only [go_sem]; first | done | omega)) only [go_sem, hi, hcl]
    repeat' (first | ((first | refine acond_d ?_ ?_ | refine acond_b ?_ ?_ | refine ag_d ?_ ?_ | refine ag_n ?_ ?_ | refine ag_bt ?_ ?_ | refine ag_bf ?_ ?_) <;> intro c <;> try simp (disch := first | omega | (simp only [go_sem]; first | done | omega)) only [go_sem, c, he, hx1, hx2, hi, hcl]) | ((first | refine w_draw (by kernel_rfl) (by decide +kernel) ?_ | refine hc.hf d[b]! d[a]! _ _ (hP _ hb) (hP _ ha) (fun r hr => ?_)) <;> try simp (disch := first | omega | (simp only [go_sem]; first | done | omega)) only [go_sem, he, hx1, hx2, hi, hcl]))
    · rw [show ((sw : Int) + 1) = ((sw + 1 : Nat) : Int) by omega]
      exact Ret.same (by simp) hk
    · rw [hl, decide_eq_true_eq] at hr
      exact absurd hr c
  · rw [show Go.Sort.order2 lt d a b sw = (a, b, sw) by unfold Go.Sort.order2; rw [if_neg hl]] at hk
    refine acalls Try.func118 rfl (by kernel_rfl) (by simp (disch := first | omega | (simp only [go_sem]; first | done | omega)) only [go_sem]) (fun hH => ?_)
    simp (disch := first | omega | (simp only [go_sem]; first | done | omega)) only [go_sem, hi, hcl]
    repeat' (first | ((first | refine acond_d ?_ ?_ | refine acond_b ?_ ?_ | refine ag_d ?_ ?_ | refine ag_n ?_ ?_ | refine ag_bt ?_ ?_ | refine ag_bf ?_ ?_) <;> intro c <;> try simp (disch := first | omega | (simp only [go_sem]; first | done | omega)) only [go_sem, c, he, hx1, hx2, hi, hcl]) | ((first | refine w_draw (by kernel_rfl) (by decide +kernel) ?_ | refine hc.hf d[b]! d[a]! _ _ (hP _ hb) (hP _ ha) (fun r hr => ?_)) <;> try simp (disch := first | omega | (simp only [go_sem]; first | done | omega)) only [go_sem, he, hx1, hx2, hi, hcl]))
    · rw [decide_eq_true c] at hr
      exact absurd hr.symm hl
    · rw [set_same hcl] at hk
      exact Ret.same (Nat.le_refl _) hk
theorem order2_bd (lt : Smp → Smp → Bool) (d : Array Smp) (a b sw : Nat) : (Go.Sort.order2 lt d a b sw).2.2 ≤ sw + 1 ∧ ((Go.Sort.order2 lt d a b sw).1 = a ∧ (Go.Sort.order2 lt d a b sw).2.1 = b ∨ (Go.Sort.order2 lt d a b sw).1 = b ∧ (Go.Sort.order2 lt d a b sw).2.1 = a) := by
  unfold Go.Sort.order2
  split
  · exact ⟨by dsimp only; omega, .inr ⟨rfl, rfl⟩⟩
  · exact ⟨by dsimp only; omega, .inl ⟨rfl, rfl⟩⟩
theorem median_bd (lt : Smp → Smp → Bool) (d : Array Smp) (a b c sw N : Nat) (ha : a < N) (hb : b < N) (hc : c < N) : (Go.Sort.median lt d a b c sw).2 ≤ sw + 3 ∧ (Go.Sort.median lt d a b c sw).1 < N := by
  unfold Go.Sort.median
  obtain ⟨a1, a2⟩ := order2_bd lt d a b sw
  dsimp only
  generalize Go.Sort.order2 lt d a b sw = r1 at *
  obtain ⟨b1, b2⟩ := order2_bd lt d r1.2.1 c r1.2.2
  generalize Go.Sort.order2 lt d r1.2.1 c r1.2.2 = r2 at *
  obtain ⟨c1, c2⟩ := order2_bd lt d r1.1 r2.1 r2.2.2
  generalize Go.Sort.order2 lt d r1.1 r2.1 r2.2.2 = r3 at *
  omega
theorem median_a {f : FuncId} {lt : Smp → Smp → Bool} {P : Smp → Prop} (hc : CmpA f lt P) {i n c a b q sw : Nat} (d : Array Smp) (hi : H[i]? = some (rowA d)) (hn : n = d.size) (hcl : H[c]? = some (cellI sw)) (hic : i ≠ c) (ha : a < d.size) (hb : b < d.size) (hq : q < d.size) (hsz : d.size ≤ 1000000) (hsw : sw ≤ 900) (hP : ∀ k, k < d.size → P d[k]!)
    (hk : K (.c (.int .i64 ((Go.Sort.median lt d a b q sw).1 : Nat))) (H.set c (cellI (Go.Sort.median lt d a b q sw).2))) :
    ACalls Try.prog 116 [.c (.sl (some (i, 0)) n), (.c (.int .i64 a)), (.c (.int .i64 b)), (.c (.int .i64 q)), .c (.ptr (some (c, 0, 0))), .c (.fn f [] [])] H K := by
  have hclt := getElem?_lt hcl
  have hilt := getElem?_lt hi
  obtain ⟨a1, a2⟩ := order2_bd lt d a b sw
  unfold Go.Sort.median at hk
  dsimp only at hk
  generalize hr1 : Go.Sort.order2 lt d a b sw = r1 at *
  obtain ⟨b1, b2⟩ := order2_bd lt d r1.2.1 q r1.2.2
  generalize hr2 : Go.Sort.order2 lt d r1.2.1 q r1.2.2 = r2 at *
  obtain ⟨c1, c2⟩ := order2_bd lt d r1.1 r2.1 r2.2.2
  generalize hr3 : Go.Sort.order2 lt d r1.1 r2.1 r2.2.2 = r3 at *
  have hi2 : ∀ o : AObj, (H.set c o)[i]? = some (rowA d) := fun o => by rw [List.getElem?_set_ne (Ne.symm hic)]; exact hi
  have hc2 : ∀ o : AObj, (H.set c o)[c]? = some o := fun o => List.getElem?_set_self hclt
  refine acalls Try.func116 rfl (by kernel_rfl) (by simp (disch := first | omega | (simp only [go_sem]; first | done | omega)) only [go_sem]) (fun hH => ?_)
  simp (disch := first | omega | (simp only [go_sem]; first | done | omega)) only [go_sem]
  refine order2_a hc d hi hn hcl ha hb hsz (by omega) hP ?_
  rw [hr1]
  simp (disch := first | omega | (simp only [go_sem]; first | done | omega)) only [go_sem]
  refine order2_a hc d (hi2 _) hn (hc2 _) (by omega) hq hsz (by omega) hP ?_
  rw [hr2, List.set_set]
  simp (disch := first | omega | (simp only [go_sem]; first | done | omega)) only [go_sem]
  refine order2_a hc d (hi2 _) hn (hc2 _) (by omega) (by omega) hsz (by omega) hP ?_
  rw [hr3, List.set_set]
  simp (disch := first | omega | (simp only [go_sem]; first | done | omega)) only [go_sem]
  exact Ret.same (by simp) hk
theorem choosePivot_bd (lt : Smp → Smp → Bool) (d : Array Smp) (a b : Nat) (h8 : 8 ≤ b - a) (h50 : b - a < 50) : Go.Sort.choosePivot lt d a b = ((Go.Sort.median lt d (a + (b - a) / 4 * 1) (a + (b - a) / 4 * 2) (a + (b - a) / 4 * 3) 0).1, if (Go.Sort.median lt d (a + (b - a) / 4 * 1) (a + (b - a) / 4 * 2) (a + (b - a) / 4 * 3) 0).2 = 0 then .increasing else .unknown) := by
  have hm := median_bd lt d (a + (b - a) / 4 * 1) (a + (b - a) / 4 * 2) (a + (b - a) / 4 * 3) 0 (b + 1) (by omega) (by omega) (by omega)
  unfold Go.Sort.choosePivot
  dsimp only
  rw [if_pos (show b - a ≥ 8 from h8), if_neg (show ¬ b - a ≥ 50 by omega)]
  generalize Go.Sort.median lt d (a + (b - a) / 4 * 1) (a + (b - a) / 4 * 2) (a + (b - a) / 4 * 3) 0 = r at *
  rw [if_neg (by omega : ¬ r.2 = 12)]
theorem choosePivot_a {f : FuncId} {lt : Smp → Smp → Bool} {P : Smp → Prop} (hc : CmpA f lt P) {i n a b : Nat} (d : Array Smp) (hi : H[i]? = some (rowA d)) (hn : n = d.size) (h8 : 8 ≤ b - a) (h50 : b - a < 50) (hb : b ≤ d.size) (hsz : d.size ≤ 1000000) (hP : ∀ k, k < d.size → P d[k]!)
    (hk : K (.tup [(.c (.int .i64 (((Go.Sort.choosePivot lt d a b).1 : Nat)))), (.c (.int .i64 (if (Go.Sort.choosePivot lt d a b).2 = .increasing then 1 else 0)))]) H) :
    ACalls Try.prog 100 [.c (.sl (some (i, 0)) n), (.c (.int .i64 a)), (.c (.int .i64 b)), .c (.fn f [] [])] H K := by
  have hilt := getElem?_lt hi
  have hm := median_bd lt d (a + (b - a) / 4 * 1) (a + (b - a) / 4 * 2) (a + (b - a) / 4 * 3) 0 b (by omega) (by omega) (by omega)
  rw [choosePivot_bd lt d a b h8 h50] at hk
  generalize hr : Go.Sort.median lt d (a + (b - a) / 4 * 1) (a + (b - a) / 4 * 2) (a + (b - a) / 4 * 3) 0 = r at *
  have e1 : (a : Int) + ((b : Int) - a) / 4 * 1 = ((a + (b - a) / 4 * 1 : Nat) : Int) := by omega
  have e2 : (a : Int) + ((b : Int) - a) / 4 * 2 = ((a + (b - a) / 4 * 2 : Nat) : Int) := by omega
  have e3 : (a : Int) + ((b : Int) - a) / 4 * 3 = ((a + (b - a) / 4 * 3 : Nat) : Int) := by omega
  refine acalls Try.func100 rfl (by kernel_rfl) (by simp (disch := first | omega | (simp only [go_sem]; first | done | omega)) only [go_sem]) (fun hH => ?_)
  simp (disch := first | omega | (simp only [go_sem]; first | done | omega)) only [go_sem]
  rw [e1, e2, e3]
  refine median_a hc d (sw := 0) (get_old hi _) hn (by simp [cellI]) (by omega) (by omega) (by omega) (by omega) hsz (by omega) hP ?_
  rw [hr]
  obtain ⟨p, sw⟩ := r
  dsimp only at hm hk ⊢
  simp (disch := first | omega | (simp only [go_sem]; first | done | omega)) only [go_sem]
  by_cases hs0 : sw = 0
  · subst hs0
    rw [if_pos rfl] at hk
    simp (disch := first | omega | (simp only [go_sem]; first | done | omega)) only [go_sem]
    exact Ret.drop hH (Nat.le_refl _) (by simp [AV.ok, AV.ok1, AC.ok]) (by simpa using hk)
  · rw [if_neg hs0] at hk
    simp (disch := first | omega | (simp only [go_sem]; first | done | omega)) only [go_sem]
    exact Ret.drop hH (Nat.le_refl _) (by simp [AV.ok, AV.ok1, AC.ok]) (by simpa using hk)
/-- whether all is sorted: nothing turns -/
theorem partialIns_few (lt : Smp → Smp → Bool) (d : Array Smp) (a b : Nat) (h50 : b - a < 50) : Go.Sort.partialInsertionSort lt d a b = (d, decide (Go.Sort.scanSorted lt d b (a + 1) = b)) := by
  unfold Go.Sort.partialInsertionSort Go.Sort.partialIns
  dsimp only
  by_cases h : Go.Sort.scanSorted lt d b (a + 1) = b
  · rw [if_pos h, decide_eq_true h]
  · rw [if_neg h, if_pos h50, decide_eq_false h]
theorem partialIns_a {f : FuncId} {lt : Smp → Smp → Bool} {P : Smp → Prop} (hc : CmpA f lt P) {i n a b : Nat} (d : Array Smp) (hi : H[i]? = some (rowA d)) (hn : n = d.size) (hab : a < b) (h50 : b - a < 50) (hb : b ≤ d.size) (hsz : d.size ≤ 1000000) (hP : ∀ k, k < d.size → P d[k]!)
    (hk : K (.c (.bool ((Go.Sort.partialInsertionSort lt d a b).2))) H) :
    ACalls Try.prog 102 [.c (.sl (some (i, 0)) n), (.c (.int .i64 a)), (.c (.int .i64 b)), .c (.fn f [] [])] H K := by
  subst hn
  have hilt := getElem?_lt hi
  have he := hc.he
  rw [partialIns_few lt d a b h50] at hk
  dsimp only at hk
  refine acalls Try.func102 rfl (by kernel_rfl) (by simp (disch := first | omega | (simp only [go_sem]; first | done | omega)) only [go_sem]) (fun hH => ?_)
  simp (disch := first | omega | (simp only [go_sem]; first | done | omega)) only [go_sem]
  refine AWp.loop (H.length) [0, 1, 2, 3] [9, 10] (fun (q : Unit) => True) (fun (q : Unit) => [(9, (.c (.int .i64 ((a : Int) + 1)))), (10, (.c (.int .i64 0)))]) (fun (q : Unit) => H) (fun (q : Unit) => 0) (by kernel_rfl) (fun _ => rfl) (by kernel_rfl) (by simp) (by first | (simp; done) | (simp; omega)) (by (try simp only [List.forall_mem_cons, List.not_mem_nil, false_implies, implies_true, and_true]); (try simp (disch := first | omega | (simp only [go_sem]; first | done | omega)) only [go_sem]); all_goals first | trivial | (simp [AV.ok, AV.ok1, AC.ok]; done) | (simp [AV.ok, AV.ok1, AC.ok]; omega) | (simp [AV.ok, AV.ok1, AC.ok]; assumption) | ((repeat' apply And.intro) <;> first | trivial | (simp [AV.ok, AV.ok1, AC.ok]; done) | (simp [AV.ok, AV.ok1, AC.ok]; omega) | (simp [AV.ok, AV.ok1, AC.ok]; assumption) | (refine grV_ok ?_ _; first | (simp; done) | (simp; omega) | omega))) ?_ (fun q hq _ _ => ?_)
  · exact Next.mk () trivial (by (try simp (disch := first | omega | (simp only [go_sem]; first | done | omega)) only [go_sem]); (first | refine WkL.eq ?_ ?_ | refine WkL.rest (by assumption) ?_ ?_ ?_ | refine WkL.keepL (by assumption) rfl ?_ ?_ ?_ ?_) <;> first | rfl | (simp; done) | (simp; omega) | (simp only [List.cons.injEq, AV.c.injEq, AC.int.injEq, AC.bool.injEq, AC.str.injEq, and_true, true_and, Int.natCast_add, Int.natCast_one, Int.cast_ofNat_Int]; omega) | (simp [AV.ok, AV.ok1, AC.ok]; done) | (simp [AV.ok, AV.ok1, AC.ok]; omega) | (simp only [List.forall_mem_cons, List.not_mem_nil, false_implies, implies_true, and_true]; (repeat' apply And.intro) <;> first | exact okN_map (fun x => by simp [go_sem, AC.pure]) | exact okN_grO (fun x => by simp [go_sem, AC.pure]) | (simp [AObj.okN, AC.ok]; done) | (simp [AObj.okN, AC.ok]; omega)) | (simp [*]; done) | grind)
  simp (disch := first | omega | (simp only [go_sem]; first | done | omega)) only [go_sem]
  refine AWp.loop (H.length) [0, 1, 2, 3, 10] [9] (fun (q : Nat) => a + 1 ≤ q ∧ q ≤ b ∧ Go.Sort.scanSorted lt d b (a + 1) = Go.Sort.scanSorted lt d b q) (fun (q : Nat) => [(9, (.c (.int .i64 q)))]) (fun (q : Nat) => H) (fun (q : Nat) => b - q) (by kernel_rfl) (fun _ => rfl) (by kernel_rfl) (by simp) (by first | (simp; done) | (simp; omega)) (by (try simp only [List.forall_mem_cons, List.not_mem_nil, false_implies, implies_true, and_true]); (try simp (disch := first | omega | (simp only [go_sem]; first | done | omega)) only [go_sem]); all_goals first | trivial | (simp [AV.ok, AV.ok1, AC.ok]; done) | (simp [AV.ok, AV.ok1, AC.ok]; omega) | (simp [AV.ok, AV.ok1, AC.ok]; assumption) | ((repeat' apply And.intro) <;> first | trivial | (simp [AV.ok, AV.ok1, AC.ok]; done) | (simp [AV.ok, AV.ok1, AC.ok]; omega) | (simp [AV.ok, AV.ok1, AC.ok]; assumption) | (refine grV_ok ?_ _; first | (simp; done) | (simp; omega) | omega))) ?_ (fun q hq _ _ => ?_)
  · exact Next.mk (a + 1) ⟨Nat.le_refl _, by omega, rfl⟩ (by (try simp (disch := first | omega | (simp only [go_sem]; first | done | omega)) only [go_sem]); (first | refine WkL.eq ?_ ?_ | refine WkL.rest (by assumption) ?_ ?_ ?_ | refine WkL.keepL (by assumption) rfl ?_ ?_ ?_ ?_) <;> first | rfl | (simp; done) | (simp; omega) | (simp only [List.cons.injEq, AV.c.injEq, AC.int.injEq, AC.bool.injEq, AC.str.injEq, and_true, true_and, Int.natCast_add, Int.natCast_one, Int.cast_ofNat_Int]; omega) | (simp [AV.ok, AV.ok1, AC.ok]; done) | (simp [AV.ok, AV.ok1, AC.ok]; omega) | (simp only [List.forall_mem_cons, List.not_mem_nil, false_implies, implies_true, and_true]; (repeat' apply And.intro) <;> first | exact okN_map (fun x => by simp [go_sem, AC.pure]) | exact okN_grO (fun x => by simp [go_sem, AC.pure]) | (simp [AObj.okN, AC.ok]; done) | (simp [AObj.okN, AC.ok]; omega)) | (simp [*]; done) | grind)
  obtain ⟨q1, q2, q3⟩ := hq
  by_cases hqb : q < b
  · have b1 : q < d.toList.length := by rw [Array.length_toList]; omega
    have b2 : q - 1 < d.toList.length := by omega
    have hx1 : d.toList[q] = d[q]! := arr_at d b1
    have hx2 : d.toList[((q : Int) - 1).toNat]'(by omega) = d[q - 1]! := by
      have e : ((q : Int) - 1).toNat = q - 1 := by omega
      simp only [e]
      exact arr_at d b2
    simp (disch := first | omega | (simp only [go_sem]; first | done | omega)) only [go_sem]
    repeat' (first | ((first | refine acond_d ?_ ?_ | refine acond_b ?_ ?_ | refine ag_d ?_ ?_ | refine ag_n ?_ ?_ | refine ag_bt ?_ ?_ | refine ag_bf ?_ ?_) <;> intro c <;> try simp (disch := first | omega | (simp only [go_sem]; first | done | omega)) only [go_sem, c, he, hx1, hx2, hi]) | ((first | refine w_draw (by kernel_rfl) (by decide +kernel) ?_ | refine hc.hf d[q]! d[q - 1]! _ _ (hP _ (by omega)) (hP _ (by omega)) (fun r hr => ?_)) <;> try simp (disch := first | omega | (simp only [go_sem]; first | done | omega)) only [go_sem, he, hx1, hx2, hi]))
    · have hl : lt d[q]! d[q - 1]! = true := by rw [← hr]; exact decide_eq_true c
      have h0 : Go.Sort.scanSorted lt d b q = q := by rw [Go.Sort.scanSorted, if_neg (by simp [hl])]
      rw [q3, h0, decide_eq_false (by omega)] at hk
      exact Ret.same (Nat.le_refl _) hk
    · have hl : lt d[q]! d[q - 1]! = false := by rw [← hr]; exact decide_eq_false c
      have h0 : Go.Sort.scanSorted lt d b q = Go.Sort.scanSorted lt d b (q + 1) := by
        conv => lhs; rw [Go.Sort.scanSorted, if_pos (by simp [hqb, hl])]
      refine Next.mk (q + 1) ?_ ?_
      · exact ⟨⟨by omega, by omega, by rw [q3, h0]⟩, by omega⟩
      · (try simp (disch := first | omega | (simp only [go_sem]; first | done | omega)) only [go_sem]); (first | refine WkL.eq ?_ ?_ | refine WkL.rest (by assumption) ?_ ?_ ?_ | refine WkL.keepL (by assumption) rfl ?_ ?_ ?_ ?_) <;> first | rfl | (simp; done) | (simp; omega) | (simp only [List.cons.injEq, AV.c.injEq, AC.int.injEq, AC.bool.injEq, AC.str.injEq, and_true, true_and, Int.natCast_add, Int.natCast_one, Int.cast_ofNat_Int]; omega) | (simp [AV.ok, AV.ok1, AC.ok]; done) | (simp [AV.ok, AV.ok1, AC.ok]; omega) | (simp only [List.forall_mem_cons, List.not_mem_nil, false_implies, implies_true, and_true]; (repeat' apply And.intro) <;> first | exact okN_map (fun x => by simp [go_sem, AC.pure]) | exact okN_grO (fun x => by simp [go_sem, AC.pure]) | (simp [AObj.okN, AC.ok]; done) | (simp [AObj.okN, AC.ok]; omega)) | (simp [*]; done) | grind
  · have hqe : q = b := by omega
    have h0 : Go.Sort.scanSorted lt d b q = q := by rw [Go.Sort.scanSorted, if_neg (by simp; omega)]
    rw [q3, h0, decide_eq_true hqe] at hk
    simp (disch := first | omega | (simp only [go_sem]; first | done | omega)) only [go_sem]
    repeat' (first | ((first | refine acond_d ?_ ?_ | refine acond_b ?_ ?_ | refine ag_d ?_ ?_ | refine ag_n ?_ ?_ | refine ag_bt ?_ ?_ | refine ag_bf ?_ ?_) <;> intro c <;> try simp (disch := first | omega | (simp only [go_sem]; first | done | omega)) only [go_sem, c]) | ((first | refine w_draw (by kernel_rfl) (by decide +kernel) ?_) <;> try simp (disch := first | omega | (simp only [go_sem]; first | done | omega)) only [go_sem]))
    exact Ret.same (Nat.le_refl _) hk
end Go.Proofs.Ytmmjphncnnmdaaa
