/- Samples sorted in place: pdqsort, of at most 14 elements. Condition: the comparison is pure, and a strict weak order. -/
import Derived.Test.YtmmjphncnnmdaaaHVPdqE
import Derived.Sort.Walk13a
namespace Go.Proofs.Ytmmjphncnnmdaaa
open Go Go.RowKit
set_option maxRecDepth 100000
set_option linter.all false
set_option maxHeartbeats 1000000
variable {H : Hp} {K : AV → Hp → Prop}
theorem permIn_P {P : Smp → Prop} {a b : Nat} {d d' : Array Smp} (h : Go.Sort.PermIn a b d d') (hb : b ≤ d.size) (hP : ∀ k, k < d.size → P d[k]!) : ∀ k, k < d'.size → P d'[k]! := by
  obtain ⟨h1, h2, h3⟩ := h
  intro k hk
  by_cases ho : k < a ∨ b ≤ k
  · rw [h2 k ho]; exact hP k (by omega)
  · have hm : d'[k]! ∈ (d'.extract a b).toList := by
      rw [getElem!_pos d' k hk]
      rw [Array.mem_toList_iff, Array.mem_iff_getElem]
      refine ⟨k - a, by simp; omega, ?_⟩
      simp only [Array.getElem_extract]
      congr 1
      omega
    have hm2 := h3.subset hm
    rw [Array.mem_toList_iff, Array.mem_iff_getElem] at hm2
    obtain ⟨j, hj, he⟩ := hm2
    rw [← he]
    simp only [Array.getElem_extract]
    have hj2 : a + j < d.size := by simp at hj; omega
    rw [← getElem!_pos d (a + j) hj2]
    exact hP _ hj2
theorem partEq_facts {lt : Smp → Smp → Bool} {P : Smp → Prop} (d : Array Smp) (a b p : Nat) (hap : a ≤ p) (hpb : p < b) (hb : b ≤ d.size) (hP : ∀ k, k < d.size → P d[k]!) :
    a < (Go.Sort.partitionEqual lt d a b p).1 ∧ (Go.Sort.partitionEqual lt d a b p).1 ≤ b ∧ (Go.Sort.partitionEqual lt d a b p).2.size = d.size ∧ ∀ k, k < (Go.Sort.partitionEqual lt d a b p).2.size → P (Go.Sort.partitionEqual lt d a b p).2[k]! := by
  have hb0 : b ≤ (Go.Sort.swp d a p).size := by rw [Go.Sort.size_swp]; exact hb
  obtain ⟨r1, r2, r3, r4, r5⟩ := Go.Sort.partEqLoop_spec lt a b _ (a + 1) (b - 1) (Go.Sort.swp d a p) (Nat.le_refl _) (Nat.lt_succ_self a) (by omega) (by omega) hb0 (fun t h1 h2 => by omega) (fun t h1 h2 => by omega)
  have hq : ∀ k, k < (Go.Sort.swp d a p).size → P (Go.Sort.swp d a p)[k]! := swp_all (by omega) (by omega) hP
  refine ⟨r1, r2, r3.1.trans (Go.Sort.size_swp ..), ?_⟩
  exact permIn_P r3 (by rw [Go.Sort.size_swp]; exact hb) hq
theorem pdqS_a {f : FuncId} {lt : Smp → Smp → Bool} {P : Smp → Prop} (hc : CmpA f lt P) {i n a b l : Nat} (d : Array Smp) (hi : H[i]? = some (rowA d)) (hn : n = d.size) (hab : a ≤ b) (hb : b ≤ d.size) (h12 : b - a ≤ 12) (hl2 : l ≤ 64) (hsz : d.size ≤ 1000000) (hP : ∀ k, k < d.size → P d[k]!)
    (hk : K (.tup []) (H.set i (rowA (Go.Sort.insertionSort lt d a b)))) :
    ACalls Try.prog 84 [.c (.sl (some (i, 0)) n), (.c (.int .i64 a)), (.c (.int .i64 b)), (.c (.int .i64 l)), .c (.fn f [] [])] H K := by
  subst hn
  have hilt := getElem?_lt hi
  have he := hc.he
  refine acallsS Try.func84 rfl (by simp (disch := first | omega | (simp only [go_sem]; first | done | omega)) only [go_sem]) (fun hH => ?_)
  (refine SWp.go (by kernel_rfl) ?_; simp (disch := first | omega | (simp only [go_sem]; first | done | omega)) only [go_sem])
  (refine SWp.go (by kernel_rfl) ?_; simp (disch := first | omega | (simp only [go_sem]; first | done | omega)) only [go_sem])
  refine SWp.inB ?_
  refine SWp.loop (H.length) [0, 4] [1, 2, 3, 10, 11] (fun (s : Unit) => True) (fun (s : Unit) => [(1, (.c (.int .i64 a))), (2, (.c (.int .i64 b))), (3, (.c (.int .i64 l))), (10, (.c (.bool true))), (11, (.c (.bool true)))]) (fun (s : Unit) => H) (fun (s : Unit) => 0) (fun _ => rfl) (by kernel_rfl) (by simp) (by first | (simp; done) | (simp; omega)) (by (try simp only [List.forall_mem_cons, List.not_mem_nil, false_implies, implies_true, and_true]); (try simp (disch := first | omega | (simp only [go_sem]; first | done | omega)) only [go_sem]); all_goals first | trivial | (simp [AV.ok, AV.ok1, AC.ok]; done) | (simp [AV.ok, AV.ok1, AC.ok]; omega) | (simp [AV.ok, AV.ok1, AC.ok]; assumption) | ((repeat' apply And.intro) <;> first | trivial | (simp [AV.ok, AV.ok1, AC.ok]; done) | (simp [AV.ok, AV.ok1, AC.ok]; omega) | (simp [AV.ok, AV.ok1, AC.ok]; assumption) | (refine grV_ok ?_ _; first | (simp; done) | (simp; omega) | omega))) ?_ (fun s _ _ _ => ?_)
  · exact Next.mk () trivial (by (try simp (disch := first | omega | (simp only [go_sem]; first | done | omega)) only [go_sem]); (first | refine WkL.eq ?_ ?_ | refine WkL.rest (by assumption) ?_ ?_ ?_ | refine WkL.keepL (by assumption) rfl ?_ ?_ ?_ ?_) <;> first | rfl | (simp; done) | (simp; omega) | (simp only [List.cons.injEq, AV.c.injEq, AC.int.injEq, AC.bool.injEq, AC.str.injEq, and_true, true_and, Int.natCast_add, Int.natCast_one, Int.cast_ofNat_Int]; omega) | (simp [AV.ok, AV.ok1, AC.ok]; done) | (simp [AV.ok, AV.ok1, AC.ok]; omega) | (simp only [List.forall_mem_cons, List.not_mem_nil, false_implies, implies_true, and_true]; (repeat' apply And.intro) <;> first | exact okN_map (fun x => by simp [go_sem, AC.pure]) | exact okN_grO (fun x => by simp [go_sem, AC.pure]) | (simp [AObj.okN, AC.ok]; done) | (simp [AObj.okN, AC.ok]; omega)) | (simp [*]; done) | grind)
  refine SWp.inB ?_
  refine SWp.of (by kernel_rfl) ?_
  simp (disch := first | omega | (simp only [go_sem]; first | done | omega)) only [go_sem]
  refine insA_a hc d hi rfl hab hb hsz hP ?_
  simp (disch := first | omega | (simp only [go_sem]; first | done | omega)) only [go_sem]
  exact Ret.same (by simp) hk
theorem pdq_a {f : FuncId} {lt : Smp → Smp → Bool} {P : Smp → Prop} (hS : Go.Sort.SWO lt) (hc : CmpA f lt P) {i n a b l : Nat} (d : Array Smp) (hi : H[i]? = some (rowA d)) (hn : n = d.size) (hab : a ≤ b) (hb : b ≤ d.size) (h14 : b - a ≤ 14) (hl : b - a ≤ l + 10) (hl2 : l ≤ 64) (hsz : d.size ≤ 1000000) (hP : ∀ k, k < d.size → P d[k]!)
    (hk : K (.tup []) (H.set i (rowA (Go.Sort.pdq lt d a b l true true)))) :
    ACalls Try.prog 84 [.c (.sl (some (i, 0)) n), (.c (.int .i64 a)), (.c (.int .i64 b)), (.c (.int .i64 l)), .c (.fn f [] [])] H K := by
  subst hn
  have hilt := getElem?_lt hi
  have he := hc.he
  obtain ⟨R, hR⟩ : ∃ R, R = Go.Sort.pdq lt d a b l true true := ⟨_, rfl⟩
  rw [← hR] at hk
  refine acallsS Try.func84 rfl (by simp (disch := first | omega | (simp only [go_sem]; first | done | omega)) only [go_sem]) (fun hH => ?_)
  (refine SWp.go (by kernel_rfl) ?_; simp (disch := first | omega | (simp only [go_sem]; first | done | omega)) only [go_sem])
  (refine SWp.go (by kernel_rfl) ?_; simp (disch := first | omega | (simp only [go_sem]; first | done | omega)) only [go_sem])
  refine SWp.inB ?_
  refine SWp.loop (H.length) [0, 4] [1, 2, 3, 10, 11] (fun (s : Nat × Nat × Nat × Bool × Bool × Array Smp) => s.1 ≤ s.2.1 ∧ s.2.1 - s.1 ≤ 14 ∧ s.2.1 - s.1 ≤ s.2.2.1 + 10 ∧ s.2.2.1 ≤ 64 ∧ (s.2.2.2.1 = false → s.2.1 - s.1 ≤ 13) ∧ s.2.1 ≤ d.size ∧ s.2.2.2.2.2.size = d.size ∧ (∀ k, k < s.2.2.2.2.2.size → P s.2.2.2.2.2[k]!) ∧ Go.Sort.pdq lt s.2.2.2.2.2 s.1 s.2.1 s.2.2.1 s.2.2.2.1 s.2.2.2.2.1 = R) (fun (s : Nat × Nat × Nat × Bool × Bool × Array Smp) => [(1, (.c (.int .i64 (s.1)))), (2, (.c (.int .i64 (s.2.1)))), (3, (.c (.int .i64 (s.2.2.1)))), (10, (.c (.bool (s.2.2.2.1)))), (11, (.c (.bool (s.2.2.2.2.1))))]) (fun (s : Nat × Nat × Nat × Bool × Bool × Array Smp) => H.set i (rowA s.2.2.2.2.2)) (fun (s : Nat × Nat × Nat × Bool × Bool × Array Smp) => s.2.1 - s.1) (fun _ => rfl) (by kernel_rfl) (by simp) (by first | (simp; done) | (simp; omega)) (by (try simp only [List.forall_mem_cons, List.not_mem_nil, false_implies, implies_true, and_true]); (try simp (disch := first | omega | (simp only [go_sem]; first | done | omega)) only [go_sem]); all_goals first | trivial | (simp [AV.ok, AV.ok1, AC.ok]; done) | (simp [AV.ok, AV.ok1, AC.ok]; omega) | (simp [AV.ok, AV.ok1, AC.ok]; assumption) | ((repeat' apply And.intro) <;> first | trivial | (simp [AV.ok, AV.ok1, AC.ok]; done) | (simp [AV.ok, AV.ok1, AC.ok]; omega) | (simp [AV.ok, AV.ok1, AC.ok]; assumption) | (refine grV_ok ?_ _; first | (simp; done) | (simp; omega) | omega))) ?_ (fun s hq _ _ => ?_)
  · refine Next.mk (a, b, l, true, true, d) ⟨hab, h14, hl, hl2, (fun h => by cases h), hb, rfl, hP, hR.symm⟩ ?_
    rw [set_same hi]
    (try simp (disch := first | omega | (simp only [go_sem]; first | done | omega)) only [go_sem]); (first | refine WkL.eq ?_ ?_ | refine WkL.rest (by assumption) ?_ ?_ ?_ | refine WkL.keepL (by assumption) rfl ?_ ?_ ?_ ?_) <;> first | rfl | (simp; done) | (simp; omega) | (simp only [List.cons.injEq, AV.c.injEq, AC.int.injEq, AC.bool.injEq, AC.str.injEq, and_true, true_and, Int.natCast_add, Int.natCast_one, Int.cast_ofNat_Int]; omega) | (simp [AV.ok, AV.ok1, AC.ok]; done) | (simp [AV.ok, AV.ok1, AC.ok]; omega) | (simp only [List.forall_mem_cons, List.not_mem_nil, false_implies, implies_true, and_true]; (repeat' apply And.intro) <;> first | exact okN_map (fun x => by simp [go_sem, AC.pure]) | exact okN_grO (fun x => by simp [go_sem, AC.pure]) | (simp [AObj.okN, AC.ok]; done) | (simp [AObj.okN, AC.ok]; omega)) | (simp [*]; done) | grind
  obtain ⟨a', b', l', wb, wp, E⟩ := s
  dsimp only at hq ⊢
  obtain ⟨q1, q2, q3, q4, q5, q6, q7, q8, q9⟩ := hq
  refine SWp.inB ?_
  by_cases h12 : b' - a' ≤ 12
  · rw [Go.Sort.pdq_small h12] at q9
    refine SWp.of (by kernel_rfl) ?_
    simp (disch := first | omega | (simp only [go_sem]; first | done | omega)) only [go_sem]
    refine insA_a hc E (List.getElem?_set_self hilt) q7.symm q1 (by omega) (by omega) q8 ?_
    rw [q9, List.set_set]
    simp (disch := first | omega | (simp only [go_sem]; first | done | omega)) only [go_sem]
    exact Ret.same (by simp) hk
  have hl0 : ¬ l' = 0 := by omega
  obtain ⟨V, hV⟩ : ∃ V, V = Go.Sort.rd lt E a' b' l' wb wp := ⟨_, rfl⟩
  have hab' : a' < b' := by omega
  have hbr : Go.Sort.PermIn a' b' E V.d1 := by
    rw [hV]
    exact Go.Sort.step_break E (Nat.le_of_lt hab') (by omega) ((!wb) = true)
  have hVs : V.d1.size = E.size := hbr.1
  have hVP : ∀ k, k < V.d1.size → P V.d1[k]! := permIn_P hbr (by omega) q8
  have hlim : V.lim ≤ l' ∧ l' ≤ V.lim + 1 := by
    rw [hV]
    show (if (!wb) = true then l' - 1 else l') ≤ l' ∧ l' ≤ (if (!wb) = true then l' - 1 else l') + 1
    split <;> omega
  have hc2 : V.c = Go.Sort.choosePivot lt V.d1 a' b' := by rw [hV]; rfl
  have hnd : V.c.2 ≠ .decreasing := by
    rw [hc2, choosePivot_bd _ _ _ _ (by omega) (by omega)]
    dsimp only
    split <;> (intro h; cases h)
  have hcr := Go.Sort.choosePivot_holds lt V.d1 a' b' hab'
  rw [← hc2] at hcr
  obtain ⟨hd2, hpv, hhi⟩ := Go.Sort.rd_not (lt := lt) (d := E) (a := a') (b := b') (limit := l') (wb := wb) (wp := wp) (by rw [← hV]; exact hnd)
  rw [← hV] at hd2 hpv hhi
  have hpi1 : V.pi.1 = V.d1 := by
    cases hcn : (wb && wp && decide (V.hint = .increasing)) with
    | true =>
      have h := Go.Sort.rd_pi_yes (lt := lt) (d := E) (a := a') (b := b') (limit := l') (wb := wb) (wp := wp) (by rw [← hV]; exact hcn)
      rw [← hV] at h
      rw [h, partialIns_few _ _ _ _ (by omega)]
      exact hd2
    | false =>
      have h := Go.Sort.rd_pi_no (lt := lt) (d := E) (a := a') (b := b') (limit := l') (wb := wb) (wp := wp) (by rw [← hV]; exact hcn)
      rw [← hV] at h
      rw [h]
      exact hd2
  (refine SWp.go (by kernel_rfl) ?_; simp (disch := first | omega | (simp only [go_sem]; first | done | omega)) only [go_sem])
  (refine SWp.go (by kernel_rfl) ?_; simp (disch := first | omega | (simp only [go_sem]; first | done | omega)) only [go_sem])
  (refine SWp.go (by kernel_rfl) ?_; simp (disch := first | omega | (simp only [go_sem]; first | done | omega)) only [go_sem])
  refine SWp.cut (H.length) [0, 1, 2, 4, 10, 11, 12] [3] (fun (_u : Unit) => True) (fun (_u : Unit) => [(3, (.c (.int .i64 (V.lim))))]) (fun (_u : Unit) => H.set i (rowA V.d1)) (fun _ => rfl) (by kernel_rfl) (by simp) (by first | (simp; done) | (simp; omega)) (by (try simp only [List.forall_mem_cons, List.not_mem_nil, false_implies, implies_true, and_true]); (try simp (disch := first | omega | (simp only [go_sem]; first | done | omega)) only [go_sem]); all_goals first | trivial | (simp [AV.ok, AV.ok1, AC.ok]; done) | (simp [AV.ok, AV.ok1, AC.ok]; omega) | (simp [AV.ok, AV.ok1, AC.ok]; assumption) | ((repeat' apply And.intro) <;> first | trivial | (simp [AV.ok, AV.ok1, AC.ok]; done) | (simp [AV.ok, AV.ok1, AC.ok]; omega) | (simp [AV.ok, AV.ok1, AC.ok]; assumption) | (refine grV_ok ?_ _; first | (simp; done) | (simp; omega) | omega))) (SWp.of (by kernel_rfl) ?_) (fun _ _ _ _ => ?_)
  · cases wb with
    | true =>
      have e1 : V.d1 = E := by rw [hV]; rfl
      have e2 : V.lim = l' := by rw [hV]; rfl
      rw [e1, e2]
      simp (disch := first | omega | (simp only [go_sem]; first | done | omega)) only [go_sem]
      exact Next.mk () trivial (by (try simp (disch := first | omega | (simp only [go_sem]; first | done | omega)) only [go_sem]); (first | refine WkL.eq ?_ ?_ | refine WkL.rest (by assumption) ?_ ?_ ?_ | refine WkL.keepL (by assumption) rfl ?_ ?_ ?_ ?_) <;> first | rfl | (simp; done) | (simp; omega) | (simp only [List.cons.injEq, AV.c.injEq, AC.int.injEq, AC.bool.injEq, AC.str.injEq, and_true, true_and, Int.natCast_add, Int.natCast_one, Int.cast_ofNat_Int]; omega) | (simp [AV.ok, AV.ok1, AC.ok]; done) | (simp [AV.ok, AV.ok1, AC.ok]; omega) | (simp only [List.forall_mem_cons, List.not_mem_nil, false_implies, implies_true, and_true]; (repeat' apply And.intro) <;> first | exact okN_map (fun x => by simp [go_sem, AC.pure]) | exact okN_grO (fun x => by simp [go_sem, AC.pure]) | (simp [AObj.okN, AC.ok]; done) | (simp [AObj.okN, AC.ok]; omega)) | (simp [*]; done) | grind)
    | false =>
      obtain rfl : b' = a' + 13 := by have := q5 rfl; omega
      have e1 : V.d1 = bpD E a' 3 := by rw [hV, ← bp_eq]; rfl
      have e2 : V.lim = l' - 1 := by rw [hV]; rfl
      simp (disch := first | omega | (simp only [go_sem]; first | done | omega)) only [go_sem]
      refine breakP_a (a := a') E (List.getElem?_set_self hilt) q7.symm (by omega) (by omega) ?_
      rw [← e1, List.set_set, e2]
      simp (disch := first | omega | (simp only [go_sem]; first | done | omega)) only [go_sem]
      exact Next.mk () trivial (by (try simp (disch := first | omega | (simp only [go_sem]; first | done | omega)) only [go_sem]); (first | refine WkL.eq ?_ ?_ | refine WkL.rest (by assumption) ?_ ?_ ?_ | refine WkL.keepL (by assumption) rfl ?_ ?_ ?_ ?_) <;> first | rfl | (simp; done) | (simp; omega) | (simp only [List.cons.injEq, AV.c.injEq, AC.int.injEq, AC.bool.injEq, AC.str.injEq, and_true, true_and, Int.natCast_add, Int.natCast_one, Int.cast_ofNat_Int]; omega) | (simp [AV.ok, AV.ok1, AC.ok]; done) | (simp [AV.ok, AV.ok1, AC.ok]; omega) | (simp only [List.forall_mem_cons, List.not_mem_nil, false_implies, implies_true, and_true]; (repeat' apply And.intro) <;> first | exact okN_map (fun x => by simp [go_sem, AC.pure]) | exact okN_grO (fun x => by simp [go_sem, AC.pure]) | (simp [AObj.okN, AC.ok]; done) | (simp [AObj.okN, AC.ok]; omega)) | (simp [*]; done) | grind)
  (refine SWp.go (by kernel_rfl) ?_; simp (disch := first | omega | (simp only [go_sem]; first | done | omega)) only [go_sem])
  refine choosePivot_a (a := a') (b := b') hc V.d1 (List.getElem?_set_self hilt) (by omega) (by omega) (by omega) (by omega) (by omega) hVP ?_
  rw [← hc2]
  simp (disch := first | omega | (simp only [go_sem]; first | done | omega)) only [go_sem]
  refine SWp.cut (H.length) [0, 1, 2, 3, 4, 10, 11, 12] [13, 14] (fun (_u : Unit) => True) (fun (_u : Unit) => [(13, (.c (.int .i64 (V.c.1)))), (14, (.c (.int .i64 (if V.c.2 = .increasing then 1 else 0))))]) (fun (_u : Unit) => H.set i (rowA V.d1)) (fun _ => rfl) (by kernel_rfl) (by simp) (by first | (simp; done) | (simp; omega)) (by (try simp only [List.forall_mem_cons, List.not_mem_nil, false_implies, implies_true, and_true]); (try simp (disch := first | omega | (simp only [go_sem]; first | done | omega)) only [go_sem]); all_goals first | trivial | (simp [AV.ok, AV.ok1, AC.ok]; done) | (simp [AV.ok, AV.ok1, AC.ok]; omega) | (simp [AV.ok, AV.ok1, AC.ok]; assumption) | ((repeat' apply And.intro) <;> first | trivial | (simp [AV.ok, AV.ok1, AC.ok]; done) | (simp [AV.ok, AV.ok1, AC.ok]; omega) | (simp [AV.ok, AV.ok1, AC.ok]; assumption) | (refine grV_ok ?_ _; first | (simp; done) | (simp; omega) | omega))) (SWp.of (by kernel_rfl) ?_) (fun _ _ _ _ => ?_)
  · by_cases hin : V.c.2 = .increasing
    · simp (disch := first | omega | (simp only [go_sem]; first | done | omega)) only [go_sem, hin]
      exact Next.mk () trivial (by (try simp (disch := first | omega | (simp only [go_sem]; first | done | omega)) only [go_sem]); (first | refine WkL.eq ?_ ?_ | refine WkL.rest (by assumption) ?_ ?_ ?_ | refine WkL.keepL (by assumption) rfl ?_ ?_ ?_ ?_) <;> first | rfl | (simp; done) | (simp; omega) | (simp only [List.cons.injEq, AV.c.injEq, AC.int.injEq, AC.bool.injEq, AC.str.injEq, and_true, true_and, Int.natCast_add, Int.natCast_one, Int.cast_ofNat_Int]; omega) | (simp [AV.ok, AV.ok1, AC.ok]; done) | (simp [AV.ok, AV.ok1, AC.ok]; omega) | (simp only [List.forall_mem_cons, List.not_mem_nil, false_implies, implies_true, and_true]; (repeat' apply And.intro) <;> first | exact okN_map (fun x => by simp [go_sem, AC.pure]) | exact okN_grO (fun x => by simp [go_sem, AC.pure]) | (simp [AObj.okN, AC.ok]; done) | (simp [AObj.okN, AC.ok]; omega)) | (simp [*]; done) | grind)
    · simp (disch := first | omega | (simp only [go_sem]; first | done | omega)) only [go_sem, hin]
      exact Next.mk () trivial (by (try simp (disch := first | omega | (simp only [go_sem]; first | done | omega)) only [go_sem]); (first | refine WkL.eq ?_ ?_ | refine WkL.rest (by assumption) ?_ ?_ ?_ | refine WkL.keepL (by assumption) rfl ?_ ?_ ?_ ?_) <;> first | rfl | (simp; done) | (simp; omega) | (simp only [List.cons.injEq, AV.c.injEq, AC.int.injEq, AC.bool.injEq, AC.str.injEq, and_true, true_and, Int.natCast_add, Int.natCast_one, Int.cast_ofNat_Int]; omega) | (simp [AV.ok, AV.ok1, AC.ok]; done) | (simp [AV.ok, AV.ok1, AC.ok]; omega) | (simp only [List.forall_mem_cons, List.not_mem_nil, false_implies, implies_true, and_true]; (repeat' apply And.intro) <;> first | exact okN_map (fun x => by simp [go_sem, AC.pure]) | exact okN_grO (fun x => by simp [go_sem, AC.pure]) | (simp [AObj.okN, AC.ok]; done) | (simp [AObj.okN, AC.ok]; omega)) | (simp [*]; done) | grind)
  refine SWp.cut (H.length) [0, 1, 2, 3, 4, 10, 11, 12, 13] [] (fun (_u : Unit) => V.pi.2 = false) (fun (_u : Unit) => []) (fun (_u : Unit) => H.set i (rowA V.d1)) (fun _ => rfl) (by kernel_rfl) (by simp) (by first | (simp; done) | (simp; omega)) (by (try simp only [List.forall_mem_cons, List.not_mem_nil, false_implies, implies_true, and_true]); (try simp (disch := first | omega | (simp only [go_sem]; first | done | omega)) only [go_sem]); all_goals first | trivial | (simp [AV.ok, AV.ok1, AC.ok]; done) | (simp [AV.ok, AV.ok1, AC.ok]; omega) | (simp [AV.ok, AV.ok1, AC.ok]; assumption) | ((repeat' apply And.intro) <;> first | trivial | (simp [AV.ok, AV.ok1, AC.ok]; done) | (simp [AV.ok, AV.ok1, AC.ok]; omega) | (simp [AV.ok, AV.ok1, AC.ok]; assumption) | (refine grV_ok ?_ _; first | (simp; done) | (simp; omega) | omega))) (SWp.of (by kernel_rfl) ?_) (fun _ hpf _ _ => ?_)
  · have hno : ∀ (_ : (wb && wp && decide (V.c.2 = .increasing)) = false), V.pi.2 = false := by
      intro hcn
      rw [← hhi] at hcn
      have h := Go.Sort.rd_pi_no (lt := lt) (d := E) (a := a') (b := b') (limit := l') (wb := wb) (wp := wp) (by rw [← hV]; exact hcn)
      rw [← hV] at h
      rw [h]
    by_cases hin : V.c.2 = .increasing
    · cases wb with
      | false =>
        simp (disch := first | omega | (simp only [go_sem]; first | done | omega)) only [go_sem, hin]
        exact Next.mk () (hno (by simp)) (by (try simp (disch := first | omega | (simp only [go_sem]; first | done | omega)) only [go_sem]); (first | refine WkL.eq ?_ ?_ | refine WkL.rest (by assumption) ?_ ?_ ?_ | refine WkL.keepL (by assumption) rfl ?_ ?_ ?_ ?_) <;> first | rfl | (simp; done) | (simp; omega) | (simp only [List.cons.injEq, AV.c.injEq, AC.int.injEq, AC.bool.injEq, AC.str.injEq, and_true, true_and, Int.natCast_add, Int.natCast_one, Int.cast_ofNat_Int]; omega) | (simp [AV.ok, AV.ok1, AC.ok]; done) | (simp [AV.ok, AV.ok1, AC.ok]; omega) | (simp only [List.forall_mem_cons, List.not_mem_nil, false_implies, implies_true, and_true]; (repeat' apply And.intro) <;> first | exact okN_map (fun x => by simp [go_sem, AC.pure]) | exact okN_grO (fun x => by simp [go_sem, AC.pure]) | (simp [AObj.okN, AC.ok]; done) | (simp [AObj.okN, AC.ok]; omega)) | (simp [*]; done) | grind)
      | true =>
        cases wp with
        | false =>
          simp (disch := first | omega | (simp only [go_sem]; first | done | omega)) only [go_sem, hin]
          exact Next.mk () (hno (by simp)) (by (try simp (disch := first | omega | (simp only [go_sem]; first | done | omega)) only [go_sem]); (first | refine WkL.eq ?_ ?_ | refine WkL.rest (by assumption) ?_ ?_ ?_ | refine WkL.keepL (by assumption) rfl ?_ ?_ ?_ ?_) <;> first | rfl | (simp; done) | (simp; omega) | (simp only [List.cons.injEq, AV.c.injEq, AC.int.injEq, AC.bool.injEq, AC.str.injEq, and_true, true_and, Int.natCast_add, Int.natCast_one, Int.cast_ofNat_Int]; omega) | (simp [AV.ok, AV.ok1, AC.ok]; done) | (simp [AV.ok, AV.ok1, AC.ok]; omega) | (simp only [List.forall_mem_cons, List.not_mem_nil, false_implies, implies_true, and_true]; (repeat' apply And.intro) <;> first | exact okN_map (fun x => by simp [go_sem, AC.pure]) | exact okN_grO (fun x => by simp [go_sem, AC.pure]) | (simp [AObj.okN, AC.ok]; done) | (simp [AObj.okN, AC.ok]; omega)) | (simp [*]; done) | grind)
        | true =>
          have hpp : V.pi = Go.Sort.partialInsertionSort lt V.d1 a' b' := by
            have h := Go.Sort.rd_pi_yes (lt := lt) (d := E) (a := a') (b := b') (limit := l') (wb := true) (wp := true) (by rw [← hV, hhi, hin]; rfl)
            rw [← hV, hd2] at h
            exact h
          simp (disch := first | omega | (simp only [go_sem]; first | done | omega)) only [go_sem, hin]
          refine partialIns_a (a := a') (b := b') hc V.d1 (List.getElem?_set_self hilt) (by omega) hab' (by omega) (by omega) (by omega) hVP ?_
          rw [← hpp]
          by_cases hp2 : V.pi.2 = true
          · simp (disch := first | omega | (simp only [go_sem]; first | done | omega)) only [go_sem, hp2]
            have hd := Go.Sort.pdq_done (lt := lt) (d := E) (a := a') (b := b') (limit := l') (wb := true) (wp := true) h12 hl0 (by rw [← hV]; exact hp2)
            rw [q9, ← hV, hpi1] at hd
            rw [hd] at hk
            exact Ret.same (by simp) hk
          · have hp3 : V.pi.2 = false := by simpa using hp2
            simp (disch := first | omega | (simp only [go_sem]; first | done | omega)) only [go_sem, hp3]
            exact Next.mk () (by first | exact hp3 | trivial) (by (try simp (disch := first | omega | (simp only [go_sem]; first | done | omega)) only [go_sem]); (first | refine WkL.eq ?_ ?_ | refine WkL.rest (by assumption) ?_ ?_ ?_ | refine WkL.keepL (by assumption) rfl ?_ ?_ ?_ ?_) <;> first | rfl | (simp; done) | (simp; omega) | (simp only [List.cons.injEq, AV.c.injEq, AC.int.injEq, AC.bool.injEq, AC.str.injEq, and_true, true_and, Int.natCast_add, Int.natCast_one, Int.cast_ofNat_Int]; omega) | (simp [AV.ok, AV.ok1, AC.ok]; done) | (simp [AV.ok, AV.ok1, AC.ok]; omega) | (simp only [List.forall_mem_cons, List.not_mem_nil, false_implies, implies_true, and_true]; (repeat' apply And.intro) <;> first | exact okN_map (fun x => by simp [go_sem, AC.pure]) | exact okN_grO (fun x => by simp [go_sem, AC.pure]) | (simp [AObj.okN, AC.ok]; done) | (simp [AObj.okN, AC.ok]; omega)) | (simp [*]; done) | grind)
    · simp (disch := first | omega | (simp only [go_sem]; first | done | omega)) only [go_sem, hin]
      repeat' (first | ((first | refine acond_d ?_ ?_ | refine acond_b ?_ ?_ | refine ag_d ?_ ?_ | refine ag_n ?_ ?_ | refine ag_bt ?_ ?_ | refine ag_bf ?_ ?_) <;> intro c <;> try simp (disch := first | omega | (simp only [go_sem]; first | done | omega)) only [go_sem, c]) | ((first | refine w_draw (by kernel_rfl) (by decide +kernel) ?_) <;> try simp (disch := first | omega | (simp only [go_sem]; first | done | omega)) only [go_sem]))
      all_goals exact Next.mk () (hno (by simp [hin])) (by (try simp (disch := first | omega | (simp only [go_sem]; first | done | omega)) only [go_sem]); (first | refine WkL.eq ?_ ?_ | refine WkL.rest (by assumption) ?_ ?_ ?_ | refine WkL.keepL (by assumption) rfl ?_ ?_ ?_ ?_) <;> first | rfl | (simp; done) | (simp; omega) | (simp only [List.cons.injEq, AV.c.injEq, AC.int.injEq, AC.bool.injEq, AC.str.injEq, and_true, true_and, Int.natCast_add, Int.natCast_one, Int.cast_ofNat_Int]; omega) | (simp [AV.ok, AV.ok1, AC.ok]; done) | (simp [AV.ok, AV.ok1, AC.ok]; omega) | (simp only [List.forall_mem_cons, List.not_mem_nil, false_implies, implies_true, and_true]; (repeat' apply And.intro) <;> first | exact okN_map (fun x => by simp [go_sem, AC.pure]) | exact okN_grO (fun x => by simp [go_sem, AC.pure]) | (simp [AObj.okN, AC.ok]; done) | (simp [AObj.okN, AC.ok]; omega)) | (simp [*]; done) | grind)
  obtain ⟨cnd, hcnd⟩ : ∃ c, c = (decide (a' > 0) && !lt V.pi.1[a' - 1]! V.pi.1[V.pivot]!) := ⟨_, rfl⟩
  rw [hpi1, hpv] at hcnd
  have hpl : V.c.1 < V.d1.toList.length := by rw [Array.length_toList]; omega
  have hxp : V.d1.toList[V.c.1] = V.d1[V.c.1]! := arr_at V.d1 hpl
  refine SWp.cut (H.length) [0, 2, 3, 4, 10, 11, 12, 13] [1] (fun (_u : Unit) => cnd = false) (fun (_u : Unit) => [(1, (.c (.int .i64 a')))]) (fun (_u : Unit) => H.set i (rowA V.d1)) (fun _ => rfl) (by kernel_rfl) (by simp) (by first | (simp; done) | (simp; omega)) (by (try simp only [List.forall_mem_cons, List.not_mem_nil, false_implies, implies_true, and_true]); (try simp (disch := first | omega | (simp only [go_sem]; first | done | omega)) only [go_sem]); all_goals first | trivial | (simp [AV.ok, AV.ok1, AC.ok]; done) | (simp [AV.ok, AV.ok1, AC.ok]; omega) | (simp [AV.ok, AV.ok1, AC.ok]; assumption) | ((repeat' apply And.intro) <;> first | trivial | (simp [AV.ok, AV.ok1, AC.ok]; done) | (simp [AV.ok, AV.ok1, AC.ok]; omega) | (simp [AV.ok, AV.ok1, AC.ok]; assumption) | (refine grV_ok ?_ _; first | (simp; done) | (simp; omega) | omega))) (SWp.of (by kernel_rfl) ?_) (fun _ hcf _ _ => ?_)
  · by_cases ha0 : a' = 0
    · subst ha0
      simp (disch := first | omega | (simp only [go_sem]; first | done | omega)) only [go_sem]
      repeat' (first | ((first | refine acond_d ?_ ?_ | refine acond_b ?_ ?_ | refine ag_d ?_ ?_ | refine ag_n ?_ ?_ | refine ag_bt ?_ ?_ | refine ag_bf ?_ ?_) <;> intro c <;> try simp (disch := first | omega | (simp only [go_sem]; first | done | omega)) only [go_sem, c]) | ((first | refine w_draw (by kernel_rfl) (by decide +kernel) ?_) <;> try simp (disch := first | omega | (simp only [go_sem]; first | done | omega)) only [go_sem]))
      all_goals exact Next.mk () (by first | trivial | (rw [hcnd]; rfl)) (by (try simp (disch := first | omega | (simp only [go_sem]; first | done | omega)) only [go_sem]); (first | refine WkL.eq ?_ ?_ | refine WkL.rest (by assumption) ?_ ?_ ?_ | refine WkL.keepL (by assumption) rfl ?_ ?_ ?_ ?_) <;> first | rfl | (simp; done) | (simp; omega) | (simp only [List.cons.injEq, AV.c.injEq, AC.int.injEq, AC.bool.injEq, AC.str.injEq, and_true, true_and, Int.natCast_add, Int.natCast_one, Int.cast_ofNat_Int]; omega) | (simp [AV.ok, AV.ok1, AC.ok]; done) | (simp [AV.ok, AV.ok1, AC.ok]; omega) | (simp only [List.forall_mem_cons, List.not_mem_nil, false_implies, implies_true, and_true]; (repeat' apply And.intro) <;> first | exact okN_map (fun x => by simp [go_sem, AC.pure]) | exact okN_grO (fun x => by simp [go_sem, AC.pure]) | (simp [AObj.okN, AC.ok]; done) | (simp [AObj.okN, AC.ok]; omega)) | (simp [*]; done) | grind)
    · have ha1 : a' - 1 < V.d1.toList.length := by rw [Array.length_toList]; omega
      have hx1 : V.d1.toList[((a' : Int) - 1).toNat]'(by omega) = V.d1[a' - 1]! := by
        have e : ((a' : Int) - 1).toNat = a' - 1 := by omega
        simp only [e]
        exact arr_at V.d1 ha1
      have hap : 0 < a' := by omega
      simp (disch := first | omega | (simp only [go_sem]; first | done | omega)) only [go_sem]
      repeat' (first | ((first | refine acond_d ?_ ?_ | refine acond_b ?_ ?_ | refine ag_d ?_ ?_ | refine ag_n ?_ ?_ | refine ag_bt ?_ ?_ | refine ag_bf ?_ ?_) <;> intro c <;> try simp (disch := first | omega | (simp only [go_sem]; first | done | omega)) only [go_sem, c, he, hx1, hxp]) | ((first | refine w_draw (by kernel_rfl) (by decide +kernel) ?_ | refine hc.hf V.d1[a' - 1]! V.d1[V.c.1]! _ _ (hVP _ (by omega)) (hVP _ (by omega)) (fun r hr => ?_)) <;> try simp (disch := first | omega | (simp only [go_sem]; first | done | omega)) only [go_sem, he, hx1, hxp]))
      · exact Next.mk () (by rw [hcnd, ← hr, decide_eq_true c]; simp) (by (try simp (disch := first | omega | (simp only [go_sem]; first | done | omega)) only [go_sem]); (first | refine WkL.eq ?_ ?_ | refine WkL.rest (by assumption) ?_ ?_ ?_ | refine WkL.keepL (by assumption) rfl ?_ ?_ ?_ ?_) <;> first | rfl | (simp; done) | (simp; omega) | (simp only [List.cons.injEq, AV.c.injEq, AC.int.injEq, AC.bool.injEq, AC.str.injEq, and_true, true_and, Int.natCast_add, Int.natCast_one, Int.cast_ofNat_Int]; omega) | (simp [AV.ok, AV.ok1, AC.ok]; done) | (simp [AV.ok, AV.ok1, AC.ok]; omega) | (simp only [List.forall_mem_cons, List.not_mem_nil, false_implies, implies_true, and_true]; (repeat' apply And.intro) <;> first | exact okN_map (fun x => by simp [go_sem, AC.pure]) | exact okN_grO (fun x => by simp [go_sem, AC.pure]) | (simp [AObj.okN, AC.ok]; done) | (simp [AObj.okN, AC.ok]; omega)) | (simp [*]; done) | grind)
      · have hct : cnd = true := by rw [hcnd, ← hr, decide_eq_false c]; simp [hap]
        obtain ⟨M, hM⟩ : ∃ M, M = Go.Sort.partitionEqual lt V.d1 a' b' V.c.1 := ⟨_, rfl⟩
        obtain ⟨m1, m2, m3, m4⟩ := partEq_facts (lt := lt) (P := P) V.d1 a' b' V.c.1 hcr.1 hcr.2 (by omega) hVP
        rw [← hM] at m1 m2 m3 m4
        have hq := Go.Sort.pdq_eq (lt := lt) (d := E) (a := a') (b := b') (limit := l') (wb := wb) (wp := wp) h12 hl0 (by rw [← hV]; exact hpf) (by rw [← hV, hpi1, hpv, ← hcnd]; exact hct) (by rw [← hV, hpi1, hpv, ← hM]; exact ⟨m1, m2⟩)
        rw [q9, ← hV, hpi1, hpv, ← hM] at hq
        refine partitionEqual_a (a := a') (b := b') hc V.d1 (List.getElem?_set_self hilt) (by omega) hcr.1 hcr.2 (by omega) (by omega) hVP ?_
        rw [← hM, List.set_set]
        simp (disch := first | omega | (simp only [go_sem]; first | done | omega)) only [go_sem]
        refine Next.mk (M.1, b', V.lim, wb, wp, M.2) ⟨⟨m2, by dsimp only; omega, by dsimp only; omega, by dsimp only; omega, ?_, by dsimp only; omega, by dsimp only; omega, m4, hq.symm⟩, by dsimp only; omega⟩ (by (try simp (disch := first | omega | (simp only [go_sem]; first | done | omega)) only [go_sem]); (first | refine WkL.eq ?_ ?_ | refine WkL.rest (by assumption) ?_ ?_ ?_ | refine WkL.keepL (by assumption) rfl ?_ ?_ ?_ ?_) <;> first | rfl | (simp; done) | (simp; omega) | (simp only [List.cons.injEq, AV.c.injEq, AC.int.injEq, AC.bool.injEq, AC.str.injEq, and_true, true_and, Int.natCast_add, Int.natCast_one, Int.cast_ofNat_Int]; omega) | (simp [AV.ok, AV.ok1, AC.ok]; done) | (simp [AV.ok, AV.ok1, AC.ok]; omega) | (simp only [List.forall_mem_cons, List.not_mem_nil, false_implies, implies_true, and_true]; (repeat' apply And.intro) <;> first | exact okN_map (fun x => by simp [go_sem, AC.pure]) | exact okN_grO (fun x => by simp [go_sem, AC.pure]) | (simp [AObj.okN, AC.ok]; done) | (simp [AObj.okN, AC.ok]; omega)) | (simp [*]; done) | grind)
        intro hw
        have := q5 hw
        dsimp only
        omega
  obtain ⟨M, hM⟩ : ∃ M, M = Go.Sort.partition lt V.d1 a' b' V.c.1 := ⟨_, rfl⟩
  obtain ⟨m1, m2, m3, _, _⟩ := Go.Sort.partition_holds lt hS V.d1 a' b' V.c.1 hcr.1 hcr.2 (by omega)
  rw [← hM] at m1 m2 m3
  have m4 : M.2.2.size = V.d1.size := m3.1
  have m5 := permIn_P m3 (by omega) hVP
  have h2f : (decide (a' > 0) && !lt (Go.Sort.rd lt E a' b' l' wb wp).pi.1[a' - 1]! (Go.Sort.rd lt E a' b' l' wb wp).pi.1[(Go.Sort.rd lt E a' b' l' wb wp).pivot]!) = false := by
    rw [← hV, hpi1, hpv, ← hcnd]; exact hcf
  have h1f : (Go.Sort.rd lt E a' b' l' wb wp).pi.2 = false := by rw [← hV]; exact hpf
  refine SWp.of (by kernel_rfl) ?_
  simp (disch := first | omega | (simp only [go_sem]; first | done | omega)) only [go_sem]
  refine partition_a (a := a') (b := b') hc V.d1 (List.getElem?_set_self hilt) (by omega) hcr.1 hcr.2 (by omega) (by omega) hVP ?_
  rw [← hM, List.set_set]
  by_cases hlr : M.1 - a' < b' - M.1
  · have hq := Go.Sort.pdq_left (lt := lt) (d := E) (a := a') (b := b') (limit := l') (wb := wb) (wp := wp) h12 hl0 h1f h2f (by rw [← hV, hpi1, hpv, ← hM]; exact ⟨m1, m2⟩) (by rw [← hV, hpi1, hpv, ← hM]; exact hlr)
    rw [q9, ← hV, hpi1, hpv, ← hM, Go.Sort.pdq_small (show M.1 - a' ≤ 12 by omega)] at hq
    obtain ⟨Z, hZ⟩ : ∃ Z, Z = Go.Sort.insertionSort lt M.2.2 a' M.1 := ⟨_, rfl⟩
    obtain ⟨z1, _⟩ := Go.Sort.insertionSort_holds hS M.2.2 a' M.1 m1 (by omega)
    have z2 := permIn_P z1 (by omega) m5
    have z3 := z1.1
    rw [← hZ] at z2 z3 hq
    simp (disch := first | omega | (simp only [go_sem]; first | done | omega)) only [go_sem]
    refine pdqS_a (a := a') (b := M.1) hc M.2.2 (List.getElem?_set_self hilt) (by omega) m1 (by omega) (by omega) (by omega) (by omega) m5 ?_
    rw [← hZ, List.set_set]
    simp (disch := first | omega | (simp only [go_sem]; first | done | omega)) only [go_sem]
    have eb : decide (((b' : Int) - a') / 8 ≤ (M.1 : Int) - a') = decide (M.1 - a' ≥ (b' - a') / 8) := by rw [decide_eq_decide]; omega
    refine Next.mk (M.1 + 1, b', V.lim, decide (M.1 - a' ≥ (b' - a') / 8), M.2.1, Z) ⟨⟨by dsimp only; omega, by dsimp only; omega, by dsimp only; omega, by dsimp only; omega, ?_, by dsimp only; omega, by dsimp only; omega, z2, hq.symm⟩, by dsimp only; omega⟩ ?_
    · intro _
      dsimp only
      omega
    · dsimp only
      rw [← eb]
      (try simp (disch := first | omega | (simp only [go_sem]; first | done | omega)) only [go_sem]); (first | refine WkL.eq ?_ ?_ | refine WkL.rest (by assumption) ?_ ?_ ?_ | refine WkL.keepL (by assumption) rfl ?_ ?_ ?_ ?_) <;> first | rfl | (simp; done) | (simp; omega) | (simp only [List.cons.injEq, AV.c.injEq, AC.int.injEq, AC.bool.injEq, AC.str.injEq, and_true, true_and, Int.natCast_add, Int.natCast_one, Int.cast_ofNat_Int]; omega) | (simp [AV.ok, AV.ok1, AC.ok]; done) | (simp [AV.ok, AV.ok1, AC.ok]; omega) | (simp only [List.forall_mem_cons, List.not_mem_nil, false_implies, implies_true, and_true]; (repeat' apply And.intro) <;> first | exact okN_map (fun x => by simp [go_sem, AC.pure]) | exact okN_grO (fun x => by simp [go_sem, AC.pure]) | (simp [AObj.okN, AC.ok]; done) | (simp [AObj.okN, AC.ok]; omega)) | (simp [*]; done) | grind
  · have hq := Go.Sort.pdq_right (lt := lt) (d := E) (a := a') (b := b') (limit := l') (wb := wb) (wp := wp) h12 hl0 h1f h2f (by rw [← hV, hpi1, hpv, ← hM]; exact ⟨m1, m2⟩) (by rw [← hV, hpi1, hpv, ← hM]; exact hlr)
    rw [q9, ← hV, hpi1, hpv, ← hM, Go.Sort.pdq_small (show b' - (M.1 + 1) ≤ 12 by omega)] at hq
    obtain ⟨Z, hZ⟩ : ∃ Z, Z = Go.Sort.insertionSort lt M.2.2 (M.1 + 1) b' := ⟨_, rfl⟩
    obtain ⟨z1, _⟩ := Go.Sort.insertionSort_holds hS M.2.2 (M.1 + 1) b' (by omega) (by omega)
    have z2 := permIn_P z1 (by omega) m5
    have z3 := z1.1
    rw [← hZ] at z2 z3 hq
    simp (disch := first | omega | (simp only [go_sem]; first | done | omega)) only [go_sem]
    refine pdqS_a (a := M.1 + 1) (b := b') hc M.2.2 (List.getElem?_set_self hilt) (by omega) (by omega) (by omega) (by omega) (by omega) (by omega) m5 ?_
    rw [← hZ, List.set_set]
    simp (disch := first | omega | (simp only [go_sem]; first | done | omega)) only [go_sem]
    have eb : decide (((b' : Int) - a') / 8 ≤ (b' : Int) - M.1) = decide (b' - M.1 ≥ (b' - a') / 8) := by rw [decide_eq_decide]; omega
    refine Next.mk (a', M.1, V.lim, decide (b' - M.1 ≥ (b' - a') / 8), M.2.1, Z) ⟨⟨by dsimp only; omega, by dsimp only; omega, by dsimp only; omega, by dsimp only; omega, ?_, by dsimp only; omega, by dsimp only; omega, z2, hq.symm⟩, by dsimp only; omega⟩ ?_
    · intro _
      dsimp only
      omega
    · dsimp only
      rw [← eb]
      (try simp (disch := first | omega | (simp only [go_sem]; first | done | omega)) only [go_sem]); (first | refine WkL.eq ?_ ?_ | refine WkL.rest (by assumption) ?_ ?_ ?_ | refine WkL.keepL (by assumption) rfl ?_ ?_ ?_ ?_) <;> first | rfl | (simp; done) | (simp; omega) | (simp only [List.cons.injEq, AV.c.injEq, AC.int.injEq, AC.bool.injEq, AC.str.injEq, and_true, true_and, Int.natCast_add, Int.natCast_one, Int.cast_ofNat_Int]; omega) | (simp [AV.ok, AV.ok1, AC.ok]; done) | (simp [AV.ok, AV.ok1, AC.ok]; omega) | (simp only [List.forall_mem_cons, List.not_mem_nil, false_implies, implies_true, and_true]; (repeat' apply And.intro) <;> first | exact okN_map (fun x => by simp [go_sem, AC.pure]) | exact okN_grO (fun x => by simp [go_sem, AC.pure]) | (simp [AObj.okN, AC.ok]; done) | (simp [AObj.okN, AC.ok]; omega)) | (simp [*]; done) | grind
end Go.Proofs.Ytmmjphncnnmdaaa
