/- Few holds sorted in place. Condition: at most 12. -/
import Derived.Test.YtkmkkjlfnobciaaGreatVHeld
import Derived.Test.YtkmkkjlfnobciaaGreatVISort
namespace Go.Proofs.YtkmkkjlfnobciaaGreat
open Go Go.RowKit
set_option maxRecDepth 100000
set_option linter.all false
set_option maxHeartbeats 1000000
variable {H : Hp} {K : AV → Hp → Prop}
theorem insertionH_a (f : FuncId) (cf : Hold → Hold → Int) (lt : Hold → Hold → Bool) (P : Hold → Prop) (he : entersB Tryz.prog f = true) (hc : ∀ x y, P x → P y → (cf x y < 0 ↔ lt x y = true)) (hf : ∀ (x y : Hold) (H : Hp) (K : AV → Hp → Prop), P x → P y → K (.c (.int .i64 (cf x y))) H → ACalls Tryz.prog f [.agg (encH x), .agg (encH y)] H K)
    {i n : Nat} (l : List Hold) (hi : H[i]? = some (.row 94 6 (l.map encH) true)) (hn : n = l.length) (hP : ∀ x ∈ l, P x) (hlen : l.length ≤ 1000000) (hk : K (.tup []) (H.set i (.row 94 6 ((isortG lt l).map encH) true))) :
    ACalls Tryz.prog 128 [.c (.sl (some (i, 0)) n), (.c (.int .i64 0)), (.c (.int .i64 n)), .c (.fn f [] [])] H K := by
  subst hn
  have hlt := getElem?_lt hi
  refine acalls Tryz.func128 rfl (by kernel_rfl) (by simp (disch := first | omega | (simp only [go_sem]; first | done | omega)) only [go_sem]) (fun hH => ?_)
  simp (disch := first | omega | (simp only [go_sem]; first | done | omega)) only [go_sem]
  refine AWp.loop (H.length) [0, 1, 2, 3] [8] (fun (q : Nat × List Hold) => 1 ≤ q.1 ∧ (q.1 ≤ l.length ∨ q.1 = 1) ∧ q.2.length = l.length ∧ (∀ x ∈ q.2, P x) ∧ isortGoG lt (l.length - q.1) q.1 q.2 = isortG lt l) (fun (q : Nat × List Hold) => [(8, (.c (.int .i64 (q.1))))]) (fun (q : Nat × List Hold) => H.set i (.row 94 6 (q.2.map encH) true)) (fun (q : Nat × List Hold) => l.length - q.1) (by kernel_rfl) (fun _ => rfl) (by kernel_rfl) (by simp) (by first | (simp; done) | (simp; omega)) (by (try simp only [List.forall_mem_cons, List.not_mem_nil, false_implies, implies_true, and_true]); (try simp (disch := first | omega | (simp only [go_sem]; first | done | omega)) only [go_sem]); first | trivial | (simp [AV.ok, AV.ok1, AC.ok]; done) | (simp [AV.ok, AV.ok1, AC.ok]; omega) | (simp [AV.ok, AV.ok1, AC.ok]; assumption) | ((repeat' apply And.intro) <;> first | trivial | (simp [AV.ok, AV.ok1, AC.ok]; done) | (simp [AV.ok, AV.ok1, AC.ok]; omega) | (simp [AV.ok, AV.ok1, AC.ok]; assumption) | (refine grV_ok ?_ _; first | (simp; done) | (simp; omega) | omega))) ?_ (fun q hq _ _ => ?_)
  · refine Next.mk (1, l) ⟨by simp, by simp, rfl, hP, rfl⟩ ?_
    have e : H.set i (.row 94 6 (l.map encH) true) = H := by
      apply List.ext_getElem?
      intro j
      by_cases h : i = j
      · subst h; rw [List.getElem?_set_self hlt, hi]
      · rw [List.getElem?_set_ne h]
    dsimp only
    rw [e]
    (try simp (disch := first | omega | (simp only [go_sem]; first | done | omega)) only [go_sem]); (first | refine WkL.eq ?_ ?_ | refine WkL.rest (by assumption) ?_ ?_ ?_ | refine WkL.keepL (by assumption) rfl ?_ ?_ ?_ ?_) <;> first | rfl | (simp; done) | (simp; omega) | (simp only [List.cons.injEq, AV.c.injEq, AC.int.injEq, AC.bool.injEq, AC.str.injEq, and_true, true_and, Int.natCast_add, Int.natCast_one, Int.cast_ofNat_Int]; omega) | (simp [AV.ok, AV.ok1, AC.ok]; done) | (simp [AV.ok, AV.ok1, AC.ok]; omega) | (simp only [List.forall_mem_cons, List.not_mem_nil, false_implies, implies_true, and_true]; (repeat' apply And.intro) <;> first | exact okN_map (fun x => by simp [go_sem, AC.pure]) | exact okN_grO (fun x => by simp [go_sem, AC.pure]) | (simp [AObj.okN, AC.ok]; done) | (simp [AObj.okN, AC.ok]; omega)) | (simp [*]; done) | grind
  obtain ⟨k, cur⟩ := q
  obtain ⟨hk1, hk2, hcl, hcP, hcE⟩ := hq
  dsimp only at hk1 hk2 hcl hcP hcE
  by_cases hkl : k < l.length
  · simp (disch := first | omega | (simp only [go_sem]; first | done | omega)) only [go_sem]
    refine AWp.loop (H.length) [0, 1, 2, 3, 8] [9] (fun (q : Nat × List Hold) => q.1 ≤ k ∧ q.2.length = l.length ∧ (∀ x ∈ q.2, P x) ∧ sinkG lt q.1 q.2 = sinkG lt k cur) (fun (q : Nat × List Hold) => [(9, (.c (.int .i64 (q.1))))]) (fun (q : Nat × List Hold) => H.set i (.row 94 6 (q.2.map encH) true)) (fun (q : Nat × List Hold) => q.1) (by kernel_rfl) (fun _ => rfl) (by kernel_rfl) (by simp) (by first | (simp; done) | (simp; omega)) (by (try simp only [List.forall_mem_cons, List.not_mem_nil, false_implies, implies_true, and_true]); (try simp (disch := first | omega | (simp only [go_sem]; first | done | omega)) only [go_sem]); first | trivial | (simp [AV.ok, AV.ok1, AC.ok]; done) | (simp [AV.ok, AV.ok1, AC.ok]; omega) | (simp [AV.ok, AV.ok1, AC.ok]; assumption) | ((repeat' apply And.intro) <;> first | trivial | (simp [AV.ok, AV.ok1, AC.ok]; done) | (simp [AV.ok, AV.ok1, AC.ok]; omega) | (simp [AV.ok, AV.ok1, AC.ok]; assumption) | (refine grV_ok ?_ _; first | (simp; done) | (simp; omega) | omega))) ?_ (fun q hq _ _ => ?_)
    · exact Next.mk (k, cur) ⟨Nat.le_refl _, hcl, hcP, rfl⟩ (by (try simp (disch := first | omega | (simp only [go_sem]; first | done | omega)) only [go_sem]); (first | refine WkL.eq ?_ ?_ | refine WkL.rest (by assumption) ?_ ?_ ?_ | refine WkL.keepL (by assumption) rfl ?_ ?_ ?_ ?_) <;> first | rfl | (simp; done) | (simp; omega) | (simp only [List.cons.injEq, AV.c.injEq, AC.int.injEq, AC.bool.injEq, AC.str.injEq, and_true, true_and, Int.natCast_add, Int.natCast_one, Int.cast_ofNat_Int]; omega) | (simp [AV.ok, AV.ok1, AC.ok]; done) | (simp [AV.ok, AV.ok1, AC.ok]; omega) | (simp only [List.forall_mem_cons, List.not_mem_nil, false_implies, implies_true, and_true]; (repeat' apply And.intro) <;> first | exact okN_map (fun x => by simp [go_sem, AC.pure]) | exact okN_grO (fun x => by simp [go_sem, AC.pure]) | (simp [AObj.okN, AC.ok]; done) | (simp [AObj.okN, AC.ok]; omega)) | (simp [*]; done) | grind)
    obtain ⟨j, cu⟩ := q
    obtain ⟨hj1, hj2, hjP, hjE⟩ := hq
    dsimp only at hj1 hj2 hjP hjE
    have hdone : sinkG lt j cu = cu → WkL H.length [(.c (.int .i64 ((k + 1 : Nat))))] (H.set i (.row 94 6 (cu.map encH) true)) [(.c (.int .i64 ((k + 1 : Nat))))] (H.set i (.row 94 6 ((sinkG lt k cur).map encH) true)) := fun h => by
      rw [← hjE, h]; exact WkL.refl (by simp)
    have hnx : sinkG lt j cu = cu → (1 ≤ k + 1 ∧ (k + 1 ≤ l.length ∨ k + 1 = 1) ∧ (sinkG lt k cur).length = l.length ∧ (∀ x ∈ sinkG lt k cur, P x) ∧ isortGoG lt (l.length - (k + 1)) (k + 1) (sinkG lt k cur) = isortG lt l) ∧ l.length - (k + 1) < l.length - k := fun h => by
      refine ⟨⟨by omega, .inl (by omega), by rw [← hjE, h]; exact hj2, by rw [← hjE, h]; exact hjP, ?_⟩, by omega⟩
      rw [← hcE, show l.length - k = (l.length - (k + 1)) + 1 by omega]; rfl
    rcases j with _ | j
    · simp (disch := first | omega | (simp only [go_sem]; first | done | omega)) only [go_sem]
      repeat' (first | ((first | refine acond_d ?_ ?_ | refine acond_b ?_ ?_ | refine ag_d ?_ ?_ | refine ag_n ?_ ?_ | refine ag_bt ?_ ?_ | refine ag_bf ?_ ?_) <;> intro c <;> try simp (disch := first | omega | (simp only [go_sem]; first | done | omega)) only [go_sem, c]) | ((first | refine w_draw (by kernel_rfl) (by decide +kernel) ?_) <;> try simp (disch := first | omega | (simp only [go_sem]; first | done | omega)) only [go_sem]))
      exact Next.mk (k + 1, sinkG lt k cur) (hnx rfl) (hdone rfl)
    · have hjl : j + 1 < cu.length := by omega
      have hst := sinkG_step lt j cu hjl
      have hx : cu[(((j + 1 : Nat) : Int) - 1).toNat]'(by omega) = cu[j] := by congr 1; omega
      simp (disch := first | omega | (simp only [go_sem]; first | done | omega)) only [go_sem]
      repeat' (first | ((first | refine acond_d ?_ ?_ | refine acond_b ?_ ?_ | refine ag_d ?_ ?_ | refine ag_n ?_ ?_ | refine ag_bt ?_ ?_ | refine ag_bf ?_ ?_) <;> intro c <;> try simp (disch := first | omega | (simp only [go_sem]; first | done | omega)) only [go_sem, c, he, hx]) | ((first | refine w_draw (by kernel_rfl) (by decide +kernel) ?_ | refine hf cu[j + 1] cu[j] _ _ (hjP _ (List.getElem_mem _)) (hjP _ (List.getElem_mem _)) ?_) <;> try simp (disch := first | omega | (simp only [go_sem]; first | done | omega)) only [go_sem, he, hx]))
      · have lt := (hc _ _ (hjP _ (List.getElem_mem _)) (hjP _ (List.getElem_mem _))).1 c
        have hmp : ∀ q, q = j → ((cu.map encH).set (j + 1) (encH cu[j])).set q (encH cu[j + 1]) = (((cu.set (j + 1) cu[j]).set j cu[j + 1])).map encH := by
          rintro q rfl; simp [List.map_set, -encH]
        have hmp := hmp (((j + 1 : Nat) : Int) - 1).toNat (by omega)
        refine Next.mk (j, (cu.set (j + 1) cu[j]).set j cu[j + 1]) ⟨⟨by omega, by simpa using hj2, fun x hx' => ?_, by rw [← hjE, hst, if_pos lt]⟩, by dsimp only; omega⟩ ?_
        · rcases List.mem_or_eq_of_mem_set hx' with h | rfl
          · rcases List.mem_or_eq_of_mem_set h with h | rfl
            · exact hjP x h
            · exact hjP _ (List.getElem_mem _)
          · exact hjP _ (List.getElem_mem _)
        · dsimp only
          rw [← hmp]
          (try simp (disch := first | omega | (simp only [go_sem]; first | done | omega)) only [go_sem]); (first | refine WkL.eq ?_ ?_ | refine WkL.rest (by assumption) ?_ ?_ ?_ | refine WkL.keepL (by assumption) rfl ?_ ?_ ?_ ?_) <;> first | rfl | (simp; done) | (simp; omega) | (simp only [List.cons.injEq, AV.c.injEq, AC.int.injEq, AC.bool.injEq, AC.str.injEq, and_true, true_and, Int.natCast_add, Int.natCast_one, Int.cast_ofNat_Int]; omega) | (simp [AV.ok, AV.ok1, AC.ok]; done) | (simp [AV.ok, AV.ok1, AC.ok]; omega) | (simp only [List.forall_mem_cons, List.not_mem_nil, false_implies, implies_true, and_true]; (repeat' apply And.intro) <;> first | exact okN_map (fun x => by simp [go_sem, AC.pure]) | exact okN_grO (fun x => by simp [go_sem, AC.pure]) | (simp [AObj.okN, AC.ok]; done) | (simp [AObj.okN, AC.ok]; omega)) | (simp [*]; done) | grind
      · have ge : ¬lt cu[j + 1] cu[j] = true := fun h => c ((hc _ _ (hjP _ (List.getElem_mem _)) (hjP _ (List.getElem_mem _))).2 h)
        have h : sinkG lt (j + 1) cu = cu := by rw [hst, if_neg ge]
        exact Next.mk (k + 1, sinkG lt k cur) (hnx h) (hdone h)
  · simp (disch := first | omega | (simp only [go_sem]; first | done | omega)) only [go_sem]
    have e : cur = isortG lt l := by rw [← hcE, show l.length - k = 0 by omega]; rfl
    rw [e]
    exact Ret.same (by simp) hk
theorem pdqH_a (f : FuncId) (cf : Hold → Hold → Int) (lt : Hold → Hold → Bool) (P : Hold → Prop) (he : entersB Tryz.prog f = true) (hc : ∀ x y, P x → P y → (cf x y < 0 ↔ lt x y = true)) (hf : ∀ (x y : Hold) (H : Hp) (K : AV → Hp → Prop), P x → P y → K (.c (.int .i64 (cf x y))) H → ACalls Tryz.prog f [.agg (encH x), .agg (encH y)] H K)
    {i n : Nat} (lim : Int) (l : List Hold) (hi : H[i]? = some (.row 94 6 (l.map encH) true)) (hn : n = l.length) (hP : ∀ x ∈ l, P x) (hlen : l.length ≤ 12) (hk : K (.tup []) (H.set i (.row 94 6 ((isortG lt l).map encH) true))) :
    ACalls Tryz.prog 124 [.c (.sl (some (i, 0)) n), (.c (.int .i64 0)), (.c (.int .i64 n)), (.c (.int .i64 lim)), .c (.fn f [] [])] H K := by
  subst hn
  have hlt := getElem?_lt hi
  refine acalls Tryz.func124 rfl (by kernel_rfl) (by simp (disch := first | omega | (simp only [go_sem]; first | done | omega)) only [go_sem]) (fun hH => ?_)
  simp (disch := first | omega | (simp only [go_sem]; first | done | omega)) only [go_sem]
  refine AWp.loop (H.length) [0, 4] [1, 2, 3, 10, 11] (fun (q : Unit) => True) (fun (q : Unit) => [(1, (.c (.int .i64 0))), (2, (.c (.int .i64 (l.length)))), (3, (.c (.int .i64 lim))), (10, (.c (.bool true))), (11, (.c (.bool true)))]) (fun (q : Unit) => H) (fun (q : Unit) => 0) (by kernel_rfl) (fun _ => rfl) (by kernel_rfl) (by simp) (by first | (simp; done) | (simp; omega)) (by (try simp only [List.forall_mem_cons, List.not_mem_nil, false_implies, implies_true, and_true]); (try simp (disch := first | omega | (simp only [go_sem]; first | done | omega)) only [go_sem]); first | trivial | (simp [AV.ok, AV.ok1, AC.ok]; done) | (simp [AV.ok, AV.ok1, AC.ok]; omega) | (simp [AV.ok, AV.ok1, AC.ok]; assumption) | ((repeat' apply And.intro) <;> first | trivial | (simp [AV.ok, AV.ok1, AC.ok]; done) | (simp [AV.ok, AV.ok1, AC.ok]; omega) | (simp [AV.ok, AV.ok1, AC.ok]; assumption) | (refine grV_ok ?_ _; first | (simp; done) | (simp; omega) | omega))) ?_ (fun q hq _ _ => ?_)
  · exact Next.mk () trivial (by (try simp (disch := first | omega | (simp only [go_sem]; first | done | omega)) only [go_sem]); (first | refine WkL.eq ?_ ?_ | refine WkL.rest (by assumption) ?_ ?_ ?_ | refine WkL.keepL (by assumption) rfl ?_ ?_ ?_ ?_) <;> first | rfl | (simp; done) | (simp; omega) | (simp only [List.cons.injEq, AV.c.injEq, AC.int.injEq, AC.bool.injEq, AC.str.injEq, and_true, true_and, Int.natCast_add, Int.natCast_one, Int.cast_ofNat_Int]; omega) | (simp [AV.ok, AV.ok1, AC.ok]; done) | (simp [AV.ok, AV.ok1, AC.ok]; omega) | (simp only [List.forall_mem_cons, List.not_mem_nil, false_implies, implies_true, and_true]; (repeat' apply And.intro) <;> first | exact okN_map (fun x => by simp [go_sem, AC.pure]) | exact okN_grO (fun x => by simp [go_sem, AC.pure]) | (simp [AObj.okN, AC.ok]; done) | (simp [AObj.okN, AC.ok]; omega)) | (simp [*]; done) | grind)
  simp (disch := first | omega | (simp only [go_sem]; first | done | omega)) only [go_sem]
  refine insertionH_a f cf lt P he hc hf l hi rfl hP (by omega) ?_
  simp (disch := first | omega | (simp only [go_sem]; first | done | omega)) only [go_sem]
  exact Ret.same (by simp) hk
theorem insNilH_a (f : FuncId) (hk : K (.tup []) H) : ACalls Tryz.prog 128 [.c (.sl none 0), (.c (.int .i64 0)), (.c (.int .i64 0)), .c (.fn f [] [])] H K := by
  refine acalls Tryz.func128 rfl (by kernel_rfl) (by simp (disch := first | omega | (simp only [go_sem]; first | done | omega)) only [go_sem]) (fun hH => ?_)
  simp (disch := first | omega | (simp only [go_sem]; first | done | omega)) only [go_sem]
  refine AWp.loop (H.length) [0, 1, 2, 3] [8] (fun (q : Unit) => True) (fun (q : Unit) => [(8, (.c (.int .i64 1)))]) (fun (q : Unit) => H) (fun (q : Unit) => 0) (by kernel_rfl) (fun _ => rfl) (by kernel_rfl) (by simp) (by first | (simp; done) | (simp; omega)) (by (try simp only [List.forall_mem_cons, List.not_mem_nil, false_implies, implies_true, and_true]); (try simp (disch := first | omega | (simp only [go_sem]; first | done | omega)) only [go_sem]); first | trivial | (simp [AV.ok, AV.ok1, AC.ok]; done) | (simp [AV.ok, AV.ok1, AC.ok]; omega) | (simp [AV.ok, AV.ok1, AC.ok]; assumption) | ((repeat' apply And.intro) <;> first | trivial | (simp [AV.ok, AV.ok1, AC.ok]; done) | (simp [AV.ok, AV.ok1, AC.ok]; omega) | (simp [AV.ok, AV.ok1, AC.ok]; assumption) | (refine grV_ok ?_ _; first | (simp; done) | (simp; omega) | omega))) ?_ (fun q hq _ _ => ?_)
  · exact Next.mk () trivial (by (try simp (disch := first | omega | (simp only [go_sem]; first | done | omega)) only [go_sem]); (first | refine WkL.eq ?_ ?_ | refine WkL.rest (by assumption) ?_ ?_ ?_ | refine WkL.keepL (by assumption) rfl ?_ ?_ ?_ ?_) <;> first | rfl | (simp; done) | (simp; omega) | (simp only [List.cons.injEq, AV.c.injEq, AC.int.injEq, AC.bool.injEq, AC.str.injEq, and_true, true_and, Int.natCast_add, Int.natCast_one, Int.cast_ofNat_Int]; omega) | (simp [AV.ok, AV.ok1, AC.ok]; done) | (simp [AV.ok, AV.ok1, AC.ok]; omega) | (simp only [List.forall_mem_cons, List.not_mem_nil, false_implies, implies_true, and_true]; (repeat' apply And.intro) <;> first | exact okN_map (fun x => by simp [go_sem, AC.pure]) | exact okN_grO (fun x => by simp [go_sem, AC.pure]) | (simp [AObj.okN, AC.ok]; done) | (simp [AObj.okN, AC.ok]; omega)) | (simp [*]; done) | grind)
  simp (disch := first | omega | (simp only [go_sem]; first | done | omega)) only [go_sem]
  exact Ret.same (by simp) hk
theorem pdqNilH_a (f : FuncId) (lim : Int) (hk : K (.tup []) H) : ACalls Tryz.prog 124 [.c (.sl none 0), (.c (.int .i64 0)), (.c (.int .i64 0)), (.c (.int .i64 lim)), .c (.fn f [] [])] H K := by
  refine acalls Tryz.func124 rfl (by kernel_rfl) (by simp (disch := first | omega | (simp only [go_sem]; first | done | omega)) only [go_sem]) (fun hH => ?_)
  simp (disch := first | omega | (simp only [go_sem]; first | done | omega)) only [go_sem]
  refine AWp.loop (H.length) [0, 4] [1, 2, 3, 10, 11] (fun (q : Unit) => True) (fun (q : Unit) => [(1, (.c (.int .i64 0))), (2, (.c (.int .i64 0))), (3, (.c (.int .i64 lim))), (10, (.c (.bool true))), (11, (.c (.bool true)))]) (fun (q : Unit) => H) (fun (q : Unit) => 0) (by kernel_rfl) (fun _ => rfl) (by kernel_rfl) (by simp) (by first | (simp; done) | (simp; omega)) (by (try simp only [List.forall_mem_cons, List.not_mem_nil, false_implies, implies_true, and_true]); (try simp (disch := first | omega | (simp only [go_sem]; first | done | omega)) only [go_sem]); first | trivial | (simp [AV.ok, AV.ok1, AC.ok]; done) | (simp [AV.ok, AV.ok1, AC.ok]; omega) | (simp [AV.ok, AV.ok1, AC.ok]; assumption) | ((repeat' apply And.intro) <;> first | trivial | (simp [AV.ok, AV.ok1, AC.ok]; done) | (simp [AV.ok, AV.ok1, AC.ok]; omega) | (simp [AV.ok, AV.ok1, AC.ok]; assumption) | (refine grV_ok ?_ _; first | (simp; done) | (simp; omega) | omega))) ?_ (fun q hq _ _ => ?_)
  · exact Next.mk () trivial (by (try simp (disch := first | omega | (simp only [go_sem]; first | done | omega)) only [go_sem]); (first | refine WkL.eq ?_ ?_ | refine WkL.rest (by assumption) ?_ ?_ ?_ | refine WkL.keepL (by assumption) rfl ?_ ?_ ?_ ?_) <;> first | rfl | (simp; done) | (simp; omega) | (simp only [List.cons.injEq, AV.c.injEq, AC.int.injEq, AC.bool.injEq, AC.str.injEq, and_true, true_and, Int.natCast_add, Int.natCast_one, Int.cast_ofNat_Int]; omega) | (simp [AV.ok, AV.ok1, AC.ok]; done) | (simp [AV.ok, AV.ok1, AC.ok]; omega) | (simp only [List.forall_mem_cons, List.not_mem_nil, false_implies, implies_true, and_true]; (repeat' apply And.intro) <;> first | exact okN_map (fun x => by simp [go_sem, AC.pure]) | exact okN_grO (fun x => by simp [go_sem, AC.pure]) | (simp [AObj.okN, AC.ok]; done) | (simp [AObj.okN, AC.ok]; omega)) | (simp [*]; done) | grind)
  simp (disch := first | omega | (simp only [go_sem]; first | done | omega)) only [go_sem]
  refine insNilH_a f ?_
  simp (disch := first | omega | (simp only [go_sem]; first | done | omega)) only [go_sem]
  exact Ret.same (by simp) hk
theorem len64_a (n : Nat) (hn : n ≤ 12) (hk : ∀ r : Int, K (.c (.int .i64 r)) H) : ACalls Tryz.prog 137 [.c (.int .u64 n)] H K := by
  have hw : IntKind.u8.wrap (n : Int) = n := by
    have : ∀ m : Fin 13, IntKind.u8.wrap (m.val : Int) = m.val := by decide
    exact this ⟨n, by omega⟩
  refine acalls Tryz.func137 rfl (by kernel_rfl) (by simp (disch := first | omega | (simp only [go_sem]; first | done | omega)) only [go_sem]) (fun hH => ?_)
  simp (disch := first | omega | (simp only [go_sem]; first | done | omega)) only [go_sem]
  refine ⟨⟨by rw [hw]; omega, by rw [hw]; exact Int.lt_of_lt_of_le (b := 13) (by omega) (by decide +kernel)⟩, ?_⟩
  generalize List.getD _ _ _ = z
  simp (disch := first | omega | (simp only [go_sem]; first | done | omega)) only [go_sem]
  exact Ret.same (Nat.le_refl _) (hk _)
theorem len_a (n : Nat) (hn : n ≤ 12) (hk : ∀ r : Int, K (.c (.int .i64 r)) H) : ACalls Tryz.prog 125 [.c (.int .u64 n)] H K := by
  refine acalls Tryz.func125 rfl (by kernel_rfl) (by simp (disch := first | omega | (simp only [go_sem]; first | done | omega)) only [go_sem]) (fun hH => ?_)
  simp (disch := first | omega | (simp only [go_sem]; first | done | omega)) only [go_sem]
  refine len64_a n hn (fun r => ?_)
  simp (disch := first | omega | (simp only [go_sem]; first | done | omega)) only [go_sem]
  exact Ret.same (Nat.le_refl _) (hk r)
theorem sortH_a (f : FuncId) (cf : Hold → Hold → Int) (lt : Hold → Hold → Bool) (P : Hold → Prop) (he : entersB Tryz.prog f = true) (hc : ∀ x y, P x → P y → (cf x y < 0 ↔ lt x y = true)) (hf : ∀ (x y : Hold) (H : Hp) (K : AV → Hp → Prop), P x → P y → K (.c (.int .i64 (cf x y))) H → ACalls Tryz.prog f [.agg (encH x), .agg (encH y)] H K)
    {i : Nat} (l : List Hold) (hi : H[i]? = some (grO 94 6 (l.map encH))) (hP : ∀ x ∈ l, P x) (hlen : l.length ≤ 12) (hk : K (.tup []) (H.set i (grO 94 6 ((isortG lt l).map encH)))) :
    ACalls Tryz.prog 116 [.c (grV i l), .c (.fn f [] [])] H K := by
  by_cases h : l = []
  · subst h
    have hk : K (.tup []) (H.set i .dead) := hk
    rw [set_same (o := .dead) hi] at hk
    simp only [grV]
    refine acalls Tryz.func116 rfl (by kernel_rfl) (by simp (disch := first | omega | (simp only [go_sem]; first | done | omega)) only [go_sem]) (fun hH => ?_)
    simp (disch := first | omega | (simp only [go_sem]; first | done | omega)) only [go_sem]
    have hw : IntKind.u64.wrap 0 = ((0 : Nat) : Int) := by decide
    rw [hw]
    refine len_a 0 (by omega) (fun r => ?_)
    simp (disch := first | omega | (simp only [go_sem]; first | done | omega)) only [go_sem]
    refine pdqNilH_a f r ?_
    simp (disch := first | omega | (simp only [go_sem]; first | done | omega)) only [go_sem]
    exact Ret.same (by simp) hk
  · have h2 : l.map encH ≠ [] := by simpa using h
    have h3 : (isortG lt l).map encH ≠ [] := by intro h4; have := congrArg List.length h4; simp [isortG_len] at this; exact h this
    rw [grO_pos _ _ h2] at hi
    rw [grO_pos _ _ h3] at hk
    rw [grV_pos _ h]
    refine acalls Tryz.func116 rfl (by kernel_rfl) (by simp (disch := first | omega | (simp only [go_sem]; first | done | omega)) only [go_sem]) (fun hH => ?_)
    simp (disch := first | omega | (simp only [go_sem]; first | done | omega)) only [go_sem]
    have hw : IntKind.u64.wrap (l.length : Int) = l.length := by
      have : ∀ m : Fin 13, IntKind.u64.wrap (m.val : Int) = m.val := by decide
      exact this ⟨l.length, by omega⟩
    rw [hw]
    refine len_a l.length hlen (fun r => ?_)
    simp (disch := first | omega | (simp only [go_sem]; first | done | omega)) only [go_sem]
    refine pdqH_a f cf lt P he hc hf r l hi rfl hP hlen ?_
    simp (disch := first | omega | (simp only [go_sem]; first | done | omega)) only [go_sem]
    exact Ret.same (by simp) hk
end Go.Proofs.YtkmkkjlfnobciaaGreat
