/- Few bins sorted in place by their times: equal ones keep their order. Condition: at most 20. -/
import Derived.Test.YtfhadgemgfpdbaaVComb
namespace Go.Proofs.Ytfhadgemgfpdbaa
open Go Go.RowKit
set_option maxRecDepth 100000
set_option linter.all false
set_option maxHeartbeats 1000000
variable {H : Hp} {K : AV → Hp → Prop}
def sinkB : Nat → List Bin → List Bin
  | 0, l => l
  | j + 1, l => match l[j + 1]?, l[j]? with
    | some x, some y => if x.a < y.a then sinkB j ((l.set (j + 1) y).set j x) else l
    | _, _ => l
def isortGo : Nat → Nat → List Bin → List Bin
  | 0, _, l => l
  | c + 1, i, l => isortGo c (i + 1) (sinkB i l)
def isortB (l : List Bin) : List Bin := isortGo (l.length - 1) 1 l
theorem sinkB_step (j : Nat) (l : List Bin) (h : j + 1 < l.length) : sinkB (j + 1) l = if l[j + 1].a < l[j].a then sinkB j ((l.set (j + 1) l[j]).set j l[j + 1]) else l := by
  rw [sinkB, List.getElem?_eq_getElem h, List.getElem?_eq_getElem (by omega)]
theorem insertion_a (f : FuncId) (cf : Bin → Bin → Int) (P : Bin → Prop) (he : entersB Try.prog f = true) (hc : ∀ x y, P x → P y → (cf x y < 0 ↔ x.a < y.a)) (hf : ∀ (x y : Bin) (H : Hp) (K : AV → Hp → Prop), P x → P y → K (.c (.int .i64 (cf x y))) H → ACalls Try.prog f [.agg (encN x), .agg (encN y)] H K)
    {i n : Nat} (l : List Bin) (hi : H[i]? = some (.row 62 6 (l.map encN) true)) (hn : n = l.length) (hP : ∀ x ∈ l, P x) (hlen : l.length ≤ 1000000) (hk : K (.tup []) (H.set i (.row 62 6 ((isortB l).map encN) true))) :
    ACalls Try.prog 81 [.c (.sl (some (i, 0)) n), (.c (.int .i64 0)), (.c (.int .i64 n)), .c (.fn f [] [])] H K := by
  subst hn
  have hlt := getElem?_lt hi
  refine acalls Try.func81 rfl (by kernel_rfl) (by simp (disch := first | omega | (simp only [go_sem]; first | done | omega)) only [go_sem]) (fun hH => ?_)
  simp (disch := first | omega | (simp only [go_sem]; first | done | omega)) only [go_sem]
  refine AWp.loop (H.length) [0, 1, 2, 3] [8] (fun (q : Nat × List Bin) => 1 ≤ q.1 ∧ (q.1 ≤ l.length ∨ q.1 = 1) ∧ q.2.length = l.length ∧ (∀ x ∈ q.2, P x) ∧ isortGo (l.length - q.1) q.1 q.2 = isortB l) (fun (q : Nat × List Bin) => [(8, (.c (.int .i64 (q.1))))]) (fun (q : Nat × List Bin) => H.set i (.row 62 6 (q.2.map encN) true)) (fun (q : Nat × List Bin) => l.length - q.1) (by kernel_rfl) (fun _ => rfl) (by kernel_rfl) (by simp) (by first | (simp; done) | (simp; omega)) (by (try simp only [List.forall_mem_cons, List.not_mem_nil, false_implies, implies_true, and_true]); (try simp (disch := first | omega | (simp only [go_sem]; first | done | omega)) only [go_sem]); first | trivial | (simp [AV.ok, AV.ok1, AC.ok]; done) | (simp [AV.ok, AV.ok1, AC.ok]; omega) | ((repeat' apply And.intro) <;> first | trivial | (simp [AV.ok, AV.ok1, AC.ok]; done) | (simp [AV.ok, AV.ok1, AC.ok]; omega) | (refine grV_ok ?_ _; first | (simp; done) | (simp; omega) | omega))) ?_ (fun q hq _ _ => ?_)
  · refine Next.mk (1, l) ⟨by simp, by simp, rfl, hP, rfl⟩ ?_
    have e : H.set i (.row 62 6 (l.map encN) true) = H := by
      apply List.ext_getElem?
      intro j
      by_cases h : i = j
      · subst h; rw [List.getElem?_set_self hlt, hi]
      · rw [List.getElem?_set_ne h]
    dsimp only
    rw [e]
    (try simp (disch := first | omega | (simp only [go_sem]; first | done | omega)) only [go_sem]); (first | refine WkL.eq ?_ ?_ | refine WkL.rest (by assumption) ?_ ?_ ?_ | refine WkL.keepL (by assumption) rfl ?_ ?_ ?_ ?_) <;> first | rfl | (simp; done) | (simp; omega) | (simp only [List.cons.injEq, AV.c.injEq, AC.int.injEq, AC.bool.injEq, AC.str.injEq, and_true, true_and, Int.natCast_add, Int.natCast_one, Int.cast_ofNat_Int]; omega) | (simp [AV.ok, AV.ok1, AC.ok]; done) | (simp [AV.ok, AV.ok1, AC.ok]; omega) | (simp only [List.forall_mem_cons, List.not_mem_nil, false_implies, implies_true, and_true]; (repeat' apply And.intro) <;> first | exact okN_map (fun x => by simp [go_sem, AC.pure]) | exact okN_grO (fun x => by simp [go_sem, AC.pure]) | (simp [AObj.okN, AC.ok]; done) | (simp [AObj.okN, AC.ok]; omega)) | (simp [*]; done) | grind
  obtain ⟨k, cur⟩ := q
  obtain ⟨hk1, hk2, hcl, hcP, hcE⟩ := hq
  dsimp only at hk1 hk2 hcl hcP hcE
  by_cases hkl : k < l.length
  · simp (disch := first | omega | (simp only [go_sem]; first | done | omega)) only [go_sem]
    refine AWp.loop (H.length) [0, 1, 2, 3, 8] [9] (fun (q : Nat × List Bin) => q.1 ≤ k ∧ q.2.length = l.length ∧ (∀ x ∈ q.2, P x) ∧ sinkB q.1 q.2 = sinkB k cur) (fun (q : Nat × List Bin) => [(9, (.c (.int .i64 (q.1))))]) (fun (q : Nat × List Bin) => H.set i (.row 62 6 (q.2.map encN) true)) (fun (q : Nat × List Bin) => q.1) (by kernel_rfl) (fun _ => rfl) (by kernel_rfl) (by simp) (by first | (simp; done) | (simp; omega)) (by (try simp only [List.forall_mem_cons, List.not_mem_nil, false_implies, implies_true, and_true]); (try simp (disch := first | omega | (simp only [go_sem]; first | done | omega)) only [go_sem]); first | trivial | (simp [AV.ok, AV.ok1, AC.ok]; done) | (simp [AV.ok, AV.ok1, AC.ok]; omega) | ((repeat' apply And.intro) <;> first | trivial | (simp [AV.ok, AV.ok1, AC.ok]; done) | (simp [AV.ok, AV.ok1, AC.ok]; omega) | (refine grV_ok ?_ _; first | (simp; done) | (simp; omega) | omega))) ?_ (fun q hq _ _ => ?_)
    · exact Next.mk (k, cur) ⟨Nat.le_refl _, hcl, hcP, rfl⟩ (by (try simp (disch := first | omega | (simp only [go_sem]; first | done | omega)) only [go_sem]); (first | refine WkL.eq ?_ ?_ | refine WkL.rest (by assumption) ?_ ?_ ?_ | refine WkL.keepL (by assumption) rfl ?_ ?_ ?_ ?_) <;> first | rfl | (simp; done) | (simp; omega) | (simp only [List.cons.injEq, AV.c.injEq, AC.int.injEq, AC.bool.injEq, AC.str.injEq, and_true, true_and, Int.natCast_add, Int.natCast_one, Int.cast_ofNat_Int]; omega) | (simp [AV.ok, AV.ok1, AC.ok]; done) | (simp [AV.ok, AV.ok1, AC.ok]; omega) | (simp only [List.forall_mem_cons, List.not_mem_nil, false_implies, implies_true, and_true]; (repeat' apply And.intro) <;> first | exact okN_map (fun x => by simp [go_sem, AC.pure]) | exact okN_grO (fun x => by simp [go_sem, AC.pure]) | (simp [AObj.okN, AC.ok]; done) | (simp [AObj.okN, AC.ok]; omega)) | (simp [*]; done) | grind)
    obtain ⟨j, cu⟩ := q
    obtain ⟨hj1, hj2, hjP, hjE⟩ := hq
    dsimp only at hj1 hj2 hjP hjE
    have hdone : sinkB j cu = cu → WkL H.length [(.c (.int .i64 ((k + 1 : Nat))))] (H.set i (.row 62 6 (cu.map encN) true)) [(.c (.int .i64 ((k + 1 : Nat))))] (H.set i (.row 62 6 ((sinkB k cur).map encN) true)) := fun h => by
      rw [← hjE, h]; exact WkL.refl (by simp)
    have hnx : sinkB j cu = cu → (1 ≤ k + 1 ∧ (k + 1 ≤ l.length ∨ k + 1 = 1) ∧ (sinkB k cur).length = l.length ∧ (∀ x ∈ sinkB k cur, P x) ∧ isortGo (l.length - (k + 1)) (k + 1) (sinkB k cur) = isortB l) ∧ l.length - (k + 1) < l.length - k := fun h => by
      refine ⟨⟨by omega, .inl (by omega), by rw [← hjE, h]; exact hj2, by rw [← hjE, h]; exact hjP, ?_⟩, by omega⟩
      rw [← hcE, show l.length - k = (l.length - (k + 1)) + 1 by omega]; rfl
    rcases j with _ | j
    · simp (disch := first | omega | (simp only [go_sem]; first | done | omega)) only [go_sem]
      repeat' (first | ((first | refine acond_d ?_ ?_ | refine acond_b ?_ ?_ | refine ag_d ?_ ?_ | refine ag_n ?_ ?_ | refine ag_bt ?_ ?_ | refine ag_bf ?_ ?_) <;> intro c <;> try simp (disch := first | omega | (simp only [go_sem]; first | done | omega)) only [go_sem, c]) | ((first | refine w_draw (by kernel_rfl) (by decide +kernel) ?_) <;> try simp (disch := first | omega | (simp only [go_sem]; first | done | omega)) only [go_sem]))
      exact Next.mk (k + 1, sinkB k cur) (hnx rfl) (hdone rfl)
    · have hjl : j + 1 < cu.length := by omega
      have hst := sinkB_step j cu hjl
      have hx : cu[(((j + 1 : Nat) : Int) - 1).toNat]'(by omega) = cu[j] := by congr 1; omega
      simp (disch := first | omega | (simp only [go_sem]; first | done | omega)) only [go_sem]
      repeat' (first | ((first | refine acond_d ?_ ?_ | refine acond_b ?_ ?_ | refine ag_d ?_ ?_ | refine ag_n ?_ ?_ | refine ag_bt ?_ ?_ | refine ag_bf ?_ ?_) <;> intro c <;> try simp (disch := first | omega | (simp only [go_sem]; first | done | omega)) only [go_sem, c, he, hx]) | ((first | refine w_draw (by kernel_rfl) (by decide +kernel) ?_ | refine hf cu[j + 1] cu[j] _ _ (hjP _ (List.getElem_mem _)) (hjP _ (List.getElem_mem _)) ?_) <;> try simp (disch := first | omega | (simp only [go_sem]; first | done | omega)) only [go_sem, he, hx]))
      · have lt := (hc _ _ (hjP _ (List.getElem_mem _)) (hjP _ (List.getElem_mem _))).1 c
        have hmp : ∀ q, q = j → ((cu.map encN).set (j + 1) (encN cu[j])).set q (encN cu[j + 1]) = (((cu.set (j + 1) cu[j]).set j cu[j + 1])).map encN := by
          rintro q rfl; simp [List.map_set, -encN]
        have hmp := hmp (((j + 1 : Nat) : Int) - 1).toNat (by omega)
        refine Next.mk (j, (cu.set (j + 1) cu[j]).set j cu[j + 1]) ⟨⟨by omega, by simpa using hj2, fun x hx' => ?_, by rw [← hjE, hst, if_pos lt]⟩, by dsimp only; omega⟩ ?_
        · rcases List.mem_or_eq_of_mem_set hx' with h | rfl
          · rcases List.mem_or_eq_of_mem_set h with h | rfl
            · exact hjP x h
            · exact hjP _ (List.getElem_mem _)
          · exact hjP _ (List.getElem_mem _)
        · dsimp only
          rw [← hmp]
          (try simp (disch := first | omega | (simp only [go_sem]; first | done | omega)) only [go_sem]); (first | refine WkL.eq ?_ ?_ | refine WkL.rest (by assumption) ?_ ?_ ?_ | refine WkL.keepL (by assumption) rfl ?_ ?_ ?_ ?_) <;> first | rfl | (simp; done) | (simp; omega) | (simp only [List.cons.injEq, AV.c.injEq, AC.int.injEq, AC.bool.injEq, AC.str.injEq, and_true, true_and, Int.natCast_add, Int.natCast_one, Int.cast_ofNat_Int]; omega) | (simp [AV.ok, AV.ok1, AC.ok]; done) | (simp [AV.ok, AV.ok1, AC.ok]; omega) | (simp only [List.forall_mem_cons, List.not_mem_nil, false_implies, implies_true, and_true]; (repeat' apply And.intro) <;> first | exact okN_map (fun x => by simp [go_sem, AC.pure]) | exact okN_grO (fun x => by simp [go_sem, AC.pure]) | (simp [AObj.okN, AC.ok]; done) | (simp [AObj.okN, AC.ok]; omega)) | (simp [*]; done) | grind
      · have ge : ¬cu[j + 1].a < cu[j].a := fun h => c ((hc _ _ (hjP _ (List.getElem_mem _)) (hjP _ (List.getElem_mem _))).2 h)
        have h : sinkB (j + 1) cu = cu := by rw [hst, if_neg ge]
        exact Next.mk (k + 1, sinkB k cur) (hnx h) (hdone h)
  · simp (disch := first | omega | (simp only [go_sem]; first | done | omega)) only [go_sem]
    have e : cur = isortB l := by rw [← hcE, show l.length - k = 0 by omega]; rfl
    rw [e]
    exact Ret.same (by simp) hk
theorem stable_a (f : FuncId) (cf : Bin → Bin → Int) (P : Bin → Prop) (he : entersB Try.prog f = true) (hc : ∀ x y, P x → P y → (cf x y < 0 ↔ x.a < y.a)) (hf : ∀ (x y : Bin) (H : Hp) (K : AV → Hp → Prop), P x → P y → K (.c (.int .i64 (cf x y))) H → ACalls Try.prog f [.agg (encN x), .agg (encN y)] H K)
    {i n : Nat} (l : List Bin) (hi : H[i]? = some (.row 62 6 (l.map encN) true)) (hn : n = l.length) (hP : ∀ x ∈ l, P x) (hlen : l.length < 20) (hk : K (.tup []) (H.set i (.row 62 6 ((isortB l).map encN) true))) :
    ACalls Try.prog 75 [.c (.sl (some (i, 0)) n), (.c (.int .i64 n)), .c (.fn f [] [])] H K := by
  subst hn
  have hlt := getElem?_lt hi
  refine acalls Try.func75 rfl (by kernel_rfl) (by simp (disch := first | omega | (simp only [go_sem]; first | done | omega)) only [go_sem]) (fun hH => ?_)
  simp (disch := first | omega | (simp only [go_sem]; first | done | omega)) only [go_sem]
  refine AWp.loop (H.length) [0, 1, 2, 6] [7, 8] (fun (q : Unit) => True) (fun (q : Unit) => [(7, (.c (.int .i64 0))), (8, (.c (.int .i64 20)))]) (fun (q : Unit) => H) (fun (q : Unit) => 0) (by kernel_rfl) (fun _ => rfl) (by kernel_rfl) (by simp) (by first | (simp; done) | (simp; omega)) (by (try simp only [List.forall_mem_cons, List.not_mem_nil, false_implies, implies_true, and_true]); (try simp (disch := first | omega | (simp only [go_sem]; first | done | omega)) only [go_sem]); first | trivial | (simp [AV.ok, AV.ok1, AC.ok]; done) | (simp [AV.ok, AV.ok1, AC.ok]; omega) | ((repeat' apply And.intro) <;> first | trivial | (simp [AV.ok, AV.ok1, AC.ok]; done) | (simp [AV.ok, AV.ok1, AC.ok]; omega) | (refine grV_ok ?_ _; first | (simp; done) | (simp; omega) | omega))) ?_ (fun q hq _ _ => ?_)
  · exact Next.mk () trivial (by (try simp (disch := first | omega | (simp only [go_sem]; first | done | omega)) only [go_sem]); (first | refine WkL.eq ?_ ?_ | refine WkL.rest (by assumption) ?_ ?_ ?_ | refine WkL.keepL (by assumption) rfl ?_ ?_ ?_ ?_) <;> first | rfl | (simp; done) | (simp; omega) | (simp only [List.cons.injEq, AV.c.injEq, AC.int.injEq, AC.bool.injEq, AC.str.injEq, and_true, true_and, Int.natCast_add, Int.natCast_one, Int.cast_ofNat_Int]; omega) | (simp [AV.ok, AV.ok1, AC.ok]; done) | (simp [AV.ok, AV.ok1, AC.ok]; omega) | (simp only [List.forall_mem_cons, List.not_mem_nil, false_implies, implies_true, and_true]; (repeat' apply And.intro) <;> first | exact okN_map (fun x => by simp [go_sem, AC.pure]) | exact okN_grO (fun x => by simp [go_sem, AC.pure]) | (simp [AObj.okN, AC.ok]; done) | (simp [AObj.okN, AC.ok]; omega)) | (simp [*]; done) | grind)
  simp (disch := first | omega | (simp only [go_sem]; first | done | omega)) only [go_sem]
  refine insertion_a f cf P he hc hf l hi rfl hP (by omega) ?_
  simp (disch := first | omega | (simp only [go_sem]; first | done | omega)) only [go_sem]
  refine AWp.loop (H.length) [0, 1, 2] [6] (fun (q : Unit) => True) (fun (q : Unit) => [(6, (.c (.int .i64 20)))]) (fun (q : Unit) => H.set i (.row 62 6 ((isortB l).map encN) true)) (fun (q : Unit) => 0) (by kernel_rfl) (fun _ => rfl) (by kernel_rfl) (by simp) (by first | (simp; done) | (simp; omega)) (by (try simp only [List.forall_mem_cons, List.not_mem_nil, false_implies, implies_true, and_true]); (try simp (disch := first | omega | (simp only [go_sem]; first | done | omega)) only [go_sem]); first | trivial | (simp [AV.ok, AV.ok1, AC.ok]; done) | (simp [AV.ok, AV.ok1, AC.ok]; omega) | ((repeat' apply And.intro) <;> first | trivial | (simp [AV.ok, AV.ok1, AC.ok]; done) | (simp [AV.ok, AV.ok1, AC.ok]; omega) | (refine grV_ok ?_ _; first | (simp; done) | (simp; omega) | omega))) ?_ (fun q hq _ _ => ?_)
  · exact Next.mk () trivial (by (try simp (disch := first | omega | (simp only [go_sem]; first | done | omega)) only [go_sem]); (first | refine WkL.eq ?_ ?_ | refine WkL.rest (by assumption) ?_ ?_ ?_ | refine WkL.keepL (by assumption) rfl ?_ ?_ ?_ ?_) <;> first | rfl | (simp; done) | (simp; omega) | (simp only [List.cons.injEq, AV.c.injEq, AC.int.injEq, AC.bool.injEq, AC.str.injEq, and_true, true_and, Int.natCast_add, Int.natCast_one, Int.cast_ofNat_Int]; omega) | (simp [AV.ok, AV.ok1, AC.ok]; done) | (simp [AV.ok, AV.ok1, AC.ok]; omega) | (simp only [List.forall_mem_cons, List.not_mem_nil, false_implies, implies_true, and_true]; (repeat' apply And.intro) <;> first | exact okN_map (fun x => by simp [go_sem, AC.pure]) | exact okN_grO (fun x => by simp [go_sem, AC.pure]) | (simp [AObj.okN, AC.ok]; done) | (simp [AObj.okN, AC.ok]; omega)) | (simp [*]; done) | grind)
  simp (disch := first | omega | (simp only [go_sem]; first | done | omega)) only [go_sem]
  exact Ret.same (by simp) hk
theorem sortStable_a (f : FuncId) (cf : Bin → Bin → Int) (P : Bin → Prop) (he : entersB Try.prog f = true) (hc : ∀ x y, P x → P y → (cf x y < 0 ↔ x.a < y.a)) (hf : ∀ (x y : Bin) (H : Hp) (K : AV → Hp → Prop), P x → P y → K (.c (.int .i64 (cf x y))) H → ACalls Try.prog f [.agg (encN x), .agg (encN y)] H K)
    {i n : Nat} (l : List Bin) (hi : H[i]? = some (.row 62 6 (l.map encN) true)) (hn : n = l.length) (hP : ∀ x ∈ l, P x) (hlen : l.length < 20) (hk : K (.tup []) (H.set i (.row 62 6 ((isortB l).map encN) true))) :
    ACalls Try.prog 54 [.c (.sl (some (i, 0)) n), .c (.fn f [] [])] H K := by
  subst hn
  have hlt := getElem?_lt hi
  refine acalls Try.func54 rfl (by kernel_rfl) (by simp (disch := first | omega | (simp only [go_sem]; first | done | omega)) only [go_sem]) (fun hH => ?_)
  simp (disch := first | omega | (simp only [go_sem]; first | done | omega)) only [go_sem]
  refine stable_a f cf P he hc hf l hi rfl hP hlen ?_
  simp (disch := first | omega | (simp only [go_sem]; first | done | omega)) only [go_sem]
  exact Ret.same (by simp) hk
theorem isNaN_a (x : Int) (hk : K (.c (.bool false)) H) : ACalls Try.prog 76 [(.c (.int .i64 x))] H K := by
  refine acalls Try.func76 rfl (by kernel_rfl) (by simp (disch := first | omega | (simp only [go_sem]; first | done | omega)) only [go_sem]) (fun hH => ?_)
  simp (disch := first | omega | (simp only [go_sem]; first | done | omega)) only [go_sem]
  (first | refine Ret.sameE (Nat.le_refl _) (by assumption) ?_ | refine Ret.dropE (by assumption) (Nat.le_refl _) (by assumption) (by simp [AV.ok, AV.ok1, AC.ok]) ?_) <;> simp
theorem compare_a (x y : Int) (hk : K (.c (.int .i64 (if x < y then -1 else if y < x then 1 else 0))) H) : ACalls Try.prog 56 [(.c (.int .i64 x)), (.c (.int .i64 y))] H K := by
  refine acalls Try.func56 rfl (by kernel_rfl) (by simp (disch := first | omega | (simp only [go_sem]; first | done | omega)) only [go_sem]) (fun hH => ?_)
  simp (disch := first | omega | (simp only [go_sem]; first | done | omega)) only [go_sem]
  repeat' (first | ((first | refine acond_d ?_ ?_ | refine acond_b ?_ ?_ | refine ag_d ?_ ?_ | refine ag_n ?_ ?_ | refine ag_bt ?_ ?_ | refine ag_bf ?_ ?_) <;> intro c <;> try simp (disch := first | omega | (simp only [go_sem]; first | done | omega)) only [go_sem, c]) | ((first | refine w_draw (by kernel_rfl) (by decide +kernel) ?_ | refine isNaN_a _ ?_) <;> try simp (disch := first | omega | (simp only [go_sem]; first | done | omega)) only [go_sem]))
  all_goals (first | refine Ret.sameE (Nat.le_refl _) (by assumption) ?_ | refine Ret.dropE (by assumption) (Nat.le_refl _) (by assumption) (by simp [AV.ok, AV.ok1, AC.ok]) ?_) <;> (first | rfl | (simp only [AV.c.injEq, AC.bool.injEq]; rw [Bool.eq_iff_iff]; simp only [Bool.not_eq_true', decide_eq_true_eq, decide_eq_false_iff_not, Bool.and_eq_true, Bool.or_eq_true]; omega) | grind | (simp [*]; done) | (simp [*]; omega))
theorem cmp1_a (x y : Bin) (hk : K (.c (.int .i64 (if x.a < y.a then -1 else if y.a < x.a then 1 else 0))) H) : ACalls Try.prog 55 [.agg (encN x), .agg (encN y)] H K := by
  refine acalls Try.func55 rfl (by kernel_rfl) (by simp (disch := first | omega | (simp only [go_sem]; first | done | omega)) only [go_sem]) (fun hH => ?_)
  simp (disch := first | omega | (simp only [go_sem]; first | done | omega)) only [go_sem]
  repeat' (first | ((first | refine acond_d ?_ ?_ | refine acond_b ?_ ?_ | refine ag_d ?_ ?_ | refine ag_n ?_ ?_ | refine ag_bt ?_ ?_ | refine ag_bf ?_ ?_) <;> intro c <;> try simp (disch := first | omega | (simp only [go_sem]; first | done | omega)) only [go_sem, c]) | ((first | refine w_draw (by kernel_rfl) (by decide +kernel) ?_ | refine compare_a _ _ ?_) <;> try simp (disch := first | omega | (simp only [go_sem]; first | done | omega)) only [go_sem]))
  all_goals (first | refine Ret.sameE (Nat.le_refl _) (by assumption) ?_ | refine Ret.dropE (by assumption) (Nat.le_refl _) (by assumption) (by simp [AV.ok, AV.ok1, AC.ok]) ?_) <;> (first | rfl | (simp only [AV.c.injEq, AC.bool.injEq]; rw [Bool.eq_iff_iff]; simp only [Bool.not_eq_true', decide_eq_true_eq, decide_eq_false_iff_not, Bool.and_eq_true, Bool.or_eq_true]; omega) | grind | (simp [*]; done) | (simp [*]; omega))
theorem cmp2_a (x y : Bin) (hx : 0 ≤ x.a ∧ x.a ≤ 345686399999) (hy : 0 ≤ y.a ∧ y.a ≤ 345686399999) (hk : K (.c (.int .i64 (if x.a < y.a then -1 else if y.a < x.a then 1 else 0))) H) : ACalls Try.prog 63 [.agg (encN x), .agg (encN y)] H K := by
  refine acalls Try.func63 rfl (by kernel_rfl) (by simp (disch := first | omega | (simp only [go_sem]; first | done | omega)) only [go_sem]) (fun hH => ?_)
  simp (disch := first | omega | (simp only [go_sem]; first | done | omega)) only [go_sem]
  repeat' (first | ((first | refine acond_d ?_ ?_ | refine acond_b ?_ ?_ | refine ag_d ?_ ?_ | refine ag_n ?_ ?_ | refine ag_bt ?_ ?_ | refine ag_bf ?_ ?_) <;> intro c <;> try simp (disch := first | omega | (simp only [go_sem]; first | done | omega)) only [go_sem, c]) | ((first | refine w_draw (by kernel_rfl) (by decide +kernel) ?_ | refine sign_a _ _ _ ?_) <;> try simp (disch := first | omega | (simp only [go_sem]; first | done | omega)) only [go_sem]))
  all_goals (first | refine Ret.sameE (Nat.le_refl _) (by assumption) ?_ | refine Ret.dropE (by assumption) (Nat.le_refl _) (by assumption) (by simp [AV.ok, AV.ok1, AC.ok]) ?_) <;> grind
end Go.Proofs.Ytfhadgemgfpdbaa
