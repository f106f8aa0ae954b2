/- Samples sorted in place, any number of them: the insertion and the pivot. Condition: the comparison is pure. -/
import Derived.Test.YtmmjphncnnmdaaaHVGB
import Derived.Test.YtmmjphncnnmdaaaHVGA
import Derived.Sort.AssemblyPlain
namespace Go.Proofs.Ytmmjphncnnmdaaa
open Go Go.RowKit
set_option maxRecDepth 100000
set_option linter.all false
set_option maxHeartbeats 1000000
variable {H : Hp} {K : AV → Hp → Prop}
instance smpInh : Inhabited Smp := ⟨⟨0, 0, 0⟩⟩
/-- a row of samples, told as an array -/
def rowA (d : Array Smp) : AObj := .row 46 3 (d.toList.map encS) true
attribute [go_sem] rowA
theorem arr_at (d : Array Smp) {k : Nat} (h : k < d.toList.length) : d.toList[k] = d[k]! := by
  rw [Array.getElem_toList]
  exact (getElem!_pos d k (by simpa using h)).symm
theorem swp_row (d : Array Smp) (i j : Nat) : ((d.toList.map encS).set i (encS d[j]!)).set j (encS d[i]!) = (Go.Sort.swp d i j).toList.map encS := by
  unfold Go.Sort.swp
  simp [List.map_set, -encS]
theorem swp_all {P : Smp → Prop} {d : Array Smp} {i j : Nat} (hi : i < d.size) (hj : j < d.size) (h : ∀ k, k < d.size → P d[k]!) : ∀ k, k < (Go.Sort.swp d i j).size → P (Go.Sort.swp d i j)[k]! := by
  intro k hk
  rw [Go.Sort.size_swp] at hk
  rw [Go.Sort.swp_get d hi hj]
  split
  · exact h i hi
  · split
    · exact h j hj
    · exact h k hk
/-- a comparison that is pure -/
structure CmpA (f : FuncId) (lt : Smp → Smp → Bool) (P : Smp → Prop) : Prop where
  he : entersB Try.prog f = true
  hf : ∀ (x y : Smp) (H : Hp) (K : AV → Hp → Prop), P x → P y → (∀ r : Int, (decide (r < 0) = lt x y) → K (.c (.int .i64 r)) H) → ACalls Try.prog f [.agg (encS x), .agg (encS y)] H K
theorem insA_a {f : FuncId} {lt : Smp → Smp → Bool} {P : Smp → Prop} (hc : CmpA f lt P) {i n a b : Nat} (d : Array Smp) (hi : H[i]? = some (rowA d)) (hn : n = d.size) (hab : a ≤ b) (hb : b ≤ d.size) (hsz : d.size ≤ 1000000) (hP : ∀ k, k < d.size → P d[k]!) (hk : K (.tup []) (H.set i (rowA (Go.Sort.insertionSort lt d a b)))) :
    ACalls Try.prog 97 [.c (.sl (some (i, 0)) n), (.c (.int .i64 a)), (.c (.int .i64 b)), .c (.fn f [] [])] H K := by
  subst hn
  have hlt := getElem?_lt hi
  have he := hc.he
  refine acalls Try.func97 rfl (by kernel_rfl) (by simp (disch := first | omega | (simp only [go_sem]; first | done | omega)) only [go_sem]) (fun hH => ?_)
  simp (disch := first | omega | (simp only [go_sem]; first | done | omega)) only [go_sem]
  refine AWp.loop (H.length) [0, 1, 2, 3] [8] (fun (q : Nat × Array Smp) => a + 1 ≤ q.1 ∧ (q.1 ≤ b ∨ q.1 = a + 1) ∧ q.2.size = d.size ∧ (∀ k, k < d.size → P q.2[k]!) ∧ Go.Sort.insOuter lt a b q.1 q.2 = Go.Sort.insertionSort lt d a b) (fun (q : Nat × Array Smp) => [(8, (.c (.int .i64 (q.1))))]) (fun (q : Nat × Array Smp) => H.set i (rowA q.2)) (fun (q : Nat × Array Smp) => b - q.1) (by kernel_rfl) (fun _ => rfl) (by kernel_rfl) (by simp) (by first | (simp; done) | (simp; omega)) (by (try simp only [List.forall_mem_cons, List.not_mem_nil, false_implies, implies_true, and_true]); (try simp (disch := first | omega | (simp only [go_sem]; first | done | omega)) only [go_sem]); all_goals first | trivial | (simp [AV.ok, AV.ok1, AC.ok]; done) | (simp [AV.ok, AV.ok1, AC.ok]; omega) | (simp [AV.ok, AV.ok1, AC.ok]; assumption) | ((repeat' apply And.intro) <;> first | trivial | (simp [AV.ok, AV.ok1, AC.ok]; done) | (simp [AV.ok, AV.ok1, AC.ok]; omega) | (simp [AV.ok, AV.ok1, AC.ok]; assumption) | (refine grV_ok ?_ _; first | (simp; done) | (simp; omega) | omega))) ?_ (fun q hq _ _ => ?_)
  · refine Next.mk (a + 1, d) ⟨by simp, by simp, rfl, hP, rfl⟩ ?_
    dsimp only
    rw [set_same hi]
    (try simp (disch := first | omega | (simp only [go_sem]; first | done | omega)) only [go_sem]); (first | refine WkL.eq ?_ ?_ | refine WkL.rest (by assumption) ?_ ?_ ?_ | refine WkL.keepL (by assumption) rfl ?_ ?_ ?_ ?_) <;> first | rfl | (simp; done) | (simp; omega) | (simp only [List.cons.injEq, AV.c.injEq, AC.int.injEq, AC.bool.injEq, AC.str.injEq, and_true, true_and, Int.natCast_add, Int.natCast_one, Int.cast_ofNat_Int]; omega) | (simp [AV.ok, AV.ok1, AC.ok]; done) | (simp [AV.ok, AV.ok1, AC.ok]; omega) | (simp only [List.forall_mem_cons, List.not_mem_nil, false_implies, implies_true, and_true]; (repeat' apply And.intro) <;> first | exact okN_map (fun x => by simp [go_sem, AC.pure]) | exact okN_grO (fun x => by simp [go_sem, AC.pure]) | (simp [AObj.okN, AC.ok]; done) | (simp [AObj.okN, AC.ok]; omega)) | (simp [*]; done) | grind
  obtain ⟨k, cur⟩ := q
  obtain ⟨k1, k2, k3, k4, k5⟩ := hq
  dsimp only at k1 k2 k3 k4 k5
  by_cases hkb : k < b
  · have hout : Go.Sort.insOuter lt a b k cur = Go.Sort.insOuter lt a b (k + 1) (Go.Sort.insInner lt a k cur) := by rw [Go.Sort.insOuter, if_pos hkb]
    simp (disch := first | omega | (simp only [go_sem]; first | done | omega)) only [go_sem]
    refine AWp.loop (H.length) [0, 1, 2, 3, 8] [9] (fun (q : Nat × Array Smp) => q.1 ≤ k ∧ q.2.size = d.size ∧ (∀ k, k < d.size → P q.2[k]!) ∧ Go.Sort.insInner lt a q.1 q.2 = Go.Sort.insInner lt a k cur) (fun (q : Nat × Array Smp) => [(9, (.c (.int .i64 (q.1))))]) (fun (q : Nat × Array Smp) => H.set i (rowA q.2)) (fun (q : Nat × Array Smp) => q.1) (by kernel_rfl) (fun _ => rfl) (by kernel_rfl) (by simp) (by first | (simp; done) | (simp; omega)) (by (try simp only [List.forall_mem_cons, List.not_mem_nil, false_implies, implies_true, and_true]); (try simp (disch := first | omega | (simp only [go_sem]; first | done | omega)) only [go_sem]); all_goals first | trivial | (simp [AV.ok, AV.ok1, AC.ok]; done) | (simp [AV.ok, AV.ok1, AC.ok]; omega) | (simp [AV.ok, AV.ok1, AC.ok]; assumption) | ((repeat' apply And.intro) <;> first | trivial | (simp [AV.ok, AV.ok1, AC.ok]; done) | (simp [AV.ok, AV.ok1, AC.ok]; omega) | (simp [AV.ok, AV.ok1, AC.ok]; assumption) | (refine grV_ok ?_ _; first | (simp; done) | (simp; omega) | omega))) ?_ (fun q hq _ _ => ?_)
    · exact Next.mk (k, cur) ⟨Nat.le_refl _, k3, k4, rfl⟩ (by (try simp (disch := first | omega | (simp only [go_sem]; first | done | omega)) only [go_sem]); (first | refine WkL.eq ?_ ?_ | refine WkL.rest (by assumption) ?_ ?_ ?_ | refine WkL.keepL (by assumption) rfl ?_ ?_ ?_ ?_) <;> first | rfl | (simp; done) | (simp; omega) | (simp only [List.cons.injEq, AV.c.injEq, AC.int.injEq, AC.bool.injEq, AC.str.injEq, and_true, true_and, Int.natCast_add, Int.natCast_one, Int.cast_ofNat_Int]; omega) | (simp [AV.ok, AV.ok1, AC.ok]; done) | (simp [AV.ok, AV.ok1, AC.ok]; omega) | (simp only [List.forall_mem_cons, List.not_mem_nil, false_implies, implies_true, and_true]; (repeat' apply And.intro) <;> first | exact okN_map (fun x => by simp [go_sem, AC.pure]) | exact okN_grO (fun x => by simp [go_sem, AC.pure]) | (simp [AObj.okN, AC.ok]; done) | (simp [AObj.okN, AC.ok]; omega)) | (simp [*]; done) | grind)
    obtain ⟨j, cu⟩ := q
    obtain ⟨j1, j2, j3, j4⟩ := hq
    dsimp only at j1 j2 j3 j4
    have hnx : Go.Sort.insInner lt a j cu = cu → (a + 1 ≤ k + 1 ∧ (k + 1 ≤ b ∨ k + 1 = a + 1) ∧ (Go.Sort.insInner lt a k cur).size = d.size ∧ (∀ q, q < d.size → P (Go.Sort.insInner lt a k cur)[q]!) ∧ Go.Sort.insOuter lt a b (k + 1) (Go.Sort.insInner lt a k cur) = Go.Sort.insertionSort lt d a b) ∧ b - (k + 1) < b - k := fun h => by
      rw [← j4, h]
      refine ⟨⟨by omega, .inl (by omega), j2, j3, ?_⟩, by omega⟩
      rw [← h, j4, ← hout]
      exact k5
    have hdone : Go.Sort.insInner lt a j cu = cu → Go.Sort.insInner lt a k cur = cu := fun h => by rw [← j4, h]
    rcases j with _ | j
    · have h0 : Go.Sort.insInner lt a 0 cu = cu := rfl
      simp (disch := first | omega | (simp only [go_sem]; first | done | omega)) only [go_sem]
      repeat' (first | ((first | refine acond_d ?_ ?_ | refine acond_b ?_ ?_ | refine ag_d ?_ ?_ | refine ag_n ?_ ?_ | refine ag_bt ?_ ?_ | refine ag_bf ?_ ?_) <;> intro c <;> try simp (disch := first | omega | (simp only [go_sem]; first | done | omega)) only [go_sem, c]) | ((first | refine w_draw (by kernel_rfl) (by decide +kernel) ?_) <;> try simp (disch := first | omega | (simp only [go_sem]; first | done | omega)) only [go_sem]))
      refine Next.mk (k + 1, Go.Sort.insInner lt a k cur) ?_ ?_
      · exact hnx h0
      · rw [hdone h0]
        (try simp (disch := first | omega | (simp only [go_sem]; first | done | omega)) only [go_sem]); (first | refine WkL.eq ?_ ?_ | refine WkL.rest (by assumption) ?_ ?_ ?_ | refine WkL.keepL (by assumption) rfl ?_ ?_ ?_ ?_) <;> first | rfl | (simp; done) | (simp; omega) | (simp only [List.cons.injEq, AV.c.injEq, AC.int.injEq, AC.bool.injEq, AC.str.injEq, and_true, true_and, Int.natCast_add, Int.natCast_one, Int.cast_ofNat_Int]; omega) | (simp [AV.ok, AV.ok1, AC.ok]; done) | (simp [AV.ok, AV.ok1, AC.ok]; omega) | (simp only [List.forall_mem_cons, List.not_mem_nil, false_implies, implies_true, and_true]; (repeat' apply And.intro) <;> first | exact okN_map (fun x => by simp [go_sem, AC.pure]) | exact okN_grO (fun x => by simp [go_sem, AC.pure]) | (simp [AObj.okN, AC.ok]; done) | (simp [AObj.okN, AC.ok]; omega)) | (simp [*]; done) | grind
    · by_cases ha : a < j + 1
      · have b1 : j + 1 < cu.toList.length := by rw [Array.length_toList]; omega
        have b2 : j < cu.toList.length := by omega
        have hx1 : cu.toList[j + 1] = cu[j + 1]! := arr_at cu b1
        have hx2 : cu.toList[(((j + 1 : Nat) : Int) - 1).toNat]'(by omega) = cu[j]! := by
          have e : (((j + 1 : Nat) : Int) - 1).toNat = j := by omega
          simp only [e]
          exact arr_at cu b2
        have ha2 : (a : Int) < ((j + 1 : Nat) : Int) := by omega
        simp (disch := first | omega | (simp only [go_sem]; first | done | omega)) only [go_sem]
        repeat' (first | ((first | refine acond_d ?_ ?_ | refine acond_b ?_ ?_ | refine ag_d ?_ ?_ | refine ag_n ?_ ?_ | refine ag_bt ?_ ?_ | refine ag_bf ?_ ?_) <;> intro c <;> try simp (disch := first | omega | (simp only [go_sem]; first | done | omega)) only [go_sem, c, he, hx1, hx2, ha2]) | ((first | refine w_draw (by kernel_rfl) (by decide +kernel) ?_ | refine hc.hf cu[j + 1]! cu[j]! _ _ (j3 _ (by omega)) (j3 _ (by omega)) (fun r hr => ?_)) <;> try simp (disch := first | omega | (simp only [go_sem]; first | done | omega)) only [go_sem, he, hx1, hx2, ha2]))
        · have hl : lt cu[j + 1]! cu[j]! = true := by rw [← hr]; exact decide_eq_true c
          have hmp : ∀ q, q = j → ((cu.toList.map encS).set (j + 1) (encS cu[j]!)).set q (encS cu[j + 1]!) = (Go.Sort.swp cu (j + 1) j).toList.map encS := by
            rintro q rfl
            exact swp_row cu (q + 1) q
          have hmp := hmp (((j + 1 : Nat) : Int) - 1).toNat (by omega)
          refine Next.mk (j, Go.Sort.swp cu (j + 1) j) ?_ ?_
          · refine ⟨⟨by dsimp only; omega, by rw [Go.Sort.size_swp]; exact j2, ?_, ?_⟩, by dsimp only; omega⟩
            · have := swp_all (P := P) (d := cu) (i := j + 1) (j := j) (by omega) (by omega) (fun q hq => j3 q (by omega))
              rw [Go.Sort.size_swp, j2] at this
              exact this
            · rw [← j4]
              conv => rhs; rw [Go.Sort.insInner, if_pos (by simp [ha, hl])]
          · dsimp only
            rw [← hmp]
            (try simp (disch := first | omega | (simp only [go_sem]; first | done | omega)) only [go_sem]); (first | refine WkL.eq ?_ ?_ | refine WkL.rest (by assumption) ?_ ?_ ?_ | refine WkL.keepL (by assumption) rfl ?_ ?_ ?_ ?_) <;> first | rfl | (simp; done) | (simp; omega) | (simp only [List.cons.injEq, AV.c.injEq, AC.int.injEq, AC.bool.injEq, AC.str.injEq, and_true, true_and, Int.natCast_add, Int.natCast_one, Int.cast_ofNat_Int]; omega) | (simp [AV.ok, AV.ok1, AC.ok]; done) | (simp [AV.ok, AV.ok1, AC.ok]; omega) | (simp only [List.forall_mem_cons, List.not_mem_nil, false_implies, implies_true, and_true]; (repeat' apply And.intro) <;> first | exact okN_map (fun x => by simp [go_sem, AC.pure]) | exact okN_grO (fun x => by simp [go_sem, AC.pure]) | (simp [AObj.okN, AC.ok]; done) | (simp [AObj.okN, AC.ok]; omega)) | (simp [*]; done) | grind
        · have hl : lt cu[j + 1]! cu[j]! = false := by rw [← hr]; exact decide_eq_false c
          have h0 : Go.Sort.insInner lt a (j + 1) cu = cu := by rw [Go.Sort.insInner, if_neg (by simp [hl])]
          refine Next.mk (k + 1, Go.Sort.insInner lt a k cur) ?_ ?_
          · exact hnx h0
          · rw [hdone h0]
            (try simp (disch := first | omega | (simp only [go_sem]; first | done | omega)) only [go_sem]); (first | refine WkL.eq ?_ ?_ | refine WkL.rest (by assumption) ?_ ?_ ?_ | refine WkL.keepL (by assumption) rfl ?_ ?_ ?_ ?_) <;> first | rfl | (simp; done) | (simp; omega) | (simp only [List.cons.injEq, AV.c.injEq, AC.int.injEq, AC.bool.injEq, AC.str.injEq, and_true, true_and, Int.natCast_add, Int.natCast_one, Int.cast_ofNat_Int]; omega) | (simp [AV.ok, AV.ok1, AC.ok]; done) | (simp [AV.ok, AV.ok1, AC.ok]; omega) | (simp only [List.forall_mem_cons, List.not_mem_nil, false_implies, implies_true, and_true]; (repeat' apply And.intro) <;> first | exact okN_map (fun x => by simp [go_sem, AC.pure]) | exact okN_grO (fun x => by simp [go_sem, AC.pure]) | (simp [AObj.okN, AC.ok]; done) | (simp [AObj.okN, AC.ok]; omega)) | (simp [*]; done) | grind
      · have h0 : Go.Sort.insInner lt a (j + 1) cu = cu := by rw [Go.Sort.insInner, if_neg (by simp; omega)]
        have ha2 : ¬(a : Int) < ((j + 1 : Nat) : Int) := by omega
        simp (disch := first | omega | (simp only [go_sem]; first | done | omega)) only [go_sem, ha2]
        repeat' (first | ((first | refine acond_d ?_ ?_ | refine acond_b ?_ ?_ | refine ag_d ?_ ?_ | refine ag_n ?_ ?_ | refine ag_bt ?_ ?_ | refine ag_bf ?_ ?_) <;> intro c <;> try simp (disch := first | omega | (simp only [go_sem]; first | done | omega)) only [go_sem, c, ha2]) | ((first | refine w_draw (by kernel_rfl) (by decide +kernel) ?_) <;> try simp (disch := first | omega | (simp only [go_sem]; first | done | omega)) only [go_sem, ha2]))
        refine Next.mk (k + 1, Go.Sort.insInner lt a k cur) ?_ ?_
        · exact hnx h0
        · rw [hdone h0]
          (try simp (disch := first | omega | (simp only [go_sem]; first | done | omega)) only [go_sem]); (first | refine WkL.eq ?_ ?_ | refine WkL.rest (by assumption) ?_ ?_ ?_ | refine WkL.keepL (by assumption) rfl ?_ ?_ ?_ ?_) <;> first | rfl | (simp; done) | (simp; omega) | (simp only [List.cons.injEq, AV.c.injEq, AC.int.injEq, AC.bool.injEq, AC.str.injEq, and_true, true_and, Int.natCast_add, Int.natCast_one, Int.cast_ofNat_Int]; omega) | (simp [AV.ok, AV.ok1, AC.ok]; done) | (simp [AV.ok, AV.ok1, AC.ok]; omega) | (simp only [List.forall_mem_cons, List.not_mem_nil, false_implies, implies_true, and_true]; (repeat' apply And.intro) <;> first | exact okN_map (fun x => by simp [go_sem, AC.pure]) | exact okN_grO (fun x => by simp [go_sem, AC.pure]) | (simp [AObj.okN, AC.ok]; done) | (simp [AObj.okN, AC.ok]; omega)) | (simp [*]; done) | grind
  · have h0 : Go.Sort.insOuter lt a b k cur = cur := by rw [Go.Sort.insOuter, if_neg hkb]
    rw [← k5, h0] at hk
    simp (disch := first | omega | (simp only [go_sem]; first | done | omega)) only [go_sem]
    exact Ret.same (by simp) hk
end Go.Proofs.Ytmmjphncnnmdaaa
