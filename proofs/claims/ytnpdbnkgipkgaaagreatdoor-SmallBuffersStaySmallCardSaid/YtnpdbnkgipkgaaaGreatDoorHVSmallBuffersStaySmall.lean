/- SmallBuffersStaySmall: what the law's function answers for all numbers it is given. No condition. -/
import Derived.Test.YtnpdbnkgipkgaaaGreatDoorHVSmallM
import Derived.Test.YtnpdbnkgipkgaaaGreatDoorHVSteps
import Derived.Test.YtnpdbnkgipkgaaaGreatDoorHVReady
import Derived.Test.YtnpdbnkgipkgaaaGreatDoorHVGC
namespace Go.Proofs.YtnpdbnkgipkgaaaGreatDoor
open Go Go.RowKit
set_option maxRecDepth 100000
set_option linter.all false
set_option maxHeartbeats 2000000
variable {H : Hp} {K : AV → Hp → Prop}
theorem indexRw_a (f : FuncId) (caps : List (Nat × Nat × Nat)) (p : (Int × Int) → Bool) (he : entersB Tryz.prog f = true) (hc : ∀ (a b c : Nat), (a, b, c) ∈ caps → a < H.length) (l : List (Int × Int)) (hf : ∀ (x : (Int × Int)) (K : AV → Hp → Prop), x ∈ l → K (.c (.bool (p x))) H → ACalls Tryz.prog f (.agg (encRw x) :: caps.map fun q => .c (.ptr (some q))) H K) (hlen : l.length ≤ 1099511627776) (hk : ∀ r : Int, (0 ≤ r ↔ l.any p = true) → K (.c (.int .i64 r)) H) : ACalls Tryz.prog 37 [.c (.lst 2 (l.map encRw)), .c (.fn f [] caps)] H K := by
  refine acalls Tryz.func37 rfl (by kernel_rfl) (by simp (disch := first | omega | (simp only [go_sem]; first | done | omega)) only [go_sem]) (fun hH => ?_)
  simp (disch := first | omega | (simp only [go_sem]; first | done | omega)) only [go_sem]
  refine AWp.loop (H.length) [0, 1, 7] [8] (fun (k : Nat) => k ≤ l.length ∧ ∀ j (h : j < l.length), j < k → p l[j] = false) (fun (k : Nat) => [(8, (.c (.int .i64 k)))]) (fun (k : Nat) => H) (fun (k : Nat) => l.length - k) (by kernel_rfl) (fun _ => rfl) (by kernel_rfl) (by first | (simp; done) | omega) (by first | (simp; done) | (simp; omega) | omega) (by (try simp only [List.forall_mem_cons, List.not_mem_nil, false_implies, implies_true, and_true]); (try simp (disch := first | omega | (simp only [go_sem]; first | done | omega)) only [go_sem]); all_goals first | trivial | (simp [AV.ok, AV.ok1, AC.ok]; done) | (simp [AV.ok, AV.ok1, AC.ok]; omega) | (simp [AV.ok, AV.ok1, AC.ok]; assumption) | ((repeat' apply And.intro) <;> first | trivial | (simp [AV.ok, AV.ok1, AC.ok]; done) | (simp [AV.ok, AV.ok1, AC.ok]; omega) | (simp [AV.ok, AV.ok1, AC.ok]; assumption) | (refine grV_ok ?_ _; first | (simp; done) | (simp; omega) | omega))) ?_ (fun k hk1 _ _ => ?_)
  · exact Next.mk 0 (by simp) (by (try simp (disch := first | omega | (simp only [go_sem]; first | done | omega)) only [go_sem]); (first | refine WkL.eq ?_ ?_ | refine WkL.rest (by assumption) ?_ ?_ ?_ | refine WkL.keepL (by assumption) rfl ?_ ?_ ?_ ?_) <;> first | rfl | (simp; done) | (simp; omega) | (simp only [List.cons.injEq, AV.c.injEq, AC.int.injEq, AC.bool.injEq, AC.str.injEq, and_true, true_and, Int.natCast_add, Int.natCast_one, Int.cast_ofNat_Int]; omega) | (simp [AV.ok, AV.ok1, AC.ok]; done) | (simp [AV.ok, AV.ok1, AC.ok]; omega) | (simp only [List.forall_mem_cons, List.not_mem_nil, false_implies, implies_true, and_true]; (repeat' apply And.intro) <;> first | exact okN_map (fun x => by simp [go_sem, AC.pure]) | exact okN_grO (fun x => by simp [go_sem, AC.pure]) | (simp [AObj.okN, AC.ok]; done) | (simp [AObj.okN, AC.ok]; omega)) | (simp [*]; done) | grind)
  obtain ⟨hk1, hk2⟩ := hk1
  by_cases hlt : k < l.length
  · simp (disch := first | omega | (simp only [go_sem]; first | done | omega)) only [go_sem, he]
    refine hf l[k] _ (List.getElem_mem hlt) ?_
    simp (disch := first | omega | (simp only [go_sem]; first | done | omega)) only [go_sem]
    refine acond_b (fun c => ?_) (fun c => ?_)
    · simp (disch := first | omega | (simp only [go_sem]; first | done | omega)) only [go_sem]
      refine Ret.same (Nat.le_refl _) (hk k ?_)
      simp only [Int.natCast_nonneg, List.any_eq_true, true_iff]
      exact ⟨l[k], List.getElem_mem _, c⟩
    · simp (disch := first | omega | (simp only [go_sem]; first | done | omega)) only [go_sem]
      refine Next.mk (k + 1) ⟨⟨by omega, fun j h hj => ?_⟩, by omega⟩ (by (try simp (disch := first | omega | (simp only [go_sem]; first | done | omega)) only [go_sem]); (first | refine WkL.eq ?_ ?_ | refine WkL.rest (by assumption) ?_ ?_ ?_ | refine WkL.keepL (by assumption) rfl ?_ ?_ ?_ ?_) <;> first | rfl | (simp; done) | (simp; omega) | (simp only [List.cons.injEq, AV.c.injEq, AC.int.injEq, AC.bool.injEq, AC.str.injEq, and_true, true_and, Int.natCast_add, Int.natCast_one, Int.cast_ofNat_Int]; omega) | (simp [AV.ok, AV.ok1, AC.ok]; done) | (simp [AV.ok, AV.ok1, AC.ok]; omega) | (simp only [List.forall_mem_cons, List.not_mem_nil, false_implies, implies_true, and_true]; (repeat' apply And.intro) <;> first | exact okN_map (fun x => by simp [go_sem, AC.pure]) | exact okN_grO (fun x => by simp [go_sem, AC.pure]) | (simp [AObj.okN, AC.ok]; done) | (simp [AObj.okN, AC.ok]; omega)) | (simp [*]; done) | grind)
      rcases Nat.lt_or_ge j k with h1 | h1
      · exact hk2 j h h1
      · obtain rfl : j = k := by omega
        simpa using c
  · simp (disch := first | omega | (simp only [go_sem]; first | done | omega)) only [go_sem]
    refine Ret.same (Nat.le_refl _) (hk (-1) ?_)
    have : l.any p = false := by
      rw [List.any_eq_false]
      intro x hx
      obtain ⟨j, hj, rfl⟩ := List.getElem_of_mem hx
      simpa using hk2 j hj (by omega)
    simp [this]
theorem containsRw_a (f : FuncId) (caps : List (Nat × Nat × Nat)) (p : (Int × Int) → Bool) (he : entersB Tryz.prog f = true) (hc : ∀ (a b c : Nat), (a, b, c) ∈ caps → a < H.length) (l : List (Int × Int)) (hf : ∀ (x : (Int × Int)) (K : AV → Hp → Prop), x ∈ l → K (.c (.bool (p x))) H → ACalls Tryz.prog f (.agg (encRw x) :: caps.map fun q => .c (.ptr (some q))) H K) (hlen : l.length ≤ 1099511627776) (hk : K (.c (.bool (l.any p))) H) : ACalls Tryz.prog 12 [.c (.lst 2 (l.map encRw)), .c (.fn f [] caps)] H K := by
  refine acalls Tryz.func12 rfl (by kernel_rfl) (by simp (disch := first | omega | (simp only [go_sem]; first | done | omega)) only [go_sem]) (fun hH => ?_)
  simp (disch := first | omega | (simp only [go_sem]; first | done | omega)) only [go_sem]
  refine indexRw_a f caps p he hc l hf hlen (fun r hr => ?_)
  simp (disch := first | omega | (simp only [go_sem]; first | done | omega)) only [go_sem]
  refine Ret.same (Nat.le_refl _) ?_
  rw [show decide (0 ≤ r) = l.any p by rw [Bool.eq_iff_iff, decide_eq_true_eq]; exact hr]
  exact hk
theorem sbs1_a {i ty : Nat} {own : Bool} (x : Int × Int) (y : Pk) (hi : H[i]? = some (.row ty 5 [encPk y] own)) (hk : K (.c (.bool (decide (x.1 ≤ y.n ∧ y.n < x.2)))) H) : ACalls Tryz.prog 13 [.agg (encRw x), .c (.ptr (some (i, 0, 0)))] H K := by
  have hi1 := getElem?_lt hi
  refine acalls Tryz.func13 rfl (by kernel_rfl) (by simp (disch := first | omega | (simp only [go_sem]; first | done | omega)) only [go_sem]) (fun hH => ?_)
  simp (disch := first | omega | (simp only [go_sem]; first | done | omega)) only [go_sem, hi]
  repeat' (first | ((first | refine acond_d ?_ ?_ | refine acond_b ?_ ?_ | refine ag_d ?_ ?_ | refine ag_n ?_ ?_ | refine ag_bt ?_ ?_ | refine ag_bf ?_ ?_) <;> intro c <;> try simp (disch := first | omega | (simp only [go_sem]; first | done | omega)) only [go_sem, c, hi]) | ((first | refine w_draw (by kernel_rfl) (by decide +kernel) ?_) <;> try simp (disch := first | omega | (simp only [go_sem]; first | done | omega)) only [go_sem, hi]))
  all_goals
    refine Ret.dropE hH (Nat.le_refl _) hk trivial ?_
    simp only [AV.c.injEq, AC.bool.injEq]
    rw [Bool.eq_iff_iff]
    simp
    try omega
theorem cap1 {n m : Nat} (h : n < m) : ∀ (a b c : Nat), (a, b, c) ∈ [(n, 0, 0)] → a < m := by
  intro a b c hm
  simp at hm
  omega
theorem smallBuffersStaySmall_a (zs : List Int) (hz : zs.length ≤ 9223372036854775807) (hk : K (.c (.bool true)) H) : ACalls Tryz.prog 3 [.c (.lst 1 (zs.map encI))] H K := by
  have st : ∀ (k : Int) (L : Hp), 0 ≤ k → k ≤ 1000000000 → Str (H ++ strO zs k :: L) H.length zs k := fun k L h1 h2 => ⟨hz, h1, by omega, by simp⟩
  refine acalls Tryz.func3 rfl (by kernel_rfl) (by simp (disch := first | omega | (simp only [go_sem]; first | done | omega)) only [go_sem]) (fun hH => ?_)
  simp (disch := first | omega | (simp only [go_sem]; first | done | omega)) only [go_sem]
  refine range_a H.length zs 0 0 20 (st _ _ (by omega) (by omega)) (by omega) (by omega) (by omega) (fun m m1 m2 => ?_)
  simp (disch := first | omega | (simp only [go_sem]; first | done | omega)) only [go_sem]
  refine steps_a H.length zs 1 m (st _ _ (by omega) (by omega)) (by omega) m1 (by omega) (fun l j1 g1 g2 g3 g4 => ?_)
  simp (disch := first | omega | (simp only [go_sem]; first | done | omega)) only [go_sem]
  refine range_a H.length zs j1 2 5 (st _ _ (by omega) (by omega)) (by omega) (by omega) (by omega) (fun c c1 c2 => ?_)
  simp (disch := first | omega | (simp only [go_sem]; first | done | omega)) only [go_sem]
  refine range_a H.length zs (j1 + 1) 1 3 (st _ _ (by omega) (by omega)) (by omega) (by omega) (by omega) (fun p p1 p2 => ?_)
  have hlen : l.length ≤ 1099511627776 := by omega
  have ht : ∀ x ∈ l, x.tag.size ≤ 1099511627776 := fun x hx => by have := g4 x hx; omega
  simp (disch := first | omega | (simp only [go_sem]; first | done | omega)) only [go_sem]
  refine stepsFault_a l hlen ht ?_
  simp (disch := first | omega | (simp only [go_sem]; first | done | omega)) only [go_sem]
  refine acond_d (fun c3 => ?_) (fun c3 => ?_)
  rotate_left
  · simp (disch := first | omega | (simp only [go_sem]; first | done | omega)) only [go_sem]
    refine ready_a ?_
    simp (disch := first | omega | (simp only [go_sem]; first | done | omega)) only [go_sem]
    exact Ret.drop hH (Nat.le_refl _) trivial hk
  have hE : bfE c p l = 0 := stpF_bfE c3 (by omega) (by omega)
  simp (disch := first | omega | (simp only [go_sem]; first | done | omega)) only [go_sem]
  refine buffered_a c p l hlen ht ?_
  rw [if_pos hE, hE]
  simp (disch := first | omega | (simp only [go_sem]; first | done | omega)) only [go_sem]
  refine dropped_a c p l hlen ht ?_
  rw [if_pos hE, hE]
  obtain ⟨s1, s2, s3, s4, s5⟩ := small_ok (c := c) (p := p) (by omega) (by omega) l
  have hBl : ((playF c p l).l.map (fun x => x.p)).length ≤ 5 := by omega
  have hDl : (rowsF (srtI (playF c p l).drp)).length ≤ 2000 := by
    have hbd := play_bd c p l l.length (Nat.le_refl _) (by omega)
    rw [List.take_length] at hbd
    have := rowsF_len (srtI (playF c p l).drp) _ (Nat.le_refl _)
    rw [List.take_length, srtI_len] at this
    have := hbd.b
    omega
  generalize (playF c p l).l.map (fun x => x.p) = B at *
  generalize rowsF (srtI (playF c p l).drp) = D at *
  simp (disch := first | omega | (simp only [go_sem]; first | done | omega)) only [go_sem]
  refine errsK_lit [0, 0] (by first | exact at0 (by simp) | exact at1 (by simp) | exact at2 (by simp) | exact at3 (by simp) | exact at4 (by simp) | exact at5 (by simp) | exact atG 6 (by simp) rfl | exact atG 7 (by simp) rfl | exact atG 8 (by simp) rfl | exact atG 9 (by simp) rfl | exact atG 10 (by simp) rfl | exact atG 11 (by simp) rfl | exact atG 12 (by simp) rfl | exact atG 13 (by simp) rfl | exact atG 14 (by simp) rfl | exact atG 15 (by simp) rfl | assumption) rfl rfl (by simp) ?_
  rw [show firstE ([0, 0] : List Int) = 0 from rfl]
  simp (disch := first | omega | (simp only [go_sem]; first | done | omega)) only [go_sem, s1]
  refine AWp.loop (H.length + 1) [7, 9, 55, 56] [57] (fun (k : Nat) => k ≤ B.length) (fun (k : Nat) => [(57, (.c (.int .i64 k)))]) (fun (k : Nat) => H ++ [strO zs (j1 + 1 + 1)]) (fun (k : Nat) => B.length - k) (by kernel_rfl) (fun _ => rfl) (by kernel_rfl) (by first | (simp; done) | omega) (by first | (simp; done) | (simp; omega) | omega) (by (try simp only [List.forall_mem_cons, List.not_mem_nil, false_implies, implies_true, and_true]); (try simp (disch := first | omega | (simp only [go_sem]; first | done | omega)) only [go_sem]); all_goals first | trivial | (simp [AV.ok, AV.ok1, AC.ok]; done) | (simp [AV.ok, AV.ok1, AC.ok]; omega) | (simp [AV.ok, AV.ok1, AC.ok]; assumption) | ((repeat' apply And.intro) <;> first | trivial | (simp [AV.ok, AV.ok1, AC.ok]; done) | (simp [AV.ok, AV.ok1, AC.ok]; omega) | (simp [AV.ok, AV.ok1, AC.ok]; assumption) | (refine grV_ok ?_ _; first | (simp; done) | (simp; omega) | omega))) ?_ (fun k hk1 _ _ => ?_)
  · refine Next.mk 0 (by omega) ?_
    (try simp (disch := first | omega | (simp only [go_sem]; first | done | omega)) only [go_sem]); (first | refine WkL.eq ?_ ?_ | refine WkL.rest (by assumption) ?_ ?_ ?_ | refine WkL.keepL (by assumption) rfl ?_ ?_ ?_ ?_) <;> first | rfl | (simp; done) | (simp; omega) | (simp only [List.cons.injEq, AV.c.injEq, AC.int.injEq, AC.bool.injEq, AC.str.injEq, and_true, true_and, Int.natCast_add, Int.natCast_one, Int.cast_ofNat_Int]; omega) | (simp [AV.ok, AV.ok1, AC.ok]; done) | (simp [AV.ok, AV.ok1, AC.ok]; omega) | (simp only [List.forall_mem_cons, List.not_mem_nil, false_implies, implies_true, and_true]; (repeat' apply And.intro) <;> first | exact okN_map (fun x => by simp [go_sem, AC.pure]) | exact okN_grO (fun x => by simp [go_sem, AC.pure]) | (simp [AObj.okN, AC.ok]; done) | (simp [AObj.okN, AC.ok]; omega)) | (simp [*]; done) | grind
  by_cases hlt : k < B.length
  · obtain ⟨y, hy⟩ : ∃ y, y = B[k] := ⟨_, rfl⟩
    have hym : y ∈ B := by rw [hy]; exact List.getElem_mem hlt
    have hany : D.any (fun r => decide (r.1 ≤ y.n ∧ y.n < r.2)) = false := by
      rw [List.any_eq_false]
      exact fun r hr => by simpa using s3 y hym r hr
    by_cases hk0 : 0 < k
    · have e4 : ∀ h : ((k : Int) - 1).toNat < B.length, B[((k : Int) - 1).toNat]'h = B[k - 1] := fun h => by congr 1; omega
      have e5 : B[k - 1].n < y.n := by rw [hy]; exact s2 k hlt hk0
      simp (disch := first | omega | (simp only [go_sem]; first | done | omega)) only [go_sem, hlt, ← hy]
      repeat' (first | ((first | refine acond_d ?_ ?_ | refine acond_b ?_ ?_ | refine ag_d ?_ ?_ | refine ag_n ?_ ?_ | refine ag_bt ?_ ?_ | refine ag_bf ?_ ?_ | refine agt_d ?_ ?_ | refine agt_n ?_ ?_ | refine agt_bt ?_ ?_ | refine agt_bf ?_ ?_) <;> intro c <;> try simp (disch := first | omega | (simp only [go_sem]; first | done | omega)) only [go_sem, c, hk0, e4, e5, hany, ← hy]) | ((first | refine w_draw (by kernel_rfl) (by decide +kernel) ?_ | refine containsRw_a 13 [(H.length + 1, 0, 0)] (fun r => decide (r.1 ≤ y.n ∧ y.n < r.2)) (by kernel_rfl) (cap1 (by simp)) D (fun x K _ hK => sbs1_a x y (by first | exact at0 (by simp) | exact at1 (by simp) | exact at2 (by simp) | exact at3 (by simp) | exact at4 (by simp) | exact at5 (by simp) | exact atG 6 (by simp) rfl | exact atG 7 (by simp) rfl | exact atG 8 (by simp) rfl | exact atG 9 (by simp) rfl | exact atG 10 (by simp) rfl | exact atG 11 (by simp) rfl | exact atG 12 (by simp) rfl | exact atG 13 (by simp) rfl | exact atG 14 (by simp) rfl | exact atG 15 (by simp) rfl | assumption) hK) (by omega) ?_ | refine w_tree (.one 0 (.one 1 (.one 2 (.one 3 (.one 4 (.one 5 (.one 6 (.one 7 (.one 8 (.one 9 (.one 10 (.one 11 (.one 12 (.one 13 (.one 14 (.one 15 (.one 16 (.one 17 .done)))))))))))))))))) (by kernel_rfl) (by decide +kernel) ?_) <;> try simp (disch := first | omega | (simp only [go_sem]; first | done | omega)) only [go_sem, hk0, e4, e5, hany, ← hy]) | (refine And.intro ?_ ?_ <;> try simp (disch := first | omega | (simp only [go_sem]; first | done | omega)) only [go_sem, hk0, e4, e5, hany, ← hy]))
      all_goals
        refine Next.mk (k + 1) ⟨by omega, by omega⟩ ?_
        (try simp (disch := first | omega | (simp only [go_sem]; first | done | omega)) only [go_sem]); (first | refine WkL.eq ?_ ?_ | refine WkL.rest (by assumption) ?_ ?_ ?_ | refine WkL.keepL (by assumption) rfl ?_ ?_ ?_ ?_) <;> first | rfl | (simp; done) | (simp; omega) | (simp only [List.cons.injEq, AV.c.injEq, AC.int.injEq, AC.bool.injEq, AC.str.injEq, and_true, true_and, Int.natCast_add, Int.natCast_one, Int.cast_ofNat_Int]; omega) | (simp [AV.ok, AV.ok1, AC.ok]; done) | (simp [AV.ok, AV.ok1, AC.ok]; omega) | (simp only [List.forall_mem_cons, List.not_mem_nil, false_implies, implies_true, and_true]; (repeat' apply And.intro) <;> first | exact okN_map (fun x => by simp [go_sem, AC.pure]) | exact okN_grO (fun x => by simp [go_sem, AC.pure]) | (simp [AObj.okN, AC.ok]; done) | (simp [AObj.okN, AC.ok]; omega)) | (simp [*]; done) | grind
    · obtain rfl : k = 0 := by omega
      simp (disch := first | omega | (simp only [go_sem]; first | done | omega)) only [go_sem, hlt, ← hy]
      repeat' (first | ((first | refine acond_d ?_ ?_ | refine acond_b ?_ ?_ | refine ag_d ?_ ?_ | refine ag_n ?_ ?_ | refine ag_bt ?_ ?_ | refine ag_bf ?_ ?_ | refine agt_d ?_ ?_ | refine agt_n ?_ ?_ | refine agt_bt ?_ ?_ | refine agt_bf ?_ ?_) <;> intro c <;> try simp (disch := first | omega | (simp only [go_sem]; first | done | omega)) only [go_sem, c, hany, ← hy]) | ((first | refine w_draw (by kernel_rfl) (by decide +kernel) ?_ | refine containsRw_a 13 [(H.length + 1, 0, 0)] (fun r => decide (r.1 ≤ y.n ∧ y.n < r.2)) (by kernel_rfl) (cap1 (by simp)) D (fun x K _ hK => sbs1_a x y (by first | exact at0 (by simp) | exact at1 (by simp) | exact at2 (by simp) | exact at3 (by simp) | exact at4 (by simp) | exact at5 (by simp) | exact atG 6 (by simp) rfl | exact atG 7 (by simp) rfl | exact atG 8 (by simp) rfl | exact atG 9 (by simp) rfl | exact atG 10 (by simp) rfl | exact atG 11 (by simp) rfl | exact atG 12 (by simp) rfl | exact atG 13 (by simp) rfl | exact atG 14 (by simp) rfl | exact atG 15 (by simp) rfl | assumption) hK) (by omega) ?_ | refine w_tree (.one 0 (.one 1 (.one 2 (.one 3 (.one 4 (.one 5 (.one 6 (.one 7 (.one 8 (.one 9 (.one 10 (.one 11 (.one 12 (.one 13 (.one 14 (.one 15 (.one 16 (.one 17 .done)))))))))))))))))) (by kernel_rfl) (by decide +kernel) ?_) <;> try simp (disch := first | omega | (simp only [go_sem]; first | done | omega)) only [go_sem, hany, ← hy]) | (refine And.intro ?_ ?_ <;> try simp (disch := first | omega | (simp only [go_sem]; first | done | omega)) only [go_sem, hany, ← hy]))
      all_goals
        refine Next.mk (0 + 1) ⟨by omega, by omega⟩ ?_
        (try simp (disch := first | omega | (simp only [go_sem]; first | done | omega)) only [go_sem]); (first | refine WkL.eq ?_ ?_ | refine WkL.rest (by assumption) ?_ ?_ ?_ | refine WkL.keepL (by assumption) rfl ?_ ?_ ?_ ?_) <;> first | rfl | (simp; done) | (simp; omega) | (simp only [List.cons.injEq, AV.c.injEq, AC.int.injEq, AC.bool.injEq, AC.str.injEq, and_true, true_and, Int.natCast_add, Int.natCast_one, Int.cast_ofNat_Int]; omega) | (simp [AV.ok, AV.ok1, AC.ok]; done) | (simp [AV.ok, AV.ok1, AC.ok]; omega) | (simp only [List.forall_mem_cons, List.not_mem_nil, false_implies, implies_true, and_true]; (repeat' apply And.intro) <;> first | exact okN_map (fun x => by simp [go_sem, AC.pure]) | exact okN_grO (fun x => by simp [go_sem, AC.pure]) | (simp [AObj.okN, AC.ok]; done) | (simp [AObj.okN, AC.ok]; omega)) | (simp [*]; done) | grind
  · simp (disch := first | omega | (simp only [go_sem]; first | done | omega)) only [go_sem, hlt]
    refine AWp.loop (H.length + 1) [9, 81, 82] [83] (fun (k : Nat) => k ≤ D.length) (fun (k : Nat) => [(83, (.c (.int .i64 k)))]) (fun (k : Nat) => H ++ [strO zs (j1 + 1 + 1)]) (fun (k : Nat) => D.length - k) (by kernel_rfl) (fun _ => rfl) (by kernel_rfl) (by first | (simp; done) | omega) (by first | (simp; done) | (simp; omega) | omega) (by (try simp only [List.forall_mem_cons, List.not_mem_nil, false_implies, implies_true, and_true]); (try simp (disch := first | omega | (simp only [go_sem]; first | done | omega)) only [go_sem]); all_goals first | trivial | (simp [AV.ok, AV.ok1, AC.ok]; done) | (simp [AV.ok, AV.ok1, AC.ok]; omega) | (simp [AV.ok, AV.ok1, AC.ok]; assumption) | ((repeat' apply And.intro) <;> first | trivial | (simp [AV.ok, AV.ok1, AC.ok]; done) | (simp [AV.ok, AV.ok1, AC.ok]; omega) | (simp [AV.ok, AV.ok1, AC.ok]; assumption) | (refine grV_ok ?_ _; first | (simp; done) | (simp; omega) | omega))) ?_ (fun k hk1 _ _ => ?_)
    · refine Next.mk 0 (by omega) ?_
      (try simp (disch := first | omega | (simp only [go_sem]; first | done | omega)) only [go_sem]); (first | refine WkL.eq ?_ ?_ | refine WkL.rest (by assumption) ?_ ?_ ?_ | refine WkL.keepL (by assumption) rfl ?_ ?_ ?_ ?_) <;> first | rfl | (simp; done) | (simp; omega) | (simp only [List.cons.injEq, AV.c.injEq, AC.int.injEq, AC.bool.injEq, AC.str.injEq, and_true, true_and, Int.natCast_add, Int.natCast_one, Int.cast_ofNat_Int]; omega) | (simp [AV.ok, AV.ok1, AC.ok]; done) | (simp [AV.ok, AV.ok1, AC.ok]; omega) | (simp only [List.forall_mem_cons, List.not_mem_nil, false_implies, implies_true, and_true]; (repeat' apply And.intro) <;> first | exact okN_map (fun x => by simp [go_sem, AC.pure]) | exact okN_grO (fun x => by simp [go_sem, AC.pure]) | (simp [AObj.okN, AC.ok]; done) | (simp [AObj.okN, AC.ok]; omega)) | (simp [*]; done) | grind
    by_cases hlt : k < D.length
    · obtain ⟨y, hy⟩ : ∃ y, y = D[k] := ⟨_, rfl⟩
      have e6 : y.1 < y.2 := by rw [hy]; exact s4 _ (List.getElem_mem hlt)
      by_cases hk0 : 0 < k
      · have e4 : ∀ h : ((k : Int) - 1).toNat < D.length, D[((k : Int) - 1).toNat]'h = D[k - 1] := fun h => by congr 1; omega
        have e5 : D[k - 1].2 < y.1 := by rw [hy]; exact s5 k hlt hk0
        simp (disch := first | omega | (simp only [go_sem]; first | done | omega)) only [go_sem, hlt, ← hy]
        repeat' (first | ((first | refine acond_d ?_ ?_ | refine acond_b ?_ ?_ | refine ag_d ?_ ?_ | refine ag_n ?_ ?_ | refine ag_bt ?_ ?_ | refine ag_bf ?_ ?_ | refine agt_d ?_ ?_ | refine agt_n ?_ ?_ | refine agt_bt ?_ ?_ | refine agt_bf ?_ ?_) <;> intro c <;> try simp (disch := first | omega | (simp only [go_sem]; first | done | omega)) only [go_sem, c, hk0, e4, e5, e6, ← hy]) | ((first | refine w_draw (by kernel_rfl) (by decide +kernel) ?_ | refine w_tree (.one 0 (.one 1 (.one 2 (.one 3 (.one 4 (.one 5 (.one 6 (.one 7 (.one 8 (.one 9 (.one 10 (.one 11 (.one 12 (.one 13 (.one 14 (.one 15 (.one 16 (.one 17 (.one 18 (.one 19 .done)))))))))))))))))))) (by kernel_rfl) (by decide +kernel) ?_) <;> try simp (disch := first | omega | (simp only [go_sem]; first | done | omega)) only [go_sem, hk0, e4, e5, e6, ← hy]) | (refine And.intro ?_ ?_ <;> try simp (disch := first | omega | (simp only [go_sem]; first | done | omega)) only [go_sem, hk0, e4, e5, e6, ← hy]))
        all_goals
          refine Next.mk (k + 1) ⟨by omega, by omega⟩ ?_
          (try simp (disch := first | omega | (simp only [go_sem]; first | done | omega)) only [go_sem]); (first | refine WkL.eq ?_ ?_ | refine WkL.rest (by assumption) ?_ ?_ ?_ | refine WkL.keepL (by assumption) rfl ?_ ?_ ?_ ?_) <;> first | rfl | (simp; done) | (simp; omega) | (simp only [List.cons.injEq, AV.c.injEq, AC.int.injEq, AC.bool.injEq, AC.str.injEq, and_true, true_and, Int.natCast_add, Int.natCast_one, Int.cast_ofNat_Int]; omega) | (simp [AV.ok, AV.ok1, AC.ok]; done) | (simp [AV.ok, AV.ok1, AC.ok]; omega) | (simp only [List.forall_mem_cons, List.not_mem_nil, false_implies, implies_true, and_true]; (repeat' apply And.intro) <;> first | exact okN_map (fun x => by simp [go_sem, AC.pure]) | exact okN_grO (fun x => by simp [go_sem, AC.pure]) | (simp [AObj.okN, AC.ok]; done) | (simp [AObj.okN, AC.ok]; omega)) | (simp [*]; done) | grind
      · obtain rfl : k = 0 := by omega
        simp (disch := first | omega | (simp only [go_sem]; first | done | omega)) only [go_sem, hlt, ← hy]
        repeat' (first | ((first | refine acond_d ?_ ?_ | refine acond_b ?_ ?_ | refine ag_d ?_ ?_ | refine ag_n ?_ ?_ | refine ag_bt ?_ ?_ | refine ag_bf ?_ ?_ | refine agt_d ?_ ?_ | refine agt_n ?_ ?_ | refine agt_bt ?_ ?_ | refine agt_bf ?_ ?_) <;> intro c <;> try simp (disch := first | omega | (simp only [go_sem]; first | done | omega)) only [go_sem, c, e6, ← hy]) | ((first | refine w_draw (by kernel_rfl) (by decide +kernel) ?_ | refine w_tree (.one 0 (.one 1 (.one 2 (.one 3 (.one 4 (.one 5 (.one 6 (.one 7 (.one 8 (.one 9 (.one 10 (.one 11 (.one 12 (.one 13 (.one 14 (.one 15 (.one 16 (.one 17 (.one 18 (.one 19 .done)))))))))))))))))))) (by kernel_rfl) (by decide +kernel) ?_) <;> try simp (disch := first | omega | (simp only [go_sem]; first | done | omega)) only [go_sem, e6, ← hy]) | (refine And.intro ?_ ?_ <;> try simp (disch := first | omega | (simp only [go_sem]; first | done | omega)) only [go_sem, e6, ← hy]))
        all_goals
          refine Next.mk (0 + 1) ⟨by omega, by omega⟩ ?_
          (try simp (disch := first | omega | (simp only [go_sem]; first | done | omega)) only [go_sem]); (first | refine WkL.eq ?_ ?_ | refine WkL.rest (by assumption) ?_ ?_ ?_ | refine WkL.keepL (by assumption) rfl ?_ ?_ ?_ ?_) <;> first | rfl | (simp; done) | (simp; omega) | (simp only [List.cons.injEq, AV.c.injEq, AC.int.injEq, AC.bool.injEq, AC.str.injEq, and_true, true_and, Int.natCast_add, Int.natCast_one, Int.cast_ofNat_Int]; omega) | (simp [AV.ok, AV.ok1, AC.ok]; done) | (simp [AV.ok, AV.ok1, AC.ok]; omega) | (simp only [List.forall_mem_cons, List.not_mem_nil, false_implies, implies_true, and_true]; (repeat' apply And.intro) <;> first | exact okN_map (fun x => by simp [go_sem, AC.pure]) | exact okN_grO (fun x => by simp [go_sem, AC.pure]) | (simp [AObj.okN, AC.ok]; done) | (simp [AObj.okN, AC.ok]; omega)) | (simp [*]; done) | grind
    · simp (disch := first | omega | (simp only [go_sem]; first | done | omega)) only [go_sem, hlt]
      refine ready_a ?_
      simp (disch := first | omega | (simp only [go_sem]; first | done | omega)) only [go_sem]
      exact Ret.drop hH (Nat.le_refl _) trivial hk
end Go.Proofs.YtnpdbnkgipkgaaaGreatDoor
