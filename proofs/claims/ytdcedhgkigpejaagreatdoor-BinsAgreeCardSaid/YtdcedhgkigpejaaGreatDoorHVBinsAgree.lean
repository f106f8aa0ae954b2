/- BinsAgree: what the law's function answers for all numbers it is given. No condition. -/
import Derived.Test.YtdcedhgkigpejaaGreatDoorHVGJ
import Derived.Test.YtdcedhgkigpejaaGreatDoorHVGC
import Derived.Test.YtdcedhgkigpejaaGreatDoorHVReady
namespace Go.Proofs.YtdcedhgkigpejaaGreatDoor
open Go Go.RowKit
set_option maxRecDepth 100000
set_option linter.all false
set_option maxHeartbeats 1000000
variable {H : Hp} {K : AV → Hp → Prop}
theorem binsRes_ok {l : List Smp} {step : Int} (h : serF l = 0) (hs : isStep step) : binsRes l step = (binsF step l, 0) := by
  unfold binsRes
  rw [if_neg (by simp [h]), if_pos hs]
theorem coarse_ok {l : List Smp} {step to : Int} (h : serF l = 0) (hs : isStep step) (ht : isStep to) (hd : to % step = 0) : coarseRes (binsF step l) step to = (binsF to l, 0) := by
  unfold coarseRes coarse2
  rw [if_neg (by simp [bnF_binsF hs h]), if_neg (not_not_intro ht), if_neg (by simp [hd]), coarse_binsF hs.1 ht.1 hd h, if_neg (by simp [fitsE_binsF ht.1 h])]
theorem merge_ok {l : List Smp} {step : Int} (h : serF l = 0) (hs : isStep step) (c : Nat) : mergeRes (binsF step (l.take c)) (binsF step (l.drop c)) step = (binsF step l, 0) := by
  obtain ⟨h1, h2⟩ := merge_binsF hs.1 h c
  have a1 := bnF_binsF hs (serF_sub h (List.take_sublist c l))
  have a2 := bnF_binsF hs (serF_sub h (List.drop_sublist c l))
  unfold mergeRes mergeB combRes
  rw [a1, a2, h1, h2, if_neg (by decide), if_neg (by simp [fitsE_binsF hs.1 h])]
theorem sum_ok {l : List Smp} {step : Int} (h : serF l = 0) (hs : isStep step) : sumRes (binsF step l) step ⟨0, 345686400000⟩ = (((l.filter (fun x => decide (x.q = 0))).map (fun x => x.v)).sum, (((l.filter (fun x => decide (x.q = 0))).length : Nat) : Int), 0) := by
  have e0 : sumE (binsF step l) step ⟨0, 345686400000⟩ = 0 := by
    unfold sumE
    rw [if_neg (by simp [bnF_binsF hs h]), if_neg (by decide), if_neg (by simp)]
  have e1 : inB (binsF step l) ⟨0, 345686400000⟩ = binsF step l := by
    unfold inB
    rw [List.filter_eq_self]
    intro x hx
    have := (binsF_good hs.1 h x hx).a
    simp
    omega
  obtain ⟨e2, e3⟩ := sum_binsF step l
  unfold sumRes
  rw [if_neg (by rw [e0]; decide), e1, e2, e3]
theorem steps9 {step q : Int} (h1 : step ∈ ([10, 50, 100] : List Int)) (h2 : q ∈ ([1, 2, 4] : List Int)) : isStep step ∧ isStep (step * q) ∧ (step * q) % step = 0 ∧ 10 ≤ step ∧ step ≤ 100 ∧ 10 ≤ step * q ∧ step * q ≤ 400 := by
  simp only [List.mem_cons, List.not_mem_nil, or_false] at h1 h2
  rcases h1 with rfl | rfl | rfl <;> rcases h2 with rfl | rfl | rfl <;> decide
/-- what good samples come to -/
def gs (l : List Smp) : Int := ((l.filter (fun x => decide (x.q = 0))).map (fun x => x.v)).sum
def gn (l : List Smp) : Int := ((l.filter (fun x => decide (x.q = 0))).length : Nat)
theorem gs_nil : gs [] = 0 := rfl
theorem gn_nil : gn [] = 0 := rfl
attribute [go_sem] gs_nil gn_nil
theorem gs_bd : ∀ l : List Smp, (∀ x ∈ l, -1000000 ≤ x.v ∧ x.v ≤ 1000000) → -1000000 * (l.length : Int) ≤ gs l ∧ gs l ≤ 1000000 * (l.length : Int) ∧ 0 ≤ gn l ∧ gn l ≤ l.length
  | [], _ => by simp [gs, gn]
  | x :: l, h => by
    have ih := gs_bd l (fun y hy => h y (by simp [hy]))
    have hx := h x (by simp)
    unfold gs gn at *
    by_cases c : x.q = 0
    · rw [List.filter_cons_of_pos (by simpa using c)]
      simp only [List.map_cons, List.sum_cons, List.length_cons]
      omega
    · rw [List.filter_cons_of_neg (by simpa using c)]
      simp only [List.length_cons]
      omega
theorem gs_next {l : List Smp} {k : Nat} (h : k < l.length) : if l[k].q = 0 then gs (l.drop (k + 1)) = gs (l.drop k) - l[k].v ∧ gn (l.drop (k + 1)) = gn (l.drop k) - 1 else gs (l.drop (k + 1)) = gs (l.drop k) ∧ gn (l.drop (k + 1)) = gn (l.drop k) := by
  rw [List.drop_eq_getElem_cons h]
  generalize l[k] = x
  generalize l.drop (k + 1) = r
  unfold gs gn
  by_cases c : x.q = 0
  · rw [if_pos c, List.filter_cons_of_pos (by simpa using c)]
    simp only [List.map_cons, List.sum_cons, List.length_cons]
    omega
  · rw [if_neg c, List.filter_cons_of_neg (by simpa using c)]
    exact ⟨rfl, rfl⟩
theorem binsAgree_a (zs : List Int) (hz : zs.length ≤ 9223372036854775807) (hk : K (.c (.bool true)) H) : ACalls Tryz.prog 9 [.c (.lst 1 (zs.map encI))] H K := by
  have st : ∀ (k : Int) (L : Hp), 0 ≤ k → k ≤ 1000000000 → Str (H ++ strO zs k :: L) H.length zs k := fun k L h1 h2 => ⟨hz, h1, by omega, by simp⟩
  refine acalls Tryz.func9 rfl (by kernel_rfl) (by simp (disch := first | omega | (simp only [go_sem]; first | done | omega)) only [go_sem]) (fun hH => ?_)
  simp (disch := first | omega | (simp only [go_sem]; first | done | omega)) only [go_sem]
  refine rightSmp_a H.length zs 0 10 (st _ _ (by omega) (by omega)) (by omega) (by omega) (by omega) (fun a j1 g1 g2 g3 => ?_)
  obtain ⟨hs, hal, hab⟩ := g3
  simp (disch := first | omega | (simp only [go_sem]; first | done | omega)) only [go_sem]
  refine pick_lit H.length zs j1 [10, 50, 100] (by first | exact at0 (by simp) | exact at1 (by simp) | exact at2 (by simp) | exact at3 (by simp) | exact at4 (by simp) | exact at5 (by simp) | exact atG 6 (by simp) rfl | exact atG 7 (by simp) rfl | exact atG 8 (by simp) rfl | exact atG 9 (by simp) rfl | exact atG 10 (by simp) rfl | assumption) rfl rfl (st _ _ (by omega) (by omega)) (by omega) (by simp) (by simp) (fun step hstep => ?_)
  simp (disch := first | omega | (simp only [go_sem]; first | done | omega)) only [go_sem]
  refine pick_lit H.length zs (j1 + 1) [1, 2, 4] (by first | exact at0 (by simp) | exact at1 (by simp) | exact at2 (by simp) | exact at3 (by simp) | exact at4 (by simp) | exact at5 (by simp) | exact atG 6 (by simp) rfl | exact atG 7 (by simp) rfl | exact atG 8 (by simp) rfl | exact atG 9 (by simp) rfl | exact atG 10 (by simp) rfl | assumption) rfl rfl (st _ _ (by omega) (by omega)) (by omega) (by simp) (by simp) (fun q hq => ?_)
  obtain ⟨s1, s2, s3, s4, s5, s6, s7⟩ := steps9 hstep hq
  clear hstep hq
  simp (disch := first | omega | (simp only [go_sem]; first | done | omega)) only [go_sem]
  generalize step * q = to at *
  have hsl := binsF_len' step a
  have hsl2 := binsF_len' to a
  refine binsTopR_a a step (by omega) ?_
  rw [binsRes_ok hs s1]
  simp (disch := first | omega | (simp only [go_sem]; first | done | omega)) only [go_sem]
  refine coarser_a (binsF step a) step to (by omega) ?_
  rw [coarse_ok hs s1 s2 s3]
  simp (disch := first | omega | (simp only [go_sem]; first | done | omega)) only [go_sem]
  refine binsTopR_a a to (by omega) ?_
  rw [binsRes_ok hs s2]
  simp (disch := first | omega | (simp only [go_sem]; first | done | omega)) only [go_sem]
  refine range_a H.length zs (j1 + 1 + 1) 0 a.length (st _ _ (by omega) (by omega)) (by omega) (by omega) (by omega) (fun cut h1 h2 => ?_)
  obtain ⟨c, rfl⟩ : ∃ c : Nat, cut = c := ⟨cut.toNat, by omega⟩
  simp (disch := first | omega | (simp only [go_sem]; first | done | omega)) only [go_sem]
  rw [Nat.sub_zero, ← List.map_take]
  have htl : (a.take c).length ≤ a.length := by rw [List.length_take]; omega
  refine binsTopR_a (a.take c) step (by omega) ?_
  rw [binsRes_ok (serF_sub hs (List.take_sublist c a)) s1]
  simp (disch := first | omega | (simp only [go_sem]; first | done | omega)) only [go_sem]
  rw [List.take_of_length_le (by simp), ← List.map_drop]
  have hdl : (a.drop c).length ≤ a.length := by rw [List.length_drop]; omega
  have hsum : (a.take c).length + (a.drop c).length = a.length := by rw [List.length_take, List.length_drop]; omega
  have hp1 := binsF_len' step (a.take c)
  have hp2 := binsF_len' step (a.drop c)
  refine binsTopR_a (a.drop c) step (by omega) ?_
  rw [binsRes_ok (serF_sub hs (List.drop_sublist c a)) s1]
  simp (disch := first | omega | (simp only [go_sem]; first | done | omega)) only [go_sem]
  refine mergeBinsL_a (binsF step (a.take c)) (binsF step (a.drop c)) step (by omega) ?_
  rw [merge_ok hs s1 c]
  simp (disch := first | omega | (simp only [go_sem]; first | done | omega)) only [go_sem]
  refine sum_a (binsF step a) step ⟨0, 345686400000⟩ (by omega) ?_
  rw [sum_ok hs s1]
  have hcb := bnF_binsF s1 hs
  generalize binsF step a = B at *
  generalize binsF to a = D at *
  have gb := gs_bd a (fun x hx => by have := hab x hx; omega)
  simp (disch := first | omega | (simp only [go_sem]; first | done | omega)) only [go_sem]
  refine errsK_lit [0, 0, 0, 0, 0, 0, 0] (by first | exact at0 (by simp) | exact at1 (by simp) | exact at2 (by simp) | exact at3 (by simp) | exact at4 (by simp) | exact at5 (by simp) | exact atG 6 (by simp) rfl | exact atG 7 (by simp) rfl | exact atG 8 (by simp) rfl | exact atG 9 (by simp) rfl | exact atG 10 (by simp) rfl | assumption) rfl rfl (by simp) ?_
  rw [show firstE ([0, 0, 0, 0, 0, 0, 0] : List Int) = 0 from rfl]
  simp (disch := first | omega | (simp only [go_sem]; first | done | omega)) only [go_sem]
  refine equalN_a D D (by omega) (by omega) ?_
  simp (disch := first | omega | (simp only [go_sem]; first | done | omega)) only [go_sem]
  refine equalN_a B B (by omega) (by omega) ?_
  simp (disch := first | omega | (simp only [go_sem]; first | done | omega)) only [go_sem]
  refine checkBins_a B step (by omega) ?_
  rw [hcb]
  simp (disch := first | omega | (simp only [go_sem]; first | done | omega)) only [go_sem]
  refine AWp.upto (H.length) [121, 122] [123, 20, 21] (a.length) (fun k => [(123, (.c (.int .i64 k))), (20, (.c (.int .i64 (gs (a.drop k))))), (21, (.c (.int .i64 (gn (a.drop k)))))]) (fun k => H) (by kernel_rfl) (fun _ => rfl) (by kernel_rfl) (by simp) (by first | (simp; done) | (simp; omega)) (by (try simp only [List.forall_mem_cons, List.not_mem_nil, false_implies, implies_true, and_true]); (try simp (disch := first | omega | (simp only [go_sem]; first | done | omega)) only [go_sem]); all_goals first | trivial | (simp [AV.ok, AV.ok1, AC.ok]; done) | (simp [AV.ok, AV.ok1, AC.ok]; omega) | (simp [AV.ok, AV.ok1, AC.ok]; assumption) | ((repeat' apply And.intro) <;> first | trivial | (simp [AV.ok, AV.ok1, AC.ok]; done) | (simp [AV.ok, AV.ok1, AC.ok]; omega) | (simp [AV.ok, AV.ok1, AC.ok]; assumption) | (refine grV_ok ?_ _; first | (simp; done) | (simp; omega) | omega))) (by refine Next.mk 0 rfl ?_; simp only [List.drop_zero, gs, gn]; (try simp (disch := first | omega | (simp only [go_sem]; first | done | omega)) only [go_sem]); (first | refine WkL.eq ?_ ?_ | refine WkL.rest (by assumption) ?_ ?_ ?_ | refine WkL.keepL (by assumption) rfl ?_ ?_ ?_ ?_) <;> first | rfl | (simp; done) | (simp; omega) | (simp only [List.cons.injEq, AV.c.injEq, AC.int.injEq, AC.bool.injEq, AC.str.injEq, and_true, true_and, Int.natCast_add, Int.natCast_one, Int.cast_ofNat_Int]; omega) | (simp [AV.ok, AV.ok1, AC.ok]; done) | (simp [AV.ok, AV.ok1, AC.ok]; omega) | (simp only [List.forall_mem_cons, List.not_mem_nil, false_implies, implies_true, and_true]; (repeat' apply And.intro) <;> first | exact okN_map (fun x => by simp [go_sem, AC.pure]) | exact okN_grO (fun x => by simp [go_sem, AC.pure]) | (simp [AObj.okN, AC.ok]; done) | (simp [AObj.okN, AC.ok]; omega)) | (simp [*]; done) | grind) (fun k hk1 _ _ => ?_)
  have gbk := gs_bd (a.drop k) (fun x hx => by have := hab x (List.mem_of_mem_drop hx); omega)
  have hdk : (a.drop k).length ≤ a.length := by rw [List.length_drop]; omega
  by_cases hlt : k < a.length
  · have hx := hab a[k] (List.getElem_mem hlt)
    have e1 := gs_next hlt
    by_cases c0 : a[k].q = 0
    · rw [if_pos c0] at e1
      simp (disch := first | omega | (simp only [go_sem]; first | done | omega)) only [go_sem, c0]
      refine Next.mk (k + 1) (by first | rfl | exact ⟨rfl, by omega⟩) ?_
      (try simp (disch := first | omega | (simp only [go_sem]; first | done | omega)) only [go_sem]); (first | refine WkL.eq ?_ ?_ | refine WkL.rest (by assumption) ?_ ?_ ?_ | refine WkL.keepL (by assumption) rfl ?_ ?_ ?_ ?_) <;> first | rfl | (simp; done) | (simp; omega) | (simp only [List.cons.injEq, AV.c.injEq, AC.int.injEq, AC.bool.injEq, AC.str.injEq, and_true, true_and, Int.natCast_add, Int.natCast_one, Int.cast_ofNat_Int]; omega) | (simp [AV.ok, AV.ok1, AC.ok]; done) | (simp [AV.ok, AV.ok1, AC.ok]; omega) | (simp only [List.forall_mem_cons, List.not_mem_nil, false_implies, implies_true, and_true]; (repeat' apply And.intro) <;> first | exact okN_map (fun x => by simp [go_sem, AC.pure]) | exact okN_grO (fun x => by simp [go_sem, AC.pure]) | (simp [AObj.okN, AC.ok]; done) | (simp [AObj.okN, AC.ok]; omega)) | (simp [*]; done) | grind
    · rw [if_neg c0] at e1
      simp (disch := first | omega | (simp only [go_sem]; first | done | omega)) only [go_sem, c0]
      refine Next.mk (k + 1) (by first | rfl | exact ⟨rfl, by omega⟩) ?_
      (try simp (disch := first | omega | (simp only [go_sem]; first | done | omega)) only [go_sem]); (first | refine WkL.eq ?_ ?_ | refine WkL.rest (by assumption) ?_ ?_ ?_ | refine WkL.keepL (by assumption) rfl ?_ ?_ ?_ ?_) <;> first | rfl | (simp; done) | (simp; omega) | (simp only [List.cons.injEq, AV.c.injEq, AC.int.injEq, AC.bool.injEq, AC.str.injEq, and_true, true_and, Int.natCast_add, Int.natCast_one, Int.cast_ofNat_Int]; omega) | (simp [AV.ok, AV.ok1, AC.ok]; done) | (simp [AV.ok, AV.ok1, AC.ok]; omega) | (simp only [List.forall_mem_cons, List.not_mem_nil, false_implies, implies_true, and_true]; (repeat' apply And.intro) <;> first | exact okN_map (fun x => by simp [go_sem, AC.pure]) | exact okN_grO (fun x => by simp [go_sem, AC.pure]) | (simp [AObj.okN, AC.ok]; done) | (simp [AObj.okN, AC.ok]; omega)) | (simp [*]; done) | grind
  · have e0 : a.drop k = [] := List.drop_eq_nil_of_le (by omega)
    rw [e0]
    simp (disch := first | omega | (simp only [go_sem]; first | done | omega)) only [go_sem]
    refine ready_a ?_
    simp (disch := first | omega | (simp only [go_sem]; first | done | omega)) only [go_sem]
    (first | refine Ret.sameE (Nat.le_refl _) (by assumption) ?_ | refine Ret.dropE (by assumption) (Nat.le_refl _) (by assumption) (by simp [AV.ok, AV.ok1, AC.ok]) ?_) <;> (first | rfl | (simp only [AV.c.injEq, AC.bool.injEq]; rw [Bool.eq_iff_iff]; simp only [Bool.not_eq_true', decide_eq_true_eq, decide_eq_false_iff_not, Bool.and_eq_true, Bool.or_eq_true]; omega) | grind | (simp [*]; done) | (simp [*]; omega))
end Go.Proofs.YtdcedhgkigpejaaGreatDoor
