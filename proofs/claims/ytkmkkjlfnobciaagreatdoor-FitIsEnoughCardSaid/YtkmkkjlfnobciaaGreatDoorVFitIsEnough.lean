/- FitIsEnough: what the law's function answers for all numbers it is given. No condition. -/
import Derived.Test.YtkmkkjlfnobciaaGreatDoorVFit2
import Derived.Test.YtkmkkjlfnobciaaGreatDoorVFitM
import Derived.Test.YtkmkkjlfnobciaaGreatDoorVLists
import Derived.Test.YtkmkkjlfnobciaaGreatDoorVErrsK
import Derived.Test.YtkmkkjlfnobciaaGreatDoorVReady
namespace Go.Proofs.YtkmkkjlfnobciaaGreatDoor
open Go Go.RowKit
set_option maxRecDepth 100000
set_option linter.all false
set_option maxHeartbeats 1000000
variable {H : Hp} {K : AV → Hp → Prop}
theorem rightLevelsF_a (s : Nat) (zs : List Int) (j : Int) (hs : Str H s zs j) (hj : j ≤ 1000000000)
    (hk : ∀ (lv : List Level) (j' : Int), j ≤ j' → j' ≤ j + 6 → lvF lv = 0 → lv.length ≤ 4 → (∀ y ∈ lv, y.keep ≤ 1300 ∧ y.step ≤ 400) → K (.c (.lst 2 (lv.map encL))) (H.set s (strO zs j'))) :
    ACalls Tryz.prog 20 [.c (.ptr (some (s, 0, 0)))] H K := by
  refine ACalls.postR (rightLevels_o s zs j hs hj (K := fun v G => ∃ lv j', j ≤ j' ∧ j' ≤ j + 6 ∧ lvF lv = 0 ∧ lv.length ≤ 4 ∧ (∀ y ∈ lv, y.keep ≤ 1300 ∧ y.step ≤ 400) ∧ v = .c (.sl (some (H.length, 0)) lv.length) ∧ G = H.set s (strO zs j') ++ [.row 57 2 (lv.map encL) true]) (fun lv j' h1 h2 h3 h4 h5 => ⟨lv, j', h1, h2, h3, h4, h5, rfl, rfl⟩)) ?_
  rintro hH _ _ ⟨lv, j', h1, h2, h3, h4, h5, rfl, rfl⟩
  have := WkL.frzCl1 (A := H.set s (strO zs j')) (n := H.length) (ty := 57) (sz := 2) (l := lv.map encL) (HOk.str hH) (by simp) (pureL_encL _)
  rw [List.length_set] at this
  have hl := (lvF_ok h3).2.2
  cases lv with
  | nil => simp at hl
  | cons y ys => exact Ret.wk (by simpa [clV, grO] using this) (hk (y :: ys) j' h1 h2 h3 h4 h5)
theorem costL_small {x : Level} {rate : Int} (hx : x.ok) (h1 : x.keep ≤ 1300) (h2 : x.step ≤ 400) (hr : 1 ≤ rate) (hr2 : rate ≤ 100000) : 0 ≤ costL x rate ∧ costL x rate ≤ 1800 := by
  obtain ⟨g1, g2, g3, g4⟩ := hx
  unfold costL
  split
  · have h3 : 0 ≤ x.keep * rate := Int.mul_nonneg (by omega) (by omega)
    have h4 : x.keep * rate ≤ 1300 * 100000 := Int.mul_le_mul h1 hr2 (by omega) (by omega)
    unfold upDiv
    omega
  · have := upDiv_bd (a := x.keep) (b := x.step) (by omega) (by omega)
    omega
theorem costs_small {rate : Int} (hr : 1 ≤ rate) (hr2 : rate ≤ 100000) : ∀ l : List Level, (∀ x ∈ l, x.ok) → (∀ y ∈ l, y.keep ≤ 1300 ∧ y.step ≤ 400) → 0 ≤ costs l rate ∧ costs l rate ≤ 1800 * l.length
  | [], _, _ => by simp [costs]
  | x :: l, h1, h2 => by
    have ih := costs_small hr hr2 l (fun y hy => h1 y (by simp [hy])) (fun y hy => h2 y (by simp [hy]))
    have hx := costL_small (h1 x (by simp)) (h2 x (by simp)).1 (h2 x (by simp)).2 hr hr2
    have e : costs (x :: l) rate = costL x rate + costs l rate := by simp [costs]
    rw [e]
    simp only [List.length_cons]
    omega
theorem fitIsEnough_a (zs : List Int) (hz : zs.length ≤ 9223372036854775807) (hk : K (.c (.bool true)) H) : ACalls Tryz.prog 5 [.c (.lst 1 (zs.map encI))] H K := by
  have st : ∀ (k : Int) (L : Hp), 0 ≤ k → k ≤ 1000000000 → Str (H ++ strO zs k :: L) H.length zs k := fun k L h1 h2 => ⟨hz, h1, by omega, by simp⟩
  refine acalls Tryz.func5 rfl (by kernel_rfl) (by simp (disch := first | omega | (simp only [go_sem]; first | done | omega)) only [go_sem]) (fun hH => ?_)
  simp (disch := first | omega | (simp only [go_sem]; first | done | omega)) only [go_sem]
  refine rightLevelsF_a H.length zs 0 (st 0 _ (by omega) (by omega)) (by omega) (fun lv j1 g1 g2 g3 g4 g5 => ?_)
  simp (disch := first | omega | (simp only [go_sem]; first | done | omega)) only [go_sem]
  refine range_a H.length zs j1 1 100000 (st _ _ (by omega) (by omega)) (by omega) (by omega) (by omega) (fun rate hr1 hr2 => ?_)
  simp (disch := first | omega | (simp only [go_sem]; first | done | omega)) only [go_sem]
  refine range_a H.length zs (j1 + 1) 1 60 (st _ _ (by omega) (by omega)) (by omega) (by omega) (by omega) (fun quota hq1 hq2 => ?_)
  simp (disch := first | omega | (simp only [go_sem]; first | done | omega)) only [go_sem]
  have hrate : rateErr lv rate = 0 := by
    unfold rateErr
    rw [if_neg (by omega)]
    simp [firstE, g3]
  have hcb := costs_small hr1 hr2 lv (lvF_ok g3).1 g5
  have hcost : costRes lv rate = (costs lv rate, 0) := by unfold costRes; rw [if_pos hrate]
  refine costTop_a lv rate (by omega) ?_
  rw [hcost]
  simp (disch := first | omega | (simp only [go_sem]; first | done | omega)) only [go_sem]
  refine fit_a lv rate quota (by omega) (by omega) ?_
  have hmax : fitRes lv rate (max (costs lv rate) 1) = (lv, true, 0) := fitRes_same hrate ⟨by omega, by omega⟩ (by omega)
  rcases fitRes_cases hrate g3 ⟨hq1, by omega⟩ with ⟨e1, e2⟩ | ⟨l', e1, e2, e3, e4⟩
  · rw [e1]
    simp (disch := first | omega | (simp only [go_sem]; first | done | omega)) only [go_sem]
    refine fit_a lv rate _ (by omega) (by omega) ?_
    rw [hmax]
    simp (disch := first | omega | (simp only [go_sem]; first | done | omega)) only [go_sem]
    refine errsK_lit [0, 0, 0] (by first | exact at0 (by simp) | exact at1 (by simp) | exact at2 (by simp) | exact at3 (by simp) | exact at4 (by simp) | exact at5 (by simp) | exact atG 6 (by simp) rfl | exact atG 7 (by simp) rfl | exact atG 8 (by simp) rfl | exact atG 9 (by simp) rfl | exact atG 10 (by simp) rfl | assumption) rfl rfl (by simp) ?_
    rw [show firstE ([0, 0, 0] : List Int) = 0 from rfl]
    simp (disch := first | omega | (simp only [go_sem]; first | done | omega)) only [go_sem]
    refine equalL_a lv lv (by omega) (by omega) ?_
    simp (disch := first | omega | (simp only [go_sem]; first | done | omega)) only [go_sem]
    refine ready_a ?_
    simp (disch := first | omega | (simp only [go_sem]; first | done | omega)) only [go_sem]
    exact Ret.drop hH (Nat.le_refl _) trivial hk
  · have hrate' : rateErr l' rate = 0 := by
      unfold rateErr
      rw [if_neg (by omega)]
      simp [firstE, e2]
    have hcost' : costRes l' rate = (costs l' rate, 0) := by unfold costRes; rw [if_pos hrate']
    have hlen := e3.1
    rw [e1]
    simp (disch := first | omega | (simp only [go_sem]; first | done | omega)) only [go_sem]
    refine fit_a lv rate _ (by omega) (by omega) ?_
    rw [hmax]
    simp (disch := first | omega | (simp only [go_sem]; first | done | omega)) only [go_sem]
    refine errsK_lit [0, 0, 0] (by first | exact at0 (by simp) | exact at1 (by simp) | exact at2 (by simp) | exact at3 (by simp) | exact at4 (by simp) | exact at5 (by simp) | exact atG 6 (by simp) rfl | exact atG 7 (by simp) rfl | exact atG 8 (by simp) rfl | exact atG 9 (by simp) rfl | exact atG 10 (by simp) rfl | assumption) rfl rfl (by simp) ?_
    rw [show firstE ([0, 0, 0] : List Int) = 0 from rfl]
    simp (disch := first | omega | (simp only [go_sem]; first | done | omega)) only [go_sem]
    refine equalL_a lv lv (by omega) (by omega) ?_
    simp (disch := first | omega | (simp only [go_sem]; first | done | omega)) only [go_sem]
    refine costTop_a l' rate (by omega) ?_
    rw [hcost']
    simp (disch := first | omega | (simp only [go_sem]; first | done | omega)) only [go_sem]
    refine checkLevels_a l' (by omega) ?_
    simp (disch := first | omega | (simp only [go_sem]; first | done | omega)) only [go_sem, e2]
    refine AWp.upto (H.length) [4, 9, 105] [106] (l'.length) (fun k => [(106, (.c (.int .i64 k)))]) (fun k => H) (by kernel_rfl) (fun _ => rfl) (by kernel_rfl) (by simp) (by first | (simp; done) | (simp; omega)) (by (try simp only [List.forall_mem_cons, List.not_mem_nil, false_implies, implies_true, and_true]); (try simp (disch := first | omega | (simp only [go_sem]; first | done | omega)) only [go_sem]); all_goals first | trivial | (simp [AV.ok, AV.ok1, AC.ok]; done) | (simp [AV.ok, AV.ok1, AC.ok]; omega) | (simp [AV.ok, AV.ok1, AC.ok]; assumption) | ((repeat' apply And.intro) <;> first | trivial | (simp [AV.ok, AV.ok1, AC.ok]; done) | (simp [AV.ok, AV.ok1, AC.ok]; omega) | (simp [AV.ok, AV.ok1, AC.ok]; assumption) | (refine grV_ok ?_ _; first | (simp; done) | (simp; omega) | omega))) (by (refine Next.mk 0 rfl ?_; (try simp (disch := first | omega | (simp only [go_sem]; first | done | omega)) only [go_sem]); (first | refine WkL.eq ?_ ?_ | refine WkL.rest (by assumption) ?_ ?_ ?_ | refine WkL.keepL (by assumption) rfl ?_ ?_ ?_ ?_) <;> first | rfl | (simp; done) | (simp; omega) | (simp only [List.cons.injEq, AV.c.injEq, AC.int.injEq, AC.bool.injEq, AC.str.injEq, and_true, true_and, Int.natCast_add, Int.natCast_one, Int.cast_ofNat_Int]; omega) | (simp [AV.ok, AV.ok1, AC.ok]; done) | (simp [AV.ok, AV.ok1, AC.ok]; omega) | (simp only [List.forall_mem_cons, List.not_mem_nil, false_implies, implies_true, and_true]; (repeat' apply And.intro) <;> first | exact okN_map (fun x => by simp [go_sem, AC.pure]) | exact okN_grO (fun x => by simp [go_sem, AC.pure]) | (simp [AObj.okN, AC.ok]; done) | (simp [AObj.okN, AC.ok]; omega)) | (simp [*]; done) | grind)) (fun k hk1 _ _ => ?_)
    by_cases hlt : k < l'.length
    · have := e3.2 k (by omega) hlt
      simp (disch := first | omega | (simp only [go_sem]; first | done | omega)) only [go_sem]
      refine w_draw (by kernel_rfl) (by decide +kernel) ?_
      simp (disch := first | omega | (simp only [go_sem]; first | done | omega)) only [go_sem]
      (refine Next.mk (k + 1) (by first | rfl | exact ⟨rfl, by omega⟩) ?_; (try simp (disch := first | omega | (simp only [go_sem]; first | done | omega)) only [go_sem]); (first | refine WkL.eq ?_ ?_ | refine WkL.rest (by assumption) ?_ ?_ ?_ | refine WkL.keepL (by assumption) rfl ?_ ?_ ?_ ?_) <;> first | rfl | (simp; done) | (simp; omega) | (simp only [List.cons.injEq, AV.c.injEq, AC.int.injEq, AC.bool.injEq, AC.str.injEq, and_true, true_and, Int.natCast_add, Int.natCast_one, Int.cast_ofNat_Int]; omega) | (simp [AV.ok, AV.ok1, AC.ok]; done) | (simp [AV.ok, AV.ok1, AC.ok]; omega) | (simp only [List.forall_mem_cons, List.not_mem_nil, false_implies, implies_true, and_true]; (repeat' apply And.intro) <;> first | exact okN_map (fun x => by simp [go_sem, AC.pure]) | exact okN_grO (fun x => by simp [go_sem, AC.pure]) | (simp [AObj.okN, AC.ok]; done) | (simp [AObj.okN, AC.ok]; omega)) | (simp [*]; done) | grind)
    · simp (disch := first | omega | (simp only [go_sem]; first | done | omega)) only [go_sem]
      refine ready_a ?_
      simp (disch := first | omega | (simp only [go_sem]; first | done | omega)) only [go_sem]
      (first | refine Ret.sameE (Nat.le_refl _) (by assumption) ?_ | refine Ret.dropE (by assumption) (Nat.le_refl _) (by assumption) (by simp [AV.ok, AV.ok1, AC.ok]) ?_) <;> (first | rfl | (simp only [AV.c.injEq, AC.bool.injEq]; rw [Bool.eq_iff_iff]; simp only [Bool.not_eq_true', decide_eq_true_eq, decide_eq_false_iff_not, Bool.and_eq_true, Bool.or_eq_true]; omega) | grind | (simp [*]; done) | (simp [*]; omega))
end Go.Proofs.YtkmkkjlfnobciaaGreatDoor
