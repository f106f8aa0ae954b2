/- Several texts in one: What is wrong with bins, in the program and in the document's answer; whether bins fit, and what follows. No condition. -/
import Derived.Test.YtdcedhgkigpejaaGreatDoorHVGB
import Derived.Test.YtdcedhgkigpejaaGreatDoorHVGA
import Derived.Test.YtdcedhgkigpejaaGreatDoorHVGC
import Derived.Test.YtdcedhgkigpejaaGreatDoorHVGF
/- What is wrong with bins, in the program and in the document's answer; whether bins fit. No condition. -/
namespace Go.Proofs.YtdcedhgkigpejaaGreatDoor
open Go Go.RowKit
set_option maxRecDepth 100000
set_option linter.all false
set_option maxHeartbeats 1000000
variable {H : Hp} {K : AV → Hp → Prop}
def bnErr (x : Bin) (step : Int) : Int :=
  if x.a < 0 ∨ 345686399999 < x.a ∨ x.a % step ≠ 0 ∨ x.n < 0 ∨ 5000000 < x.n ∨ x.m < 0 ∨ 5000000 < x.m then 1
  else if x.n = 0 ∧ x.m = 0 then 8
  else if x.lo < -1000000 ∨ 1000000 < x.lo ∨ x.hi < -1000000 ∨ 1000000 < x.hi then 1
  else if x.n = 0 ∧ (x.s ≠ 0 ∨ x.lo ≠ 0 ∨ x.hi ≠ 0) then 3
  else if x.s < x.n * x.lo ∨ x.n * x.hi < x.s then 3 else 0
theorem mul_bd {n v : Int} (h0 : 0 ≤ n) (h1 : n ≤ 5000000) (h2 : -1000000 ≤ v) (h3 : v ≤ 1000000) : -5000000000000 ≤ n * v ∧ n * v ≤ 5000000000000 := by
  have a1 : n * -1000000 ≤ n * v := Int.mul_le_mul_of_nonneg_left h2 h0
  have a2 : n * v ≤ n * 1000000 := Int.mul_le_mul_of_nonneg_left h3 h0
  omega
theorem binFault_a (x : Bin) (step : Int) (h1 : 1 ≤ step) (h2 : step ≤ 86400000) (hk : K (.c (.int .i64 (bnErr x step))) H) : ACalls Tryz.prog 145 [.agg (encN x), (.c (.int .i64 step))] H K := by
  have hlo : 0 ≤ x.n → x.n ≤ 5000000 → -1000000 ≤ x.lo → x.lo ≤ 1000000 → -5000000000000 ≤ x.n * x.lo ∧ x.n * x.lo ≤ 5000000000000 := mul_bd
  have hhi : 0 ≤ x.n → x.n ≤ 5000000 → -1000000 ≤ x.hi → x.hi ≤ 1000000 → -5000000000000 ≤ x.n * x.hi ∧ x.n * x.hi ≤ 5000000000000 := mul_bd
  refine acalls Tryz.func145 rfl (by kernel_rfl) (by simp (disch := first | omega | (simp only [go_sem]; first | done | omega)) only [go_sem]) (fun hH => ?_)
  simp (disch := first | omega | (simp only [go_sem]; first | done | omega)) only [go_sem]
  repeat' (first | ((first | refine acond_d ?_ ?_ | refine acond_b ?_ ?_ | refine ag_d ?_ ?_ | refine ag_n ?_ ?_ | refine ag_bt ?_ ?_ | refine ag_bf ?_ ?_) <;> intro c <;> try simp (disch := first | omega | (simp only [go_sem]; first | done | omega)) only [go_sem, c]) | ((first | refine w_draw (by kernel_rfl) (by decide +kernel) ?_ | refine moment_a _ _ _ ?_ | refine out_a _ _ _ _ _ ?_) <;> try simp (disch := first | omega | (simp only [go_sem]; first | done | omega)) only [go_sem]))
  all_goals (first | refine Ret.sameE (Nat.le_refl _) (by assumption) ?_ | refine Ret.dropE (by assumption) (Nat.le_refl _) (by assumption) (by simp [AV.ok, AV.ok1, AC.ok]) ?_) <;> grind [bnErr]
theorem binFaultR_a (x : Bin) (step : Int) (h1 : 1 ≤ step) (h2 : step ≤ 86400000) (hk : K (.c (.int .i64 (bnErr x step))) H) : ACalls Tryz.prog 89 [.agg (encN x), (.c (.int .i64 step))] H K := by
  have hlo : 0 ≤ x.n → x.n ≤ 5000000 → -1000000 ≤ x.lo → x.lo ≤ 1000000 → -5000000000000 ≤ x.n * x.lo ∧ x.n * x.lo ≤ 5000000000000 := mul_bd
  have hhi : 0 ≤ x.n → x.n ≤ 5000000 → -1000000 ≤ x.hi → x.hi ≤ 1000000 → -5000000000000 ≤ x.n * x.hi ∧ x.n * x.hi ≤ 5000000000000 := mul_bd
  refine acalls Tryz.func89 rfl (by kernel_rfl) (by simp (disch := first | omega | (simp only [go_sem]; first | done | omega)) only [go_sem]) (fun hH => ?_)
  simp (disch := first | omega | (simp only [go_sem]; first | done | omega)) only [go_sem]
  repeat' (first | ((first | refine acond_d ?_ ?_ | refine acond_b ?_ ?_ | refine ag_d ?_ ?_ | refine ag_n ?_ ?_ | refine ag_bt ?_ ?_ | refine ag_bf ?_ ?_) <;> intro c <;> try simp (disch := first | omega | (simp only [go_sem]; first | done | omega)) only [go_sem, c]) | ((first | refine w_draw (by kernel_rfl) (by decide +kernel) ?_ | refine momentR_a _ _ _ ?_ | refine in_a _ _ _ _ _ ?_) <;> try simp (disch := first | omega | (simp only [go_sem]; first | done | omega)) only [go_sem]))
  all_goals (first | refine Ret.sameE (Nat.le_refl _) (by assumption) ?_ | refine Ret.dropE (by assumption) (Nat.le_refl _) (by assumption) (by simp [AV.ok, AV.ok1, AC.ok]) ?_) <;> grind [bnErr]
def bnGo (step : Int) (i : Nat) (p x : Bin) : Int := if bnErr x step ≠ 0 then bnErr x step else if 0 < i ∧ x.a ≤ p.a then 7 else 0
def bnF (l : List Bin) (step : Int) : Int := if ¬isStep step then 1 else if 5000 < l.length then 2 else errGo (bnGo step) 0 ⟨0, 0, 0, 0, 0, 0⟩ l
theorem checkBins_a (l : List Bin) (step : Int) (hlen : l.length ≤ 1099511627776) (hk : K (.c (.int .i64 (bnF l step))) H) : ACalls Tryz.prog 58 [.c (.lst 6 (l.map encN)), (.c (.int .i64 step))] H K := by
  by_cases h0 : isStep step
  case neg =>
    refine acalls Tryz.func58 rfl (by kernel_rfl) (by simp (disch := first | omega | (simp only [go_sem]; first | done | omega)) only [go_sem]) (fun hH => ?_)
    simp (disch := first | omega | (simp only [go_sem]; first | done | omega)) only [go_sem]
    repeat' (first | ((first | refine acond_d ?_ ?_ | refine acond_b ?_ ?_ | refine ag_d ?_ ?_ | refine ag_n ?_ ?_ | refine ag_bt ?_ ?_ | refine ag_bf ?_ ?_) <;> intro c <;> try simp (disch := first | omega | (simp only [go_sem]; first | done | omega)) only [go_sem, c]) | ((first | refine w_draw (by kernel_rfl) (by decide +kernel) ?_ | refine isStep_a _ _ _ ?_) <;> try simp (disch := first | omega | (simp only [go_sem]; first | done | omega)) only [go_sem]))
    all_goals (first | refine Ret.sameE (Nat.le_refl _) (by assumption) ?_ | refine Ret.dropE (by assumption) (Nat.le_refl _) (by assumption) (by simp [AV.ok, AV.ok1, AC.ok]) ?_) <;> simp [bnF, h0]
  by_cases h6 : 5000 < l.length
  · refine acalls Tryz.func58 rfl (by kernel_rfl) (by simp (disch := first | omega | (simp only [go_sem]; first | done | omega)) only [go_sem]) (fun hH => ?_)
    simp (disch := first | omega | (simp only [go_sem]; first | done | omega)) only [go_sem]
    repeat' (first | ((first | refine acond_d ?_ ?_ | refine acond_b ?_ ?_ | refine ag_d ?_ ?_ | refine ag_n ?_ ?_ | refine ag_bt ?_ ?_ | refine ag_bf ?_ ?_) <;> intro c <;> try simp (disch := first | omega | (simp only [go_sem]; first | done | omega)) only [go_sem, c]) | ((first | refine w_draw (by kernel_rfl) (by decide +kernel) ?_ | refine isStep_a _ _ _ ?_) <;> try simp (disch := first | omega | (simp only [go_sem]; first | done | omega)) only [go_sem]))
    all_goals (first | refine Ret.sameE (Nat.le_refl _) (by assumption) ?_ | refine Ret.dropE (by assumption) (Nat.le_refl _) (by assumption) (by simp [AV.ok, AV.ok1, AC.ok]) ?_) <;> simp [bnF, h0, h6]
  have hF : bnF l step = errGo (bnGo step) 0 ⟨0, 0, 0, 0, 0, 0⟩ l := by unfold bnF; rw [if_neg (not_not_intro h0), if_neg h6]
  refine acalls Tryz.func58 rfl (by kernel_rfl) (by simp (disch := first | omega | (simp only [go_sem]; first | done | omega)) only [go_sem]) (fun hH => ?_)
  simp (disch := first | omega | (simp only [go_sem]; first | done | omega)) only [go_sem]
  refine isStep_a _ _ _ ?_
  simp (disch := first | omega | (simp only [go_sem]; first | done | omega)) only [go_sem, h0]
  refine AWp.loop (H.length) [0, 1, 16, 17] [18] (fun (k : Nat) => k ≤ l.length ∧ errGo (bnGo step) k (prv ⟨0, 0, 0, 0, 0, 0⟩ l k) (l.drop k) = errGo (bnGo step) 0 ⟨0, 0, 0, 0, 0, 0⟩ l) (fun (k : Nat) => [(18, (.c (.int .i64 k)))]) (fun (k : Nat) => H) (fun (k : Nat) => l.length - k) (by kernel_rfl) (fun _ => rfl) (by kernel_rfl) (by simp) (by first | (simp; done) | (simp; omega)) (by (try simp only [List.forall_mem_cons, List.not_mem_nil, false_implies, implies_true, and_true]); (try simp (disch := first | omega | (simp only [go_sem]; first | done | omega)) only [go_sem]); all_goals first | trivial | (simp [AV.ok, AV.ok1, AC.ok]; done) | (simp [AV.ok, AV.ok1, AC.ok]; omega) | (simp [AV.ok, AV.ok1, AC.ok]; assumption) | ((repeat' apply And.intro) <;> first | trivial | (simp [AV.ok, AV.ok1, AC.ok]; done) | (simp [AV.ok, AV.ok1, AC.ok]; omega) | (simp [AV.ok, AV.ok1, AC.ok]; assumption) | (refine grV_ok ?_ _; first | (simp; done) | (simp; omega) | omega))) ?_ (fun k hk1 _ _ => ?_)
  · exact Next.mk 0 ⟨by omega, rfl⟩ (by (try simp (disch := first | omega | (simp only [go_sem]; first | done | omega)) only [go_sem]); (first | refine WkL.eq ?_ ?_ | refine WkL.rest (by assumption) ?_ ?_ ?_ | refine WkL.keepL (by assumption) rfl ?_ ?_ ?_ ?_) <;> first | rfl | (simp; done) | (simp; omega) | (simp only [List.cons.injEq, AV.c.injEq, AC.int.injEq, AC.bool.injEq, AC.str.injEq, and_true, true_and, Int.natCast_add, Int.natCast_one, Int.cast_ofNat_Int]; omega) | (simp [AV.ok, AV.ok1, AC.ok]; done) | (simp [AV.ok, AV.ok1, AC.ok]; omega) | (simp only [List.forall_mem_cons, List.not_mem_nil, false_implies, implies_true, and_true]; (repeat' apply And.intro) <;> first | exact okN_map (fun x => by simp [go_sem, AC.pure]) | exact okN_grO (fun x => by simp [go_sem, AC.pure]) | (simp [AObj.okN, AC.ok]; done) | (simp [AObj.okN, AC.ok]; omega)) | (simp [*]; done) | grind)
  obtain ⟨hk1, hk2⟩ := hk1
  by_cases hlt : k < l.length
  · have hs := errGo_step (bnGo step) ⟨0, 0, 0, 0, 0, 0⟩ l k hlt
    have hp : ∀ h : 0 < k, prv ⟨0, 0, 0, 0, 0, 0⟩ l k = l[((k : Int) - 1).toNat]'(by omega) := fun h => by rw [prv_pos _ _ _ hk1 h]; congr 1; omega
    have hv : bnGo step k (prv ⟨0, 0, 0, 0, 0, 0⟩ l k) l[k] ≠ 0 → bnGo step k (prv ⟨0, 0, 0, 0, 0, 0⟩ l k) l[k] = bnF l step := fun h => by rw [hF, ← hk2, hs, if_neg h]
    have hn : bnGo step k (prv ⟨0, 0, 0, 0, 0, 0⟩ l k) l[k] = 0 → errGo (bnGo step) (k + 1) (prv ⟨0, 0, 0, 0, 0, 0⟩ l (k + 1)) (l.drop (k + 1)) = errGo (bnGo step) 0 ⟨0, 0, 0, 0, 0, 0⟩ l := fun h => by rw [← hk2, hs, if_pos h]
    clear hs hF
    simp (disch := first | omega | (simp only [go_sem]; first | done | omega)) only [go_sem, hlt]
    repeat' (first | ((first | refine acond_d ?_ ?_ | refine acond_b ?_ ?_ | refine ag_d ?_ ?_ | refine ag_n ?_ ?_ | refine ag_bt ?_ ?_ | refine ag_bf ?_ ?_) <;> intro c <;> try simp (disch := first | omega | (simp only [go_sem]; first | done | omega)) only [go_sem, c]) | ((first | refine w_draw (by kernel_rfl) (by decide +kernel) ?_ | refine binFault_a _ _ h0.1 h0.2.1 ?_) <;> try simp (disch := first | omega | (simp only [go_sem]; first | done | omega)) only [go_sem]))
    all_goals first
      | (refine Next.mk (k + 1) (by grind [bnGo]) ?_; (try simp (disch := first | omega | (simp only [go_sem]; first | done | omega)) only [go_sem]); (first | refine WkL.eq ?_ ?_ | refine WkL.rest (by assumption) ?_ ?_ ?_ | refine WkL.keepL (by assumption) rfl ?_ ?_ ?_ ?_) <;> first | rfl | (simp; done) | (simp; omega) | (simp only [List.cons.injEq, AV.c.injEq, AC.int.injEq, AC.bool.injEq, AC.str.injEq, and_true, true_and, Int.natCast_add, Int.natCast_one, Int.cast_ofNat_Int]; omega) | (simp [AV.ok, AV.ok1, AC.ok]; done) | (simp [AV.ok, AV.ok1, AC.ok]; omega) | (simp only [List.forall_mem_cons, List.not_mem_nil, false_implies, implies_true, and_true]; (repeat' apply And.intro) <;> first | exact okN_map (fun x => by simp [go_sem, AC.pure]) | exact okN_grO (fun x => by simp [go_sem, AC.pure]) | (simp [AObj.okN, AC.ok]; done) | (simp [AObj.okN, AC.ok]; omega)) | (simp [*]; done) | grind)
      | (first | refine Ret.sameE (Nat.le_refl _) (by assumption) ?_ | refine Ret.dropE (by assumption) (Nat.le_refl _) (by assumption) (by simp [AV.ok, AV.ok1, AC.ok]) ?_) <;> grind [bnGo]
  · simp (disch := first | omega | (simp only [go_sem]; first | done | omega)) only [go_sem, hlt]
    have := errGo_end (bnGo step) (prv ⟨0, 0, 0, 0, 0, 0⟩ l k) l k (by omega)
    (first | refine Ret.sameE (Nat.le_refl _) (by assumption) ?_ | refine Ret.dropE (by assumption) (Nat.le_refl _) (by assumption) (by simp [AV.ok, AV.ok1, AC.ok]) ?_) <;> (first | rfl | (simp only [AV.c.injEq, AC.bool.injEq]; rw [Bool.eq_iff_iff]; simp only [Bool.not_eq_true', decide_eq_true_eq, decide_eq_false_iff_not, Bool.and_eq_true, Bool.or_eq_true]; omega) | grind | (simp [*]; done) | (simp [*]; omega))
theorem binsFault_a (l : List Bin) (step : Int) (hlen : l.length ≤ 1099511627776) (hk : K (.c (.int .i64 (bnF l step))) H) : ACalls Tryz.prog 17 [.c (.lst 6 (l.map encN)), (.c (.int .i64 step))] H K := by
  by_cases h0 : isStep step
  case neg =>
    refine acalls Tryz.func17 rfl (by kernel_rfl) (by simp (disch := first | omega | (simp only [go_sem]; first | done | omega)) only [go_sem]) (fun hH => ?_)
    simp (disch := first | omega | (simp only [go_sem]; first | done | omega)) only [go_sem]
    refine stepFault_a _ _ _ ?_
    rw [if_neg h0]
    simp (disch := first | omega | (simp only [go_sem]; first | done | omega)) only [go_sem]
    (first | refine Ret.sameE (Nat.le_refl _) (by assumption) ?_ | refine Ret.dropE (by assumption) (Nat.le_refl _) (by assumption) (by simp [AV.ok, AV.ok1, AC.ok]) ?_) <;> simp [bnF, h0]
  by_cases h6 : 5000 < l.length
  · refine acalls Tryz.func17 rfl (by kernel_rfl) (by simp (disch := first | omega | (simp only [go_sem]; first | done | omega)) only [go_sem]) (fun hH => ?_)
    simp (disch := first | omega | (simp only [go_sem]; first | done | omega)) only [go_sem]
    refine stepFault_a _ _ _ ?_
    rw [if_pos h0]
    simp (disch := first | omega | (simp only [go_sem]; first | done | omega)) only [go_sem]
    (first | refine Ret.sameE (Nat.le_refl _) (by assumption) ?_ | refine Ret.dropE (by assumption) (Nat.le_refl _) (by assumption) (by simp [AV.ok, AV.ok1, AC.ok]) ?_) <;> simp [bnF, h0, h6]
  have hF : bnF l step = errGo (bnGo step) 0 ⟨0, 0, 0, 0, 0, 0⟩ l := by unfold bnF; rw [if_neg (not_not_intro h0), if_neg h6]
  refine acalls Tryz.func17 rfl (by kernel_rfl) (by simp (disch := first | omega | (simp only [go_sem]; first | done | omega)) only [go_sem]) (fun hH => ?_)
  simp (disch := first | omega | (simp only [go_sem]; first | done | omega)) only [go_sem]
  refine stepFault_a _ _ _ ?_
  rw [if_pos h0]
  simp (disch := first | omega | (simp only [go_sem]; first | done | omega)) only [go_sem]
  refine AWp.loop (H.length) [0, 1, 17, 18] [19] (fun (k : Nat) => k ≤ l.length ∧ errGo (bnGo step) k (prv ⟨0, 0, 0, 0, 0, 0⟩ l k) (l.drop k) = errGo (bnGo step) 0 ⟨0, 0, 0, 0, 0, 0⟩ l) (fun (k : Nat) => [(19, (.c (.int .i64 k)))]) (fun (k : Nat) => H) (fun (k : Nat) => l.length - k) (by kernel_rfl) (fun _ => rfl) (by kernel_rfl) (by simp) (by first | (simp; done) | (simp; omega)) (by (try simp only [List.forall_mem_cons, List.not_mem_nil, false_implies, implies_true, and_true]); (try simp (disch := first | omega | (simp only [go_sem]; first | done | omega)) only [go_sem]); all_goals first | trivial | (simp [AV.ok, AV.ok1, AC.ok]; done) | (simp [AV.ok, AV.ok1, AC.ok]; omega) | (simp [AV.ok, AV.ok1, AC.ok]; assumption) | ((repeat' apply And.intro) <;> first | trivial | (simp [AV.ok, AV.ok1, AC.ok]; done) | (simp [AV.ok, AV.ok1, AC.ok]; omega) | (simp [AV.ok, AV.ok1, AC.ok]; assumption) | (refine grV_ok ?_ _; first | (simp; done) | (simp; omega) | omega))) ?_ (fun k hk1 _ _ => ?_)
  · exact Next.mk 0 ⟨by omega, rfl⟩ (by (try simp (disch := first | omega | (simp only [go_sem]; first | done | omega)) only [go_sem]); (first | refine WkL.eq ?_ ?_ | refine WkL.rest (by assumption) ?_ ?_ ?_ | refine WkL.keepL (by assumption) rfl ?_ ?_ ?_ ?_) <;> first | rfl | (simp; done) | (simp; omega) | (simp only [List.cons.injEq, AV.c.injEq, AC.int.injEq, AC.bool.injEq, AC.str.injEq, and_true, true_and, Int.natCast_add, Int.natCast_one, Int.cast_ofNat_Int]; omega) | (simp [AV.ok, AV.ok1, AC.ok]; done) | (simp [AV.ok, AV.ok1, AC.ok]; omega) | (simp only [List.forall_mem_cons, List.not_mem_nil, false_implies, implies_true, and_true]; (repeat' apply And.intro) <;> first | exact okN_map (fun x => by simp [go_sem, AC.pure]) | exact okN_grO (fun x => by simp [go_sem, AC.pure]) | (simp [AObj.okN, AC.ok]; done) | (simp [AObj.okN, AC.ok]; omega)) | (simp [*]; done) | grind)
  obtain ⟨hk1, hk2⟩ := hk1
  by_cases hlt : k < l.length
  · have hs := errGo_step (bnGo step) ⟨0, 0, 0, 0, 0, 0⟩ l k hlt
    have hp : ∀ h : 0 < k, prv ⟨0, 0, 0, 0, 0, 0⟩ l k = l[((k : Int) - 1).toNat]'(by omega) := fun h => by rw [prv_pos _ _ _ hk1 h]; congr 1; omega
    have hv : bnGo step k (prv ⟨0, 0, 0, 0, 0, 0⟩ l k) l[k] ≠ 0 → bnGo step k (prv ⟨0, 0, 0, 0, 0, 0⟩ l k) l[k] = bnF l step := fun h => by rw [hF, ← hk2, hs, if_neg h]
    have hn : bnGo step k (prv ⟨0, 0, 0, 0, 0, 0⟩ l k) l[k] = 0 → errGo (bnGo step) (k + 1) (prv ⟨0, 0, 0, 0, 0, 0⟩ l (k + 1)) (l.drop (k + 1)) = errGo (bnGo step) 0 ⟨0, 0, 0, 0, 0, 0⟩ l := fun h => by rw [← hk2, hs, if_pos h]
    clear hs hF
    simp (disch := first | omega | (simp only [go_sem]; first | done | omega)) only [go_sem, hlt]
    repeat' (first | ((first | refine acond_d ?_ ?_ | refine acond_b ?_ ?_ | refine ag_d ?_ ?_ | refine ag_n ?_ ?_ | refine ag_bt ?_ ?_ | refine ag_bf ?_ ?_) <;> intro c <;> try simp (disch := first | omega | (simp only [go_sem]; first | done | omega)) only [go_sem, c]) | ((first | refine w_draw (by kernel_rfl) (by decide +kernel) ?_ | refine binFaultR_a _ _ h0.1 h0.2.1 ?_) <;> try simp (disch := first | omega | (simp only [go_sem]; first | done | omega)) only [go_sem]))
    all_goals first
      | (refine Next.mk (k + 1) (by grind [bnGo]) ?_; (try simp (disch := first | omega | (simp only [go_sem]; first | done | omega)) only [go_sem]); (first | refine WkL.eq ?_ ?_ | refine WkL.rest (by assumption) ?_ ?_ ?_ | refine WkL.keepL (by assumption) rfl ?_ ?_ ?_ ?_) <;> first | rfl | (simp; done) | (simp; omega) | (simp only [List.cons.injEq, AV.c.injEq, AC.int.injEq, AC.bool.injEq, AC.str.injEq, and_true, true_and, Int.natCast_add, Int.natCast_one, Int.cast_ofNat_Int]; omega) | (simp [AV.ok, AV.ok1, AC.ok]; done) | (simp [AV.ok, AV.ok1, AC.ok]; omega) | (simp only [List.forall_mem_cons, List.not_mem_nil, false_implies, implies_true, and_true]; (repeat' apply And.intro) <;> first | exact okN_map (fun x => by simp [go_sem, AC.pure]) | exact okN_grO (fun x => by simp [go_sem, AC.pure]) | (simp [AObj.okN, AC.ok]; done) | (simp [AObj.okN, AC.ok]; omega)) | (simp [*]; done) | grind)
      | (first | refine Ret.sameE (Nat.le_refl _) (by assumption) ?_ | refine Ret.dropE (by assumption) (Nat.le_refl _) (by assumption) (by simp [AV.ok, AV.ok1, AC.ok]) ?_) <;> grind [bnGo]
  · simp (disch := first | omega | (simp only [go_sem]; first | done | omega)) only [go_sem, hlt]
    have := errGo_end (bnGo step) (prv ⟨0, 0, 0, 0, 0, 0⟩ l k) l k (by omega)
    (first | refine Ret.sameE (Nat.le_refl _) (by assumption) ?_ | refine Ret.dropE (by assumption) (Nat.le_refl _) (by assumption) (by simp [AV.ok, AV.ok1, AC.ok]) ?_) <;> (first | rfl | (simp only [AV.c.injEq, AC.bool.injEq]; rw [Bool.eq_iff_iff]; simp only [Bool.not_eq_true', decide_eq_true_eq, decide_eq_false_iff_not, Bool.and_eq_true, Bool.or_eq_true]; omega) | grind | (simp [*]; done) | (simp [*]; omega))
end Go.Proofs.YtdcedhgkigpejaaGreatDoor
/- Whether bins fit; bins combined by the document. No condition. -/
namespace Go.Proofs.YtdcedhgkigpejaaGreatDoor
open Go Go.RowKit
set_option maxRecDepth 100000
set_option linter.all false
set_option maxHeartbeats 1000000
variable {H : Hp} {K : AV → Hp → Prop}
def bigB (x : Bin) : Bool := decide (5000000 < x.n ∨ 5000000 < x.m)
theorem fits1_a (x : Bin) (hk : K (.c (.bool (bigB x))) H) : ACalls Tryz.prog 202 [.agg (encN x)] H K := by
  refine acalls Tryz.func202 rfl (by kernel_rfl) (by simp (disch := first | omega | (simp only [go_sem]; first | done | omega)) only [go_sem]) (fun hH => ?_)
  simp (disch := first | omega | (simp only [go_sem]; first | done | omega)) only [go_sem]
  repeat' (first | ((first | refine acond_d ?_ ?_ | refine acond_b ?_ ?_ | refine ag_d ?_ ?_ | refine ag_n ?_ ?_ | refine ag_bt ?_ ?_ | refine ag_bf ?_ ?_) <;> intro c <;> try simp (disch := first | omega | (simp only [go_sem]; first | done | omega)) only [go_sem, c]) | ((first | refine w_draw (by kernel_rfl) (by decide +kernel) ?_) <;> try simp (disch := first | omega | (simp only [go_sem]; first | done | omega)) only [go_sem]))
  all_goals (first | refine Ret.sameE (Nat.le_refl _) (by assumption) ?_ | refine Ret.dropE (by assumption) (Nat.le_refl _) (by assumption) (by simp [AV.ok, AV.ok1, AC.ok]) ?_) <;> simp [bigB, *]
theorem indexFuncN_a (f : FuncId) (p : Bin → Bool) (he : entersB Tryz.prog f = true) (hf : ∀ (x : Bin) (H : Hp) (K : AV → Hp → Prop), K (.c (.bool (p x))) H → ACalls Tryz.prog f [.agg (encN x)] H K) (l : List Bin) (hlen : l.length ≤ 1099511627776) (hk : ∀ r : Int, (0 ≤ r ↔ l.any p = true) → K (.c (.int .i64 r)) H) : ACalls Tryz.prog 135 [.c (.lst 6 (l.map encN)), .c (.fn f [] [])] H K := by
  refine acalls Tryz.func135 rfl (by kernel_rfl) (by simp (disch := first | omega | (simp only [go_sem]; first | done | omega)) only [go_sem]) (fun hH => ?_)
  simp (disch := first | omega | (simp only [go_sem]; first | done | omega)) only [go_sem]
  refine AWp.loop (H.length) [0, 1, 7] [8] (fun (k : Nat) => k ≤ l.length ∧ ∀ j (h : j < l.length), j < k → p l[j] = false) (fun (k : Nat) => [(8, (.c (.int .i64 k)))]) (fun (k : Nat) => H) (fun (k : Nat) => l.length - k) (by kernel_rfl) (fun _ => rfl) (by kernel_rfl) (by simp) (by first | (simp; done) | (simp; omega)) (by (try simp only [List.forall_mem_cons, List.not_mem_nil, false_implies, implies_true, and_true]); (try simp (disch := first | omega | (simp only [go_sem]; first | done | omega)) only [go_sem]); all_goals first | trivial | (simp [AV.ok, AV.ok1, AC.ok]; done) | (simp [AV.ok, AV.ok1, AC.ok]; omega) | (simp [AV.ok, AV.ok1, AC.ok]; assumption) | ((repeat' apply And.intro) <;> first | trivial | (simp [AV.ok, AV.ok1, AC.ok]; done) | (simp [AV.ok, AV.ok1, AC.ok]; omega) | (simp [AV.ok, AV.ok1, AC.ok]; assumption) | (refine grV_ok ?_ _; first | (simp; done) | (simp; omega) | omega))) ?_ (fun k hk1 _ _ => ?_)
  · exact Next.mk 0 (by simp) (by (try simp (disch := first | omega | (simp only [go_sem]; first | done | omega)) only [go_sem]); (first | refine WkL.eq ?_ ?_ | refine WkL.rest (by assumption) ?_ ?_ ?_ | refine WkL.keepL (by assumption) rfl ?_ ?_ ?_ ?_) <;> first | rfl | (simp; done) | (simp; omega) | (simp only [List.cons.injEq, AV.c.injEq, AC.int.injEq, AC.bool.injEq, AC.str.injEq, and_true, true_and, Int.natCast_add, Int.natCast_one, Int.cast_ofNat_Int]; omega) | (simp [AV.ok, AV.ok1, AC.ok]; done) | (simp [AV.ok, AV.ok1, AC.ok]; omega) | (simp only [List.forall_mem_cons, List.not_mem_nil, false_implies, implies_true, and_true]; (repeat' apply And.intro) <;> first | exact okN_map (fun x => by simp [go_sem, AC.pure]) | exact okN_grO (fun x => by simp [go_sem, AC.pure]) | (simp [AObj.okN, AC.ok]; done) | (simp [AObj.okN, AC.ok]; omega)) | (simp [*]; done) | grind)
  obtain ⟨hk1, hk2⟩ := hk1
  by_cases hlt : k < l.length
  · simp (disch := first | omega | (simp only [go_sem]; first | done | omega)) only [go_sem, he]
    refine hf l[k] _ _ ?_
    simp (disch := first | omega | (simp only [go_sem]; first | done | omega)) only [go_sem]
    refine acond_b (fun c => ?_) (fun c => ?_)
    · simp (disch := first | omega | (simp only [go_sem]; first | done | omega)) only [go_sem]
      refine Ret.same (Nat.le_refl _) (hk k ?_)
      simp only [Int.natCast_nonneg, List.any_eq_true, true_iff]
      exact ⟨l[k], List.getElem_mem _, c⟩
    · simp (disch := first | omega | (simp only [go_sem]; first | done | omega)) only [go_sem]
      refine Next.mk (k + 1) ⟨⟨by omega, fun j h hj => ?_⟩, by omega⟩ (by (try simp (disch := first | omega | (simp only [go_sem]; first | done | omega)) only [go_sem]); (first | refine WkL.eq ?_ ?_ | refine WkL.rest (by assumption) ?_ ?_ ?_ | refine WkL.keepL (by assumption) rfl ?_ ?_ ?_ ?_) <;> first | rfl | (simp; done) | (simp; omega) | (simp only [List.cons.injEq, AV.c.injEq, AC.int.injEq, AC.bool.injEq, AC.str.injEq, and_true, true_and, Int.natCast_add, Int.natCast_one, Int.cast_ofNat_Int]; omega) | (simp [AV.ok, AV.ok1, AC.ok]; done) | (simp [AV.ok, AV.ok1, AC.ok]; omega) | (simp only [List.forall_mem_cons, List.not_mem_nil, false_implies, implies_true, and_true]; (repeat' apply And.intro) <;> first | exact okN_map (fun x => by simp [go_sem, AC.pure]) | exact okN_grO (fun x => by simp [go_sem, AC.pure]) | (simp [AObj.okN, AC.ok]; done) | (simp [AObj.okN, AC.ok]; omega)) | (simp [*]; done) | grind)
      rcases Nat.lt_or_ge j k with h1 | h1
      · exact hk2 j h h1
      · obtain rfl : j = k := by omega
        simpa using c
  · simp (disch := first | omega | (simp only [go_sem]; first | done | omega)) only [go_sem]
    refine Ret.same (Nat.le_refl _) (hk (-1) ?_)
    have : l.any p = false := by
      rw [List.any_eq_false]
      intro x hx
      obtain ⟨j, hj, rfl⟩ := List.getElem_of_mem hx
      simpa using hk2 j hj (by omega)
    simp [this]
theorem containsN_a (f : FuncId) (p : Bin → Bool) (he : entersB Tryz.prog f = true) (hf : ∀ (x : Bin) (H : Hp) (K : AV → Hp → Prop), K (.c (.bool (p x))) H → ACalls Tryz.prog f [.agg (encN x)] H K) (l : List Bin) (hlen : l.length ≤ 1099511627776) (hk : K (.c (.bool (l.any p))) H) : ACalls Tryz.prog 51 [.c (.lst 6 (l.map encN)), .c (.fn f [] [])] H K := by
  refine acalls Tryz.func51 rfl (by kernel_rfl) (by simp (disch := first | omega | (simp only [go_sem]; first | done | omega)) only [go_sem]) (fun hH => ?_)
  simp (disch := first | omega | (simp only [go_sem]; first | done | omega)) only [go_sem]
  refine indexFuncN_a f p he hf l hlen (fun r hr => ?_)
  simp (disch := first | omega | (simp only [go_sem]; first | done | omega)) only [go_sem]
  refine Ret.same (Nat.le_refl _) ?_
  rw [show decide (0 ≤ r) = l.any p by rw [Bool.eq_iff_iff, decide_eq_true_eq]; exact hr]
  exact hk
def fitsE (l : List Bin) : Int := if 5000 < l.length ∨ l.any bigB = true then 2 else 0
theorem fits_a (l : List Bin) (hlen : l.length ≤ 1099511627776) (hk : K (.c (.int .i64 (fitsE l))) H) : ACalls Tryz.prog 138 [.c (.lst 6 (l.map encN))] H K := by
  refine acalls Tryz.func138 rfl (by kernel_rfl) (by simp (disch := first | omega | (simp only [go_sem]; first | done | omega)) only [go_sem]) (fun hH => ?_)
  simp (disch := first | omega | (simp only [go_sem]; first | done | omega)) only [go_sem]
  repeat' (first | ((first | refine acond_d ?_ ?_ | refine acond_b ?_ ?_ | refine ag_d ?_ ?_ | refine ag_n ?_ ?_ | refine ag_bt ?_ ?_ | refine ag_bf ?_ ?_) <;> intro c <;> try simp (disch := first | omega | (simp only [go_sem]; first | done | omega)) only [go_sem, c]) | ((first | refine w_draw (by kernel_rfl) (by decide +kernel) ?_ | refine containsN_a _ _ (by kernel_rfl) (fun x H K h => fits1_a x h) l hlen ?_) <;> try simp (disch := first | omega | (simp only [go_sem]; first | done | omega)) only [go_sem]))
  all_goals (first | refine Ret.sameE (Nat.le_refl _) (by assumption) ?_ | refine Ret.dropE (by assumption) (Nat.le_refl _) (by assumption) (by simp [AV.ok, AV.ok1, AC.ok]) ?_) <;> grind [fitsE]
end Go.Proofs.YtdcedhgkigpejaaGreatDoor
/- Bins combined by the document: it is what the program puts together. Condition: counts are not negative, sums are small. -/
namespace Go.Proofs.YtdcedhgkigpejaaGreatDoor
open Go Go.RowKit
set_option maxRecDepth 100000
set_option linter.all false
set_option maxHeartbeats 1000000
variable {H : Hp} {K : AV → Hp → Prop}
def Bin.fine (x : Bin) : Prop := 0 ≤ x.n ∧ x.bd 5000000000000
theorem containsGr_a (f : FuncId) (p : Bin → Bool) (he : entersB Tryz.prog f = true) (hf : ∀ (x : Bin) (H : Hp) (K : AV → Hp → Prop), K (.c (.bool (p x))) H → ACalls Tryz.prog f [.agg (encN x)] H K) {i : Nat} (l : List Bin) (hi : H[i]? = some (grO 39 6 (l.map encN))) (hlen : l.length ≤ 1099511627776) (hk : K (.c (.bool (l.any p))) H) : ACalls Tryz.prog 51 [.c (grV i l), .c (.fn f [] [])] H K := by
  rw [← map_grV encN]
  exact ACalls.lendGr (.c (.bool (l.any p))) hi (pureL_encN l) rfl rfl rfl (by simp [AV.ok1, AC.ok]) (fun G J hJ => containsN_a f p he hf l hlen hJ) hk
end Go.Proofs.YtdcedhgkigpejaaGreatDoor
/- Few bins sorted in place by their times: equal ones keep their order. Condition: at most 20. -/
namespace Go.Proofs.YtdcedhgkigpejaaGreatDoor
open Go Go.RowKit
set_option maxRecDepth 100000
set_option linter.all false
set_option maxHeartbeats 1000000
variable {H : Hp} {K : AV → Hp → Prop}
def sinkB : Nat → List Bin → List Bin
  | 0, l => l
  | j + 1, l => match l[j + 1]?, l[j]? with
    | some x, some y => if x.a < y.a then sinkB j ((l.set (j + 1) y).set j x) else l
    | _, _ => l
def isortGo : Nat → Nat → List Bin → List Bin
  | 0, _, l => l
  | c + 1, i, l => isortGo c (i + 1) (sinkB i l)
def isortB (l : List Bin) : List Bin := isortGo (l.length - 1) 1 l
theorem sinkB_step (j : Nat) (l : List Bin) (h : j + 1 < l.length) : sinkB (j + 1) l = if l[j + 1].a < l[j].a then sinkB j ((l.set (j + 1) l[j]).set j l[j + 1]) else l := by
  rw [sinkB, List.getElem?_eq_getElem h, List.getElem?_eq_getElem (by omega)]
theorem insertion_a (f : FuncId) (cf : Bin → Bin → Int) (P : Bin → Prop) (he : entersB Tryz.prog f = true) (hc : ∀ x y, P x → P y → (cf x y < 0 ↔ x.a < y.a)) (hf : ∀ (x y : Bin) (H : Hp) (K : AV → Hp → Prop), P x → P y → K (.c (.int .i64 (cf x y))) H → ACalls Tryz.prog f [.agg (encN x), .agg (encN y)] H K)
    {i n : Nat} (l : List Bin) (hi : H[i]? = some (.row 39 6 (l.map encN) true)) (hn : n = l.length) (hP : ∀ x ∈ l, P x) (hlen : l.length ≤ 1000000) (hk : K (.tup []) (H.set i (.row 39 6 ((isortB l).map encN) true))) :
    ACalls Tryz.prog 255 [.c (.sl (some (i, 0)) n), (.c (.int .i64 0)), (.c (.int .i64 n)), .c (.fn f [] [])] H K := by
  subst hn
  have hlt := getElem?_lt hi
  refine acalls Tryz.func255 rfl (by kernel_rfl) (by simp (disch := first | omega | (simp only [go_sem]; first | done | omega)) only [go_sem]) (fun hH => ?_)
  simp (disch := first | omega | (simp only [go_sem]; first | done | omega)) only [go_sem]
  refine AWp.loop (H.length) [0, 1, 2, 3] [8] (fun (q : Nat × List Bin) => 1 ≤ q.1 ∧ (q.1 ≤ l.length ∨ q.1 = 1) ∧ q.2.length = l.length ∧ (∀ x ∈ q.2, P x) ∧ isortGo (l.length - q.1) q.1 q.2 = isortB l) (fun (q : Nat × List Bin) => [(8, (.c (.int .i64 (q.1))))]) (fun (q : Nat × List Bin) => H.set i (.row 39 6 (q.2.map encN) true)) (fun (q : Nat × List Bin) => l.length - q.1) (by kernel_rfl) (fun _ => rfl) (by kernel_rfl) (by simp) (by first | (simp; done) | (simp; omega)) (by (try simp only [List.forall_mem_cons, List.not_mem_nil, false_implies, implies_true, and_true]); (try simp (disch := first | omega | (simp only [go_sem]; first | done | omega)) only [go_sem]); all_goals first | trivial | (simp [AV.ok, AV.ok1, AC.ok]; done) | (simp [AV.ok, AV.ok1, AC.ok]; omega) | (simp [AV.ok, AV.ok1, AC.ok]; assumption) | ((repeat' apply And.intro) <;> first | trivial | (simp [AV.ok, AV.ok1, AC.ok]; done) | (simp [AV.ok, AV.ok1, AC.ok]; omega) | (simp [AV.ok, AV.ok1, AC.ok]; assumption) | (refine grV_ok ?_ _; first | (simp; done) | (simp; omega) | omega))) ?_ (fun q hq _ _ => ?_)
  · refine Next.mk (1, l) ⟨by simp, by simp, rfl, hP, rfl⟩ ?_
    have e : H.set i (.row 39 6 (l.map encN) true) = H := by
      apply List.ext_getElem?
      intro j
      by_cases h : i = j
      · subst h; rw [List.getElem?_set_self hlt, hi]
      · rw [List.getElem?_set_ne h]
    dsimp only
    rw [e]
    (try simp (disch := first | omega | (simp only [go_sem]; first | done | omega)) only [go_sem]); (first | refine WkL.eq ?_ ?_ | refine WkL.rest (by assumption) ?_ ?_ ?_ | refine WkL.keepL (by assumption) rfl ?_ ?_ ?_ ?_) <;> first | rfl | (simp; done) | (simp; omega) | (simp only [List.cons.injEq, AV.c.injEq, AC.int.injEq, AC.bool.injEq, AC.str.injEq, and_true, true_and, Int.natCast_add, Int.natCast_one, Int.cast_ofNat_Int]; omega) | (simp [AV.ok, AV.ok1, AC.ok]; done) | (simp [AV.ok, AV.ok1, AC.ok]; omega) | (simp only [List.forall_mem_cons, List.not_mem_nil, false_implies, implies_true, and_true]; (repeat' apply And.intro) <;> first | exact okN_map (fun x => by simp [go_sem, AC.pure]) | exact okN_grO (fun x => by simp [go_sem, AC.pure]) | (simp [AObj.okN, AC.ok]; done) | (simp [AObj.okN, AC.ok]; omega)) | (simp [*]; done) | grind
  obtain ⟨k, cur⟩ := q
  obtain ⟨hk1, hk2, hcl, hcP, hcE⟩ := hq
  dsimp only at hk1 hk2 hcl hcP hcE
  by_cases hkl : k < l.length
  · simp (disch := first | omega | (simp only [go_sem]; first | done | omega)) only [go_sem]
    refine AWp.loop (H.length) [0, 1, 2, 3, 8] [9] (fun (q : Nat × List Bin) => q.1 ≤ k ∧ q.2.length = l.length ∧ (∀ x ∈ q.2, P x) ∧ sinkB q.1 q.2 = sinkB k cur) (fun (q : Nat × List Bin) => [(9, (.c (.int .i64 (q.1))))]) (fun (q : Nat × List Bin) => H.set i (.row 39 6 (q.2.map encN) true)) (fun (q : Nat × List Bin) => q.1) (by kernel_rfl) (fun _ => rfl) (by kernel_rfl) (by simp) (by first | (simp; done) | (simp; omega)) (by (try simp only [List.forall_mem_cons, List.not_mem_nil, false_implies, implies_true, and_true]); (try simp (disch := first | omega | (simp only [go_sem]; first | done | omega)) only [go_sem]); all_goals first | trivial | (simp [AV.ok, AV.ok1, AC.ok]; done) | (simp [AV.ok, AV.ok1, AC.ok]; omega) | (simp [AV.ok, AV.ok1, AC.ok]; assumption) | ((repeat' apply And.intro) <;> first | trivial | (simp [AV.ok, AV.ok1, AC.ok]; done) | (simp [AV.ok, AV.ok1, AC.ok]; omega) | (simp [AV.ok, AV.ok1, AC.ok]; assumption) | (refine grV_ok ?_ _; first | (simp; done) | (simp; omega) | omega))) ?_ (fun q hq _ _ => ?_)
    · exact Next.mk (k, cur) ⟨Nat.le_refl _, hcl, hcP, rfl⟩ (by (try simp (disch := first | omega | (simp only [go_sem]; first | done | omega)) only [go_sem]); (first | refine WkL.eq ?_ ?_ | refine WkL.rest (by assumption) ?_ ?_ ?_ | refine WkL.keepL (by assumption) rfl ?_ ?_ ?_ ?_) <;> first | rfl | (simp; done) | (simp; omega) | (simp only [List.cons.injEq, AV.c.injEq, AC.int.injEq, AC.bool.injEq, AC.str.injEq, and_true, true_and, Int.natCast_add, Int.natCast_one, Int.cast_ofNat_Int]; omega) | (simp [AV.ok, AV.ok1, AC.ok]; done) | (simp [AV.ok, AV.ok1, AC.ok]; omega) | (simp only [List.forall_mem_cons, List.not_mem_nil, false_implies, implies_true, and_true]; (repeat' apply And.intro) <;> first | exact okN_map (fun x => by simp [go_sem, AC.pure]) | exact okN_grO (fun x => by simp [go_sem, AC.pure]) | (simp [AObj.okN, AC.ok]; done) | (simp [AObj.okN, AC.ok]; omega)) | (simp [*]; done) | grind)
    obtain ⟨j, cu⟩ := q
    obtain ⟨hj1, hj2, hjP, hjE⟩ := hq
    dsimp only at hj1 hj2 hjP hjE
    have hdone : sinkB j cu = cu → WkL H.length [(.c (.int .i64 ((k + 1 : Nat))))] (H.set i (.row 39 6 (cu.map encN) true)) [(.c (.int .i64 ((k + 1 : Nat))))] (H.set i (.row 39 6 ((sinkB k cur).map encN) true)) := fun h => by
      rw [← hjE, h]; exact WkL.refl (by simp)
    have hnx : sinkB j cu = cu → (1 ≤ k + 1 ∧ (k + 1 ≤ l.length ∨ k + 1 = 1) ∧ (sinkB k cur).length = l.length ∧ (∀ x ∈ sinkB k cur, P x) ∧ isortGo (l.length - (k + 1)) (k + 1) (sinkB k cur) = isortB l) ∧ l.length - (k + 1) < l.length - k := fun h => by
      refine ⟨⟨by omega, .inl (by omega), by rw [← hjE, h]; exact hj2, by rw [← hjE, h]; exact hjP, ?_⟩, by omega⟩
      rw [← hcE, show l.length - k = (l.length - (k + 1)) + 1 by omega]; rfl
    rcases j with _ | j
    · simp (disch := first | omega | (simp only [go_sem]; first | done | omega)) only [go_sem]
      repeat' (first | ((first | refine acond_d ?_ ?_ | refine acond_b ?_ ?_ | refine ag_d ?_ ?_ | refine ag_n ?_ ?_ | refine ag_bt ?_ ?_ | refine ag_bf ?_ ?_) <;> intro c <;> try simp (disch := first | omega | (simp only [go_sem]; first | done | omega)) only [go_sem, c]) | ((first | refine w_draw (by kernel_rfl) (by decide +kernel) ?_) <;> try simp (disch := first | omega | (simp only [go_sem]; first | done | omega)) only [go_sem]))
      exact Next.mk (k + 1, sinkB k cur) (hnx rfl) (hdone rfl)
    · have hjl : j + 1 < cu.length := by omega
      have hst := sinkB_step j cu hjl
      have hx : cu[(((j + 1 : Nat) : Int) - 1).toNat]'(by omega) = cu[j] := by congr 1; omega
      simp (disch := first | omega | (simp only [go_sem]; first | done | omega)) only [go_sem]
      repeat' (first | ((first | refine acond_d ?_ ?_ | refine acond_b ?_ ?_ | refine ag_d ?_ ?_ | refine ag_n ?_ ?_ | refine ag_bt ?_ ?_ | refine ag_bf ?_ ?_) <;> intro c <;> try simp (disch := first | omega | (simp only [go_sem]; first | done | omega)) only [go_sem, c, he, hx]) | ((first | refine w_draw (by kernel_rfl) (by decide +kernel) ?_ | refine hf cu[j + 1] cu[j] _ _ (hjP _ (List.getElem_mem _)) (hjP _ (List.getElem_mem _)) ?_) <;> try simp (disch := first | omega | (simp only [go_sem]; first | done | omega)) only [go_sem, he, hx]))
      · have lt := (hc _ _ (hjP _ (List.getElem_mem _)) (hjP _ (List.getElem_mem _))).1 c
        have hmp : ∀ q, q = j → ((cu.map encN).set (j + 1) (encN cu[j])).set q (encN cu[j + 1]) = (((cu.set (j + 1) cu[j]).set j cu[j + 1])).map encN := by
          rintro q rfl; simp [List.map_set, -encN]
        have hmp := hmp (((j + 1 : Nat) : Int) - 1).toNat (by omega)
        refine Next.mk (j, (cu.set (j + 1) cu[j]).set j cu[j + 1]) ⟨⟨by omega, by simpa using hj2, fun x hx' => ?_, by rw [← hjE, hst, if_pos lt]⟩, by dsimp only; omega⟩ ?_
        · rcases List.mem_or_eq_of_mem_set hx' with h | rfl
          · rcases List.mem_or_eq_of_mem_set h with h | rfl
            · exact hjP x h
            · exact hjP _ (List.getElem_mem _)
          · exact hjP _ (List.getElem_mem _)
        · dsimp only
          rw [← hmp]
          (try simp (disch := first | omega | (simp only [go_sem]; first | done | omega)) only [go_sem]); (first | refine WkL.eq ?_ ?_ | refine WkL.rest (by assumption) ?_ ?_ ?_ | refine WkL.keepL (by assumption) rfl ?_ ?_ ?_ ?_) <;> first | rfl | (simp; done) | (simp; omega) | (simp only [List.cons.injEq, AV.c.injEq, AC.int.injEq, AC.bool.injEq, AC.str.injEq, and_true, true_and, Int.natCast_add, Int.natCast_one, Int.cast_ofNat_Int]; omega) | (simp [AV.ok, AV.ok1, AC.ok]; done) | (simp [AV.ok, AV.ok1, AC.ok]; omega) | (simp only [List.forall_mem_cons, List.not_mem_nil, false_implies, implies_true, and_true]; (repeat' apply And.intro) <;> first | exact okN_map (fun x => by simp [go_sem, AC.pure]) | exact okN_grO (fun x => by simp [go_sem, AC.pure]) | (simp [AObj.okN, AC.ok]; done) | (simp [AObj.okN, AC.ok]; omega)) | (simp [*]; done) | grind
      · have ge : ¬cu[j + 1].a < cu[j].a := fun h => c ((hc _ _ (hjP _ (List.getElem_mem _)) (hjP _ (List.getElem_mem _))).2 h)
        have h : sinkB (j + 1) cu = cu := by rw [hst, if_neg ge]
        exact Next.mk (k + 1, sinkB k cur) (hnx h) (hdone h)
  · simp (disch := first | omega | (simp only [go_sem]; first | done | omega)) only [go_sem]
    have e : cur = isortB l := by rw [← hcE, show l.length - k = 0 by omega]; rfl
    rw [e]
    exact Ret.same (by simp) hk
theorem stable_a (f : FuncId) (cf : Bin → Bin → Int) (P : Bin → Prop) (he : entersB Tryz.prog f = true) (hc : ∀ x y, P x → P y → (cf x y < 0 ↔ x.a < y.a)) (hf : ∀ (x y : Bin) (H : Hp) (K : AV → Hp → Prop), P x → P y → K (.c (.int .i64 (cf x y))) H → ACalls Tryz.prog f [.agg (encN x), .agg (encN y)] H K)
    {i n : Nat} (l : List Bin) (hi : H[i]? = some (.row 39 6 (l.map encN) true)) (hn : n = l.length) (hP : ∀ x ∈ l, P x) (hlen : l.length < 20) (hk : K (.tup []) (H.set i (.row 39 6 ((isortB l).map encN) true))) :
    ACalls Tryz.prog 204 [.c (.sl (some (i, 0)) n), (.c (.int .i64 n)), .c (.fn f [] [])] H K := by
  subst hn
  have hlt := getElem?_lt hi
  refine acalls Tryz.func204 rfl (by kernel_rfl) (by simp (disch := first | omega | (simp only [go_sem]; first | done | omega)) only [go_sem]) (fun hH => ?_)
  simp (disch := first | omega | (simp only [go_sem]; first | done | omega)) only [go_sem]
  refine AWp.loop (H.length) [0, 1, 2, 6] [7, 8] (fun (q : Unit) => True) (fun (q : Unit) => [(7, (.c (.int .i64 0))), (8, (.c (.int .i64 20)))]) (fun (q : Unit) => H) (fun (q : Unit) => 0) (by kernel_rfl) (fun _ => rfl) (by kernel_rfl) (by simp) (by first | (simp; done) | (simp; omega)) (by (try simp only [List.forall_mem_cons, List.not_mem_nil, false_implies, implies_true, and_true]); (try simp (disch := first | omega | (simp only [go_sem]; first | done | omega)) only [go_sem]); all_goals first | trivial | (simp [AV.ok, AV.ok1, AC.ok]; done) | (simp [AV.ok, AV.ok1, AC.ok]; omega) | (simp [AV.ok, AV.ok1, AC.ok]; assumption) | ((repeat' apply And.intro) <;> first | trivial | (simp [AV.ok, AV.ok1, AC.ok]; done) | (simp [AV.ok, AV.ok1, AC.ok]; omega) | (simp [AV.ok, AV.ok1, AC.ok]; assumption) | (refine grV_ok ?_ _; first | (simp; done) | (simp; omega) | omega))) ?_ (fun q hq _ _ => ?_)
  · exact Next.mk () trivial (by (try simp (disch := first | omega | (simp only [go_sem]; first | done | omega)) only [go_sem]); (first | refine WkL.eq ?_ ?_ | refine WkL.rest (by assumption) ?_ ?_ ?_ | refine WkL.keepL (by assumption) rfl ?_ ?_ ?_ ?_) <;> first | rfl | (simp; done) | (simp; omega) | (simp only [List.cons.injEq, AV.c.injEq, AC.int.injEq, AC.bool.injEq, AC.str.injEq, and_true, true_and, Int.natCast_add, Int.natCast_one, Int.cast_ofNat_Int]; omega) | (simp [AV.ok, AV.ok1, AC.ok]; done) | (simp [AV.ok, AV.ok1, AC.ok]; omega) | (simp only [List.forall_mem_cons, List.not_mem_nil, false_implies, implies_true, and_true]; (repeat' apply And.intro) <;> first | exact okN_map (fun x => by simp [go_sem, AC.pure]) | exact okN_grO (fun x => by simp [go_sem, AC.pure]) | (simp [AObj.okN, AC.ok]; done) | (simp [AObj.okN, AC.ok]; omega)) | (simp [*]; done) | grind)
  simp (disch := first | omega | (simp only [go_sem]; first | done | omega)) only [go_sem]
  refine insertion_a f cf P he hc hf l hi rfl hP (by omega) ?_
  simp (disch := first | omega | (simp only [go_sem]; first | done | omega)) only [go_sem]
  refine AWp.loop (H.length) [0, 1, 2] [6] (fun (q : Unit) => True) (fun (q : Unit) => [(6, (.c (.int .i64 20)))]) (fun (q : Unit) => H.set i (.row 39 6 ((isortB l).map encN) true)) (fun (q : Unit) => 0) (by kernel_rfl) (fun _ => rfl) (by kernel_rfl) (by simp) (by first | (simp; done) | (simp; omega)) (by (try simp only [List.forall_mem_cons, List.not_mem_nil, false_implies, implies_true, and_true]); (try simp (disch := first | omega | (simp only [go_sem]; first | done | omega)) only [go_sem]); all_goals first | trivial | (simp [AV.ok, AV.ok1, AC.ok]; done) | (simp [AV.ok, AV.ok1, AC.ok]; omega) | (simp [AV.ok, AV.ok1, AC.ok]; assumption) | ((repeat' apply And.intro) <;> first | trivial | (simp [AV.ok, AV.ok1, AC.ok]; done) | (simp [AV.ok, AV.ok1, AC.ok]; omega) | (simp [AV.ok, AV.ok1, AC.ok]; assumption) | (refine grV_ok ?_ _; first | (simp; done) | (simp; omega) | omega))) ?_ (fun q hq _ _ => ?_)
  · exact Next.mk () trivial (by (try simp (disch := first | omega | (simp only [go_sem]; first | done | omega)) only [go_sem]); (first | refine WkL.eq ?_ ?_ | refine WkL.rest (by assumption) ?_ ?_ ?_ | refine WkL.keepL (by assumption) rfl ?_ ?_ ?_ ?_) <;> first | rfl | (simp; done) | (simp; omega) | (simp only [List.cons.injEq, AV.c.injEq, AC.int.injEq, AC.bool.injEq, AC.str.injEq, and_true, true_and, Int.natCast_add, Int.natCast_one, Int.cast_ofNat_Int]; omega) | (simp [AV.ok, AV.ok1, AC.ok]; done) | (simp [AV.ok, AV.ok1, AC.ok]; omega) | (simp only [List.forall_mem_cons, List.not_mem_nil, false_implies, implies_true, and_true]; (repeat' apply And.intro) <;> first | exact okN_map (fun x => by simp [go_sem, AC.pure]) | exact okN_grO (fun x => by simp [go_sem, AC.pure]) | (simp [AObj.okN, AC.ok]; done) | (simp [AObj.okN, AC.ok]; omega)) | (simp [*]; done) | grind)
  simp (disch := first | omega | (simp only [go_sem]; first | done | omega)) only [go_sem]
  exact Ret.same (by simp) hk
theorem sortStable_a (f : FuncId) (cf : Bin → Bin → Int) (P : Bin → Prop) (he : entersB Tryz.prog f = true) (hc : ∀ x y, P x → P y → (cf x y < 0 ↔ x.a < y.a)) (hf : ∀ (x y : Bin) (H : Hp) (K : AV → Hp → Prop), P x → P y → K (.c (.int .i64 (cf x y))) H → ACalls Tryz.prog f [.agg (encN x), .agg (encN y)] H K)
    {i n : Nat} (l : List Bin) (hi : H[i]? = some (.row 39 6 (l.map encN) true)) (hn : n = l.length) (hP : ∀ x ∈ l, P x) (hlen : l.length < 20) (hk : K (.tup []) (H.set i (.row 39 6 ((isortB l).map encN) true))) :
    ACalls Tryz.prog 140 [.c (.sl (some (i, 0)) n), .c (.fn f [] [])] H K := by
  subst hn
  have hlt := getElem?_lt hi
  refine acalls Tryz.func140 rfl (by kernel_rfl) (by simp (disch := first | omega | (simp only [go_sem]; first | done | omega)) only [go_sem]) (fun hH => ?_)
  simp (disch := first | omega | (simp only [go_sem]; first | done | omega)) only [go_sem]
  refine stable_a f cf P he hc hf l hi rfl hP hlen ?_
  simp (disch := first | omega | (simp only [go_sem]; first | done | omega)) only [go_sem]
  exact Ret.same (by simp) hk
theorem cmp1_a (x y : Bin) (hk : K (.c (.int .i64 (if x.a < y.a then -1 else if y.a < x.a then 1 else 0))) H) : ACalls Tryz.prog 141 [.agg (encN x), .agg (encN y)] H K := by
  refine acalls Tryz.func141 rfl (by kernel_rfl) (by simp (disch := first | omega | (simp only [go_sem]; first | done | omega)) only [go_sem]) (fun hH => ?_)
  simp (disch := first | omega | (simp only [go_sem]; first | done | omega)) only [go_sem]
  repeat' (first | ((first | refine acond_d ?_ ?_ | refine acond_b ?_ ?_ | refine ag_d ?_ ?_ | refine ag_n ?_ ?_ | refine ag_bt ?_ ?_ | refine ag_bf ?_ ?_) <;> intro c <;> try simp (disch := first | omega | (simp only [go_sem]; first | done | omega)) only [go_sem, c]) | ((first | refine w_draw (by kernel_rfl) (by decide +kernel) ?_ | refine compare_a _ _ ?_) <;> try simp (disch := first | omega | (simp only [go_sem]; first | done | omega)) only [go_sem]))
  all_goals (first | refine Ret.sameE (Nat.le_refl _) (by assumption) ?_ | refine Ret.dropE (by assumption) (Nat.le_refl _) (by assumption) (by simp [AV.ok, AV.ok1, AC.ok]) ?_) <;> (first | rfl | (simp only [AV.c.injEq, AC.bool.injEq]; rw [Bool.eq_iff_iff]; simp only [Bool.not_eq_true', decide_eq_true_eq, decide_eq_false_iff_not, Bool.and_eq_true, Bool.or_eq_true]; omega) | grind | (simp [*]; done) | (simp [*]; omega))
end Go.Proofs.YtdcedhgkigpejaaGreatDoor
/- Coarser bins: the program and the document's answer. Condition: the bins are right. -/
namespace Go.Proofs.YtdcedhgkigpejaaGreatDoor
open Go Go.RowKit
set_option maxRecDepth 100000
set_option linter.all false
set_option maxHeartbeats 1000000
variable {H : Hp} {K : AV → Hp → Prop}
theorem fitsGr_a {i : Nat} (l : List Bin) (hi : H[i]? = some (grO 39 6 (l.map encN))) (hlen : l.length ≤ 1099511627776) (hk : K (.c (.int .i64 (fitsE l))) H) : ACalls Tryz.prog 138 [.c (grV i l)] H K := by
  rw [← map_grV encN]
  exact ACalls.lendGr (.c (.int .i64 (fitsE l))) hi (pureL_encN l) rfl rfl rfl (by simp [AV.ok1, AC.ok]) (fun G J hJ => fits_a l hlen hJ) hk
def toA (to : Int) (x : Bin) : Bin := ⟨x.a / to * to, x.s, x.n, x.m, x.lo, x.hi⟩
def coarse2 (b : List Bin) (step to : Int) : List Bin × Int := if ¬isStep to then ([], 1) else if to % step ≠ 0 then ([], 16) else if fitsE (foldB (b.map (toA to))) ≠ 0 then ([], 2) else (foldB (b.map (toA to)), 0)
def coarseRes (b : List Bin) (step to : Int) : List Bin × Int := if bnF b step ≠ 0 then ([], bnF b step) else coarse2 b step to
def Bin.right (x : Bin) : Prop := 0 ≤ x.a ∧ x.a ≤ 345686399999 ∧ 0 ≤ x.n ∧ x.n ≤ 5000000 ∧ 0 ≤ x.m ∧ x.m ≤ 5000000 ∧ -5000000000000 ≤ x.s ∧ x.s ≤ 5000000000000
theorem bnErr_ok {x : Bin} {step : Int} (h : bnErr x step = 0) : x.right := by
  have hlo : 0 ≤ x.n → x.n ≤ 5000000 → -1000000 ≤ x.lo → x.lo ≤ 1000000 → -5000000000000 ≤ x.n * x.lo ∧ x.n * x.lo ≤ 5000000000000 := mul_bd
  have hhi : 0 ≤ x.n → x.n ≤ 5000000 → -1000000 ≤ x.hi → x.hi ≤ 1000000 → -5000000000000 ≤ x.n * x.hi ∧ x.n * x.hi ≤ 5000000000000 := mul_bd
  unfold bnErr at h
  unfold Bin.right
  repeat' split at h
  all_goals omega
theorem bnF_ok {l : List Bin} {step : Int} (h : bnF l step = 0) : isStep step ∧ l.length ≤ 5000 ∧ ∀ x ∈ l, x.right := by
  unfold bnF at h
  split at h
  · cases h
  · split at h
    · cases h
    · rename_i h1 h2
      refine ⟨Classical.not_not.1 h1, by omega, fun x hx => ?_⟩
      obtain ⟨j, q, h3⟩ := errGo_all (bnGo step) l 0 _ h x hx
      unfold bnGo at h3
      split at h3
      · omega
      · rename_i h4; exact bnErr_ok (Classical.not_not.1 h4)
theorem Bin.right.bd {x : Bin} (h : x.right) : x.bd 5000000000000 := by simp only [Bin.right] at h; simp only [Bin.bd]; omega
theorem fold_bd {l : List Bin} (h : ∀ x ∈ l, x.bd 5000000000000) : (∀ y ∈ foldB l, y.bd (5000000000000 * l.length)) ∧ (foldB l).length ≤ l.length := by
  have key : ∀ (k : Nat), k ≤ l.length → (∀ y ∈ foldB (l.take k), y.bd (5000000000000 * k)) ∧ (foldB (l.take k)).length ≤ k := by
    intro k
    induction k with
    | zero => simp [foldB]
    | succ k ih =>
      intro hk
      obtain ⟨h1, h2⟩ := ih (by omega)
      rw [List.take_succ_eq_append_getElem (by omega), foldB_snoc]
      have := putB_bd2 h1 (h _ (List.getElem_mem (by omega : k < l.length))) (by omega) (by omega)
      refine ⟨fun y hy => ?_, by omega⟩
      have := this.1 y hy
      simp only [Bin.bd] at this ⊢
      omega
  have := key l.length (Nat.le_refl _)
  rwa [List.take_of_length_le (Nat.le_refl _)] at this
theorem fold_take {l : List Bin} (h : ∀ x ∈ l, x.bd 5000000000000) (hl : l.length ≤ 100000) (k : Nat) : (∀ y ∈ foldB (l.take k), y.bd 4611686018427387903) ∧ (foldB (l.take k)).length ≤ 100000 := by
  have := fold_bd (l := l.take k) (fun x hx => h x (List.mem_of_mem_take hx))
  have hl2 : (l.take k).length ≤ l.length := by simp; omega
  refine ⟨fun y hy => ?_, by omega⟩
  have := this.1 y hy
  simp only [Bin.bd] at this ⊢
  omega
theorem fitsE_two (l : List Bin) : fitsE l ≠ 0 → fitsE l = 2 := by
  unfold fitsE
  split
  · intro _; rfl
  · intro h; exact absurd rfl h
theorem coarser_a (b : List Bin) (step to : Int) (hlen : b.length ≤ 1099511627776) (hk : K (.tup [.c (.lst 6 ((coarseRes b step to).1.map encN)), (.c (.int .i64 ((coarseRes b step to).2)))]) H) : ACalls Tryz.prog 55 [.c (.lst 6 (b.map encN)), (.c (.int .i64 step)), (.c (.int .i64 to))] H K := by
  refine acalls Tryz.func55 rfl (by kernel_rfl) (by simp (disch := first | omega | (simp only [go_sem]; first | done | omega)) only [go_sem]) (fun hH => ?_)
  simp (disch := first | omega | (simp only [go_sem]; first | done | omega)) only [go_sem]
  refine checkBins_a b step hlen ?_
  simp (disch := first | omega | (simp only [go_sem]; first | done | omega)) only [go_sem]
  refine acond_d (fun h1 => ?_) (fun h1 => ?_)
  rotate_left
  · simp (disch := first | omega | (simp only [go_sem]; first | done | omega)) only [go_sem]
    rw [show coarseRes b step to = ([], bnF b step) by simp [coarseRes, h1]] at hk
    exact Ret.nilS (Nat.le_refl _) rfl hk
  obtain ⟨hs, hl, hr⟩ := bnF_ok h1
  have hs0 : step ≠ 0 := by omega
  rw [show coarseRes b step to = coarse2 b step to by simp [coarseRes, h1]] at hk
  simp (disch := first | omega | (simp only [go_sem]; first | done | omega)) only [go_sem]
  refine isStep_a _ _ _ ?_
  simp (disch := first | omega | (simp only [go_sem]; first | done | omega)) only [go_sem]
  refine acond_d (fun h2 => ?_) (fun h2 => ?_)
  rotate_left
  · simp (disch := first | omega | (simp only [go_sem]; first | done | omega)) only [go_sem]
    rw [show coarse2 b step to = ([], 1) by simp only [coarse2, h2]; simp] at hk
    exact Ret.nilS (Nat.le_refl _) rfl hk
  simp (disch := first | omega | (simp only [go_sem]; first | done | omega)) only [go_sem]
  refine acond_d (fun h3 => ?_) (fun h3 => ?_)
  rotate_left
  · simp (disch := first | omega | (simp only [go_sem]; first | done | omega)) only [go_sem]
    rw [show coarse2 b step to = ([], 16) by unfold coarse2; rw [if_neg (not_not_intro h2), if_pos h3]] at hk
    exact Ret.nilS (Nat.le_refl _) rfl hk
  have hto : to ≠ 0 := by omega
  have hrb : ∀ x ∈ b.map (toA to), x.bd 5000000000000 := fun x hx => by
    obtain ⟨y, hy, rfl⟩ := List.mem_map.1 hx
    exact (hr y hy).bd
  have hml : (b.map (toA to)).length ≤ 100000 := by simp; omega
  simp (disch := first | omega | (simp only [go_sem]; first | done | omega)) only [go_sem]
  refine AWp.loop (H.length) [2, 28, 29] [30, 9] (fun (k : Nat) => k ≤ b.length) (fun (k : Nat) => [(30, (.c (.int .i64 k))), (9, .c (grV H.length (foldB ((b.map (toA to)).take k))))]) (fun (k : Nat) => H ++ [grO 39 6 ((foldB ((b.map (toA to)).take k)).map encN)]) (fun (k : Nat) => b.length - k) (by kernel_rfl) (fun _ => rfl) (by kernel_rfl) (by simp) (by first | (simp; done) | (simp; omega)) (by (try simp only [List.forall_mem_cons, List.not_mem_nil, false_implies, implies_true, and_true]); (try simp (disch := first | omega | (simp only [go_sem]; first | done | omega)) only [go_sem]); all_goals first | trivial | (simp [AV.ok, AV.ok1, AC.ok]; done) | (simp [AV.ok, AV.ok1, AC.ok]; omega) | (simp [AV.ok, AV.ok1, AC.ok]; assumption) | ((repeat' apply And.intro) <;> first | trivial | (simp [AV.ok, AV.ok1, AC.ok]; done) | (simp [AV.ok, AV.ok1, AC.ok]; omega) | (simp [AV.ok, AV.ok1, AC.ok]; assumption) | (refine grV_ok ?_ _; first | (simp; done) | (simp; omega) | omega))) ?_ (fun k hkb _ _ => ?_)
  · exact Next.mk 0 (by omega) (WkL.pad (by simp))
  obtain ⟨f1, f2⟩ := fold_take hrb hml k
  by_cases hlt : k < b.length
  · have hx := hr b[k] (List.getElem_mem hlt)
    have hn := fold_next (l := b.map (toA to)) (k := k) (by simpa using hlt)
    have hxb := hrb _ (List.getElem_mem (l := b.map (toA to)) (n := k) (by simpa using hlt))
    rw [List.getElem_map] at hn hxb
    simp only [Bin.right] at hx
    have t0 : 0 ≤ b[k].a / to := Int.ediv_nonneg (by omega) (by omega)
    have t1 : b[k].a / to * to ≤ b[k].a := Int.ediv_mul_le _ hto
    have t2 : 0 ≤ b[k].a / to * to := Int.mul_nonneg t0 (by omega)
    simp (disch := first | omega | (simp only [go_sem]; first | done | omega)) only [go_sem]
    refine put_gr H.length (foldB ((b.map (toA to)).take k)) (toA to b[k]) (by first | exact at0 (by simp) | exact at1 (by simp) | exact at2 (by simp) | exact at3 (by simp) | exact at4 (by simp) | exact at5 (by simp) | exact atG 6 (by simp) rfl | exact atG 7 (by simp) rfl | exact atG 8 (by simp) rfl | exact atG 9 (by simp) rfl | exact atG 10 (by simp) rfl | assumption) (by omega) f1 (by simp only [Bin.bd] at hxb ⊢; omega) ?_
    simp (disch := first | omega | (simp only [go_sem]; first | done | omega)) only [go_sem]
    rw [← hn]
    refine Next.mk (k + 1) ⟨by omega, by omega⟩ ?_
    ((try simp (disch := first | omega | (simp only [go_sem]; first | done | omega)) only [go_sem]); (first | refine WkL.pick [0] ?_ ?_ rfl ?_ ?_ ?_ ?_ | refine WkL.pick [1] ?_ ?_ rfl ?_ ?_ ?_ ?_ | refine WkL.pick [2] ?_ ?_ rfl ?_ ?_ ?_ ?_ | refine WkL.pick [3] ?_ ?_ rfl ?_ ?_ ?_ ?_ | refine WkL.pick [4] ?_ ?_ rfl ?_ ?_ ?_ ?_ | refine WkL.pick [5] ?_ ?_ rfl ?_ ?_ ?_ ?_ | refine WkL.pick [6] ?_ ?_ rfl ?_ ?_ ?_ ?_ | refine WkL.pick [7] ?_ ?_ rfl ?_ ?_ ?_ ?_ | refine WkL.pick [8] ?_ ?_ rfl ?_ ?_ ?_ ?_ | refine WkL.pick [9] ?_ ?_ rfl ?_ ?_ ?_ ?_ | refine WkL.pick [10] ?_ ?_ rfl ?_ ?_ ?_ ?_ | refine WkL.pick [11] ?_ ?_ rfl ?_ ?_ ?_ ?_ | refine WkL.pick [12] ?_ ?_ rfl ?_ ?_ ?_ ?_ | refine WkL.pick [13] ?_ ?_ rfl ?_ ?_ ?_ ?_ | refine WkL.pick [14] ?_ ?_ rfl ?_ ?_ ?_ ?_ | refine WkL.pick [15] ?_ ?_ rfl ?_ ?_ ?_ ?_) <;> first | assumption | exact HOk.str (by assumption) | (simp; done) | (simp; omega) | (simp [pureO_gr, AObj.pureO, pureL, go_sem, AC.pure]; done) | (simp only [List.all_cons, List.all_nil, Bool.and_true]; exact pureO_gr (pureL_map _ (fun x => by simp [go_sem, AC.pure]))) | ((try simp only [List.map_cons, List.map_nil, av_ren_gr]); simp [AV.ren, AV.ren1, AC.ren, pickS]; first | done | omega) | (simp only [List.forall_mem_cons, List.not_mem_nil, false_implies, implies_true, and_true]; (repeat' apply And.intro) <;> first | trivial | exact grV_ok (by simp) _ | exact okN_grO (fun x => by simp [go_sem, AC.pure]) | exact okN_map (fun x => by simp [go_sem, AC.pure]) | (simp [AV.ok, AV.ok1, AC.ok]; done) | (simp [AV.ok, AV.ok1, AC.ok]; omega) | (simp [AObj.okN, AC.ok]; done)) | (simp [AObj.okN]; done))
  · rw [List.take_of_length_le (by simp; omega)] at f1 f2 ⊢
    simp (disch := first | omega | (simp only [go_sem]; first | done | omega)) only [go_sem]
    refine fitsGr_a _ (by first | exact at0 (by simp) | exact at1 (by simp) | exact at2 (by simp) | exact at3 (by simp) | exact at4 (by simp) | exact at5 (by simp) | exact atG 6 (by simp) rfl | exact atG 7 (by simp) rfl | exact atG 8 (by simp) rfl | exact atG 9 (by simp) rfl | exact atG 10 (by simp) rfl | assumption) (by omega) ?_
    simp (disch := first | omega | (simp only [go_sem]; first | done | omega)) only [go_sem]
    have e : coarse2 b step to = if fitsE (foldB (b.map (toA to))) ≠ 0 then ([], 2) else (foldB (b.map (toA to)), 0) := by unfold coarse2; rw [if_neg (not_not_intro h2), if_neg (not_not_intro h3)]
    have e2 : fitsE (foldB (b.map (toA to))) ≠ 0 → fitsE (foldB (b.map (toA to))) = 2 := fitsE_two _
    refine acond_d (fun h4 => ?_) (fun h4 => ?_)
    · simp (disch := first | omega | (simp only [go_sem]; first | done | omega)) only [go_sem]
      rw [e, if_neg (not_not_intro h4)] at hk
      exact Ret.frzGrT 0 hH (Nat.le_refl _) rfl (pureL_encN _) rfl (map_grV _ _ _).symm hk
    · simp (disch := first | omega | (simp only [go_sem]; first | done | omega)) only [go_sem]
      rw [e, if_pos h4] at hk
      rw [e2 h4]
      exact Ret.nilT hH (Nat.le_refl _) rfl hk
theorem cloneN_a (l : List Bin) (hl : l.length ≤ 1099511627776) (hk : K (.c (clV H.length 6 (l.map encN))) (H ++ [grO 39 6 (l.map encN)])) : ACalls Tryz.prog 65 [.c (.lst 6 (l.map encN))] H K := by
  cases l with
  | nil =>
    refine acalls Tryz.func65 rfl (by kernel_rfl) (by simp (disch := first | omega | (simp only [go_sem]; first | done | omega)) only [go_sem]) (fun hH => ?_)
    simp (disch := first | omega | (simp only [go_sem]; first | done | omega)) only [go_sem]
    refine asome_i (fun b _ => ?_)
    cases b
    · simp (disch := first | omega | (simp only [go_sem]; first | done | omega)) only [go_sem]
      refine app_lst ?_
      simp (disch := first | omega | (simp only [go_sem]; first | done | omega)) only [go_sem]
      exact Ret.nil [6] (by simp) (Ret.cut hH (Nat.le_refl _) trivial (Ret.pad (Nat.le_refl _) (Ret.same (by simp) hk)))
    · simp (disch := first | omega | (simp only [go_sem]; first | done | omega)) only [go_sem]
      exact Ret.nil [6] (by simp) (Ret.pad (Nat.le_refl _) (Ret.same (by simp) hk))
  | cons x xs =>
    refine acalls Tryz.func65 rfl (by kernel_rfl) (by simp (disch := first | omega | (simp only [go_sem]; first | done | omega)) only [go_sem]) (fun hH => ?_)
    simp (disch := first | omega | (simp only [go_sem]; first | done | omega)) only [go_sem]
    refine asome_i (fun b hb => ?_)
    subst hb
    simp (disch := first | omega | (simp only [go_sem]; first | done | omega)) only [go_sem]
    refine app_lst ?_
    simp only [List.length_cons] at hl
    simp (disch := first | omega | (simp only [go_sem]; first | done | omega)) only [go_sem]
    refine Ret.pick [1] hH (Nat.le_refl _) (L := [.row 39 6 ((x :: xs).map encN) true]) rfl (by simp) (by simp [AObj.pureO, pureL, encN, AC.pure]) (v' := .c (.sl (some (H.length, 0)) (xs.length + 1))) ?_ (by simp [AV.ok, AV.ok1, AC.ok]) (by simpa [clV, grO] using hk)
    simp [AV.ren, AV.ren1, AC.ren, pickS]
end Go.Proofs.YtdcedhgkigpejaaGreatDoor
/- Coarser bins: the document's answer. Condition: the bins are right. -/
namespace Go.Proofs.YtdcedhgkigpejaaGreatDoor
open Go Go.RowKit
set_option maxRecDepth 100000
set_option linter.all false
set_option maxHeartbeats 1000000
variable {H : Hp} {K : AV → Hp → Prop}
def halfA (to : Int) (b : List Bin) (k : Nat) : List Bin := (b.take k).map (toA to) ++ b.drop k
theorem halfA_len (to : Int) (b : List Bin) (k : Nat) (h : k ≤ b.length) : (halfA to b k).length = b.length := by simp [halfA]; omega
theorem halfA_get (to : Int) (b : List Bin) (k : Nat) (h : k < b.length) : (halfA to b k)[k]'(by rw [halfA_len _ _ _ (by omega)]; exact h) = b[k] := by
  simp only [halfA]
  rw [List.getElem_append_right (by simp; omega)]
  simp [List.length_take, Nat.min_eq_left (Nat.le_of_lt h)]
theorem halfA_set (to : Int) (b : List Bin) (k : Nat) (h : k < b.length) : (halfA to b k).set k (toA to b[k]) = halfA to b (k + 1) := by
  simp only [halfA]
  rw [List.set_append_right _ _ (by simp; omega)]
  simp only [List.length_map, List.length_take, Nat.min_eq_left (Nat.le_of_lt h), Nat.sub_self]
  rw [List.drop_eq_getElem_cons h, List.set_cons_zero, List.take_succ_eq_append_getElem h, List.map_append, List.append_assoc]
  rfl
def combRes (l : List Bin) : List Bin × Int := if fitsE (foldB l) ≠ 0 then ([], 2) else (foldB l, 0)
end Go.Proofs.YtdcedhgkigpejaaGreatDoor
/- Two lists of bins joined. Condition: they are short. -/
namespace Go.Proofs.YtdcedhgkigpejaaGreatDoor
open Go Go.RowKit
set_option maxRecDepth 100000
set_option linter.all false
set_option maxHeartbeats 1000000
variable {H : Hp} {K : AV → Hp → Prop}
theorem growN_a (n : Nat) (h1 : n ≤ 1000000) (hk0 : n = 0 → K (.c (.sl none 0)) H) (hk : 0 < n → K (.c (.sl (some (H.length, 0)) 0)) (H ++ [.row 39 6 (List.replicate n [.int .i64 0, .int .i64 0, .int .i64 0, .int .i64 0, .int .i64 0, .int .i64 0]) true])) : ACalls Tryz.prog 203 [.c (.sl none 0), (.c (.int .i64 n))] H K := by
  rcases Nat.eq_zero_or_pos n with rfl | h0
  · refine acalls Tryz.func203 rfl (by kernel_rfl) (by simp (disch := first | omega | (simp only [go_sem]; first | done | omega)) only [go_sem]) (fun hH => ?_)
    simp (disch := first | omega | (simp only [go_sem]; first | done | omega)) only [go_sem]
    exact Ret.same (Nat.le_refl _) (hk0 rfl)
  refine acalls Tryz.func203 rfl (by kernel_rfl) (by simp (disch := first | omega | (simp only [go_sem]; first | done | omega)) only [go_sem]) (fun hH => ?_)
  simp (disch := first | omega | (simp only [go_sem]; first | done | omega)) only [go_sem]
  have hs : szT Tryz.prog 39 = 6 := by kernel_rfl
  have hb : Tryz.prog.bytesOf 39 = 48 := by kernel_rfl
  refine app_zer (e := 39) (z := [.int .i64 0, .int .i64 0, .int .i64 0, .int .i64 0, .int .i64 0, .int .i64 0]) (by kernel_rfl) (by kernel_rfl) (by kernel_rfl) (by rw [hs]; rfl) (by rw [hs]; decide) h0 (by rw [hb]; omega) (by omega) ?_
  rw [hs]
  simp (disch := first | omega | (simp only [go_sem]; first | done | omega)) only [go_sem]
  exact Ret.same (by simp) (hk h0)
theorem concatN_a (l m : List Bin) (hl : l.length ≤ 100000) (hm : m.length ≤ 100000) (hk : K (.c (grV H.length (l ++ m))) (H ++ [grO 39 6 ((l ++ m).map encN)])) : ACalls Tryz.prog 139 [.c (.lst 1 [[.lst 6 (l.map encN)], [.lst 6 (m.map encN)]])] H K := by
  refine acalls Tryz.func139 rfl (by kernel_rfl) (by simp (disch := first | omega | (simp only [go_sem]; first | done | omega)) only [go_sem]) (fun hH => ?_)
  simp (disch := first | omega | (simp only [go_sem]; first | done | omega)) only [go_sem]
  refine AWp.loop (H.length) [0, 9, 10] [11, 3] (fun (q : Nat × Nat) => (q.1 = 0 ∧ q.2 = 0) ∨ (q.1 = 1 ∧ q.2 = l.length) ∨ (q.1 = 2 ∧ q.2 = l.length + m.length)) (fun (q : Nat × Nat) => [(11, (.c (.int .i64 (q.1)))), (3, (.c (.int .i64 (q.2))))]) (fun (q : Nat × Nat) => H) (fun (q : Nat × Nat) => 2 - q.1) (by kernel_rfl) (fun _ => rfl) (by kernel_rfl) (by simp) (by first | (simp; done) | (simp; omega)) (by (try simp only [List.forall_mem_cons, List.not_mem_nil, false_implies, implies_true, and_true]); (try simp (disch := first | omega | (simp only [go_sem]; first | done | omega)) only [go_sem]); all_goals first | trivial | (simp [AV.ok, AV.ok1, AC.ok]; done) | (simp [AV.ok, AV.ok1, AC.ok]; omega) | (simp [AV.ok, AV.ok1, AC.ok]; assumption) | ((repeat' apply And.intro) <;> first | trivial | (simp [AV.ok, AV.ok1, AC.ok]; done) | (simp [AV.ok, AV.ok1, AC.ok]; omega) | (simp [AV.ok, AV.ok1, AC.ok]; assumption) | (refine grV_ok ?_ _; first | (simp; done) | (simp; omega) | omega))) ?_ (fun q hq _ _ => ?_)
  · exact Next.mk (0, 0) (by simp) (by (try simp (disch := first | omega | (simp only [go_sem]; first | done | omega)) only [go_sem]); (first | refine WkL.eq ?_ ?_ | refine WkL.rest (by assumption) ?_ ?_ ?_ | refine WkL.keepL (by assumption) rfl ?_ ?_ ?_ ?_) <;> first | rfl | (simp; done) | (simp; omega) | (simp only [List.cons.injEq, AV.c.injEq, AC.int.injEq, AC.bool.injEq, AC.str.injEq, and_true, true_and, Int.natCast_add, Int.natCast_one, Int.cast_ofNat_Int]; omega) | (simp [AV.ok, AV.ok1, AC.ok]; done) | (simp [AV.ok, AV.ok1, AC.ok]; omega) | (simp only [List.forall_mem_cons, List.not_mem_nil, false_implies, implies_true, and_true]; (repeat' apply And.intro) <;> first | exact okN_map (fun x => by simp [go_sem, AC.pure]) | exact okN_grO (fun x => by simp [go_sem, AC.pure]) | (simp [AObj.okN, AC.ok]; done) | (simp [AObj.okN, AC.ok]; omega)) | (simp [*]; done) | grind)
  obtain ⟨k, n⟩ := q
  dsimp only at hq
  rcases hq with ⟨rfl, rfl⟩ | ⟨rfl, rfl⟩ | ⟨rfl, rfl⟩
  · simp (disch := first | omega | (simp only [go_sem]; first | done | omega)) only [go_sem]
    exact Next.mk (1, l.length) ⟨by simp, by simp⟩ (by (try simp (disch := first | omega | (simp only [go_sem]; first | done | omega)) only [go_sem]); (first | refine WkL.eq ?_ ?_ | refine WkL.rest (by assumption) ?_ ?_ ?_ | refine WkL.keepL (by assumption) rfl ?_ ?_ ?_ ?_) <;> first | rfl | (simp; done) | (simp; omega) | (simp only [List.cons.injEq, AV.c.injEq, AC.int.injEq, AC.bool.injEq, AC.str.injEq, and_true, true_and, Int.natCast_add, Int.natCast_one, Int.cast_ofNat_Int]; omega) | (simp [AV.ok, AV.ok1, AC.ok]; done) | (simp [AV.ok, AV.ok1, AC.ok]; omega) | (simp only [List.forall_mem_cons, List.not_mem_nil, false_implies, implies_true, and_true]; (repeat' apply And.intro) <;> first | exact okN_map (fun x => by simp [go_sem, AC.pure]) | exact okN_grO (fun x => by simp [go_sem, AC.pure]) | (simp [AObj.okN, AC.ok]; done) | (simp [AObj.okN, AC.ok]; omega)) | (simp [*]; done) | grind)
  · simp (disch := first | omega | (simp only [go_sem]; first | done | omega)) only [go_sem]
    exact Next.mk (2, l.length + m.length) ⟨by simp, by simp⟩ (by (try simp (disch := first | omega | (simp only [go_sem]; first | done | omega)) only [go_sem]); (first | refine WkL.eq ?_ ?_ | refine WkL.rest (by assumption) ?_ ?_ ?_ | refine WkL.keepL (by assumption) rfl ?_ ?_ ?_ ?_) <;> first | rfl | (simp; done) | (simp; omega) | (simp only [List.cons.injEq, AV.c.injEq, AC.int.injEq, AC.bool.injEq, AC.str.injEq, and_true, true_and, Int.natCast_add, Int.natCast_one, Int.cast_ofNat_Int]; omega) | (simp [AV.ok, AV.ok1, AC.ok]; done) | (simp [AV.ok, AV.ok1, AC.ok]; omega) | (simp only [List.forall_mem_cons, List.not_mem_nil, false_implies, implies_true, and_true]; (repeat' apply And.intro) <;> first | exact okN_map (fun x => by simp [go_sem, AC.pure]) | exact okN_grO (fun x => by simp [go_sem, AC.pure]) | (simp [AObj.okN, AC.ok]; done) | (simp [AObj.okN, AC.ok]; omega)) | (simp [*]; done) | grind)
  simp (disch := first | omega | (simp only [go_sem]; first | done | omega)) only [go_sem]
  refine growN_a (l.length + m.length) (by omega) (fun h0 => ?_) (fun h0 => ?_)
  · have hl0 : l = [] := List.length_eq_zero_iff.1 (by omega)
    have hm0 : m = [] := List.length_eq_zero_iff.1 (by omega)
    subst hl0; subst hm0
    simp (disch := first | omega | (simp only [go_sem]; first | done | omega)) only [go_sem]
    refine AWp.loop (H.length) [25, 26] [27, 6] (fun (k : Nat) => k ≤ 2) (fun (k : Nat) => [(27, (.c (.int .i64 k))), (6, .c (.sl none 0))]) (fun (k : Nat) => H) (fun (k : Nat) => 2 - k) (by kernel_rfl) (fun _ => rfl) (by kernel_rfl) (by simp) (by first | (simp; done) | (simp; omega)) (by (try simp only [List.forall_mem_cons, List.not_mem_nil, false_implies, implies_true, and_true]); (try simp (disch := first | omega | (simp only [go_sem]; first | done | omega)) only [go_sem]); all_goals first | trivial | (simp [AV.ok, AV.ok1, AC.ok]; done) | (simp [AV.ok, AV.ok1, AC.ok]; omega) | (simp [AV.ok, AV.ok1, AC.ok]; assumption) | ((repeat' apply And.intro) <;> first | trivial | (simp [AV.ok, AV.ok1, AC.ok]; done) | (simp [AV.ok, AV.ok1, AC.ok]; omega) | (simp [AV.ok, AV.ok1, AC.ok]; assumption) | (refine grV_ok ?_ _; first | (simp; done) | (simp; omega) | omega))) ?_ (fun k hq _ _ => ?_)
    · exact Next.mk 0 (by simp) (by (try simp (disch := first | omega | (simp only [go_sem]; first | done | omega)) only [go_sem]); (first | refine WkL.eq ?_ ?_ | refine WkL.rest (by assumption) ?_ ?_ ?_ | refine WkL.keepL (by assumption) rfl ?_ ?_ ?_ ?_) <;> first | rfl | (simp; done) | (simp; omega) | (simp only [List.cons.injEq, AV.c.injEq, AC.int.injEq, AC.bool.injEq, AC.str.injEq, and_true, true_and, Int.natCast_add, Int.natCast_one, Int.cast_ofNat_Int]; omega) | (simp [AV.ok, AV.ok1, AC.ok]; done) | (simp [AV.ok, AV.ok1, AC.ok]; omega) | (simp only [List.forall_mem_cons, List.not_mem_nil, false_implies, implies_true, and_true]; (repeat' apply And.intro) <;> first | exact okN_map (fun x => by simp [go_sem, AC.pure]) | exact okN_grO (fun x => by simp [go_sem, AC.pure]) | (simp [AObj.okN, AC.ok]; done) | (simp [AObj.okN, AC.ok]; omega)) | (simp [*]; done) | grind)
    have : k = 0 ∨ k = 1 ∨ k = 2 := by omega
    rcases this with rfl | rfl | rfl
    · simp (disch := first | omega | (simp only [go_sem]; first | done | omega)) only [go_sem]
      refine app_lst ?_
      simp (disch := first | omega | (simp only [go_sem]; first | done | omega)) only [go_sem]
      exact Next.mk 1 ⟨by simp, by simp⟩ (by (try simp (disch := first | omega | (simp only [go_sem]; first | done | omega)) only [go_sem]); (first | refine WkL.eq ?_ ?_ | refine WkL.rest (by assumption) ?_ ?_ ?_ | refine WkL.keepL (by assumption) rfl ?_ ?_ ?_ ?_) <;> first | rfl | (simp; done) | (simp; omega) | (simp only [List.cons.injEq, AV.c.injEq, AC.int.injEq, AC.bool.injEq, AC.str.injEq, and_true, true_and, Int.natCast_add, Int.natCast_one, Int.cast_ofNat_Int]; omega) | (simp [AV.ok, AV.ok1, AC.ok]; done) | (simp [AV.ok, AV.ok1, AC.ok]; omega) | (simp only [List.forall_mem_cons, List.not_mem_nil, false_implies, implies_true, and_true]; (repeat' apply And.intro) <;> first | exact okN_map (fun x => by simp [go_sem, AC.pure]) | exact okN_grO (fun x => by simp [go_sem, AC.pure]) | (simp [AObj.okN, AC.ok]; done) | (simp [AObj.okN, AC.ok]; omega)) | (simp [*]; done) | grind)
    · simp (disch := first | omega | (simp only [go_sem]; first | done | omega)) only [go_sem]
      refine app_lst ?_
      simp (disch := first | omega | (simp only [go_sem]; first | done | omega)) only [go_sem]
      exact Next.mk 2 ⟨by simp, by simp⟩ (by (try simp (disch := first | omega | (simp only [go_sem]; first | done | omega)) only [go_sem]); (first | refine WkL.eq ?_ ?_ | refine WkL.rest (by assumption) ?_ ?_ ?_ | refine WkL.keepL (by assumption) rfl ?_ ?_ ?_ ?_) <;> first | rfl | (simp; done) | (simp; omega) | (simp only [List.cons.injEq, AV.c.injEq, AC.int.injEq, AC.bool.injEq, AC.str.injEq, and_true, true_and, Int.natCast_add, Int.natCast_one, Int.cast_ofNat_Int]; omega) | (simp [AV.ok, AV.ok1, AC.ok]; done) | (simp [AV.ok, AV.ok1, AC.ok]; omega) | (simp only [List.forall_mem_cons, List.not_mem_nil, false_implies, implies_true, and_true]; (repeat' apply And.intro) <;> first | exact okN_map (fun x => by simp [go_sem, AC.pure]) | exact okN_grO (fun x => by simp [go_sem, AC.pure]) | (simp [AObj.okN, AC.ok]; done) | (simp [AObj.okN, AC.ok]; omega)) | (simp [*]; done) | grind)
    · simp (disch := first | omega | (simp only [go_sem]; first | done | omega)) only [go_sem]
      exact Ret.pad (Nat.le_refl _) (Ret.same (by simp) hk)
  simp (disch := first | omega | (simp only [go_sem]; first | done | omega)) only [go_sem]
  refine AWp.loop (H.length) [25, 26] [27, 6] (fun (q : Nat × Nat × List (List AC)) => (q.1 = 0 ∧ q.2.1 = 0 ∧ q.2.2 = List.replicate (l.length + m.length) [.int .i64 0, .int .i64 0, .int .i64 0, .int .i64 0, .int .i64 0, .int .i64 0]) ∨ (q.1 = 1 ∧ q.2.1 = l.length ∧ ((l = [] ∧ q.2.2 = List.replicate (l.length + m.length) [.int .i64 0, .int .i64 0, .int .i64 0, .int .i64 0, .int .i64 0, .int .i64 0]) ∨ (l ≠ [] ∧ q.2.2 = l.map encN))) ∨ (q.1 = 2 ∧ q.2.1 = l.length + m.length ∧ q.2.2 = (l ++ m).map encN)) (fun (q : Nat × Nat × List (List AC)) => [(27, (.c (.int .i64 (q.1)))), (6, .c (.sl (some (H.length, 0)) q.2.1))]) (fun (q : Nat × Nat × List (List AC)) => H ++ [.row 39 6 q.2.2 true]) (fun (q : Nat × Nat × List (List AC)) => 2 - q.1) (by kernel_rfl) (fun _ => rfl) (by kernel_rfl) (by simp) (by first | (simp; done) | (simp; omega)) (by (try simp only [List.forall_mem_cons, List.not_mem_nil, false_implies, implies_true, and_true]); (try simp (disch := first | omega | (simp only [go_sem]; first | done | omega)) only [go_sem]); all_goals first | trivial | (simp [AV.ok, AV.ok1, AC.ok]; done) | (simp [AV.ok, AV.ok1, AC.ok]; omega) | (simp [AV.ok, AV.ok1, AC.ok]; assumption) | ((repeat' apply And.intro) <;> first | trivial | (simp [AV.ok, AV.ok1, AC.ok]; done) | (simp [AV.ok, AV.ok1, AC.ok]; omega) | (simp [AV.ok, AV.ok1, AC.ok]; assumption) | (refine grV_ok ?_ _; first | (simp; done) | (simp; omega) | omega))) ?_ (fun q hq _ _ => ?_)
  · exact Next.mk (0, 0, List.replicate (l.length + m.length) [.int .i64 0, .int .i64 0, .int .i64 0, .int .i64 0, .int .i64 0, .int .i64 0]) (by simp) (by ((try simp (disch := first | omega | (simp only [go_sem]; first | done | omega)) only [go_sem]); (first | refine WkL.pick [0] ?_ ?_ rfl ?_ ?_ ?_ ?_ | refine WkL.pick [1] ?_ ?_ rfl ?_ ?_ ?_ ?_ | refine WkL.pick [2] ?_ ?_ rfl ?_ ?_ ?_ ?_ | refine WkL.pick [3] ?_ ?_ rfl ?_ ?_ ?_ ?_ | refine WkL.pick [4] ?_ ?_ rfl ?_ ?_ ?_ ?_ | refine WkL.pick [5] ?_ ?_ rfl ?_ ?_ ?_ ?_ | refine WkL.pick [6] ?_ ?_ rfl ?_ ?_ ?_ ?_ | refine WkL.pick [7] ?_ ?_ rfl ?_ ?_ ?_ ?_ | refine WkL.pick [8] ?_ ?_ rfl ?_ ?_ ?_ ?_ | refine WkL.pick [9] ?_ ?_ rfl ?_ ?_ ?_ ?_ | refine WkL.pick [10] ?_ ?_ rfl ?_ ?_ ?_ ?_ | refine WkL.pick [11] ?_ ?_ rfl ?_ ?_ ?_ ?_ | refine WkL.pick [12] ?_ ?_ rfl ?_ ?_ ?_ ?_ | refine WkL.pick [13] ?_ ?_ rfl ?_ ?_ ?_ ?_ | refine WkL.pick [14] ?_ ?_ rfl ?_ ?_ ?_ ?_ | refine WkL.pick [15] ?_ ?_ rfl ?_ ?_ ?_ ?_) <;> first | assumption | exact HOk.str (by assumption) | (simp; done) | (simp; omega) | (simp [pureO_gr, AObj.pureO, pureL, go_sem, AC.pure]; done) | (simp only [List.all_cons, List.all_nil, Bool.and_true]; exact pureO_gr (pureL_map _ (fun x => by simp [go_sem, AC.pure]))) | ((try simp only [List.map_cons, List.map_nil, av_ren_gr]); simp [AV.ren, AV.ren1, AC.ren, pickS]; first | done | omega) | (simp only [List.forall_mem_cons, List.not_mem_nil, false_implies, implies_true, and_true]; (repeat' apply And.intro) <;> first | trivial | exact grV_ok (by simp) _ | exact okN_grO (fun x => by simp [go_sem, AC.pure]) | exact okN_map (fun x => by simp [go_sem, AC.pure]) | (simp [AV.ok, AV.ok1, AC.ok]; done) | (simp [AV.ok, AV.ok1, AC.ok]; omega) | (simp [AObj.okN, AC.ok]; done)) | (simp [AObj.okN]; done)))
  obtain ⟨k, n, els⟩ := q
  dsimp only at hq
  rcases hq with ⟨rfl, rfl, rfl⟩ | ⟨rfl, rfl, hq⟩ | ⟨rfl, rfl, rfl⟩
  · by_cases hl0 : l = []
    · subst hl0
      simp (disch := first | omega | (simp only [go_sem]; first | done | omega)) only [go_sem]
      refine app_lst ?_
      simp (disch := first | omega | (simp only [go_sem]; first | done | omega)) only [go_sem]
      refine Next.mk (1, 0, List.replicate (0 + m.length) [.int .i64 0, .int .i64 0, .int .i64 0, .int .i64 0, .int .i64 0, .int .i64 0]) ⟨by simp, by simp⟩ (by ((try simp (disch := first | omega | (simp only [go_sem]; first | done | omega)) only [go_sem]); (first | refine WkL.pick [0] ?_ ?_ rfl ?_ ?_ ?_ ?_ | refine WkL.pick [1] ?_ ?_ rfl ?_ ?_ ?_ ?_ | refine WkL.pick [2] ?_ ?_ rfl ?_ ?_ ?_ ?_ | refine WkL.pick [3] ?_ ?_ rfl ?_ ?_ ?_ ?_ | refine WkL.pick [4] ?_ ?_ rfl ?_ ?_ ?_ ?_ | refine WkL.pick [5] ?_ ?_ rfl ?_ ?_ ?_ ?_ | refine WkL.pick [6] ?_ ?_ rfl ?_ ?_ ?_ ?_ | refine WkL.pick [7] ?_ ?_ rfl ?_ ?_ ?_ ?_ | refine WkL.pick [8] ?_ ?_ rfl ?_ ?_ ?_ ?_ | refine WkL.pick [9] ?_ ?_ rfl ?_ ?_ ?_ ?_ | refine WkL.pick [10] ?_ ?_ rfl ?_ ?_ ?_ ?_ | refine WkL.pick [11] ?_ ?_ rfl ?_ ?_ ?_ ?_ | refine WkL.pick [12] ?_ ?_ rfl ?_ ?_ ?_ ?_ | refine WkL.pick [13] ?_ ?_ rfl ?_ ?_ ?_ ?_ | refine WkL.pick [14] ?_ ?_ rfl ?_ ?_ ?_ ?_ | refine WkL.pick [15] ?_ ?_ rfl ?_ ?_ ?_ ?_) <;> first | assumption | exact HOk.str (by assumption) | (simp; done) | (simp; omega) | (simp [pureO_gr, AObj.pureO, pureL, go_sem, AC.pure]; done) | (simp only [List.all_cons, List.all_nil, Bool.and_true]; exact pureO_gr (pureL_map _ (fun x => by simp [go_sem, AC.pure]))) | ((try simp only [List.map_cons, List.map_nil, av_ren_gr]); simp [AV.ren, AV.ren1, AC.ren, pickS]; first | done | omega) | (simp only [List.forall_mem_cons, List.not_mem_nil, false_implies, implies_true, and_true]; (repeat' apply And.intro) <;> first | trivial | exact grV_ok (by simp) _ | exact okN_grO (fun x => by simp [go_sem, AC.pure]) | exact okN_map (fun x => by simp [go_sem, AC.pure]) | (simp [AV.ok, AV.ok1, AC.ok]; done) | (simp [AV.ok, AV.ok1, AC.ok]; omega) | (simp [AObj.okN, AC.ok]; done)) | (simp [AObj.okN]; done)))
    · obtain ⟨x, xs, rfl⟩ : ∃ x xs, l = x :: xs := List.exists_cons_of_ne_nil hl0
      simp (disch := first | omega | (simp only [go_sem]; first | done | omega)) only [go_sem]
      refine app_lst ?_
      simp only [List.length_cons] at hl
      simp (disch := first | omega | (simp only [go_sem]; first | done | omega)) only [go_sem]
      refine Next.mk (1, xs.length + 1, (x :: xs).map encN) ⟨by simp, by simp⟩ ?_
      ((try simp (disch := first | omega | (simp only [go_sem]; first | done | omega)) only [go_sem]); (first | refine WkL.pick [0] ?_ ?_ rfl ?_ ?_ ?_ ?_ | refine WkL.pick [1] ?_ ?_ rfl ?_ ?_ ?_ ?_ | refine WkL.pick [2] ?_ ?_ rfl ?_ ?_ ?_ ?_ | refine WkL.pick [3] ?_ ?_ rfl ?_ ?_ ?_ ?_ | refine WkL.pick [4] ?_ ?_ rfl ?_ ?_ ?_ ?_ | refine WkL.pick [5] ?_ ?_ rfl ?_ ?_ ?_ ?_ | refine WkL.pick [6] ?_ ?_ rfl ?_ ?_ ?_ ?_ | refine WkL.pick [7] ?_ ?_ rfl ?_ ?_ ?_ ?_ | refine WkL.pick [8] ?_ ?_ rfl ?_ ?_ ?_ ?_ | refine WkL.pick [9] ?_ ?_ rfl ?_ ?_ ?_ ?_ | refine WkL.pick [10] ?_ ?_ rfl ?_ ?_ ?_ ?_ | refine WkL.pick [11] ?_ ?_ rfl ?_ ?_ ?_ ?_ | refine WkL.pick [12] ?_ ?_ rfl ?_ ?_ ?_ ?_ | refine WkL.pick [13] ?_ ?_ rfl ?_ ?_ ?_ ?_ | refine WkL.pick [14] ?_ ?_ rfl ?_ ?_ ?_ ?_ | refine WkL.pick [15] ?_ ?_ rfl ?_ ?_ ?_ ?_) <;> first | assumption | exact HOk.str (by assumption) | (simp; done) | (simp; omega) | (simp [pureO_gr, AObj.pureO, pureL, go_sem, AC.pure]; done) | (simp only [List.all_cons, List.all_nil, Bool.and_true]; exact pureO_gr (pureL_map _ (fun x => by simp [go_sem, AC.pure]))) | ((try simp only [List.map_cons, List.map_nil, av_ren_gr]); simp [AV.ren, AV.ren1, AC.ren, pickS]; first | done | omega) | (simp only [List.forall_mem_cons, List.not_mem_nil, false_implies, implies_true, and_true]; (repeat' apply And.intro) <;> first | trivial | exact grV_ok (by simp) _ | exact okN_grO (fun x => by simp [go_sem, AC.pure]) | exact okN_map (fun x => by simp [go_sem, AC.pure]) | (simp [AV.ok, AV.ok1, AC.ok]; done) | (simp [AV.ok, AV.ok1, AC.ok]; omega) | (simp [AObj.okN, AC.ok]; done)) | (simp [AObj.okN]; done))
  · rcases hq with ⟨rfl, rfl⟩ | ⟨hl0, rfl⟩
    · have hm0 : m ≠ [] := by rintro rfl; simp at h0
      obtain ⟨x, xs, rfl⟩ : ∃ x xs, m = x :: xs := List.exists_cons_of_ne_nil hm0
      simp only [List.length_cons] at hm
      simp (disch := first | omega | (simp only [go_sem]; first | done | omega)) only [go_sem]
      refine app_lst ?_
      simp (disch := first | omega | (simp only [go_sem]; first | done | omega)) only [go_sem]
      refine Next.mk (2, xs.length + 1, (x :: xs).map encN) ⟨by simp, by simp⟩ ?_
      ((try simp (disch := first | omega | (simp only [go_sem]; first | done | omega)) only [go_sem]); (first | refine WkL.pick [0] ?_ ?_ rfl ?_ ?_ ?_ ?_ | refine WkL.pick [1] ?_ ?_ rfl ?_ ?_ ?_ ?_ | refine WkL.pick [2] ?_ ?_ rfl ?_ ?_ ?_ ?_ | refine WkL.pick [3] ?_ ?_ rfl ?_ ?_ ?_ ?_ | refine WkL.pick [4] ?_ ?_ rfl ?_ ?_ ?_ ?_ | refine WkL.pick [5] ?_ ?_ rfl ?_ ?_ ?_ ?_ | refine WkL.pick [6] ?_ ?_ rfl ?_ ?_ ?_ ?_ | refine WkL.pick [7] ?_ ?_ rfl ?_ ?_ ?_ ?_ | refine WkL.pick [8] ?_ ?_ rfl ?_ ?_ ?_ ?_ | refine WkL.pick [9] ?_ ?_ rfl ?_ ?_ ?_ ?_ | refine WkL.pick [10] ?_ ?_ rfl ?_ ?_ ?_ ?_ | refine WkL.pick [11] ?_ ?_ rfl ?_ ?_ ?_ ?_ | refine WkL.pick [12] ?_ ?_ rfl ?_ ?_ ?_ ?_ | refine WkL.pick [13] ?_ ?_ rfl ?_ ?_ ?_ ?_ | refine WkL.pick [14] ?_ ?_ rfl ?_ ?_ ?_ ?_ | refine WkL.pick [15] ?_ ?_ rfl ?_ ?_ ?_ ?_) <;> first | assumption | exact HOk.str (by assumption) | (simp; done) | (simp; omega) | (simp [pureO_gr, AObj.pureO, pureL, go_sem, AC.pure]; done) | (simp only [List.all_cons, List.all_nil, Bool.and_true]; exact pureO_gr (pureL_map _ (fun x => by simp [go_sem, AC.pure]))) | ((try simp only [List.map_cons, List.map_nil, av_ren_gr]); simp [AV.ren, AV.ren1, AC.ren, pickS]; first | done | omega) | (simp only [List.forall_mem_cons, List.not_mem_nil, false_implies, implies_true, and_true]; (repeat' apply And.intro) <;> first | trivial | exact grV_ok (by simp) _ | exact okN_grO (fun x => by simp [go_sem, AC.pure]) | exact okN_map (fun x => by simp [go_sem, AC.pure]) | (simp [AV.ok, AV.ok1, AC.ok]; done) | (simp [AV.ok, AV.ok1, AC.ok]; omega) | (simp [AObj.okN, AC.ok]; done)) | (simp [AObj.okN]; done))
    · by_cases hm0 : m = []
      · subst hm0
        simp (disch := first | omega | (simp only [go_sem]; first | done | omega)) only [go_sem]
        refine app_lst ?_
        simp (disch := first | omega | (simp only [go_sem]; first | done | omega)) only [go_sem]
        refine Next.mk (2, l.length, l.map encN) ⟨by simp, by simp⟩ ?_
        ((try simp (disch := first | omega | (simp only [go_sem]; first | done | omega)) only [go_sem]); (first | refine WkL.pick [0] ?_ ?_ rfl ?_ ?_ ?_ ?_ | refine WkL.pick [1] ?_ ?_ rfl ?_ ?_ ?_ ?_ | refine WkL.pick [2] ?_ ?_ rfl ?_ ?_ ?_ ?_ | refine WkL.pick [3] ?_ ?_ rfl ?_ ?_ ?_ ?_ | refine WkL.pick [4] ?_ ?_ rfl ?_ ?_ ?_ ?_ | refine WkL.pick [5] ?_ ?_ rfl ?_ ?_ ?_ ?_ | refine WkL.pick [6] ?_ ?_ rfl ?_ ?_ ?_ ?_ | refine WkL.pick [7] ?_ ?_ rfl ?_ ?_ ?_ ?_ | refine WkL.pick [8] ?_ ?_ rfl ?_ ?_ ?_ ?_ | refine WkL.pick [9] ?_ ?_ rfl ?_ ?_ ?_ ?_ | refine WkL.pick [10] ?_ ?_ rfl ?_ ?_ ?_ ?_ | refine WkL.pick [11] ?_ ?_ rfl ?_ ?_ ?_ ?_ | refine WkL.pick [12] ?_ ?_ rfl ?_ ?_ ?_ ?_ | refine WkL.pick [13] ?_ ?_ rfl ?_ ?_ ?_ ?_ | refine WkL.pick [14] ?_ ?_ rfl ?_ ?_ ?_ ?_ | refine WkL.pick [15] ?_ ?_ rfl ?_ ?_ ?_ ?_) <;> first | assumption | exact HOk.str (by assumption) | (simp; done) | (simp; omega) | (simp [pureO_gr, AObj.pureO, pureL, go_sem, AC.pure]; done) | (simp only [List.all_cons, List.all_nil, Bool.and_true]; exact pureO_gr (pureL_map _ (fun x => by simp [go_sem, AC.pure]))) | ((try simp only [List.map_cons, List.map_nil, av_ren_gr]); simp [AV.ren, AV.ren1, AC.ren, pickS]; first | done | omega) | (simp only [List.forall_mem_cons, List.not_mem_nil, false_implies, implies_true, and_true]; (repeat' apply And.intro) <;> first | trivial | exact grV_ok (by simp) _ | exact okN_grO (fun x => by simp [go_sem, AC.pure]) | exact okN_map (fun x => by simp [go_sem, AC.pure]) | (simp [AV.ok, AV.ok1, AC.ok]; done) | (simp [AV.ok, AV.ok1, AC.ok]; omega) | (simp [AObj.okN, AC.ok]; done)) | (simp [AObj.okN]; done))
      · obtain ⟨x, xs, rfl⟩ : ∃ x xs, m = x :: xs := List.exists_cons_of_ne_nil hm0
        simp only [List.length_cons] at hm
        simp (disch := first | omega | (simp only [go_sem]; first | done | omega)) only [go_sem]
        refine app_lst ?_
        simp (disch := first | omega | (simp only [go_sem]; first | done | omega)) only [go_sem]
        refine Next.mk (2, l.length + (xs.length + 1), (l.map encN).take l.length ++ (x :: xs).map encN) ⟨by simp [List.take_of_length_le], by simp⟩ ?_
        ((try simp (disch := first | omega | (simp only [go_sem]; first | done | omega)) only [go_sem]); (first | refine WkL.pick [0] ?_ ?_ rfl ?_ ?_ ?_ ?_ | refine WkL.pick [1] ?_ ?_ rfl ?_ ?_ ?_ ?_ | refine WkL.pick [2] ?_ ?_ rfl ?_ ?_ ?_ ?_ | refine WkL.pick [3] ?_ ?_ rfl ?_ ?_ ?_ ?_ | refine WkL.pick [4] ?_ ?_ rfl ?_ ?_ ?_ ?_ | refine WkL.pick [5] ?_ ?_ rfl ?_ ?_ ?_ ?_ | refine WkL.pick [6] ?_ ?_ rfl ?_ ?_ ?_ ?_ | refine WkL.pick [7] ?_ ?_ rfl ?_ ?_ ?_ ?_ | refine WkL.pick [8] ?_ ?_ rfl ?_ ?_ ?_ ?_ | refine WkL.pick [9] ?_ ?_ rfl ?_ ?_ ?_ ?_ | refine WkL.pick [10] ?_ ?_ rfl ?_ ?_ ?_ ?_ | refine WkL.pick [11] ?_ ?_ rfl ?_ ?_ ?_ ?_ | refine WkL.pick [12] ?_ ?_ rfl ?_ ?_ ?_ ?_ | refine WkL.pick [13] ?_ ?_ rfl ?_ ?_ ?_ ?_ | refine WkL.pick [14] ?_ ?_ rfl ?_ ?_ ?_ ?_ | refine WkL.pick [15] ?_ ?_ rfl ?_ ?_ ?_ ?_) <;> first | assumption | exact HOk.str (by assumption) | (simp; done) | (simp; omega) | (simp [pureO_gr, AObj.pureO, pureL, go_sem, AC.pure]; done) | (simp only [List.all_cons, List.all_nil, Bool.and_true]; exact pureO_gr (pureL_map _ (fun x => by simp [go_sem, AC.pure]))) | ((try simp only [List.map_cons, List.map_nil, av_ren_gr]); simp [AV.ren, AV.ren1, AC.ren, pickS]; first | done | omega) | (simp only [List.forall_mem_cons, List.not_mem_nil, false_implies, implies_true, and_true]; (repeat' apply And.intro) <;> first | trivial | exact grV_ok (by simp) _ | exact okN_grO (fun x => by simp [go_sem, AC.pure]) | exact okN_map (fun x => by simp [go_sem, AC.pure]) | (simp [AV.ok, AV.ok1, AC.ok]; done) | (simp [AV.ok, AV.ok1, AC.ok]; omega) | (simp [AObj.okN, AC.ok]; done)) | (simp [AObj.okN]; done))
  · have hne : l ++ m ≠ [] := by
      intro h
      obtain ⟨rfl, rfl⟩ := List.append_eq_nil_iff.1 h
      simp at h0
    have hne2 : (l ++ m).map encN ≠ [] := by simpa using hne
    have hpos : 0 < l.length + m.length := h0
    rw [grV_pos _ hne, grO_pos _ _ hne2, List.length_append] at hk
    simp (disch := first | omega | (simp only [go_sem]; first | done | omega)) only [go_sem]
    exact Ret.same (by simp) hk
end Go.Proofs.YtdcedhgkigpejaaGreatDoor
/- Bins merged: the program and the document's answer. Condition: the lists are short. -/
namespace Go.Proofs.YtdcedhgkigpejaaGreatDoor
open Go Go.RowKit
set_option maxRecDepth 100000
set_option linter.all false
set_option maxHeartbeats 1000000
variable {H : Hp} {K : AV → Hp → Prop}
theorem sinkB_len : ∀ (j : Nat) (l : List Bin), (sinkB j l).length = l.length
  | 0, _ => rfl
  | j + 1, l => by
    unfold sinkB
    split
    · split
      · rw [sinkB_len j]; simp
      · rfl
    · rfl
theorem sinkB_mem : ∀ (j : Nat) (l : List Bin) (x : Bin), x ∈ sinkB j l → x ∈ l
  | 0, _, _, h => h
  | j + 1, l, x, h => by
    unfold sinkB at h
    split at h
    · rename_i a b ha hb
      split at h
      · have := sinkB_mem j _ x h
        rcases List.mem_or_eq_of_mem_set this with h1 | rfl
        · rcases List.mem_or_eq_of_mem_set h1 with h2 | rfl
          · exact h2
          · exact List.mem_of_getElem? hb
        · exact List.mem_of_getElem? ha
      · exact h
    · exact h
theorem isortGo_len : ∀ (c i : Nat) (l : List Bin), (isortGo c i l).length = l.length
  | 0, _, _ => rfl
  | c + 1, i, l => by rw [isortGo, isortGo_len c, sinkB_len]
theorem isortGo_mem : ∀ (c i : Nat) (l : List Bin) (x : Bin), x ∈ isortGo c i l → x ∈ l
  | 0, _, _, _, h => h
  | c + 1, i, l, x, h => sinkB_mem i l x (isortGo_mem c (i + 1) _ x h)
theorem isortB_len (l : List Bin) : (isortB l).length = l.length := isortGo_len _ _ _
theorem isortB_mem (l : List Bin) (x : Bin) (h : x ∈ isortB l) : x ∈ l := isortGo_mem _ _ _ x h
theorem insNil_a (f : FuncId) (hk : K (.tup []) H) : ACalls Tryz.prog 255 [.c (.sl none 0), (.c (.int .i64 0)), (.c (.int .i64 0)), .c (.fn f [] [])] H K := by
  refine acalls Tryz.func255 rfl (by kernel_rfl) (by simp (disch := first | omega | (simp only [go_sem]; first | done | omega)) only [go_sem]) (fun hH => ?_)
  simp (disch := first | omega | (simp only [go_sem]; first | done | omega)) only [go_sem]
  refine AWp.loop (H.length) [0, 1, 2, 3] [8] (fun (q : Unit) => True) (fun (q : Unit) => [(8, (.c (.int .i64 1)))]) (fun (q : Unit) => H) (fun (q : Unit) => 0) (by kernel_rfl) (fun _ => rfl) (by kernel_rfl) (by simp) (by first | (simp; done) | (simp; omega)) (by (try simp only [List.forall_mem_cons, List.not_mem_nil, false_implies, implies_true, and_true]); (try simp (disch := first | omega | (simp only [go_sem]; first | done | omega)) only [go_sem]); all_goals first | trivial | (simp [AV.ok, AV.ok1, AC.ok]; done) | (simp [AV.ok, AV.ok1, AC.ok]; omega) | (simp [AV.ok, AV.ok1, AC.ok]; assumption) | ((repeat' apply And.intro) <;> first | trivial | (simp [AV.ok, AV.ok1, AC.ok]; done) | (simp [AV.ok, AV.ok1, AC.ok]; omega) | (simp [AV.ok, AV.ok1, AC.ok]; assumption) | (refine grV_ok ?_ _; first | (simp; done) | (simp; omega) | omega))) ?_ (fun q hq _ _ => ?_)
  · exact Next.mk () trivial (by (try simp (disch := first | omega | (simp only [go_sem]; first | done | omega)) only [go_sem]); (first | refine WkL.eq ?_ ?_ | refine WkL.rest (by assumption) ?_ ?_ ?_ | refine WkL.keepL (by assumption) rfl ?_ ?_ ?_ ?_) <;> first | rfl | (simp; done) | (simp; omega) | (simp only [List.cons.injEq, AV.c.injEq, AC.int.injEq, AC.bool.injEq, AC.str.injEq, and_true, true_and, Int.natCast_add, Int.natCast_one, Int.cast_ofNat_Int]; omega) | (simp [AV.ok, AV.ok1, AC.ok]; done) | (simp [AV.ok, AV.ok1, AC.ok]; omega) | (simp only [List.forall_mem_cons, List.not_mem_nil, false_implies, implies_true, and_true]; (repeat' apply And.intro) <;> first | exact okN_map (fun x => by simp [go_sem, AC.pure]) | exact okN_grO (fun x => by simp [go_sem, AC.pure]) | (simp [AObj.okN, AC.ok]; done) | (simp [AObj.okN, AC.ok]; omega)) | (simp [*]; done) | grind)
  simp (disch := first | omega | (simp only [go_sem]; first | done | omega)) only [go_sem]
  exact Ret.same (by simp) hk
theorem stabNil_a (f : FuncId) (hk : K (.tup []) H) : ACalls Tryz.prog 204 [.c (.sl none 0), (.c (.int .i64 0)), .c (.fn f [] [])] H K := by
  refine acalls Tryz.func204 rfl (by kernel_rfl) (by simp (disch := first | omega | (simp only [go_sem]; first | done | omega)) only [go_sem]) (fun hH => ?_)
  simp (disch := first | omega | (simp only [go_sem]; first | done | omega)) only [go_sem]
  refine AWp.loop (H.length) [0, 1, 2, 6] [7, 8] (fun (q : Unit) => True) (fun (q : Unit) => [(7, (.c (.int .i64 0))), (8, (.c (.int .i64 20)))]) (fun (q : Unit) => H) (fun (q : Unit) => 0) (by kernel_rfl) (fun _ => rfl) (by kernel_rfl) (by simp) (by first | (simp; done) | (simp; omega)) (by (try simp only [List.forall_mem_cons, List.not_mem_nil, false_implies, implies_true, and_true]); (try simp (disch := first | omega | (simp only [go_sem]; first | done | omega)) only [go_sem]); all_goals first | trivial | (simp [AV.ok, AV.ok1, AC.ok]; done) | (simp [AV.ok, AV.ok1, AC.ok]; omega) | (simp [AV.ok, AV.ok1, AC.ok]; assumption) | ((repeat' apply And.intro) <;> first | trivial | (simp [AV.ok, AV.ok1, AC.ok]; done) | (simp [AV.ok, AV.ok1, AC.ok]; omega) | (simp [AV.ok, AV.ok1, AC.ok]; assumption) | (refine grV_ok ?_ _; first | (simp; done) | (simp; omega) | omega))) ?_ (fun q hq _ _ => ?_)
  · exact Next.mk () trivial (by (try simp (disch := first | omega | (simp only [go_sem]; first | done | omega)) only [go_sem]); (first | refine WkL.eq ?_ ?_ | refine WkL.rest (by assumption) ?_ ?_ ?_ | refine WkL.keepL (by assumption) rfl ?_ ?_ ?_ ?_) <;> first | rfl | (simp; done) | (simp; omega) | (simp only [List.cons.injEq, AV.c.injEq, AC.int.injEq, AC.bool.injEq, AC.str.injEq, and_true, true_and, Int.natCast_add, Int.natCast_one, Int.cast_ofNat_Int]; omega) | (simp [AV.ok, AV.ok1, AC.ok]; done) | (simp [AV.ok, AV.ok1, AC.ok]; omega) | (simp only [List.forall_mem_cons, List.not_mem_nil, false_implies, implies_true, and_true]; (repeat' apply And.intro) <;> first | exact okN_map (fun x => by simp [go_sem, AC.pure]) | exact okN_grO (fun x => by simp [go_sem, AC.pure]) | (simp [AObj.okN, AC.ok]; done) | (simp [AObj.okN, AC.ok]; omega)) | (simp [*]; done) | grind)
  simp (disch := first | omega | (simp only [go_sem]; first | done | omega)) only [go_sem]
  refine insNil_a f ?_
  simp (disch := first | omega | (simp only [go_sem]; first | done | omega)) only [go_sem]
  refine AWp.loop (H.length) [0, 1, 2] [6] (fun (q : Unit) => True) (fun (q : Unit) => [(6, (.c (.int .i64 20)))]) (fun (q : Unit) => H) (fun (q : Unit) => 0) (by kernel_rfl) (fun _ => rfl) (by kernel_rfl) (by simp) (by first | (simp; done) | (simp; omega)) (by (try simp only [List.forall_mem_cons, List.not_mem_nil, false_implies, implies_true, and_true]); (try simp (disch := first | omega | (simp only [go_sem]; first | done | omega)) only [go_sem]); all_goals first | trivial | (simp [AV.ok, AV.ok1, AC.ok]; done) | (simp [AV.ok, AV.ok1, AC.ok]; omega) | (simp [AV.ok, AV.ok1, AC.ok]; assumption) | ((repeat' apply And.intro) <;> first | trivial | (simp [AV.ok, AV.ok1, AC.ok]; done) | (simp [AV.ok, AV.ok1, AC.ok]; omega) | (simp [AV.ok, AV.ok1, AC.ok]; assumption) | (refine grV_ok ?_ _; first | (simp; done) | (simp; omega) | omega))) ?_ (fun q hq _ _ => ?_)
  · exact Next.mk () trivial (by (try simp (disch := first | omega | (simp only [go_sem]; first | done | omega)) only [go_sem]); (first | refine WkL.eq ?_ ?_ | refine WkL.rest (by assumption) ?_ ?_ ?_ | refine WkL.keepL (by assumption) rfl ?_ ?_ ?_ ?_) <;> first | rfl | (simp; done) | (simp; omega) | (simp only [List.cons.injEq, AV.c.injEq, AC.int.injEq, AC.bool.injEq, AC.str.injEq, and_true, true_and, Int.natCast_add, Int.natCast_one, Int.cast_ofNat_Int]; omega) | (simp [AV.ok, AV.ok1, AC.ok]; done) | (simp [AV.ok, AV.ok1, AC.ok]; omega) | (simp only [List.forall_mem_cons, List.not_mem_nil, false_implies, implies_true, and_true]; (repeat' apply And.intro) <;> first | exact okN_map (fun x => by simp [go_sem, AC.pure]) | exact okN_grO (fun x => by simp [go_sem, AC.pure]) | (simp [AObj.okN, AC.ok]; done) | (simp [AObj.okN, AC.ok]; omega)) | (simp [*]; done) | grind)
  simp (disch := first | omega | (simp only [go_sem]; first | done | omega)) only [go_sem]
  exact Ret.same (by simp) hk
theorem sortGr_a (f : FuncId) (cf : Bin → Bin → Int) (P : Bin → Prop) (he : entersB Tryz.prog f = true) (hc : ∀ x y, P x → P y → (cf x y < 0 ↔ x.a < y.a)) (hf : ∀ (x y : Bin) (H : Hp) (K : AV → Hp → Prop), P x → P y → K (.c (.int .i64 (cf x y))) H → ACalls Tryz.prog f [.agg (encN x), .agg (encN y)] H K)
    {i : Nat} (l : List Bin) (hi : H[i]? = some (grO 39 6 (l.map encN))) (hP : ∀ x ∈ l, P x) (hlen : l.length < 20) (hk : K (.tup []) (H.set i (grO 39 6 ((isortB l).map encN)))) :
    ACalls Tryz.prog 140 [.c (grV i l), .c (.fn f [] [])] H K := by
  by_cases h : l = []
  · subst h
    have hd : H.set i .dead = H := by
      have hlt := getElem?_lt hi
      apply List.ext_getElem?
      intro j
      by_cases e : i = j
      · subst e; rw [List.getElem?_set_self hlt, hi]; rfl
      · rw [List.getElem?_set_ne e]
    have hk : K (.tup []) (H.set i .dead) := hk
    rw [hd] at hk
    simp only [grV]
    refine acalls Tryz.func140 rfl (by kernel_rfl) (by simp (disch := first | omega | (simp only [go_sem]; first | done | omega)) only [go_sem]) (fun hH => ?_)
    simp (disch := first | omega | (simp only [go_sem]; first | done | omega)) only [go_sem]
    refine stabNil_a f ?_
    simp (disch := first | omega | (simp only [go_sem]; first | done | omega)) only [go_sem]
    exact Ret.same (by simp) hk
  · have h2 : l.map encN ≠ [] := by simpa using h
    have h3 : (isortB l).map encN ≠ [] := by intro h4; have := congrArg List.length h4; simp [isortB_len] at this; exact h this
    rw [grO_pos _ _ h2] at hi
    rw [grO_pos _ _ h3] at hk
    rw [grV_pos _ h]
    exact sortStable_a f cf P he hc hf l hi rfl hP hlen hk
def mergeB (a b : List Bin) : List Bin × Int := combRes (isortB (a ++ b))
def mergeRes (a b : List Bin) (step : Int) : List Bin × Int := if firstE [bnF a step, bnF b step] ≠ 0 then ([], firstE [bnF a step, bnF b step]) else mergeB a b
theorem mergeBinsL_a (a b : List Bin) (step : Int) (hl : a.length + b.length < 20) (hk : K (.tup [.c (.lst 6 ((mergeRes a b step).1.map encN)), (.c (.int .i64 ((mergeRes a b step).2)))]) H) : ACalls Tryz.prog 56 [.c (.lst 6 (a.map encN)), .c (.lst 6 (b.map encN)), (.c (.int .i64 step))] H K := by
  refine acalls Tryz.func56 rfl (by kernel_rfl) (by simp (disch := first | omega | (simp only [go_sem]; first | done | omega)) only [go_sem]) (fun hH => ?_)
  simp (disch := first | omega | (simp only [go_sem]; first | done | omega)) only [go_sem]
  refine checkBins_a a step (by omega) ?_
  simp (disch := first | omega | (simp only [go_sem]; first | done | omega)) only [go_sem]
  refine checkBins_a b step (by omega) ?_
  simp (disch := first | omega | (simp only [go_sem]; first | done | omega)) only [go_sem]
  refine ACalls.lit (i := H.length) (by first | exact at0 (by simp) | exact at1 (by simp) | exact at2 (by simp) | exact at3 (by simp) | exact at4 (by simp) | exact at5 (by simp) | exact atG 6 (by simp) rfl | exact atG 7 (by simp) rfl | exact atG 8 (by simp) rfl | exact atG 9 (by simp) rfl | exact atG 10 (by simp) rfl | assumption) (by simp [pureL, AC.pure]) (args' := [.c (.lst 1 ([bnF a step, bnF b step].map encI))]) (by simp [AV.frz1, AC.frz, encI]) (first_a [bnF a step, bnF b step] (by simp) ?_)
  simp (disch := first | omega | (simp only [go_sem]; first | done | omega)) only [go_sem]
  refine acond_d (fun h1 => ?_) (fun h1 => ?_)
  rotate_left
  · simp (disch := first | omega | (simp only [go_sem]; first | done | omega)) only [go_sem]
    rw [show mergeRes a b step = ([], firstE [bnF a step, bnF b step]) by simp [mergeRes, h1]] at hk
    exact Ret.nilT hH (Nat.le_refl _) rfl hk
  obtain ⟨ha, hb⟩ := firstE_two h1
  obtain ⟨hs, _, hra⟩ := bnF_ok ha
  obtain ⟨_, _, hrb⟩ := bnF_ok hb
  have hr : ∀ x ∈ a ++ b, x.right := fun x hx => by
    rcases List.mem_append.1 hx with h | h
    · exact hra x h
    · exact hrb x h
  have hlen : (a ++ b).length < 20 := by simp; omega
  have hbd : ∀ x ∈ isortB (a ++ b), x.bd 5000000000000 := fun x hx => (hr x (isortB_mem _ _ hx)).bd
  have hml : (isortB (a ++ b)).length ≤ 100000 := by rw [isortB_len]; omega
  rw [show mergeRes a b step = mergeB a b by simp [mergeRes, h1]] at hk
  simp (disch := first | omega | (simp only [go_sem]; first | done | omega)) only [go_sem]
  refine ACalls.lit (i := H.length + 1) (by first | exact at0 (by simp) | exact at1 (by simp) | exact at2 (by simp) | exact at3 (by simp) | exact at4 (by simp) | exact at5 (by simp) | exact atG 6 (by simp) rfl | exact atG 7 (by simp) rfl | exact atG 8 (by simp) rfl | exact atG 9 (by simp) rfl | exact atG 10 (by simp) rfl | assumption) (by simp [pureL, AC.pure]) (args' := [.c (.lst 1 [[.lst 6 (a.map encN)], [.lst 6 (b.map encN)]])]) (by simp [AV.frz1, AC.frz]) (concatN_a a b (by omega) (by omega) ?_)
  simp (disch := first | omega | (simp only [go_sem]; first | done | omega)) only [go_sem]
  refine sortGr_a _ (fun x y => if x.a < y.a then -1 else if y.a < x.a then 1 else 0) (fun x => True) (by kernel_rfl) (fun x y _ _ => cmp_lt x.a y.a) (fun x y H K _ _ h => cmp1_a x y h) (a ++ b) (by first | exact at0 (by simp) | exact at1 (by simp) | exact at2 (by simp) | exact at3 (by simp) | exact at4 (by simp) | exact at5 (by simp) | exact atG 6 (by simp) rfl | exact atG 7 (by simp) rfl | exact atG 8 (by simp) rfl | exact atG 9 (by simp) rfl | exact atG 10 (by simp) rfl | assumption) (fun _ _ => trivial) hlen ?_
  simp (disch := first | omega | (simp only [go_sem]; first | done | omega)) only [go_sem]
  have hlen2 := isortB_len (a ++ b)
  refine AWp.loop (H.length + 3) [31, 32] [33, 10] (fun (k : Nat) => k ≤ (isortB (a ++ b)).length) (fun (k : Nat) => [(33, (.c (.int .i64 k))), (10, .c (grV (H.length + 3) (foldB ((isortB (a ++ b)).take k))))]) (fun (k : Nat) => H ++ [.dead, .dead, grO 39 6 ((isortB (a ++ b)).map encN), grO 39 6 ((foldB ((isortB (a ++ b)).take k)).map encN)]) (fun (k : Nat) => (isortB (a ++ b)).length - k) (by kernel_rfl) (fun _ => rfl) (by kernel_rfl) (by simp) (by first | (simp; done) | (simp; omega)) (by (try simp only [List.forall_mem_cons, List.not_mem_nil, false_implies, implies_true, and_true]); (try simp (disch := first | omega | (simp only [go_sem]; first | done | omega)) only [go_sem]); all_goals first | trivial | (simp [AV.ok, AV.ok1, AC.ok]; done) | (simp [AV.ok, AV.ok1, AC.ok]; omega) | (simp [AV.ok, AV.ok1, AC.ok]; assumption) | ((repeat' apply And.intro) <;> first | trivial | (simp [AV.ok, AV.ok1, AC.ok]; done) | (simp [AV.ok, AV.ok1, AC.ok]; omega) | (simp [AV.ok, AV.ok1, AC.ok]; assumption) | (refine grV_ok ?_ _; first | (simp; done) | (simp; omega) | omega))) ?_ (fun k hkb _ _ => ?_)
  · refine Next.mk 0 (by simp) ?_
    simp (disch := first | omega | (simp only [go_sem]; first | done | omega)) only [go_sem]
    exact WkL.padP [_, _, _] (by simp)
  obtain ⟨f1, f2⟩ := fold_take hbd hml k
  have hlen3 : (isortB (a ++ b)).length = a.length + b.length := by rw [hlen2, List.length_append]
  by_cases hlt : k < (isortB (a ++ b)).length
  · have hx := hbd _ (List.getElem_mem hlt)
    have hn := fold_next hlt
    have hlt2 : k < a.length + b.length := by omega
    simp (disch := first | omega | (simp only [go_sem]; first | done | omega)) only [go_sem]
    refine put_gr (H.length + 3) (foldB ((isortB (a ++ b)).take k)) (isortB (a ++ b))[k] (by first | exact at0 (by simp) | exact at1 (by simp) | exact at2 (by simp) | exact at3 (by simp) | exact at4 (by simp) | exact at5 (by simp) | exact atG 6 (by simp) rfl | exact atG 7 (by simp) rfl | exact atG 8 (by simp) rfl | exact atG 9 (by simp) rfl | exact atG 10 (by simp) rfl | assumption) (by omega) f1 (by simp only [Bin.bd] at hx ⊢; omega) ?_
    simp (disch := first | omega | (simp only [go_sem]; first | done | omega)) only [go_sem]
    rw [← hn]
    exact Next.mk (k + 1) ⟨by omega, by omega⟩ (by ((try simp (disch := first | omega | (simp only [go_sem]; first | done | omega)) only [go_sem]); (first | refine WkL.pickAt [_, _, _] [0] ?_ ?_ ?_ rfl ?_ ?_ ?_ ?_ | refine WkL.pickAt [_, _, _] [1] ?_ ?_ ?_ rfl ?_ ?_ ?_ ?_ | refine WkL.pickAt [_, _, _] [2] ?_ ?_ ?_ rfl ?_ ?_ ?_ ?_ | refine WkL.pickAt [_, _, _] [3] ?_ ?_ ?_ rfl ?_ ?_ ?_ ?_ | refine WkL.pickAt [_, _, _] [4] ?_ ?_ ?_ rfl ?_ ?_ ?_ ?_ | refine WkL.pickAt [_, _, _] [5] ?_ ?_ ?_ rfl ?_ ?_ ?_ ?_ | refine WkL.pickAt [_, _, _] [6] ?_ ?_ ?_ rfl ?_ ?_ ?_ ?_ | refine WkL.pickAt [_, _, _] [7] ?_ ?_ ?_ rfl ?_ ?_ ?_ ?_ | refine WkL.pickAt [_, _, _] [8] ?_ ?_ ?_ rfl ?_ ?_ ?_ ?_ | refine WkL.pickAt [_, _, _] [9] ?_ ?_ ?_ rfl ?_ ?_ ?_ ?_ | refine WkL.pickAt [_, _, _] [10] ?_ ?_ ?_ rfl ?_ ?_ ?_ ?_ | refine WkL.pickAt [_, _, _] [11] ?_ ?_ ?_ rfl ?_ ?_ ?_ ?_ | refine WkL.pickAt [_, _, _] [12] ?_ ?_ ?_ rfl ?_ ?_ ?_ ?_ | refine WkL.pickAt [_, _, _] [13] ?_ ?_ ?_ rfl ?_ ?_ ?_ ?_ | refine WkL.pickAt [_, _, _] [14] ?_ ?_ ?_ rfl ?_ ?_ ?_ ?_ | refine WkL.pickAt [_, _, _] [15] ?_ ?_ ?_ rfl ?_ ?_ ?_ ?_ | refine WkL.pickAt [_, _, _] [16] ?_ ?_ ?_ rfl ?_ ?_ ?_ ?_ | refine WkL.pickAt [_, _, _] [17] ?_ ?_ ?_ rfl ?_ ?_ ?_ ?_) <;> first | assumption | exact HOk.str (by assumption) | (simp; done) | (simp; omega) | (simp [pureO_gr, AObj.pureO, pureL, go_sem, AC.pure]; done) | (simp only [List.all_cons, List.all_nil, Bool.and_true]; exact pureO_gr (pureL_map _ (fun x => by simp [go_sem, AC.pure]))) | ((try simp only [List.map_cons, List.map_nil, av_ren_gr]); simp [AV.ren, AV.ren1, AC.ren, pickS]; first | done | omega) | (simp only [List.forall_mem_cons, List.not_mem_nil, false_implies, implies_true, and_true]; (repeat' apply And.intro) <;> first | trivial | exact grV_ok (by simp) _ | exact okN_grO (fun x => by simp [go_sem, AC.pure]) | exact okN_map (fun x => by simp [go_sem, AC.pure]) | (simp [AV.ok, AV.ok1, AC.ok]; done) | (simp [AV.ok, AV.ok1, AC.ok]; omega) | (simp [AObj.okN, AC.ok]; done)) | (simp [AObj.okN]; done)))
  · rw [List.take_of_length_le (by omega)] at f1 f2 ⊢
    simp (disch := first | omega | (simp only [go_sem]; first | done | omega)) only [go_sem]
    refine fitsGr_a _ (by first | exact at0 (by simp) | exact at1 (by simp) | exact at2 (by simp) | exact at3 (by simp) | exact at4 (by simp) | exact at5 (by simp) | exact atG 6 (by simp) rfl | exact atG 7 (by simp) rfl | exact atG 8 (by simp) rfl | exact atG 9 (by simp) rfl | exact atG 10 (by simp) rfl | assumption) (by omega) ?_
    simp (disch := first | omega | (simp only [go_sem]; first | done | omega)) only [go_sem]
    have e : mergeB a b = if fitsE (foldB (isortB (a ++ b))) ≠ 0 then ([], 2) else (foldB (isortB (a ++ b)), 0) := rfl
    refine acond_d (fun h4 => ?_) (fun h4 => ?_)
    · simp (disch := first | omega | (simp only [go_sem]; first | done | omega)) only [go_sem]
      rw [e, if_neg (not_not_intro h4)] at hk
      exact Ret.frzGrT 3 hH (Nat.le_refl _) rfl (pureL_encN _) rfl (map_grV _ _ _).symm hk
    · simp (disch := first | omega | (simp only [go_sem]; first | done | omega)) only [go_sem]
      rw [e, if_pos h4] at hk
      rw [fitsE_two _ h4]
      exact Ret.nilT hH (Nat.le_refl _) rfl hk
theorem mergeBins_a (a b : List Bin) (step : Int) (hn : a.length ≤ 9) (hm : b.length ≤ 9) (hk : K (.tup [.c (.lst 6 ((mergeRes a b step).1.map encN)), (.c (.int .i64 ((mergeRes a b step).2)))]) H) : ACalls Tryz.prog 56 [.c (.lst 6 (a.map encN)), .c (.lst 6 (b.map encN)), (.c (.int .i64 step))] H K := mergeBinsL_a a b step (by omega) hk
end Go.Proofs.YtdcedhgkigpejaaGreatDoor
