/- Several texts in one: What is wrong with bins, in the program and in the document's answer; whether bins fit, and what follows. No condition. -/
import Derived.Test.YthgdllfkejlnmaaGreatHVGB
import Derived.Test.YthgdllfkejlnmaaGreatHVGA
import Derived.Test.YthgdllfkejlnmaaGreatHVGC
import Derived.Test.YthgdllfkejlnmaaGreatHVGF
/- What is wrong with bins, in the program and in the document's answer; whether bins fit. No condition. -/
namespace Go.Proofs.YthgdllfkejlnmaaGreat
open Go Go.RowKit
set_option maxRecDepth 100000
set_option linter.all false
set_option maxHeartbeats 1000000
variable {H : Hp} {K : AV → Hp → Prop}
def bnErr (x : Bin) (step : Int) : Int :=
  if x.a < 0 ∨ 345686399999 < x.a ∨ x.a % step ≠ 0 ∨ x.n < 0 ∨ 5000000 < x.n ∨ x.m < 0 ∨ 5000000 < x.m then 1
  else if x.n = 0 ∧ x.m = 0 then 8
  else if x.lo < -1000000 ∨ 1000000 < x.lo ∨ x.hi < -1000000 ∨ 1000000 < x.hi then 1
  else if x.n = 0 ∧ (x.s ≠ 0 ∨ x.lo ≠ 0 ∨ x.hi ≠ 0) then 3
  else if x.s < x.n * x.lo ∨ x.n * x.hi < x.s then 3 else 0
theorem mul_bd {n v : Int} (h0 : 0 ≤ n) (h1 : n ≤ 5000000) (h2 : -1000000 ≤ v) (h3 : v ≤ 1000000) : -5000000000000 ≤ n * v ∧ n * v ≤ 5000000000000 := by
  have a1 : n * -1000000 ≤ n * v := Int.mul_le_mul_of_nonneg_left h2 h0
  have a2 : n * v ≤ n * 1000000 := Int.mul_le_mul_of_nonneg_left h3 h0
  omega
theorem binFault_a (x : Bin) (step : Int) (h1 : 1 ≤ step) (h2 : step ≤ 86400000) (hk : K (.c (.int .i64 (bnErr x step))) H) : ACalls Tryz.prog 201 [.agg (encN x), (.c (.int .i64 step))] H K := by
  have hlo : 0 ≤ x.n → x.n ≤ 5000000 → -1000000 ≤ x.lo → x.lo ≤ 1000000 → -5000000000000 ≤ x.n * x.lo ∧ x.n * x.lo ≤ 5000000000000 := mul_bd
  have hhi : 0 ≤ x.n → x.n ≤ 5000000 → -1000000 ≤ x.hi → x.hi ≤ 1000000 → -5000000000000 ≤ x.n * x.hi ∧ x.n * x.hi ≤ 5000000000000 := mul_bd
  refine acalls Tryz.func201 rfl (by kernel_rfl) (by simp (disch := first | omega | (simp only [go_sem]; first | done | omega)) only [go_sem]) (fun hH => ?_)
  simp (disch := first | omega | (simp only [go_sem]; first | done | omega)) only [go_sem]
  repeat' (first | ((first | refine acond_d ?_ ?_ | refine acond_b ?_ ?_ | refine ag_d ?_ ?_ | refine ag_n ?_ ?_ | refine ag_bt ?_ ?_ | refine ag_bf ?_ ?_) <;> intro c <;> try simp (disch := first | omega | (simp only [go_sem]; first | done | omega)) only [go_sem, c]) | ((first | refine w_draw (by kernel_rfl) (by decide +kernel) ?_ | refine moment_a _ _ _ ?_ | refine out_a _ _ _ _ _ ?_) <;> try simp (disch := first | omega | (simp only [go_sem]; first | done | omega)) only [go_sem]))
  all_goals (first | refine Ret.sameE (Nat.le_refl _) (by assumption) ?_ | refine Ret.dropE (by assumption) (Nat.le_refl _) (by assumption) (by simp [AV.ok, AV.ok1, AC.ok]) ?_) <;> grind [bnErr]
theorem binFaultR_a (x : Bin) (step : Int) (h1 : 1 ≤ step) (h2 : step ≤ 86400000) (hk : K (.c (.int .i64 (bnErr x step))) H) : ACalls Tryz.prog 97 [.agg (encN x), (.c (.int .i64 step))] H K := by
  have hlo : 0 ≤ x.n → x.n ≤ 5000000 → -1000000 ≤ x.lo → x.lo ≤ 1000000 → -5000000000000 ≤ x.n * x.lo ∧ x.n * x.lo ≤ 5000000000000 := mul_bd
  have hhi : 0 ≤ x.n → x.n ≤ 5000000 → -1000000 ≤ x.hi → x.hi ≤ 1000000 → -5000000000000 ≤ x.n * x.hi ∧ x.n * x.hi ≤ 5000000000000 := mul_bd
  refine acalls Tryz.func97 rfl (by kernel_rfl) (by simp (disch := first | omega | (simp only [go_sem]; first | done | omega)) only [go_sem]) (fun hH => ?_)
  simp (disch := first | omega | (simp only [go_sem]; first | done | omega)) only [go_sem]
  repeat' (first | ((first | refine acond_d ?_ ?_ | refine acond_b ?_ ?_ | refine ag_d ?_ ?_ | refine ag_n ?_ ?_ | refine ag_bt ?_ ?_ | refine ag_bf ?_ ?_) <;> intro c <;> try simp (disch := first | omega | (simp only [go_sem]; first | done | omega)) only [go_sem, c]) | ((first | refine w_draw (by kernel_rfl) (by decide +kernel) ?_ | refine momentR_a _ _ _ ?_ | refine in_a _ _ _ _ _ ?_) <;> try simp (disch := first | omega | (simp only [go_sem]; first | done | omega)) only [go_sem]))
  all_goals (first | refine Ret.sameE (Nat.le_refl _) (by assumption) ?_ | refine Ret.dropE (by assumption) (Nat.le_refl _) (by assumption) (by simp [AV.ok, AV.ok1, AC.ok]) ?_) <;> grind [bnErr]
def bnGo (step : Int) (i : Nat) (p x : Bin) : Int := if bnErr x step ≠ 0 then bnErr x step else if 0 < i ∧ x.a ≤ p.a then 7 else 0
def bnF (l : List Bin) (step : Int) : Int := if ¬isStep step then 1 else if 5000 < l.length then 2 else errGo (bnGo step) 0 ⟨0, 0, 0, 0, 0, 0⟩ l
theorem checkBins_a (l : List Bin) (step : Int) (hlen : l.length ≤ 1099511627776) (hk : K (.c (.int .i64 (bnF l step))) H) : ACalls Tryz.prog 161 [.c (.lst 6 (l.map encN)), (.c (.int .i64 step))] H K := by
  by_cases h0 : isStep step
  case neg =>
    refine acalls Tryz.func161 rfl (by kernel_rfl) (by simp (disch := first | omega | (simp only [go_sem]; first | done | omega)) only [go_sem]) (fun hH => ?_)
    simp (disch := first | omega | (simp only [go_sem]; first | done | omega)) only [go_sem]
    repeat' (first | ((first | refine acond_d ?_ ?_ | refine acond_b ?_ ?_ | refine ag_d ?_ ?_ | refine ag_n ?_ ?_ | refine ag_bt ?_ ?_ | refine ag_bf ?_ ?_) <;> intro c <;> try simp (disch := first | omega | (simp only [go_sem]; first | done | omega)) only [go_sem, c]) | ((first | refine w_draw (by kernel_rfl) (by decide +kernel) ?_ | refine isStep_a _ _ _ ?_) <;> try simp (disch := first | omega | (simp only [go_sem]; first | done | omega)) only [go_sem]))
    all_goals (first | refine Ret.sameE (Nat.le_refl _) (by assumption) ?_ | refine Ret.dropE (by assumption) (Nat.le_refl _) (by assumption) (by simp [AV.ok, AV.ok1, AC.ok]) ?_) <;> simp [bnF, h0]
  by_cases h6 : 5000 < l.length
  · refine acalls Tryz.func161 rfl (by kernel_rfl) (by simp (disch := first | omega | (simp only [go_sem]; first | done | omega)) only [go_sem]) (fun hH => ?_)
    simp (disch := first | omega | (simp only [go_sem]; first | done | omega)) only [go_sem]
    repeat' (first | ((first | refine acond_d ?_ ?_ | refine acond_b ?_ ?_ | refine ag_d ?_ ?_ | refine ag_n ?_ ?_ | refine ag_bt ?_ ?_ | refine ag_bf ?_ ?_) <;> intro c <;> try simp (disch := first | omega | (simp only [go_sem]; first | done | omega)) only [go_sem, c]) | ((first | refine w_draw (by kernel_rfl) (by decide +kernel) ?_ | refine isStep_a _ _ _ ?_) <;> try simp (disch := first | omega | (simp only [go_sem]; first | done | omega)) only [go_sem]))
    all_goals (first | refine Ret.sameE (Nat.le_refl _) (by assumption) ?_ | refine Ret.dropE (by assumption) (Nat.le_refl _) (by assumption) (by simp [AV.ok, AV.ok1, AC.ok]) ?_) <;> simp [bnF, h0, h6]
  have hF : bnF l step = errGo (bnGo step) 0 ⟨0, 0, 0, 0, 0, 0⟩ l := by unfold bnF; rw [if_neg (not_not_intro h0), if_neg h6]
  refine acalls Tryz.func161 rfl (by kernel_rfl) (by simp (disch := first | omega | (simp only [go_sem]; first | done | omega)) only [go_sem]) (fun hH => ?_)
  simp (disch := first | omega | (simp only [go_sem]; first | done | omega)) only [go_sem]
  refine isStep_a _ _ _ ?_
  simp (disch := first | omega | (simp only [go_sem]; first | done | omega)) only [go_sem, h0]
  refine AWp.loop (H.length) [0, 1, 16, 17] [18] (fun (k : Nat) => k ≤ l.length ∧ errGo (bnGo step) k (prv ⟨0, 0, 0, 0, 0, 0⟩ l k) (l.drop k) = errGo (bnGo step) 0 ⟨0, 0, 0, 0, 0, 0⟩ l) (fun (k : Nat) => [(18, (.c (.int .i64 k)))]) (fun (k : Nat) => H) (fun (k : Nat) => l.length - k) (by kernel_rfl) (fun _ => rfl) (by kernel_rfl) (by simp) (by first | (simp; done) | (simp; omega)) (by (try simp only [List.forall_mem_cons, List.not_mem_nil, false_implies, implies_true, and_true]); (try simp (disch := first | omega | (simp only [go_sem]; first | done | omega)) only [go_sem]); all_goals first | trivial | (simp [AV.ok, AV.ok1, AC.ok]; done) | (simp [AV.ok, AV.ok1, AC.ok]; omega) | (simp [AV.ok, AV.ok1, AC.ok]; assumption) | ((repeat' apply And.intro) <;> first | trivial | (simp [AV.ok, AV.ok1, AC.ok]; done) | (simp [AV.ok, AV.ok1, AC.ok]; omega) | (simp [AV.ok, AV.ok1, AC.ok]; assumption) | (refine grV_ok ?_ _; first | (simp; done) | (simp; omega) | omega))) ?_ (fun k hk1 _ _ => ?_)
  · exact Next.mk 0 ⟨by omega, rfl⟩ (by (try simp (disch := first | omega | (simp only [go_sem]; first | done | omega)) only [go_sem]); (first | refine WkL.eq ?_ ?_ | refine WkL.rest (by assumption) ?_ ?_ ?_ | refine WkL.keepL (by assumption) rfl ?_ ?_ ?_ ?_) <;> first | rfl | (simp; done) | (simp; omega) | (simp only [List.cons.injEq, AV.c.injEq, AC.int.injEq, AC.bool.injEq, AC.str.injEq, and_true, true_and, Int.natCast_add, Int.natCast_one, Int.cast_ofNat_Int]; omega) | (simp [AV.ok, AV.ok1, AC.ok]; done) | (simp [AV.ok, AV.ok1, AC.ok]; omega) | (simp only [List.forall_mem_cons, List.not_mem_nil, false_implies, implies_true, and_true]; (repeat' apply And.intro) <;> first | exact okN_map (fun x => by simp [go_sem, AC.pure]) | exact okN_grO (fun x => by simp [go_sem, AC.pure]) | (simp [AObj.okN, AC.ok]; done) | (simp [AObj.okN, AC.ok]; omega)) | (simp [*]; done) | grind)
  obtain ⟨hk1, hk2⟩ := hk1
  by_cases hlt : k < l.length
  · have hs := errGo_step (bnGo step) ⟨0, 0, 0, 0, 0, 0⟩ l k hlt
    have hp : ∀ h : 0 < k, prv ⟨0, 0, 0, 0, 0, 0⟩ l k = l[((k : Int) - 1).toNat]'(by omega) := fun h => by rw [prv_pos _ _ _ hk1 h]; congr 1; omega
    have hv : bnGo step k (prv ⟨0, 0, 0, 0, 0, 0⟩ l k) l[k] ≠ 0 → bnGo step k (prv ⟨0, 0, 0, 0, 0, 0⟩ l k) l[k] = bnF l step := fun h => by rw [hF, ← hk2, hs, if_neg h]
    have hn : bnGo step k (prv ⟨0, 0, 0, 0, 0, 0⟩ l k) l[k] = 0 → errGo (bnGo step) (k + 1) (prv ⟨0, 0, 0, 0, 0, 0⟩ l (k + 1)) (l.drop (k + 1)) = errGo (bnGo step) 0 ⟨0, 0, 0, 0, 0, 0⟩ l := fun h => by rw [← hk2, hs, if_pos h]
    clear hs hF
    simp (disch := first | omega | (simp only [go_sem]; first | done | omega)) only [go_sem, hlt]
    repeat' (first | ((first | refine acond_d ?_ ?_ | refine acond_b ?_ ?_ | refine ag_d ?_ ?_ | refine ag_n ?_ ?_ | refine ag_bt ?_ ?_ | refine ag_bf ?_ ?_) <;> intro c <;> try simp (disch := first | omega | (simp only [go_sem]; first | done | omega)) only [go_sem, c]) | ((first | refine w_draw (by kernel_rfl) (by decide +kernel) ?_ | refine binFault_a _ _ h0.1 h0.2.1 ?_) <;> try simp (disch := first | omega | (simp only [go_sem]; first | done | omega)) only [go_sem]))
    all_goals first
      | (refine Next.mk (k + 1) (by grind [bnGo]) ?_; (try simp (disch := first | omega | (simp only [go_sem]; first | done | omega)) only [go_sem]); (first | refine WkL.eq ?_ ?_ | refine WkL.rest (by assumption) ?_ ?_ ?_ | refine WkL.keepL (by assumption) rfl ?_ ?_ ?_ ?_) <;> first | rfl | (simp; done) | (simp; omega) | (simp only [List.cons.injEq, AV.c.injEq, AC.int.injEq, AC.bool.injEq, AC.str.injEq, and_true, true_and, Int.natCast_add, Int.natCast_one, Int.cast_ofNat_Int]; omega) | (simp [AV.ok, AV.ok1, AC.ok]; done) | (simp [AV.ok, AV.ok1, AC.ok]; omega) | (simp only [List.forall_mem_cons, List.not_mem_nil, false_implies, implies_true, and_true]; (repeat' apply And.intro) <;> first | exact okN_map (fun x => by simp [go_sem, AC.pure]) | exact okN_grO (fun x => by simp [go_sem, AC.pure]) | (simp [AObj.okN, AC.ok]; done) | (simp [AObj.okN, AC.ok]; omega)) | (simp [*]; done) | grind)
      | (first | refine Ret.sameE (Nat.le_refl _) (by assumption) ?_ | refine Ret.dropE (by assumption) (Nat.le_refl _) (by assumption) (by simp [AV.ok, AV.ok1, AC.ok]) ?_) <;> grind [bnGo]
  · simp (disch := first | omega | (simp only [go_sem]; first | done | omega)) only [go_sem, hlt]
    have := errGo_end (bnGo step) (prv ⟨0, 0, 0, 0, 0, 0⟩ l k) l k (by omega)
    (first | refine Ret.sameE (Nat.le_refl _) (by assumption) ?_ | refine Ret.dropE (by assumption) (Nat.le_refl _) (by assumption) (by simp [AV.ok, AV.ok1, AC.ok]) ?_) <;> (first | rfl | (simp only [AV.c.injEq, AC.bool.injEq]; rw [Bool.eq_iff_iff]; simp only [Bool.not_eq_true', decide_eq_true_eq, decide_eq_false_iff_not, Bool.and_eq_true, Bool.or_eq_true]; omega) | grind | (simp [*]; done) | (simp [*]; omega))
theorem binsFault_a (l : List Bin) (step : Int) (hlen : l.length ≤ 1099511627776) (hk : K (.c (.int .i64 (bnF l step))) H) : ACalls Tryz.prog 24 [.c (.lst 6 (l.map encN)), (.c (.int .i64 step))] H K := by
  by_cases h0 : isStep step
  case neg =>
    refine acalls Tryz.func24 rfl (by kernel_rfl) (by simp (disch := first | omega | (simp only [go_sem]; first | done | omega)) only [go_sem]) (fun hH => ?_)
    simp (disch := first | omega | (simp only [go_sem]; first | done | omega)) only [go_sem]
    refine stepFault_a _ _ _ ?_
    rw [if_neg h0]
    simp (disch := first | omega | (simp only [go_sem]; first | done | omega)) only [go_sem]
    (first | refine Ret.sameE (Nat.le_refl _) (by assumption) ?_ | refine Ret.dropE (by assumption) (Nat.le_refl _) (by assumption) (by simp [AV.ok, AV.ok1, AC.ok]) ?_) <;> simp [bnF, h0]
  by_cases h6 : 5000 < l.length
  · refine acalls Tryz.func24 rfl (by kernel_rfl) (by simp (disch := first | omega | (simp only [go_sem]; first | done | omega)) only [go_sem]) (fun hH => ?_)
    simp (disch := first | omega | (simp only [go_sem]; first | done | omega)) only [go_sem]
    refine stepFault_a _ _ _ ?_
    rw [if_pos h0]
    simp (disch := first | omega | (simp only [go_sem]; first | done | omega)) only [go_sem]
    (first | refine Ret.sameE (Nat.le_refl _) (by assumption) ?_ | refine Ret.dropE (by assumption) (Nat.le_refl _) (by assumption) (by simp [AV.ok, AV.ok1, AC.ok]) ?_) <;> simp [bnF, h0, h6]
  have hF : bnF l step = errGo (bnGo step) 0 ⟨0, 0, 0, 0, 0, 0⟩ l := by unfold bnF; rw [if_neg (not_not_intro h0), if_neg h6]
  refine acalls Tryz.func24 rfl (by kernel_rfl) (by simp (disch := first | omega | (simp only [go_sem]; first | done | omega)) only [go_sem]) (fun hH => ?_)
  simp (disch := first | omega | (simp only [go_sem]; first | done | omega)) only [go_sem]
  refine stepFault_a _ _ _ ?_
  rw [if_pos h0]
  simp (disch := first | omega | (simp only [go_sem]; first | done | omega)) only [go_sem]
  refine AWp.loop (H.length) [0, 1, 17, 18] [19] (fun (k : Nat) => k ≤ l.length ∧ errGo (bnGo step) k (prv ⟨0, 0, 0, 0, 0, 0⟩ l k) (l.drop k) = errGo (bnGo step) 0 ⟨0, 0, 0, 0, 0, 0⟩ l) (fun (k : Nat) => [(19, (.c (.int .i64 k)))]) (fun (k : Nat) => H) (fun (k : Nat) => l.length - k) (by kernel_rfl) (fun _ => rfl) (by kernel_rfl) (by simp) (by first | (simp; done) | (simp; omega)) (by (try simp only [List.forall_mem_cons, List.not_mem_nil, false_implies, implies_true, and_true]); (try simp (disch := first | omega | (simp only [go_sem]; first | done | omega)) only [go_sem]); all_goals first | trivial | (simp [AV.ok, AV.ok1, AC.ok]; done) | (simp [AV.ok, AV.ok1, AC.ok]; omega) | (simp [AV.ok, AV.ok1, AC.ok]; assumption) | ((repeat' apply And.intro) <;> first | trivial | (simp [AV.ok, AV.ok1, AC.ok]; done) | (simp [AV.ok, AV.ok1, AC.ok]; omega) | (simp [AV.ok, AV.ok1, AC.ok]; assumption) | (refine grV_ok ?_ _; first | (simp; done) | (simp; omega) | omega))) ?_ (fun k hk1 _ _ => ?_)
  · exact Next.mk 0 ⟨by omega, rfl⟩ (by (try simp (disch := first | omega | (simp only [go_sem]; first | done | omega)) only [go_sem]); (first | refine WkL.eq ?_ ?_ | refine WkL.rest (by assumption) ?_ ?_ ?_ | refine WkL.keepL (by assumption) rfl ?_ ?_ ?_ ?_) <;> first | rfl | (simp; done) | (simp; omega) | (simp only [List.cons.injEq, AV.c.injEq, AC.int.injEq, AC.bool.injEq, AC.str.injEq, and_true, true_and, Int.natCast_add, Int.natCast_one, Int.cast_ofNat_Int]; omega) | (simp [AV.ok, AV.ok1, AC.ok]; done) | (simp [AV.ok, AV.ok1, AC.ok]; omega) | (simp only [List.forall_mem_cons, List.not_mem_nil, false_implies, implies_true, and_true]; (repeat' apply And.intro) <;> first | exact okN_map (fun x => by simp [go_sem, AC.pure]) | exact okN_grO (fun x => by simp [go_sem, AC.pure]) | (simp [AObj.okN, AC.ok]; done) | (simp [AObj.okN, AC.ok]; omega)) | (simp [*]; done) | grind)
  obtain ⟨hk1, hk2⟩ := hk1
  by_cases hlt : k < l.length
  · have hs := errGo_step (bnGo step) ⟨0, 0, 0, 0, 0, 0⟩ l k hlt
    have hp : ∀ h : 0 < k, prv ⟨0, 0, 0, 0, 0, 0⟩ l k = l[((k : Int) - 1).toNat]'(by omega) := fun h => by rw [prv_pos _ _ _ hk1 h]; congr 1; omega
    have hv : bnGo step k (prv ⟨0, 0, 0, 0, 0, 0⟩ l k) l[k] ≠ 0 → bnGo step k (prv ⟨0, 0, 0, 0, 0, 0⟩ l k) l[k] = bnF l step := fun h => by rw [hF, ← hk2, hs, if_neg h]
    have hn : bnGo step k (prv ⟨0, 0, 0, 0, 0, 0⟩ l k) l[k] = 0 → errGo (bnGo step) (k + 1) (prv ⟨0, 0, 0, 0, 0, 0⟩ l (k + 1)) (l.drop (k + 1)) = errGo (bnGo step) 0 ⟨0, 0, 0, 0, 0, 0⟩ l := fun h => by rw [← hk2, hs, if_pos h]
    clear hs hF
    simp (disch := first | omega | (simp only [go_sem]; first | done | omega)) only [go_sem, hlt]
    repeat' (first | ((first | refine acond_d ?_ ?_ | refine acond_b ?_ ?_ | refine ag_d ?_ ?_ | refine ag_n ?_ ?_ | refine ag_bt ?_ ?_ | refine ag_bf ?_ ?_) <;> intro c <;> try simp (disch := first | omega | (simp only [go_sem]; first | done | omega)) only [go_sem, c]) | ((first | refine w_draw (by kernel_rfl) (by decide +kernel) ?_ | refine binFaultR_a _ _ h0.1 h0.2.1 ?_) <;> try simp (disch := first | omega | (simp only [go_sem]; first | done | omega)) only [go_sem]))
    all_goals first
      | (refine Next.mk (k + 1) (by grind [bnGo]) ?_; (try simp (disch := first | omega | (simp only [go_sem]; first | done | omega)) only [go_sem]); (first | refine WkL.eq ?_ ?_ | refine WkL.rest (by assumption) ?_ ?_ ?_ | refine WkL.keepL (by assumption) rfl ?_ ?_ ?_ ?_) <;> first | rfl | (simp; done) | (simp; omega) | (simp only [List.cons.injEq, AV.c.injEq, AC.int.injEq, AC.bool.injEq, AC.str.injEq, and_true, true_and, Int.natCast_add, Int.natCast_one, Int.cast_ofNat_Int]; omega) | (simp [AV.ok, AV.ok1, AC.ok]; done) | (simp [AV.ok, AV.ok1, AC.ok]; omega) | (simp only [List.forall_mem_cons, List.not_mem_nil, false_implies, implies_true, and_true]; (repeat' apply And.intro) <;> first | exact okN_map (fun x => by simp [go_sem, AC.pure]) | exact okN_grO (fun x => by simp [go_sem, AC.pure]) | (simp [AObj.okN, AC.ok]; done) | (simp [AObj.okN, AC.ok]; omega)) | (simp [*]; done) | grind)
      | (first | refine Ret.sameE (Nat.le_refl _) (by assumption) ?_ | refine Ret.dropE (by assumption) (Nat.le_refl _) (by assumption) (by simp [AV.ok, AV.ok1, AC.ok]) ?_) <;> grind [bnGo]
  · simp (disch := first | omega | (simp only [go_sem]; first | done | omega)) only [go_sem, hlt]
    have := errGo_end (bnGo step) (prv ⟨0, 0, 0, 0, 0, 0⟩ l k) l k (by omega)
    (first | refine Ret.sameE (Nat.le_refl _) (by assumption) ?_ | refine Ret.dropE (by assumption) (Nat.le_refl _) (by assumption) (by simp [AV.ok, AV.ok1, AC.ok]) ?_) <;> (first | rfl | (simp only [AV.c.injEq, AC.bool.injEq]; rw [Bool.eq_iff_iff]; simp only [Bool.not_eq_true', decide_eq_true_eq, decide_eq_false_iff_not, Bool.and_eq_true, Bool.or_eq_true]; omega) | grind | (simp [*]; done) | (simp [*]; omega))
end Go.Proofs.YthgdllfkejlnmaaGreat
/- Whether bins fit; bins combined by the document. No condition. -/
namespace Go.Proofs.YthgdllfkejlnmaaGreat
open Go Go.RowKit
set_option maxRecDepth 100000
set_option linter.all false
set_option maxHeartbeats 1000000
variable {H : Hp} {K : AV → Hp → Prop}
def bigB (x : Bin) : Bool := decide (5000000 < x.n ∨ 5000000 < x.m)
def fitsE (l : List Bin) : Int := if 5000 < l.length ∨ l.any bigB = true then 2 else 0
end Go.Proofs.YthgdllfkejlnmaaGreat
/- Bins combined by the document: it is what the program puts together. Condition: counts are not negative, sums are small. -/
namespace Go.Proofs.YthgdllfkejlnmaaGreat
open Go Go.RowKit
set_option maxRecDepth 100000
set_option linter.all false
set_option maxHeartbeats 1000000
variable {H : Hp} {K : AV → Hp → Prop}
def Bin.fine (x : Bin) : Prop := 0 ≤ x.n ∧ x.bd 5000000000000
end Go.Proofs.YthgdllfkejlnmaaGreat
/- Few bins sorted in place by their times: equal ones keep their order. Condition: at most 20. -/
namespace Go.Proofs.YthgdllfkejlnmaaGreat
open Go Go.RowKit
set_option maxRecDepth 100000
set_option linter.all false
set_option maxHeartbeats 1000000
variable {H : Hp} {K : AV → Hp → Prop}
def sinkB : Nat → List Bin → List Bin
  | 0, l => l
  | j + 1, l => match l[j + 1]?, l[j]? with
    | some x, some y => if x.a < y.a then sinkB j ((l.set (j + 1) y).set j x) else l
    | _, _ => l
def isortGo : Nat → Nat → List Bin → List Bin
  | 0, _, l => l
  | c + 1, i, l => isortGo c (i + 1) (sinkB i l)
def isortB (l : List Bin) : List Bin := isortGo (l.length - 1) 1 l
theorem sinkB_step (j : Nat) (l : List Bin) (h : j + 1 < l.length) : sinkB (j + 1) l = if l[j + 1].a < l[j].a then sinkB j ((l.set (j + 1) l[j]).set j l[j + 1]) else l := by
  rw [sinkB, List.getElem?_eq_getElem h, List.getElem?_eq_getElem (by omega)]
end Go.Proofs.YthgdllfkejlnmaaGreat
/- Coarser bins: the program and the document's answer. Condition: the bins are right. -/
namespace Go.Proofs.YthgdllfkejlnmaaGreat
open Go Go.RowKit
set_option maxRecDepth 100000
set_option linter.all false
set_option maxHeartbeats 1000000
variable {H : Hp} {K : AV → Hp → Prop}
def toA (to : Int) (x : Bin) : Bin := ⟨x.a / to * to, x.s, x.n, x.m, x.lo, x.hi⟩
def coarse2 (b : List Bin) (step to : Int) : List Bin × Int := if ¬isStep to then ([], 1) else if to % step ≠ 0 then ([], 16) else if fitsE (foldB (b.map (toA to))) ≠ 0 then ([], 2) else (foldB (b.map (toA to)), 0)
def coarseRes (b : List Bin) (step to : Int) : List Bin × Int := if bnF b step ≠ 0 then ([], bnF b step) else coarse2 b step to
def Bin.right (x : Bin) : Prop := 0 ≤ x.a ∧ x.a ≤ 345686399999 ∧ 0 ≤ x.n ∧ x.n ≤ 5000000 ∧ 0 ≤ x.m ∧ x.m ≤ 5000000 ∧ -5000000000000 ≤ x.s ∧ x.s ≤ 5000000000000
theorem bnErr_ok {x : Bin} {step : Int} (h : bnErr x step = 0) : x.right := by
  have hlo : 0 ≤ x.n → x.n ≤ 5000000 → -1000000 ≤ x.lo → x.lo ≤ 1000000 → -5000000000000 ≤ x.n * x.lo ∧ x.n * x.lo ≤ 5000000000000 := mul_bd
  have hhi : 0 ≤ x.n → x.n ≤ 5000000 → -1000000 ≤ x.hi → x.hi ≤ 1000000 → -5000000000000 ≤ x.n * x.hi ∧ x.n * x.hi ≤ 5000000000000 := mul_bd
  unfold bnErr at h
  unfold Bin.right
  repeat' split at h
  all_goals omega
theorem bnF_ok {l : List Bin} {step : Int} (h : bnF l step = 0) : isStep step ∧ l.length ≤ 5000 ∧ ∀ x ∈ l, x.right := by
  unfold bnF at h
  split at h
  · cases h
  · split at h
    · cases h
    · rename_i h1 h2
      refine ⟨Classical.not_not.1 h1, by omega, fun x hx => ?_⟩
      obtain ⟨j, q, h3⟩ := errGo_all (bnGo step) l 0 _ h x hx
      unfold bnGo at h3
      split at h3
      · omega
      · rename_i h4; exact bnErr_ok (Classical.not_not.1 h4)
theorem Bin.right.bd {x : Bin} (h : x.right) : x.bd 5000000000000 := by simp only [Bin.right] at h; simp only [Bin.bd]; omega
theorem fold_bd {l : List Bin} (h : ∀ x ∈ l, x.bd 5000000000000) : (∀ y ∈ foldB l, y.bd (5000000000000 * l.length)) ∧ (foldB l).length ≤ l.length := by
  have key : ∀ (k : Nat), k ≤ l.length → (∀ y ∈ foldB (l.take k), y.bd (5000000000000 * k)) ∧ (foldB (l.take k)).length ≤ k := by
    intro k
    induction k with
    | zero => simp [foldB]
    | succ k ih =>
      intro hk
      obtain ⟨h1, h2⟩ := ih (by omega)
      rw [List.take_succ_eq_append_getElem (by omega), foldB_snoc]
      have := putB_bd2 h1 (h _ (List.getElem_mem (by omega : k < l.length))) (by omega) (by omega)
      refine ⟨fun y hy => ?_, by omega⟩
      have := this.1 y hy
      simp only [Bin.bd] at this ⊢
      omega
  have := key l.length (Nat.le_refl _)
  rwa [List.take_of_length_le (Nat.le_refl _)] at this
theorem fold_take {l : List Bin} (h : ∀ x ∈ l, x.bd 5000000000000) (hl : l.length ≤ 100000) (k : Nat) : (∀ y ∈ foldB (l.take k), y.bd 4611686018427387903) ∧ (foldB (l.take k)).length ≤ 100000 := by
  have := fold_bd (l := l.take k) (fun x hx => h x (List.mem_of_mem_take hx))
  have hl2 : (l.take k).length ≤ l.length := by simp; omega
  refine ⟨fun y hy => ?_, by omega⟩
  have := this.1 y hy
  simp only [Bin.bd] at this ⊢
  omega
theorem fitsE_two (l : List Bin) : fitsE l ≠ 0 → fitsE l = 2 := by
  unfold fitsE
  split
  · intro _; rfl
  · intro h; exact absurd rfl h
end Go.Proofs.YthgdllfkejlnmaaGreat
