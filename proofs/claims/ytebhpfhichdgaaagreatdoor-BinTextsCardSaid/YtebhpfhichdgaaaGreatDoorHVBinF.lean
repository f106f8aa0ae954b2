/- What is wrong with bins, in the program and in the document's answer; whether bins fit. No condition. -/
import Derived.Test.YtebhpfhichdgaaaGreatDoorHVGB
namespace Go.Proofs.YtebhpfhichdgaaaGreatDoor
open Go Go.RowKit
set_option maxRecDepth 100000
set_option linter.all false
set_option maxHeartbeats 1000000
variable {H : Hp} {K : AV → Hp → Prop}
def bnErr (x : Bin) (step : Int) : Int :=
  if x.a < 0 ∨ 345686399999 < x.a ∨ x.a % step ≠ 0 ∨ x.n < 0 ∨ 5000000 < x.n ∨ x.m < 0 ∨ 5000000 < x.m then 1
  else if x.n = 0 ∧ x.m = 0 then 8
  else if x.lo < -1000000 ∨ 1000000 < x.lo ∨ x.hi < -1000000 ∨ 1000000 < x.hi then 1
  else if x.n = 0 ∧ (x.s ≠ 0 ∨ x.lo ≠ 0 ∨ x.hi ≠ 0) then 3
  else if x.s < x.n * x.lo ∨ x.n * x.hi < x.s then 3 else 0
theorem mul_bd {n v : Int} (h0 : 0 ≤ n) (h1 : n ≤ 5000000) (h2 : -1000000 ≤ v) (h3 : v ≤ 1000000) : -5000000000000 ≤ n * v ∧ n * v ≤ 5000000000000 := by
  have a1 : n * -1000000 ≤ n * v := Int.mul_le_mul_of_nonneg_left h2 h0
  have a2 : n * v ≤ n * 1000000 := Int.mul_le_mul_of_nonneg_left h3 h0
  omega
theorem binFault_a (x : Bin) (step : Int) (h1 : 1 ≤ step) (h2 : step ≤ 86400000) (hk : K (.c (.int .i64 (bnErr x step))) H) : ACalls Tryz.prog 165 [.agg (encN x), (.c (.int .i64 step))] H K := by
  have hlo : 0 ≤ x.n → x.n ≤ 5000000 → -1000000 ≤ x.lo → x.lo ≤ 1000000 → -5000000000000 ≤ x.n * x.lo ∧ x.n * x.lo ≤ 5000000000000 := mul_bd
  have hhi : 0 ≤ x.n → x.n ≤ 5000000 → -1000000 ≤ x.hi → x.hi ≤ 1000000 → -5000000000000 ≤ x.n * x.hi ∧ x.n * x.hi ≤ 5000000000000 := mul_bd
  refine acalls Tryz.func165 rfl (by kernel_rfl) (by simp (disch := first | omega | (simp only [go_sem]; first | done | omega)) only [go_sem]) (fun hH => ?_)
  simp (disch := first | omega | (simp only [go_sem]; first | done | omega)) only [go_sem]
  repeat' (first | ((first | refine acond_d ?_ ?_ | refine acond_b ?_ ?_ | refine ag_d ?_ ?_ | refine ag_n ?_ ?_ | refine ag_bt ?_ ?_ | refine ag_bf ?_ ?_) <;> intro c <;> try simp (disch := first | omega | (simp only [go_sem]; first | done | omega)) only [go_sem, c]) | ((first | refine w_draw (by kernel_rfl) (by decide +kernel) ?_ | refine moment_a _ _ _ ?_ | refine out_a _ _ _ _ _ ?_) <;> try simp (disch := first | omega | (simp only [go_sem]; first | done | omega)) only [go_sem]))
  all_goals (first | refine Ret.sameE (Nat.le_refl _) (by assumption) ?_ | refine Ret.dropE (by assumption) (Nat.le_refl _) (by assumption) (by simp [AV.ok, AV.ok1, AC.ok]) ?_) <;> grind [bnErr]
theorem binFaultR_a (x : Bin) (step : Int) (h1 : 1 ≤ step) (h2 : step ≤ 86400000) (hk : K (.c (.int .i64 (bnErr x step))) H) : ACalls Tryz.prog 82 [.agg (encN x), (.c (.int .i64 step))] H K := by
  have hlo : 0 ≤ x.n → x.n ≤ 5000000 → -1000000 ≤ x.lo → x.lo ≤ 1000000 → -5000000000000 ≤ x.n * x.lo ∧ x.n * x.lo ≤ 5000000000000 := mul_bd
  have hhi : 0 ≤ x.n → x.n ≤ 5000000 → -1000000 ≤ x.hi → x.hi ≤ 1000000 → -5000000000000 ≤ x.n * x.hi ∧ x.n * x.hi ≤ 5000000000000 := mul_bd
  refine acalls Tryz.func82 rfl (by kernel_rfl) (by simp (disch := first | omega | (simp only [go_sem]; first | done | omega)) only [go_sem]) (fun hH => ?_)
  simp (disch := first | omega | (simp only [go_sem]; first | done | omega)) only [go_sem]
  repeat' (first | ((first | refine acond_d ?_ ?_ | refine acond_b ?_ ?_ | refine ag_d ?_ ?_ | refine ag_n ?_ ?_ | refine ag_bt ?_ ?_ | refine ag_bf ?_ ?_) <;> intro c <;> try simp (disch := first | omega | (simp only [go_sem]; first | done | omega)) only [go_sem, c]) | ((first | refine w_draw (by kernel_rfl) (by decide +kernel) ?_ | refine momentR_a _ _ _ ?_ | refine in_a _ _ _ _ _ ?_) <;> try simp (disch := first | omega | (simp only [go_sem]; first | done | omega)) only [go_sem]))
  all_goals (first | refine Ret.sameE (Nat.le_refl _) (by assumption) ?_ | refine Ret.dropE (by assumption) (Nat.le_refl _) (by assumption) (by simp [AV.ok, AV.ok1, AC.ok]) ?_) <;> grind [bnErr]
def bnGo (step : Int) (i : Nat) (p x : Bin) : Int := if bnErr x step ≠ 0 then bnErr x step else if 0 < i ∧ x.a ≤ p.a then 7 else 0
def bnF (l : List Bin) (step : Int) : Int := if ¬isStep step then 1 else if 5000 < l.length then 2 else errGo (bnGo step) 0 ⟨0, 0, 0, 0, 0, 0⟩ l
theorem checkBins_a (l : List Bin) (step : Int) (hlen : l.length ≤ 1099511627776) (hk : K (.c (.int .i64 (bnF l step))) H) : ACalls Tryz.prog 76 [.c (.lst 6 (l.map encN)), (.c (.int .i64 step))] H K := by
  by_cases h0 : isStep step
  case neg =>
    refine acalls Tryz.func76 rfl (by kernel_rfl) (by simp (disch := first | omega | (simp only [go_sem]; first | done | omega)) only [go_sem]) (fun hH => ?_)
    simp (disch := first | omega | (simp only [go_sem]; first | done | omega)) only [go_sem]
    repeat' (first | ((first | refine acond_d ?_ ?_ | refine acond_b ?_ ?_ | refine ag_d ?_ ?_ | refine ag_n ?_ ?_ | refine ag_bt ?_ ?_ | refine ag_bf ?_ ?_) <;> intro c <;> try simp (disch := first | omega | (simp only [go_sem]; first | done | omega)) only [go_sem, c]) | ((first | refine w_draw (by kernel_rfl) (by decide +kernel) ?_ | refine isStep_a _ _ _ ?_) <;> try simp (disch := first | omega | (simp only [go_sem]; first | done | omega)) only [go_sem]))
    all_goals (first | refine Ret.sameE (Nat.le_refl _) (by assumption) ?_ | refine Ret.dropE (by assumption) (Nat.le_refl _) (by assumption) (by simp [AV.ok, AV.ok1, AC.ok]) ?_) <;> simp [bnF, h0]
  by_cases h6 : 5000 < l.length
  · refine acalls Tryz.func76 rfl (by kernel_rfl) (by simp (disch := first | omega | (simp only [go_sem]; first | done | omega)) only [go_sem]) (fun hH => ?_)
    simp (disch := first | omega | (simp only [go_sem]; first | done | omega)) only [go_sem]
    repeat' (first | ((first | refine acond_d ?_ ?_ | refine acond_b ?_ ?_ | refine ag_d ?_ ?_ | refine ag_n ?_ ?_ | refine ag_bt ?_ ?_ | refine ag_bf ?_ ?_) <;> intro c <;> try simp (disch := first | omega | (simp only [go_sem]; first | done | omega)) only [go_sem, c]) | ((first | refine w_draw (by kernel_rfl) (by decide +kernel) ?_ | refine isStep_a _ _ _ ?_) <;> try simp (disch := first | omega | (simp only [go_sem]; first | done | omega)) only [go_sem]))
    all_goals (first | refine Ret.sameE (Nat.le_refl _) (by assumption) ?_ | refine Ret.dropE (by assumption) (Nat.le_refl _) (by assumption) (by simp [AV.ok, AV.ok1, AC.ok]) ?_) <;> simp [bnF, h0, h6]
  have hF : bnF l step = errGo (bnGo step) 0 ⟨0, 0, 0, 0, 0, 0⟩ l := by unfold bnF; rw [if_neg (not_not_intro h0), if_neg h6]
  refine acalls Tryz.func76 rfl (by kernel_rfl) (by simp (disch := first | omega | (simp only [go_sem]; first | done | omega)) only [go_sem]) (fun hH => ?_)
  simp (disch := first | omega | (simp only [go_sem]; first | done | omega)) only [go_sem]
  refine isStep_a _ _ _ ?_
  simp (disch := first | omega | (simp only [go_sem]; first | done | omega)) only [go_sem, h0]
  refine AWp.loop (H.length) [0, 1, 16, 17] [18] (fun (k : Nat) => k ≤ l.length ∧ errGo (bnGo step) k (prv ⟨0, 0, 0, 0, 0, 0⟩ l k) (l.drop k) = errGo (bnGo step) 0 ⟨0, 0, 0, 0, 0, 0⟩ l) (fun (k : Nat) => [(18, (.c (.int .i64 k)))]) (fun (k : Nat) => H) (fun (k : Nat) => l.length - k) (by kernel_rfl) (fun _ => rfl) (by kernel_rfl) (by first | (simp; done) | omega) (by first | (simp; done) | (simp; omega) | omega) kl ?_ (fun k hk1 _ _ => ?_)
  · exact Next.mk 0 ⟨by omega, rfl⟩ wk
  obtain ⟨hk1, hk2⟩ := hk1
  by_cases hlt : k < l.length
  · have hs := errGo_step (bnGo step) ⟨0, 0, 0, 0, 0, 0⟩ l k hlt
    have hp : ∀ h : 0 < k, prv ⟨0, 0, 0, 0, 0, 0⟩ l k = l[((k : Int) - 1).toNat]'(by omega) := fun h => by rw [prv_pos _ _ _ hk1 h]; congr 1; omega
    have hv : bnGo step k (prv ⟨0, 0, 0, 0, 0, 0⟩ l k) l[k] ≠ 0 → bnGo step k (prv ⟨0, 0, 0, 0, 0, 0⟩ l k) l[k] = bnF l step := fun h => by rw [hF, ← hk2, hs, if_neg h]
    have hn : bnGo step k (prv ⟨0, 0, 0, 0, 0, 0⟩ l k) l[k] = 0 → errGo (bnGo step) (k + 1) (prv ⟨0, 0, 0, 0, 0, 0⟩ l (k + 1)) (l.drop (k + 1)) = errGo (bnGo step) 0 ⟨0, 0, 0, 0, 0, 0⟩ l := fun h => by rw [← hk2, hs, if_pos h]
    clear hs hF
    simp (disch := first | omega | (simp only [go_sem]; first | done | omega)) only [go_sem, hlt]
    repeat' (first | ((first | refine acond_d ?_ ?_ | refine acond_b ?_ ?_ | refine ag_d ?_ ?_ | refine ag_n ?_ ?_ | refine ag_bt ?_ ?_ | refine ag_bf ?_ ?_) <;> intro c <;> try simp (disch := first | omega | (simp only [go_sem]; first | done | omega)) only [go_sem, c]) | ((first | refine w_draw (by kernel_rfl) (by decide +kernel) ?_ | refine binFault_a _ _ h0.1 h0.2.1 ?_) <;> try simp (disch := first | omega | (simp only [go_sem]; first | done | omega)) only [go_sem]))
    all_goals first
      | (refine Next.mk (k + 1) (by grind [bnGo]) ?_; exact wk)
      | (first | refine Ret.sameE (Nat.le_refl _) (by assumption) ?_ | refine Ret.dropE (by assumption) (Nat.le_refl _) (by assumption) (by simp [AV.ok, AV.ok1, AC.ok]) ?_) <;> grind [bnGo]
  · simp (disch := first | omega | (simp only [go_sem]; first | done | omega)) only [go_sem, hlt]
    have := errGo_end (bnGo step) (prv ⟨0, 0, 0, 0, 0, 0⟩ l k) l k (by omega)
    (first | refine Ret.sameE (Nat.le_refl _) (by assumption) ?_ | refine Ret.dropE (by assumption) (Nat.le_refl _) (by assumption) (by simp [AV.ok, AV.ok1, AC.ok]) ?_) <;> (first | rfl | (simp only [AV.c.injEq, AC.bool.injEq]; rw [Bool.eq_iff_iff]; simp only [Bool.not_eq_true', decide_eq_true_eq, decide_eq_false_iff_not, Bool.and_eq_true, Bool.or_eq_true]; omega) | grind | (simp [*]; done) | (simp [*]; omega))
theorem binsFault_a (l : List Bin) (step : Int) (hlen : l.length ≤ 1099511627776) (hk : K (.c (.int .i64 (bnF l step))) H) : ACalls Tryz.prog 14 [.c (.lst 6 (l.map encN)), (.c (.int .i64 step))] H K := by
  by_cases h0 : isStep step
  case neg =>
    refine acalls Tryz.func14 rfl (by kernel_rfl) (by simp (disch := first | omega | (simp only [go_sem]; first | done | omega)) only [go_sem]) (fun hH => ?_)
    simp (disch := first | omega | (simp only [go_sem]; first | done | omega)) only [go_sem]
    refine stepFault_a _ _ _ ?_
    rw [if_neg h0]
    simp (disch := first | omega | (simp only [go_sem]; first | done | omega)) only [go_sem]
    (first | refine Ret.sameE (Nat.le_refl _) (by assumption) ?_ | refine Ret.dropE (by assumption) (Nat.le_refl _) (by assumption) (by simp [AV.ok, AV.ok1, AC.ok]) ?_) <;> simp [bnF, h0]
  by_cases h6 : 5000 < l.length
  · refine acalls Tryz.func14 rfl (by kernel_rfl) (by simp (disch := first | omega | (simp only [go_sem]; first | done | omega)) only [go_sem]) (fun hH => ?_)
    simp (disch := first | omega | (simp only [go_sem]; first | done | omega)) only [go_sem]
    refine stepFault_a _ _ _ ?_
    rw [if_pos h0]
    simp (disch := first | omega | (simp only [go_sem]; first | done | omega)) only [go_sem]
    (first | refine Ret.sameE (Nat.le_refl _) (by assumption) ?_ | refine Ret.dropE (by assumption) (Nat.le_refl _) (by assumption) (by simp [AV.ok, AV.ok1, AC.ok]) ?_) <;> simp [bnF, h0, h6]
  have hF : bnF l step = errGo (bnGo step) 0 ⟨0, 0, 0, 0, 0, 0⟩ l := by unfold bnF; rw [if_neg (not_not_intro h0), if_neg h6]
  refine acalls Tryz.func14 rfl (by kernel_rfl) (by simp (disch := first | omega | (simp only [go_sem]; first | done | omega)) only [go_sem]) (fun hH => ?_)
  simp (disch := first | omega | (simp only [go_sem]; first | done | omega)) only [go_sem]
  refine stepFault_a _ _ _ ?_
  rw [if_pos h0]
  simp (disch := first | omega | (simp only [go_sem]; first | done | omega)) only [go_sem]
  refine AWp.loop (H.length) [0, 1, 17, 18] [19] (fun (k : Nat) => k ≤ l.length ∧ errGo (bnGo step) k (prv ⟨0, 0, 0, 0, 0, 0⟩ l k) (l.drop k) = errGo (bnGo step) 0 ⟨0, 0, 0, 0, 0, 0⟩ l) (fun (k : Nat) => [(19, (.c (.int .i64 k)))]) (fun (k : Nat) => H) (fun (k : Nat) => l.length - k) (by kernel_rfl) (fun _ => rfl) (by kernel_rfl) (by first | (simp; done) | omega) (by first | (simp; done) | (simp; omega) | omega) kl ?_ (fun k hk1 _ _ => ?_)
  · exact Next.mk 0 ⟨by omega, rfl⟩ wk
  obtain ⟨hk1, hk2⟩ := hk1
  by_cases hlt : k < l.length
  · have hs := errGo_step (bnGo step) ⟨0, 0, 0, 0, 0, 0⟩ l k hlt
    have hp : ∀ h : 0 < k, prv ⟨0, 0, 0, 0, 0, 0⟩ l k = l[((k : Int) - 1).toNat]'(by omega) := fun h => by rw [prv_pos _ _ _ hk1 h]; congr 1; omega
    have hv : bnGo step k (prv ⟨0, 0, 0, 0, 0, 0⟩ l k) l[k] ≠ 0 → bnGo step k (prv ⟨0, 0, 0, 0, 0, 0⟩ l k) l[k] = bnF l step := fun h => by rw [hF, ← hk2, hs, if_neg h]
    have hn : bnGo step k (prv ⟨0, 0, 0, 0, 0, 0⟩ l k) l[k] = 0 → errGo (bnGo step) (k + 1) (prv ⟨0, 0, 0, 0, 0, 0⟩ l (k + 1)) (l.drop (k + 1)) = errGo (bnGo step) 0 ⟨0, 0, 0, 0, 0, 0⟩ l := fun h => by rw [← hk2, hs, if_pos h]
    clear hs hF
    simp (disch := first | omega | (simp only [go_sem]; first | done | omega)) only [go_sem, hlt]
    repeat' (first | ((first | refine acond_d ?_ ?_ | refine acond_b ?_ ?_ | refine ag_d ?_ ?_ | refine ag_n ?_ ?_ | refine ag_bt ?_ ?_ | refine ag_bf ?_ ?_) <;> intro c <;> try simp (disch := first | omega | (simp only [go_sem]; first | done | omega)) only [go_sem, c]) | ((first | refine w_draw (by kernel_rfl) (by decide +kernel) ?_ | refine binFaultR_a _ _ h0.1 h0.2.1 ?_) <;> try simp (disch := first | omega | (simp only [go_sem]; first | done | omega)) only [go_sem]))
    all_goals first
      | (refine Next.mk (k + 1) (by grind [bnGo]) ?_; exact wk)
      | (first | refine Ret.sameE (Nat.le_refl _) (by assumption) ?_ | refine Ret.dropE (by assumption) (Nat.le_refl _) (by assumption) (by simp [AV.ok, AV.ok1, AC.ok]) ?_) <;> grind [bnGo]
  · simp (disch := first | omega | (simp only [go_sem]; first | done | omega)) only [go_sem, hlt]
    have := errGo_end (bnGo step) (prv ⟨0, 0, 0, 0, 0, 0⟩ l k) l k (by omega)
    (first | refine Ret.sameE (Nat.le_refl _) (by assumption) ?_ | refine Ret.dropE (by assumption) (Nat.le_refl _) (by assumption) (by simp [AV.ok, AV.ok1, AC.ok]) ?_) <;> (first | rfl | (simp only [AV.c.injEq, AC.bool.injEq]; rw [Bool.eq_iff_iff]; simp only [Bool.not_eq_true', decide_eq_true_eq, decide_eq_false_iff_not, Bool.and_eq_true, Bool.or_eq_true]; omega) | grind | (simp [*]; done) | (simp [*]; omega))
end Go.Proofs.YtebhpfhichdgaaaGreatDoor
