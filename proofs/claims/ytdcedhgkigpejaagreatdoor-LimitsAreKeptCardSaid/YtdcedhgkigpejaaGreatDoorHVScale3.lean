/- Values scaled and limited: the rest. Condition: numbers as they are in memory. -/
import Derived.Test.YtdcedhgkigpejaaGreatDoorHVGF
namespace Go.Proofs.YtdcedhgkigpejaaGreatDoor
open Go Go.RowKit
set_option maxRecDepth 100000
set_option linter.all false
set_option maxHeartbeats 1000000
variable {H : Hp} {K : AV → Hp → Prop}
theorem round_sign (m d : Int) (hd : 1 ≤ d) : (2 * max m (0 - m) + d) / (2 * d) * (if m < 0 then -1 else if 0 < m then 1 else 0) = roundF m d := by
  unfold roundF
  by_cases h1 : m < 0
  · rw [if_pos h1, if_pos h1, show max m (0 - m) = 0 - m by omega]
    omega
  · rw [if_neg h1, if_neg h1, show max m (0 - m) = m by omega]
    by_cases h2 : 0 < m
    · rw [if_pos h2]; omega
    · have : m = 0 := by omega
      subst this
      rw [if_neg h2, Int.mul_zero, Int.mul_zero, Int.zero_add]
      exact (Int.ediv_eq_zero_of_lt (by omega) (by omega)).symm
theorem limit_a (l : List Smp) (lo hi : Int) (hl : l.length ≤ 1099511627776) (hk : K (.tup [.c (.lst 3 ((limRes l lo hi).1.map encS)), (.c (.int .i64 ((limRes l lo hi).2)))]) H) : ACalls Tryz.prog 30 [.c (.lst 3 (l.map encS)), (.c (.int .i64 lo)), (.c (.int .i64 hi))] H K := by
  by_cases h1 : serF l = 0
  case neg =>
    rw [show limRes l lo hi = ([], serF l) by unfold limRes; rw [if_pos h1]] at hk
    refine acalls Tryz.func30 rfl (by kernel_rfl) (by simp (disch := first | omega | (simp only [go_sem]; first | done | omega)) only [go_sem]) (fun hH => ?_)
    simp (disch := first | omega | (simp only [go_sem]; first | done | omega)) only [go_sem]
    refine checkSeries_a l hl ?_
    simp (disch := first | omega | (simp only [go_sem]; first | done | omega)) only [go_sem, h1]
    exact Ret.nilS (Nat.le_refl _) rfl hk
  by_cases h2 : lo < -1000000 ∨ hi < lo ∨ 1000000 < hi
  · rw [show limRes l lo hi = ([], 1) by unfold limRes limE; rw [if_neg (by simp [h1]), if_pos h2]; rfl] at hk
    refine acalls Tryz.func30 rfl (by kernel_rfl) (by simp (disch := first | omega | (simp only [go_sem]; first | done | omega)) only [go_sem]) (fun hH => ?_)
    simp (disch := first | omega | (simp only [go_sem]; first | done | omega)) only [go_sem]
    repeat' (first | ((first | refine acond_d ?_ ?_ | refine acond_b ?_ ?_ | refine ag_d ?_ ?_ | refine ag_n ?_ ?_ | refine ag_bt ?_ ?_ | refine ag_bf ?_ ?_) <;> intro c <;> try simp (disch := first | omega | (simp only [go_sem]; first | done | omega)) only [go_sem, c, h1]) | ((first | refine w_draw (by kernel_rfl) (by decide +kernel) ?_ | refine checkSeries_a l hl ?_ | refine out_a _ _ _ _ _ ?_) <;> try simp (disch := first | omega | (simp only [go_sem]; first | done | omega)) only [go_sem, h1]))
    all_goals first
      | exact Ret.nilS (Nat.le_refl _) rfl hk
      | (exfalso; grind)
  rw [show limRes l lo hi = (l.map (limitF lo hi), 0) by unfold limRes limE; rw [if_neg (by simp [h1]), if_neg h2]; rfl] at hk
  obtain ⟨s1, s2⟩ := serF_ok' h1
  refine acalls Tryz.func30 rfl (by kernel_rfl) (by simp (disch := first | omega | (simp only [go_sem]; first | done | omega)) only [go_sem]) (fun hH => ?_)
  simp (disch := first | omega | (simp only [go_sem]; first | done | omega)) only [go_sem]
  refine checkSeries_a l hl ?_
  simp (disch := first | omega | (simp only [go_sem]; first | done | omega)) only [go_sem, h1]
  refine out_a _ _ _ _ _ ?_
  simp (disch := first | omega | (simp only [go_sem]; first | done | omega)) only [go_sem]
  refine cloneS_a l (by omega) ?_
  by_cases hne : l = []
  · subst hne
    simp (disch := first | omega | (simp only [go_sem]; first | done | omega)) only [go_sem, clV_nil, grO_nil]
    refine AWp.rounds 0 (by kernel_rfl) ?_
    simp (disch := first | omega | (simp only [go_sem]; first | done | omega)) only [go_sem]
    exact Ret.drop hH (Nat.le_refl _) (by simp [AV.ok, AV.ok1, AC.ok]) hk
  have hne2 : l.map encS ≠ [] := by simpa using hne
  rw [clV_pos _ _ hne2, grO_pos _ _ hne2]
  simp (disch := first | omega | (simp only [go_sem]; first | done | omega)) only [go_sem]
  refine AWp.loop (H.length + 1) [1, 2, 9, 28] [29] (fun (k : Nat) => k ≤ l.length) (fun (k : Nat) => [(29, (.c (.int .i64 k)))]) (fun (k : Nat) => H ++ [.row 60 3 ((updF (limitF lo hi) k l).map encS) true]) (fun (k : Nat) => l.length - k) (by kernel_rfl) (fun _ => rfl) (by kernel_rfl) (by simp) (by first | (simp; done) | (simp; omega)) (by (try simp only [List.forall_mem_cons, List.not_mem_nil, false_implies, implies_true, and_true]); (try simp (disch := first | omega | (simp only [go_sem]; first | done | omega)) only [go_sem]); all_goals first | trivial | (simp [AV.ok, AV.ok1, AC.ok]; done) | (simp [AV.ok, AV.ok1, AC.ok]; omega) | (simp [AV.ok, AV.ok1, AC.ok]; assumption) | ((repeat' apply And.intro) <;> first | trivial | (simp [AV.ok, AV.ok1, AC.ok]; done) | (simp [AV.ok, AV.ok1, AC.ok]; omega) | (simp [AV.ok, AV.ok1, AC.ok]; assumption) | (refine grV_ok ?_ _; first | (simp; done) | (simp; omega) | omega))) ?_ (fun k hkb _ _ => ?_)
  · exact Next.mk 0 (by omega) (by rw [updF_zero]; (try simp (disch := first | omega | (simp only [go_sem]; first | done | omega)) only [go_sem]); (first | refine WkL.eq ?_ ?_ | refine WkL.rest (by assumption) ?_ ?_ ?_ | refine WkL.keepL (by assumption) rfl ?_ ?_ ?_ ?_) <;> first | rfl | (simp; done) | (simp; omega) | (simp only [List.cons.injEq, AV.c.injEq, AC.int.injEq, AC.bool.injEq, AC.str.injEq, and_true, true_and, Int.natCast_add, Int.natCast_one, Int.cast_ofNat_Int]; omega) | (simp [AV.ok, AV.ok1, AC.ok]; done) | (simp [AV.ok, AV.ok1, AC.ok]; omega) | (simp only [List.forall_mem_cons, List.not_mem_nil, false_implies, implies_true, and_true]; (repeat' apply And.intro) <;> first | exact okN_map (fun x => by simp [go_sem, AC.pure]) | exact okN_grO (fun x => by simp [go_sem, AC.pure]) | (simp [AObj.okN, AC.ok]; done) | (simp [AObj.okN, AC.ok]; omega)) | (simp [*]; done) | grind)
  by_cases hlt : k < l.length
  · have hat := updF_at (limitF lo hi) k l hlt
    have hset := updF_set (limitF lo hi) k l hlt
    have hsame := updF_same (limitF lo hi) k l hlt
    obtain ⟨q1, q2, q3, q4⟩ := smp_ok' (s2 l[k] (List.getElem_mem hlt))
    by_cases hc : l[k].q ≠ 2 ∧ min (max l[k].v lo) hi ≠ l[k].v
    · have e : limitF lo hi l[k] = ⟨l[k].t, min (max l[k].v lo) hi, 1⟩ := by unfold limitF; rw [if_pos hc]
      have hs2 := setEnc (updF (limitF lo hi) k l) k ⟨l[k].t, min (max l[k].v lo) hi, 1⟩ (updF (limitF lo hi) (k + 1) l) (by rw [← e]; exact hset)
      simp only [encS] at hs2
      simp (disch := first | omega | (simp only [go_sem]; first | done | omega)) only [go_sem, hat, hc.1, hc.2, hs2]
      exact Next.mk (k + 1) ⟨by omega, by omega⟩ (by (try simp (disch := first | omega | (simp only [go_sem]; first | done | omega)) only [go_sem]); (first | refine WkL.eq ?_ ?_ | refine WkL.rest (by assumption) ?_ ?_ ?_ | refine WkL.keepL (by assumption) rfl ?_ ?_ ?_ ?_) <;> first | rfl | (simp; done) | (simp; omega) | (simp only [List.cons.injEq, AV.c.injEq, AC.int.injEq, AC.bool.injEq, AC.str.injEq, and_true, true_and, Int.natCast_add, Int.natCast_one, Int.cast_ofNat_Int]; omega) | (simp [AV.ok, AV.ok1, AC.ok]; done) | (simp [AV.ok, AV.ok1, AC.ok]; omega) | (simp only [List.forall_mem_cons, List.not_mem_nil, false_implies, implies_true, and_true]; (repeat' apply And.intro) <;> first | exact okN_map (fun x => by simp [go_sem, AC.pure]) | exact okN_grO (fun x => by simp [go_sem, AC.pure]) | (simp [AObj.okN, AC.ok]; done) | (simp [AObj.okN, AC.ok]; omega)) | (simp [*]; done) | grind)
    · have e := hsame (by unfold limitF; rw [if_neg hc])
      simp (disch := first | omega | (simp only [go_sem]; first | done | omega)) only [go_sem, hat]
      repeat' (first | ((first | refine acond_d ?_ ?_ | refine acond_b ?_ ?_ | refine ag_d ?_ ?_ | refine ag_n ?_ ?_ | refine ag_bt ?_ ?_ | refine ag_bf ?_ ?_) <;> intro c <;> try simp (disch := first | omega | (simp only [go_sem]; first | done | omega)) only [go_sem, c, hat]) | ((first | refine w_draw (by kernel_rfl) (by decide +kernel) ?_) <;> try simp (disch := first | omega | (simp only [go_sem]; first | done | omega)) only [go_sem, hat]))
      all_goals first
        | exact Next.mk (k + 1) ⟨by omega, by omega⟩ (by rw [e]; (try simp (disch := first | omega | (simp only [go_sem]; first | done | omega)) only [go_sem]); (first | refine WkL.eq ?_ ?_ | refine WkL.rest (by assumption) ?_ ?_ ?_ | refine WkL.keepL (by assumption) rfl ?_ ?_ ?_ ?_) <;> first | rfl | (simp; done) | (simp; omega) | (simp only [List.cons.injEq, AV.c.injEq, AC.int.injEq, AC.bool.injEq, AC.str.injEq, and_true, true_and, Int.natCast_add, Int.natCast_one, Int.cast_ofNat_Int]; omega) | (simp [AV.ok, AV.ok1, AC.ok]; done) | (simp [AV.ok, AV.ok1, AC.ok]; omega) | (simp only [List.forall_mem_cons, List.not_mem_nil, false_implies, implies_true, and_true]; (repeat' apply And.intro) <;> first | exact okN_map (fun x => by simp [go_sem, AC.pure]) | exact okN_grO (fun x => by simp [go_sem, AC.pure]) | (simp [AObj.okN, AC.ok]; done) | (simp [AObj.okN, AC.ok]; omega)) | (simp [*]; done) | grind)
        | (exfalso; grind)
  · have hke : k = l.length := by omega
    subst hke
    rw [updF_all]
    simp (disch := first | omega | (simp only [go_sem]; first | done | omega)) only [go_sem]
    exact Ret.frzAt 0 hH (Nat.le_refl _) hk rfl (pureL_map _ (fun x => by simp [AC.pure])) (by simp [AV.ok, AV.ok1, AC.ok]) (by simp [AV.frz, AV.frz1, AC.frz]; rw [List.take_of_length_le (by simp)])
end Go.Proofs.YtdcedhgkigpejaaGreatDoor
