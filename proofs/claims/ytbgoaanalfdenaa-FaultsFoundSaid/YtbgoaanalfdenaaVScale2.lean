/- Values scaled: the program. Condition: numbers as they are in memory. -/
import Derived.Test.YtbgoaanalfdenaaVScale
namespace Go.Proofs.Ytbgoaanalfdenaa
open Go Go.RowKit
set_option maxRecDepth 100000
set_option linter.all false
set_option maxHeartbeats 1000000
variable {H : Hp} {K : AV → Hp → Prop}
attribute [go_sem] updF_len
theorem roundF_bd (a b : Int) (ha : -4000000000000 ≤ a ∧ a ≤ 4000000000000) (hb : 1 ≤ b ∧ b ≤ 1000000) : -9000000000000 ≤ roundF a b ∧ roundF a b ≤ 9000000000000 := by
  unfold roundF
  split
  · have h1 := div_bd (2 * (0 - a) + b) (2 * b) (by omega); omega
  · have h1 := div_bd (2 * a + b) (2 * b) (by omega); omega
theorem smp_ok' {x : Smp} (h : smpErr x = 0) : (0 ≤ x.t ∧ x.t ≤ 345686399999) ∧ (0 ≤ x.q ∧ x.q ≤ 2) ∧ (-1000000 ≤ x.v ∧ x.v ≤ 1000000) ∧ (x.q = 2 → x.v = 0) := by
  grind [smpErr]
theorem errGo_all' {α : Type} (f : Nat → α → α → Int) : ∀ (l : List α) (k : Nat) (p : α), errGo f k p l = 0 → ∀ x ∈ l, ∃ j q, f j q x = 0
  | [], _, _, _ => by simp
  | y :: t, k, p, h => by
    intro x hx
    unfold errGo at h
    split at h
    · rename_i h0
      rcases List.mem_cons.1 hx with rfl | hx
      · exact ⟨_, _, h0⟩
      · exact errGo_all' f t _ _ h x hx
    · rename_i h0; exact absurd h h0
theorem serF_ok' {l : List Smp} (h : serF l = 0) : l.length ≤ 5000 ∧ ∀ x ∈ l, smpErr x = 0 := by
  unfold serF at h
  split at h
  · cases h
  · refine ⟨by omega, fun x hx => ?_⟩
    obtain ⟨j, q, h1⟩ := errGo_all' serErr l 0 _ h x hx
    unfold serErr at h1
    split at h1
    · rename_i h2; exact absurd h1 h2
    · rename_i h2; exact Classical.byContradiction fun h3 => h2 h3
theorem setEnc (l : List Smp) (k : Nat) (x : Smp) (l' : List Smp) (h : l.set k x = l') : (l.map encS).set k (encS x) = l'.map encS := by rw [← h, List.map_set]
theorem mul_bd {a b : Int} (h1 : -1000000 ≤ a) (h2 : a ≤ 1000000) (h3 : -1000000 ≤ b) (h4 : b ≤ 1000000) : -1000000000000 ≤ a * b ∧ a * b ≤ 1000000000000 := by
  have e1 : (a * b).natAbs = a.natAbs * b.natAbs := Int.natAbs_mul a b
  have e2 : a.natAbs * b.natAbs ≤ 1000000 * 1000000 := Nat.mul_le_mul (by omega) (by omega)
  omega
theorem scale_a (l : List Smp) (n d off : Int) (hl : l.length ≤ 1099511627776) (hn : -9223372036854775808 ≤ n ∧ n ≤ 9223372036854775807) (hd : d ≤ 9223372036854775807) (hk : K (.tup [.c (.lst 3 ((scaleRes l n d off).1.map encS)), (.c (.int .i64 ((scaleRes l n d off).2)))]) H) : ACalls Try.prog 9 [.c (.lst 3 (l.map encS)), .agg [.int .i64 n, .int .i64 d], (.c (.int .i64 off))] H K := by
  by_cases h1 : serF l = 0
  case neg =>
    rw [show scaleRes l n d off = ([], serF l) by unfold scaleRes; rw [if_pos h1]] at hk
    refine acalls Try.func9 rfl (by kernel_rfl) (by simp (disch := first | omega | (simp only [go_sem]; first | done | omega)) only [go_sem]) (fun hH => ?_)
    simp (disch := first | omega | (simp only [go_sem]; first | done | omega)) only [go_sem]
    refine checkSeries_a l hl ?_
    simp (disch := first | omega | (simp only [go_sem]; first | done | omega)) only [go_sem, h1]
    exact Ret.nilT hH (Nat.le_refl _) rfl hk
  by_cases h2 : d < 1 ∨ gcdF n d ≠ 1
  · rw [show scaleRes l n d off = ([], 3) by unfold scaleRes; rw [if_neg (by simp [h1]), if_pos (by rw [facE_3 h2]; decide), facE_3 h2]] at hk
    refine acalls Try.func9 rfl (by kernel_rfl) (by simp (disch := first | omega | (simp only [go_sem]; first | done | omega)) only [go_sem]) (fun hH => ?_)
    simp (disch := first | omega | (simp only [go_sem]; first | done | omega)) only [go_sem]
    repeat' (first | ((first | refine acond_d ?_ ?_ | refine acond_b ?_ ?_ | refine ag_d ?_ ?_ | refine ag_n ?_ ?_ | refine ag_bt ?_ ?_ | refine ag_bf ?_ ?_) <;> intro c <;> try simp (disch := first | omega | (simp only [go_sem]; first | done | omega)) only [go_sem, c, h1]) | ((first | refine w_draw (by kernel_rfl) (by decide +kernel) ?_ | refine checkSeries_a l hl ?_ | refine lowest_a n d hn (by omega) ?_) <;> try simp (disch := first | omega | (simp only [go_sem]; first | done | omega)) only [go_sem, h1]))
    all_goals first
      | exact Ret.nilT hH (Nat.le_refl _) rfl hk
      | (exfalso; grind)
  by_cases h3 : n < -1000000 ∨ 1000000 < n ∨ 1000000 < d ∨ off < -1000000 ∨ 1000000 < off
  · rw [show scaleRes l n d off = ([], 1) by unfold scaleRes; rw [if_neg (by simp [h1]), if_pos (by rw [facE_1 h2 h3]; decide), facE_1 h2 h3]] at hk
    refine acalls Try.func9 rfl (by kernel_rfl) (by simp (disch := first | omega | (simp only [go_sem]; first | done | omega)) only [go_sem]) (fun hH => ?_)
    simp (disch := first | omega | (simp only [go_sem]; first | done | omega)) only [go_sem]
    repeat' (first | ((first | refine acond_d ?_ ?_ | refine acond_b ?_ ?_ | refine ag_d ?_ ?_ | refine ag_n ?_ ?_ | refine ag_bt ?_ ?_ | refine ag_bf ?_ ?_) <;> intro c <;> try simp (disch := first | omega | (simp only [go_sem]; first | done | omega)) only [go_sem, c, h1]) | ((first | refine w_draw (by kernel_rfl) (by decide +kernel) ?_ | refine checkSeries_a l hl ?_ | refine lowest_a n d hn (by omega) ?_ | refine out_a _ _ _ _ _ ?_) <;> try simp (disch := first | omega | (simp only [go_sem]; first | done | omega)) only [go_sem, h1]))
    all_goals first
      | exact Ret.nilT hH (Nat.le_refl _) rfl hk
      | (exfalso; grind)
  rw [show scaleRes l n d off = (l.map (scaleF n d off), 0) by unfold scaleRes; rw [if_neg (by simp [h1]), if_neg (by rw [facE_0 h2 h3]; decide)]] at hk
  obtain ⟨s1, s2⟩ := serF_ok' h1
  have h2' : 1 ≤ d ∧ gcdF n d = 1 := ⟨by omega, Classical.byContradiction fun h => h2 (.inr h)⟩
  refine acalls Try.func9 rfl (by kernel_rfl) (by simp (disch := first | omega | (simp only [go_sem]; first | done | omega)) only [go_sem]) (fun hH => ?_)
  simp (disch := first | omega | (simp only [go_sem]; first | done | omega)) only [go_sem]
  refine checkSeries_a l hl ?_
  simp (disch := first | omega | (simp only [go_sem]; first | done | omega)) only [go_sem, h1]
  refine lowest_a n d hn (by omega) ?_
  simp (disch := first | omega | (simp only [go_sem]; first | done | omega)) only [go_sem, h2'.2]
  refine out_a _ _ _ _ _ ?_
  simp (disch := first | omega | (simp only [go_sem]; first | done | omega)) only [go_sem]
  refine out_a _ _ _ _ _ ?_
  simp (disch := first | omega | (simp only [go_sem]; first | done | omega)) only [go_sem]
  refine cloneS_a l (by omega) ?_
  by_cases hne : l = []
  · subst hne
    simp (disch := first | omega | (simp only [go_sem]; first | done | omega)) only [go_sem, clV_nil, grO_nil]
    refine AWp.rounds 0 (by kernel_rfl) ?_
    simp (disch := first | omega | (simp only [go_sem]; first | done | omega)) only [go_sem]
    exact Ret.drop hH (Nat.le_refl _) (by simp [AV.ok, AV.ok1, AC.ok]) hk
  have hne2 : l.map encS ≠ [] := by simpa using hne
  rw [clV_pos _ _ hne2, grO_pos _ _ hne2]
  simp (disch := first | omega | (simp only [go_sem]; first | done | omega)) only [go_sem]
  refine AWp.loop (H.length + 2) [2, 4, 9, 42] [43] (fun (k : Nat) => k ≤ l.length) (fun (k : Nat) => [(43, (.c (.int .i64 k)))]) (fun (k : Nat) => H ++ [.row 29 2 [[.int .i64 n, .int .i64 d]] true, .row 44 3 ((updF (scaleF n d off) k l).map encS) true]) (fun (k : Nat) => l.length - k) (by kernel_rfl) (fun _ => rfl) (by kernel_rfl) (by simp) (by first | (simp; done) | (simp; omega)) (by (try simp only [List.forall_mem_cons, List.not_mem_nil, false_implies, implies_true, and_true]); (try simp (disch := first | omega | (simp only [go_sem]; first | done | omega)) only [go_sem]); all_goals first | trivial | (simp [AV.ok, AV.ok1, AC.ok]; done) | (simp [AV.ok, AV.ok1, AC.ok]; omega) | (simp [AV.ok, AV.ok1, AC.ok]; assumption) | ((repeat' apply And.intro) <;> first | trivial | (simp [AV.ok, AV.ok1, AC.ok]; done) | (simp [AV.ok, AV.ok1, AC.ok]; omega) | (simp [AV.ok, AV.ok1, AC.ok]; assumption) | (refine grV_ok ?_ _; first | (simp; done) | (simp; omega) | omega))) ?_ (fun k hkb _ _ => ?_)
  · exact Next.mk 0 (by omega) (by rw [updF_zero]; (try simp (disch := first | omega | (simp only [go_sem]; first | done | omega)) only [go_sem]); (first | refine WkL.eq ?_ ?_ | refine WkL.rest (by assumption) ?_ ?_ ?_ | refine WkL.keepL (by assumption) rfl ?_ ?_ ?_ ?_) <;> first | rfl | (simp; done) | (simp; omega) | (simp only [List.cons.injEq, AV.c.injEq, AC.int.injEq, AC.bool.injEq, AC.str.injEq, and_true, true_and, Int.natCast_add, Int.natCast_one, Int.cast_ofNat_Int]; omega) | (simp [AV.ok, AV.ok1, AC.ok]; done) | (simp [AV.ok, AV.ok1, AC.ok]; omega) | (simp only [List.forall_mem_cons, List.not_mem_nil, false_implies, implies_true, and_true]; (repeat' apply And.intro) <;> first | exact okN_map (fun x => by simp [go_sem, AC.pure]) | exact okN_grO (fun x => by simp [go_sem, AC.pure]) | (simp [AObj.okN, AC.ok]; done) | (simp [AObj.okN, AC.ok]; omega)) | (simp [*]; done) | grind)
  by_cases hlt : k < l.length
  · have hat := updF_at (scaleF n d off) k l hlt
    have hset := updF_set (scaleF n d off) k l hlt
    have hsame := updF_same (scaleF n d off) k l hlt
    obtain ⟨q1, q2, q3, q4⟩ := smp_ok' (s2 l[k] (List.getElem_mem hlt))
    have hb1 : -1000000000000 ≤ l[k].v * n ∧ l[k].v * n ≤ 1000000000000 := mul_bd q3.1 q3.2 (by omega) (by omega)
    have hb2 : -1000000000000 ≤ off * d ∧ off * d ≤ 1000000000000 := mul_bd (by omega) (by omega) (by omega) (by omega)
    simp (disch := first | omega | (simp only [go_sem]; first | done | omega)) only [go_sem, hat]
    refine acond_d (fun c => ?_) (fun c => ?_)
    · have e := hsame (by simp [scaleF, c])
      simp (disch := first | omega | (simp only [go_sem]; first | done | omega)) only [go_sem]
      exact Next.mk (k + 1) ⟨by omega, by omega⟩ (by rw [e]; (try simp (disch := first | omega | (simp only [go_sem]; first | done | omega)) only [go_sem]); (first | refine WkL.eq ?_ ?_ | refine WkL.rest (by assumption) ?_ ?_ ?_ | refine WkL.keepL (by assumption) rfl ?_ ?_ ?_ ?_) <;> first | rfl | (simp; done) | (simp; omega) | (simp only [List.cons.injEq, AV.c.injEq, AC.int.injEq, AC.bool.injEq, AC.str.injEq, and_true, true_and, Int.natCast_add, Int.natCast_one, Int.cast_ofNat_Int]; omega) | (simp [AV.ok, AV.ok1, AC.ok]; done) | (simp [AV.ok, AV.ok1, AC.ok]; omega) | (simp only [List.forall_mem_cons, List.not_mem_nil, false_implies, implies_true, and_true]; (repeat' apply And.intro) <;> first | exact okN_map (fun x => by simp [go_sem, AC.pure]) | exact okN_grO (fun x => by simp [go_sem, AC.pure]) | (simp [AObj.okN, AC.ok]; done) | (simp [AObj.okN, AC.ok]; omega)) | (simp [*]; done) | grind)
    · simp (disch := first | omega | (simp only [go_sem]; first | done | omega)) only [go_sem, hat]
      refine w_tree (.one 0 (.one 1 (.one 2 (.one 3 (.one 4 (.one 5 (.one 6 (.one 7 (.one 8 (.one 9 (.one 10 (.one 11 (.one 12 (.one 13 (.one 14 (.one 15 (.one 16 (.one 17 (.one 18 .done))))))))))))))))))) (by kernel_rfl) (by decide +kernel) ?_
      simp (disch := first | omega | (simp only [go_sem]; first | done | omega)) only [go_sem, hat]
      have hr := roundF_bd (l[k].v * n + off * d) d (by omega) (by omega)
      refine rounded_a _ _ (by omega) (by omega) ?_
      simp (disch := first | omega | (simp only [go_sem]; first | done | omega)) only [go_sem, hat]
      refine out_a _ _ _ _ _ ?_
      simp (disch := first | omega | (simp only [go_sem]; first | done | omega)) only [go_sem, hat]
      refine acond_d (fun c2 => ?_) (fun c2 => ?_)
      · have e : scaleF n d off l[k] = ⟨l[k].t, 0, 2⟩ := by unfold scaleF; rw [if_neg c, if_pos c2]
        have hs2 := setEnc (updF (scaleF n d off) k l) k ⟨l[k].t, 0, 2⟩ (updF (scaleF n d off) (k + 1) l) (by rw [← e]; exact hset)
        simp only [encS] at hs2
        simp (disch := first | omega | (simp only [go_sem]; first | done | omega)) only [go_sem, hat, hs2]
        exact Next.mk (k + 1) ⟨by omega, by omega⟩ (by (try simp (disch := first | omega | (simp only [go_sem]; first | done | omega)) only [go_sem]); (first | refine WkL.eq ?_ ?_ | refine WkL.rest (by assumption) ?_ ?_ ?_ | refine WkL.keepL (by assumption) rfl ?_ ?_ ?_ ?_) <;> first | rfl | (simp; done) | (simp; omega) | (simp only [List.cons.injEq, AV.c.injEq, AC.int.injEq, AC.bool.injEq, AC.str.injEq, and_true, true_and, Int.natCast_add, Int.natCast_one, Int.cast_ofNat_Int]; omega) | (simp [AV.ok, AV.ok1, AC.ok]; done) | (simp [AV.ok, AV.ok1, AC.ok]; omega) | (simp only [List.forall_mem_cons, List.not_mem_nil, false_implies, implies_true, and_true]; (repeat' apply And.intro) <;> first | exact okN_map (fun x => by simp [go_sem, AC.pure]) | exact okN_grO (fun x => by simp [go_sem, AC.pure]) | (simp [AObj.okN, AC.ok]; done) | (simp [AObj.okN, AC.ok]; omega)) | (simp [*]; done) | grind)
      · have e : scaleF n d off l[k] = ⟨l[k].t, roundF (l[k].v * n + off * d) d, l[k].q⟩ := by unfold scaleF; rw [if_neg c, if_neg c2]
        have hs2 := setEnc (updF (scaleF n d off) k l) k ⟨l[k].t, roundF (l[k].v * n + off * d) d, l[k].q⟩ (updF (scaleF n d off) (k + 1) l) (by rw [← e]; exact hset)
        simp only [encS] at hs2
        simp (disch := first | omega | (simp only [go_sem]; first | done | omega)) only [go_sem, hat, hs2]
        exact Next.mk (k + 1) ⟨by omega, by omega⟩ (by (try simp (disch := first | omega | (simp only [go_sem]; first | done | omega)) only [go_sem]); (first | refine WkL.eq ?_ ?_ | refine WkL.rest (by assumption) ?_ ?_ ?_ | refine WkL.keepL (by assumption) rfl ?_ ?_ ?_ ?_) <;> first | rfl | (simp; done) | (simp; omega) | (simp only [List.cons.injEq, AV.c.injEq, AC.int.injEq, AC.bool.injEq, AC.str.injEq, and_true, true_and, Int.natCast_add, Int.natCast_one, Int.cast_ofNat_Int]; omega) | (simp [AV.ok, AV.ok1, AC.ok]; done) | (simp [AV.ok, AV.ok1, AC.ok]; omega) | (simp only [List.forall_mem_cons, List.not_mem_nil, false_implies, implies_true, and_true]; (repeat' apply And.intro) <;> first | exact okN_map (fun x => by simp [go_sem, AC.pure]) | exact okN_grO (fun x => by simp [go_sem, AC.pure]) | (simp [AObj.okN, AC.ok]; done) | (simp [AObj.okN, AC.ok]; omega)) | (simp [*]; done) | grind)
  · have hke : k = l.length := by omega
    subst hke
    rw [updF_all]
    simp (disch := first | omega | (simp only [go_sem]; first | done | omega)) only [go_sem]
    exact Ret.frzAt 1 hH (Nat.le_refl _) hk rfl (pureL_map _ (fun x => by simp [AC.pure])) (by simp [AV.ok, AV.ok1, AC.ok]) (by simp [AV.frz, AV.frz1, AC.frz]; rw [List.take_of_length_le (by simp)])
end Go.Proofs.Ytbgoaanalfdenaa
