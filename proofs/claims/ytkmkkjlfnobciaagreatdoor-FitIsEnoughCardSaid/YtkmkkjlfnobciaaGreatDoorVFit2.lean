/- Fit of the program: what it computes. No condition. -/
import Derived.Test.YtkmkkjlfnobciaaGreatDoorVFit
namespace Go.Proofs.YtkmkkjlfnobciaaGreatDoor
open Go Go.RowKit
set_option maxRecDepth 100000
set_option linter.all false
variable {H : Hp} {K : AV → Hp → Prop}
theorem costRow_a {i ty n : Nat} {own : Bool} (l : List Level) (rate : Int) (hi : H[i]? = some (.row ty 2 (l.map encL) own)) (hn : n = l.length) (hok : ∀ x ∈ l, x.ok) (hlen : l.length ≤ 6) (hr : 1 ≤ rate) (hr2 : rate ≤ 1000000) (hk : K (.c (.int .i64 (costs l rate))) H) : ACalls Tryz.prog 99 [.c (.sl (some (i, 0)) n), (.c (.int .i64 rate))] H K := by
  subst hn
  exact ACalls.lend (.c (.int .i64 (costs l rate))) hi (pureL_encL l) rfl (by simp [AV.frz1, AC.frz, AV.ok1, AC.ok]) (by
    have := cost_a (H := []) (K := fun v' _ => v' = (.c (.int .i64 (costs l rate)))) l rate hok hlen hr hr2 rfl
    simpa [AV.frz1, AC.frz, List.take_of_length_le] using this) hk
theorem fit_o (l : List Level) (rate quota : Int) (hn : l.length ≤ 1099511627776) (hq2 : -9223372036854775808 ≤ quota)
    (hk : K (.tup [.c (clV H.length 2 ((fitRes l rate quota).1.map encL)), (.c (.bool ((fitRes l rate quota).2.1))), (.c (.int .i64 ((fitRes l rate quota).2.2)))]) (H ++ [grO 57 2 ((fitRes l rate quota).1.map encL)])) : ACalls Tryz.prog 29 [.c (.lst 2 (l.map encL)), (.c (.int .i64 rate)), (.c (.int .i64 quota))] H K := by
  by_cases h1 : rateErr l rate = 0
  case neg =>
    have e : fitRes l rate quota = ([], false, rateErr l rate) := by simp [fitRes, h1]
    rw [e] at hk
    refine acalls Tryz.func29 rfl (by kernel_rfl) (by simp (disch := first | omega | (simp only [go_sem]; first | done | omega)) only [go_sem]) (fun hH => ?_)
    simp (disch := first | omega | (simp only [go_sem]; first | done | omega)) only [go_sem]
    repeat' (first | ((first | refine acond_d ?_ ?_ | refine acond_b ?_ ?_ | refine ag_d ?_ ?_ | refine ag_n ?_ ?_ | refine ag_bt ?_ ?_ | refine ag_bf ?_ ?_) <;> intro c <;> try simp (disch := first | omega | (simp only [go_sem]; first | done | omega)) only [go_sem, c]) | ((first | refine w_draw (by kernel_rfl) (by decide +kernel) ?_ | refine rateFault_a l rate hn ?_) <;> try simp (disch := first | omega | (simp only [go_sem]; first | done | omega)) only [go_sem]))
    exact Ret.nil [2] (by simp) (Ret.pad (Nat.le_refl _) (Ret.same (by simp) hk))
  by_cases h2 : quota < 1 ∨ 1000000 < quota
  · have e : fitRes l rate quota = ([], false, 1) := by simp [fitRes, h1, h2]
    rw [e] at hk
    refine acalls Tryz.func29 rfl (by kernel_rfl) (by simp (disch := first | omega | (simp only [go_sem]; first | done | omega)) only [go_sem]) (fun hH => ?_)
    simp (disch := first | omega | (simp only [go_sem]; first | done | omega)) only [go_sem]
    repeat' (first | ((first | refine acond_d ?_ ?_ | refine acond_b ?_ ?_ | refine ag_d ?_ ?_ | refine ag_n ?_ ?_ | refine ag_bt ?_ ?_ | refine ag_bf ?_ ?_) <;> intro c <;> try simp (disch := first | omega | (simp only [go_sem]; first | done | omega)) only [go_sem, c]) | ((first | refine w_draw (by kernel_rfl) (by decide +kernel) ?_ | refine rateFault_a l rate hn ?_ | refine out_a _ _ _ _ _ ?_) <;> try simp (disch := first | omega | (simp only [go_sem]; first | done | omega)) only [go_sem]))
    exact Ret.nil [2] (by simp) (Ret.pad (Nat.le_refl _) (Ret.same (by simp) hk))
  have h3 := firstE_two (a := lvF l) (b := if rate < 1 ∨ 1000000 < rate then 1 else 0) h1
  obtain ⟨hok, h6, h0⟩ := lvF_ok h3.1
  have hr : 1 ≤ rate ∧ rate ≤ 1000000 := by have := h3.2; split at this <;> omega
  obtain ⟨hr1, hr2⟩ := hr
  have hne : l.map encL ≠ [] := by intro h; have := congrArg List.length h; simp at this; subst this; simp at h0
  refine acalls Tryz.func29 rfl (by kernel_rfl) (by simp (disch := first | omega | (simp only [go_sem]; first | done | omega)) only [go_sem]) (fun hH => ?_)
  simp (disch := first | omega | (simp only [go_sem]; first | done | omega)) only [go_sem]
  repeat' (first | ((first | refine acond_d ?_ ?_ | refine acond_b ?_ ?_ | refine ag_d ?_ ?_ | refine ag_n ?_ ?_ | refine ag_bt ?_ ?_ | refine ag_bf ?_ ?_) <;> intro c <;> try simp (disch := first | omega | (simp only [go_sem]; first | done | omega)) only [go_sem, c]) | ((first | refine w_draw (by kernel_rfl) (by decide +kernel) ?_ | refine rateFault_a l rate hn ?_ | refine out_a _ _ _ _ _ ?_ | refine cloneL_a l hn ?_) <;> try simp (disch := first | omega | (simp only [go_sem]; first | done | omega)) only [go_sem]))
  rw [clV_pos _ _ hne, grO_pos _ _ hne]
  simp (disch := first | omega | (simp only [go_sem]; first | done | omega)) only [go_sem]
  have hdone : ∀ cur : List Level, cur.length = l.length → fitGo rate quota l.length 0 1 l = cur → costs cur rate ≤ quota → Ret H.length (.tup [.c (.sl (some (H.length, 0)) l.length), (.c (.bool true)), (.c (.int .i64 0))]) (H ++ [.row 57 2 (cur.map encL) true]) K := by
    intro cur hlen hfin c
    have e : fitRes l rate quota = (cur, true, 0) := by simp [fitRes, h1, h2, hfin]; omega
    have hne : cur.map encL ≠ [] := by intro h; have := congrArg List.length h; simp at this; subst this; simp at hlen; omega
    rw [e, clV_pos _ _ hne, grO_pos _ _ hne, List.length_map, hlen] at hk
    exact Ret.same (by simp) hk
  refine AWp.loop (H.length + 1) [1, 2, 10, 27] [28, 11] (fun (s : Nat × Int × List Level) => s.1 ≤ l.length ∧ 1 ≤ s.2.1 ∧ s.2.1 ≤ 345686400001 ∧ s.2.2.length = l.length ∧ (∀ y ∈ s.2.2, y.ok) ∧ fitGo rate quota (l.length - s.1) s.1 s.2.1 s.2.2 = fitGo rate quota l.length 0 1 l) (fun (s : Nat × Int × List Level) => [(28, (.c (.int .i64 (s.1)))), (11, (.c (.int .i64 (s.2.1))))]) (fun (s : Nat × Int × List Level) => H ++ [.row 57 2 (s.2.2.map encL) true]) (fun (s : Nat × Int × List Level) => l.length - s.1) (by kernel_rfl) (fun _ => rfl) (by kernel_rfl) (by simp) (by first | (simp; done) | (simp; omega)) (by (try simp only [List.forall_mem_cons, List.not_mem_nil, false_implies, implies_true, and_true]); (try simp (disch := first | omega | (simp only [go_sem]; first | done | omega)) only [go_sem]); all_goals first | trivial | (simp [AV.ok, AV.ok1, AC.ok]; done) | (simp [AV.ok, AV.ok1, AC.ok]; omega) | (simp [AV.ok, AV.ok1, AC.ok]; assumption) | ((repeat' apply And.intro) <;> first | trivial | (simp [AV.ok, AV.ok1, AC.ok]; done) | (simp [AV.ok, AV.ok1, AC.ok]; omega) | (simp [AV.ok, AV.ok1, AC.ok]; assumption) | (refine grV_ok ?_ _; first | (simp; done) | (simp; omega) | omega))) ?_ (fun s hs _ _ => ?_)
  · exact Next.mk (0, 1, l) ⟨by simp, by simp, by simp, rfl, hok, rfl⟩ (by (try simp (disch := first | omega | (simp only [go_sem]; first | done | omega)) only [go_sem]); (first | refine WkL.eq ?_ ?_ | refine WkL.rest (by assumption) ?_ ?_ ?_ | refine WkL.keepL (by assumption) rfl ?_ ?_ ?_ ?_) <;> first | rfl | (simp; done) | (simp; omega) | (simp only [List.cons.injEq, AV.c.injEq, AC.int.injEq, AC.bool.injEq, AC.str.injEq, and_true, true_and, Int.natCast_add, Int.natCast_one, Int.cast_ofNat_Int]; omega) | (simp [AV.ok, AV.ok1, AC.ok]; done) | (simp [AV.ok, AV.ok1, AC.ok]; omega) | (simp only [List.forall_mem_cons, List.not_mem_nil, false_implies, implies_true, and_true]; (repeat' apply And.intro) <;> first | exact okN_map (fun x => by simp [go_sem, AC.pure]) | exact okN_grO (fun x => by simp [go_sem, AC.pure]) | (simp [AObj.okN, AC.ok]; done) | (simp [AObj.okN, AC.ok]; omega)) | (simp [*]; done) | grind)
  obtain ⟨k, least, cur⟩ := s
  obtain ⟨hk1, hl1, hl2, hlen, hcok, he⟩ := hs
  dsimp only at hk1 hl1 hl2 hlen hcok he
  by_cases hlt : k < l.length
  · have hkc : k < cur.length := by omega
    obtain ⟨x1, x2, x3, x4⟩ := hcok cur[k] (List.getElem_mem _)
    have hcb := costs_bd hr1 hr2 cur hcok
    have hxc := costL_bd (hcok cur[k] (List.getElem_mem _)) hr1 hr2
    have hbb := (budgetL_bd (quota := quota) hcok (List.getElem_mem hkc) hr1 hr2 (by omega)).1
    have hgo : ¬costs cur rate ≤ quota → fitGo rate quota (l.length - (k + 1)) (k + 1) (keepL cur cur[k] least rate quota + 1) (cur.set k ⟨cur[k].step, keepL cur cur[k] least rate quota⟩) = fitGo rate quota l.length 0 1 l := fun h => by
      rw [← he, show l.length - k = (l.length - (k + 1)) + 1 by omega, fitGo_step h hkc]
    have hset : ∀ v : Int, (cur.map encL).set k [.int .i64 cur[k].step, .int .i64 v] = (cur.set k ⟨cur[k].step, v⟩).map encL := fun v => by rw [List.map_set]; rfl
    have hkb := keepL_bd (l := cur) (rate := rate) (quota := quota) (hcok cur[k] (List.getElem_mem hkc)) hl1
    simp (disch := first | omega | (simp only [go_sem]; first | done | omega)) only [go_sem]
    repeat' (first | ((first | refine acond_d ?_ ?_ | refine acond_b ?_ ?_ | refine ag_d ?_ ?_ | refine ag_n ?_ ?_ | refine ag_bt ?_ ?_ | refine ag_bf ?_ ?_ | refine agt_d ?_ ?_ | refine agt_n ?_ ?_ | refine agt_bt ?_ ?_ | refine agt_bf ?_ ?_) <;> intro c <;> try simp (disch := first | omega | (simp only [go_sem]; first | done | omega)) only [go_sem, c]) | ((first | refine w_draw (by kernel_rfl) (by decide +kernel) ?_ | refine costRow_a cur rate (by first | exact at0 (by simp) | exact at1 (by simp) | exact at2 (by simp) | exact at3 (by simp) | exact at4 (by simp) | exact at5 (by simp) | exact atG 6 (by simp) rfl | exact atG 7 (by simp) rfl | exact atG 8 (by simp) rfl | exact atG 9 (by simp) rfl | exact atG 10 (by simp) rfl | assumption) hlen.symm hcok (by omega) hr1 hr2 ?_ | refine costOf_a _ _ (hcok _ (List.getElem_mem _)) hr1 hr2 ?_ | refine most_a _ _ _ x1 x2 hr1 hr2 (by omega) (by omega) ?_ | refine w_tree (.one 0 (.one 1 (.one 2 (.one 3 (.one 5 (.one 6 (.one 7 (.one 8 (.one 9 (.one 10 (.two 4 (.one 11 (.one 12 (.one 13 (.one 14 (.one 15 (.one 16 .done)))))) 11 (.one 4 (.one 12 (.one 13 (.one 14 (.one 15 (.one 16 .done))))))))))))))))) (by kernel_rfl) (by decide +kernel) ?_) <;> try simp (disch := first | omega | (simp only [go_sem]; first | done | omega)) only [go_sem]) | (refine And.intro ?_ ?_ <;> try simp (disch := first | omega | (simp only [go_sem]; first | done | omega)) only [go_sem]))
    · have hfin : fitGo rate quota l.length 0 1 l = cur := by
        rw [← he, show l.length - k = (l.length - (k + 1)) + 1 by omega, fitGo, if_pos c]
      exact hdone cur hlen hfin c
    all_goals
      have hkeep : keepL cur cur[k] least rate quota = min cur[k].keep (max least (mostL cur[k] rate (max 0 (quota - (costs cur rate - costL cur[k] rate))))) := rfl
      first | rw [show max 0 (quota - (costs cur rate - costL cur[k] rate)) = 0 by omega] at hkeep | rw [show max 0 (quota - (costs cur rate - costL cur[k] rate)) = quota - (costs cur rate - costL cur[k] rate) by omega] at hkeep
      rw [← hkeep, hset]
      refine Next.mk (k + 1, keepL cur cur[k] least rate quota + 1, cur.set k ⟨cur[k].step, keepL cur cur[k] least rate quota⟩) ⟨⟨by omega, by dsimp only; omega, by dsimp only; omega, by simpa using hlen, ?_, hgo (by assumption)⟩, by dsimp only; omega⟩ (by (try simp (disch := first | omega | (simp only [go_sem]; first | done | omega)) only [go_sem]); (first | refine WkL.eq ?_ ?_ | refine WkL.rest (by assumption) ?_ ?_ ?_ | refine WkL.keepL (by assumption) rfl ?_ ?_ ?_ ?_) <;> first | rfl | (simp; done) | (simp; omega) | (simp only [List.cons.injEq, AV.c.injEq, AC.int.injEq, AC.bool.injEq, AC.str.injEq, and_true, true_and, Int.natCast_add, Int.natCast_one, Int.cast_ofNat_Int]; omega) | (simp [AV.ok, AV.ok1, AC.ok]; done) | (simp [AV.ok, AV.ok1, AC.ok]; omega) | (simp only [List.forall_mem_cons, List.not_mem_nil, false_implies, implies_true, and_true]; (repeat' apply And.intro) <;> first | exact okN_map (fun x => by simp [go_sem, AC.pure]) | exact okN_grO (fun x => by simp [go_sem, AC.pure]) | (simp [AObj.okN, AC.ok]; done) | (simp [AObj.okN, AC.ok]; omega)) | (simp [*]; done) | grind)
      exact set_ok hcok _ _ ⟨x1, x2, hkb.1, hkb.2⟩
  · have hkl : k = l.length := by omega
    subst hkl
    have hfin : fitGo rate quota l.length 0 1 l = cur := by rw [← he]; simp [fitGo]
    simp (disch := first | omega | (simp only [go_sem]; first | done | omega)) only [go_sem]
    repeat' (first | ((first | refine acond_d ?_ ?_ | refine acond_b ?_ ?_ | refine ag_d ?_ ?_ | refine ag_n ?_ ?_ | refine ag_bt ?_ ?_ | refine ag_bf ?_ ?_) <;> intro c <;> try simp (disch := first | omega | (simp only [go_sem]; first | done | omega)) only [go_sem, c]) | ((first | refine w_draw (by kernel_rfl) (by decide +kernel) ?_ | refine costRow_a cur rate (by first | exact at0 (by simp) | exact at1 (by simp) | exact at2 (by simp) | exact at3 (by simp) | exact at4 (by simp) | exact at5 (by simp) | exact atG 6 (by simp) rfl | exact atG 7 (by simp) rfl | exact atG 8 (by simp) rfl | exact atG 9 (by simp) rfl | exact atG 10 (by simp) rfl | assumption) hlen.symm hcok (by omega) hr1 hr2 ?_) <;> try simp (disch := first | omega | (simp only [go_sem]; first | done | omega)) only [go_sem]))
    · have e : fitRes l rate quota = ([], false, 0) := by simp [fitRes, h1, h2, hfin, c]
      rw [e] at hk
      exact Ret.nil [2] (by simp) (Ret.cut hH (Nat.le_refl _) (by simp [AV.nilz, AV.nilz.go, AC.nilz, AV.ok, AV.ok1, AC.ok]) (Ret.pad (Nat.le_refl _) (Ret.same (by simp) hk)))
    · exact hdone cur hlen hfin (by omega)
theorem fit_a (l : List Level) (rate quota : Int) (hn : l.length ≤ 1099511627776) (hq2 : -9223372036854775808 ≤ quota)
    (hk : K (.tup [.c (.lst 2 ((fitRes l rate quota).1.map encL)), (.c (.bool ((fitRes l rate quota).2.1))), (.c (.int .i64 ((fitRes l rate quota).2.2)))]) H) : ACalls Tryz.prog 29 [.c (.lst 2 (l.map encL)), (.c (.int .i64 rate)), (.c (.int .i64 quota))] H K :=
  ACalls.post (fit_o (K := fun v H' => v = _ ∧ H' = _) l rate quota hn hq2 ⟨rfl, rfl⟩) (by rintro hH v H' ⟨rfl, rfl⟩; exact ⟨_, _, WkL.frzCl hH (Nat.le_refl _) (pureL_encL _) rfl, hk⟩)
end Go.Proofs.YtkmkkjlfnobciaaGreatDoor
