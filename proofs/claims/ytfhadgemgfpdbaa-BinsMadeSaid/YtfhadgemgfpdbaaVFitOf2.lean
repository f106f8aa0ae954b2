/- The document's answer to Fit: what it computes (2). No condition. -/
import Derived.Test.YtfhadgemgfpdbaaVFitOf
namespace Go.Proofs.Ytfhadgemgfpdbaa
open Go Go.RowKit
set_option maxRecDepth 100000
set_option linter.all false
set_option maxHeartbeats 1000000
variable {H : Hp} {K : AV → Hp → Prop}
theorem fitOf_a (l : List Level) (rate quota : Int) (hl6 : l.length ≤ 6) (hl1 : 1 ≤ l.length) (hok : ∀ y ∈ l, y.ok) (hr : 1 ≤ rate) (hr2 : rate ≤ 1000000)
    (hq : 1 ≤ quota) (hq2 : quota ≤ 1000000) (hk : K (.tup (if quota < costs (fitGo rate quota l.length 0 1 l) rate then [.c (.lst 2 []), (.c (.bool false))] else [.c (.lst 2 ((fitGo rate quota l.length 0 1 l).map encL)), (.c (.bool true))])) H) :
    ACalls Try.prog 14 [.c (.lst 2 (l.map encL)), (.c (.int .i64 rate)), (.c (.int .i64 quota))] H K := by
  have hne : ∀ o : List Level, o.length = l.length → o.map encL ≠ [] := by intro o ho h; have := congrArg List.length h; simp at this; subst this; simp at ho; omega
  refine acalls Try.func14 rfl (by kernel_rfl) (by simp (disch := first | omega | (simp only [go_sem]; first | done | omega)) only [go_sem]) (fun hH => ?_)
  simp (disch := first | omega | (simp only [go_sem]; first | done | omega)) only [go_sem]
  refine cloneL_a l (by omega) ?_
  rw [clV_pos _ _ (hne l rfl), grO_pos _ _ (hne l rfl)]
  simp (disch := first | omega | (simp only [go_sem]; first | done | omega)) only [go_sem]
  refine AWp.loop (H.length + 4) [4, 5, 8, 19] [20] (fun (s : Nat × List Level) => s.1 ≤ l.length ∧ s.2.length = l.length ∧ (∀ y ∈ s.2, y.ok) ∧ 1 ≤ lowOf s.2 s.1 ∧ lowOf s.2 s.1 ≤ 345686400001 ∧ fitGo rate quota (l.length - s.1) s.1 (lowOf s.2 s.1) s.2 = fitGo rate quota l.length 0 1 l) (fun (s : Nat × List Level) => [(20, (.c (.int .i64 (s.1))))]) (fun (s : Nat × List Level) => H ++ [.row 3 1 [[.int .i64 rate]] true, .row 3 1 [[.int .i64 quota]] true, .row 31 2 (s.2.map encL) true, .row 26 1 [[.sl (some (H.length + 2, 0)) l.length]] true]) (fun (s : Nat × List Level) => l.length - s.1) (by kernel_rfl) (fun _ => rfl) (by kernel_rfl) (by simp) (by first | (simp; done) | (simp; omega)) (by (try simp only [List.forall_mem_cons, List.not_mem_nil, false_implies, implies_true, and_true]); (try simp (disch := first | omega | (simp only [go_sem]; first | done | omega)) only [go_sem]); first | trivial | (simp [AV.ok, AV.ok1, AC.ok]; done) | (simp [AV.ok, AV.ok1, AC.ok]; omega)) ?_ (fun s hs _ _ => ?_)
  · exact Next.mk (0, l) ⟨by simp, rfl, hok, by simp [lowOf], by simp [lowOf], by simp [lowOf]⟩ (by (try simp (disch := first | omega | (simp only [go_sem]; first | done | omega)) only [go_sem]); (first | refine WkL.eq ?_ ?_ | refine WkL.rest (by assumption) ?_ ?_ ?_ | refine WkL.keepL (by assumption) rfl ?_ ?_ ?_ ?_) <;> first | rfl | (simp; done) | (simp; omega) | (simp only [List.cons.injEq, AV.c.injEq, AC.int.injEq, AC.bool.injEq, AC.str.injEq, and_true, true_and, Int.natCast_add, Int.natCast_one, Int.cast_ofNat_Int]; omega) | (simp [AV.ok, AV.ok1, AC.ok]; done) | (simp [AV.ok, AV.ok1, AC.ok]; omega) | (simp only [List.forall_mem_cons, List.not_mem_nil, false_implies, implies_true, and_true]; (repeat' apply And.intro) <;> first | exact okN_map (fun x => by simp [go_sem, AC.pure]) | exact okN_grO (fun x => by simp [go_sem, AC.pure]) | (simp [AObj.okN, AC.ok]; done) | (simp [AObj.okN, AC.ok]; omega)) | (simp [*]; done) | grind)
  obtain ⟨k, o⟩ := s
  obtain ⟨hk1, hol, hoo, hls, hls2, hE⟩ := hs
  dsimp only at hk1 hol hoo hls hls2 hE
  have hcb := costs_bd hr hr2 o hoo
  have hend0 : fitGo rate quota l.length 0 1 l = o → quota < costs o rate → ∀ G : Hp, Ret H.length (.tup [.c (.sl none 0), (.c (.bool false))]) (H ++ G) K := by
    intro hN hc G
    rw [hN, if_pos hc] at hk
    exact Ret.nil [2] (by simp) (Ret.drop hH (Nat.le_refl _) (by simp [AV.nilz, AV.nilz.go, AC.nilz, AV.ok, AV.ok1, AC.ok]) hk)
  have hend1 : fitGo rate quota l.length 0 1 l = o → ¬quota < costs o rate → ∀ G : Hp, G[2]? = some (.row 31 2 (o.map encL) true) → Ret H.length (.tup [.c (.sl (some (H.length + 2, 0)) l.length), (.c (.bool true))]) (H ++ G) K := by
    intro hN hc G hG
    rw [hN, if_neg hc] at hk
    exact Ret.frzAt 2 hH (Nat.le_refl _) hk hG (pureL_encL o) (by simp [AV.ok, AV.ok1, AC.ok]) (by simp [AV.frz, AV.frz1, AC.frz, ← hol]; exact List.take_of_length_le (by simp))
  by_cases hlt : k < l.length
  case neg =>
    have hN : fitGo rate quota l.length 0 1 l = o := by rw [← hE, show l.length - k = 0 by omega]; rfl
    simp (disch := first | omega | (simp only [go_sem]; first | done | omega)) only [go_sem]
    repeat' (first | ((first | refine acond_d ?_ ?_ | refine acond_b ?_ ?_ | refine ag_d ?_ ?_ | refine ag_n ?_ ?_ | refine ag_bt ?_ ?_ | refine ag_bf ?_ ?_ | refine agt_d ?_ ?_ | refine agt_n ?_ ?_ | refine agt_bt ?_ ?_ | refine agt_bf ?_ ?_) <;> intro c <;> try simp (disch := first | omega | (simp only [go_sem]; first | done | omega)) only [go_sem, c]) | ((first | refine w_draw (by kernel_rfl) (by decide +kernel) ?_ | refine costRowR_a o rate (by first | exact at0 (by simp) | exact at1 (by simp) | exact at2 (by simp) | exact at3 (by simp) | exact at4 (by simp) | exact at5 (by simp) | assumption) hol.symm hoo (by omega) hr hr2 ?_ | refine w_tree (.one 0 (.one 1 (.two 2 (.one 3 (.one 4 .done)) 3 (.one 2 (.one 4 .done))))) (by kernel_rfl) (by decide +kernel) ?_) <;> try simp (disch := first | omega | (simp only [go_sem]; first | done | omega)) only [go_sem]) | (refine And.intro ?_ ?_ <;> try simp (disch := first | omega | (simp only [go_sem]; first | done | omega)) only [go_sem]))
    all_goals first | exact hend0 hN (by omega) _ | exact hend1 hN (by omega) _ rfl
  by_cases hle : costs o rate ≤ quota
  · have hN : fitGo rate quota l.length 0 1 l = o := by
      rw [← hE, show l.length - k = (l.length - k - 1) + 1 by omega, fitGo, if_pos hle]
    simp (disch := first | omega | (simp only [go_sem]; first | done | omega)) only [go_sem]
    repeat' (first | ((first | refine acond_d ?_ ?_ | refine acond_b ?_ ?_ | refine ag_d ?_ ?_ | refine ag_n ?_ ?_ | refine ag_bt ?_ ?_ | refine ag_bf ?_ ?_ | refine agt_d ?_ ?_ | refine agt_n ?_ ?_ | refine agt_bt ?_ ?_ | refine agt_bf ?_ ?_) <;> intro c <;> try simp (disch := first | omega | (simp only [go_sem]; first | done | omega)) only [go_sem, c]) | ((first | refine w_draw (by kernel_rfl) (by decide +kernel) ?_ | refine costRowR_a o rate (by first | exact at0 (by simp) | exact at1 (by simp) | exact at2 (by simp) | exact at3 (by simp) | exact at4 (by simp) | exact at5 (by simp) | assumption) hol.symm hoo (by omega) hr hr2 ?_ | refine w_tree (.one 0 (.one 1 (.two 2 (.one 3 (.one 4 .done)) 3 (.one 2 (.one 4 .done))))) (by kernel_rfl) (by decide +kernel) ?_ | refine w_tree (.one 0 (.one 1 (.two 2 (.one 3 (.one 4 .done)) 3 (.one 2 (.one 4 .done))))) (by kernel_rfl) (by decide +kernel) ?_) <;> try simp (disch := first | omega | (simp only [go_sem]; first | done | omega)) only [go_sem]) | (refine And.intro ?_ ?_ <;> try simp (disch := first | omega | (simp only [go_sem]; first | done | omega)) only [go_sem]))
    all_goals first | exact hend0 hN (by omega) _ | exact hend1 hN (by omega) _ rfl
  have hko : k < o.length := by omega
  have hx := hoo o[k] (List.getElem_mem hko)
  obtain ⟨M, hM⟩ : ∃ M, M = mostL o[k] rate (budgetL o o[k] rate quota) := ⟨_, rfl⟩
  obtain ⟨kl, hkl⟩ : ∃ kl, kl = keepL o o[k] (lowOf o k) rate quota := ⟨_, rfl⟩
  have hklM : kl = min o[k].keep (max (lowOf o k) M) := by rw [hkl, hM]; rfl
  have hstep := fitGo_step (rate := rate) (quota := quota) (n := l.length - k - 1) (i := k) (least := lowOf o k) hle hko
  rw [← hkl, show l.length - k - 1 + 1 = l.length - k by omega, show l.length - k - 1 = l.length - (k + 1) by omega] at hstep
  have hfit : ∀ m : Int, 1 ≤ m → (costs (o.set k ⟨o[k].step, m⟩) rate ≤ quota ↔ m ≤ M) := by
    intro m hm
    rw [costs_set rate o k hko, hM]
    have := fits_iff (s := o[k].step) (k := m) (kp := o[k].keep) (rate := rate) (b := quota - (costs o rate - costL o[k] rate)) hx.1 hr hm
    have e : budgetL o o[k] rate quota = max 0 (quota - (costs o rate - costL o[k] rate)) := rfl
    rw [e]
    have e2 : (⟨o[k].step, o[k].keep⟩ : Level) = o[k] := rfl
    rw [e2] at this
    omega
  have hsame : o.set k ⟨o[k].step, o[k].keep⟩ = o := by
    have e2 : (⟨o[k].step, o[k].keep⟩ : Level) = o[k] := rfl
    rw [e2]; exact List.set_getElem_self _
  have hMk : M < o[k].keep := by
    have := hfit o[k].keep hx.2.2.1
    rw [hsame] at this
    omega
  have hkb := keepL_bd (l := o) (rate := rate) (quota := quota) hx hls
  rw [← hkl] at hkb
  have hsetok := set_ok hoo k ⟨o[k].step, kl⟩ ⟨hx.1, hx.2.1, hkb.1, hkb.2⟩
  have hlow : lowOf (o.set k ⟨o[k].step, kl⟩) (k + 1) = kl + 1 := by simp [lowOf, List.getD, hko]
  have hfin : fitGo rate quota (l.length - (k + 1)) (k + 1) (lowOf (o.set k ⟨o[k].step, kl⟩) (k + 1)) (o.set k ⟨o[k].step, kl⟩) = fitGo rate quota l.length 0 1 l := by rw [hlow, ← hstep, hE]
  have hset : ∀ v : Int, (o.map encL).set k [.int .i64 o[k].step, .int .i64 v] = (o.set k ⟨o[k].step, v⟩).map encL := fun v => by rw [List.map_set]; rfl
  obtain ⟨h3, h4, h5, h6⟩ := hx
  have hL : (k = 0 ∧ lowOf o k = 1) ∨ (0 < k ∧ lowOf o k = (o[((k : Int) - 1).toNat]'(by omega)).keep + 1) := by
    by_cases hk0 : k = 0
    · exact .inl ⟨hk0, by simp [lowOf, hk0]⟩
    · refine .inr ⟨by omega, ?_⟩
      have e : ((k : Int) - 1).toNat = k - 1 := by omega
      simp only [lowOf, if_neg hk0, List.getD, List.getElem?_eq_getElem (show k - 1 < o.length by omega), Option.getD_some, e]
  generalize lowOf o k = low at *
  simp (disch := first | omega | (simp only [go_sem]; first | done | omega)) only [go_sem]
  repeat' (first | ((first | refine acond_d ?_ ?_ | refine acond_b ?_ ?_ | refine ag_d ?_ ?_ | refine ag_n ?_ ?_ | refine ag_bt ?_ ?_ | refine ag_bf ?_ ?_ | refine agt_d ?_ ?_ | refine agt_n ?_ ?_ | refine agt_bt ?_ ?_ | refine agt_bf ?_ ?_) <;> intro c <;> try simp (disch := first | omega | (simp only [go_sem]; first | done | omega)) only [go_sem, c]) | ((first | refine w_draw (by kernel_rfl) (by decide +kernel) ?_ | refine costRowR_a o rate (by first | exact at0 (by simp) | exact at1 (by simp) | exact at2 (by simp) | exact at3 (by simp) | exact at4 (by simp) | exact at5 (by simp) | assumption) hol.symm hoo (by omega) hr hr2 ?_ | refine w_tree (.one 0 (.one 1 (.two 2 (.one 3 (.one 4 .done)) 3 (.one 2 (.one 4 .done))))) (by kernel_rfl) (by decide +kernel) ?_) <;> try simp (disch := first | omega | (simp only [go_sem]; first | done | omega)) only [go_sem]) | (refine And.intro ?_ ?_ <;> try simp (disch := first | omega | (simp only [go_sem]; first | done | omega)) only [go_sem]))
  case' neg.refine_1.refine_1.refine_1 | neg.refine_1.refine_2.refine_1 | neg.refine_2.refine_1.refine_1 | neg.refine_2.refine_2.refine_1 =>
    have hkk : kl = o[k].keep := by omega
    rw [hkk, hsame] at hfin hlow hsetok
    exact Next.mk (k + 1, o) ⟨⟨by omega, hol, hsetok, by dsimp only; omega, by dsimp only; omega, hfin⟩, by dsimp only; omega⟩ (by (try simp (disch := first | omega | (simp only [go_sem]; first | done | omega)) only [go_sem]); (first | refine WkL.eq ?_ ?_ | refine WkL.rest (by assumption) ?_ ?_ ?_ | refine WkL.keepL (by assumption) rfl ?_ ?_ ?_ ?_) <;> first | rfl | (simp; done) | (simp; omega) | (simp only [List.cons.injEq, AV.c.injEq, AC.int.injEq, AC.bool.injEq, AC.str.injEq, and_true, true_and, Int.natCast_add, Int.natCast_one, Int.cast_ofNat_Int]; omega) | (simp [AV.ok, AV.ok1, AC.ok]; done) | (simp [AV.ok, AV.ok1, AC.ok]; omega) | (simp only [List.forall_mem_cons, List.not_mem_nil, false_implies, implies_true, and_true]; (repeat' apply And.intro) <;> first | exact okN_map (fun x => by simp [go_sem, AC.pure]) | exact okN_grO (fun x => by simp [go_sem, AC.pure]) | (simp [AObj.okN, AC.ok]; done) | (simp [AObj.okN, AC.ok]; omega)) | (simp [*]; done) | grind)
  all_goals
    refine AWp.loop (H.length + 5) [4, 5, 8, 9, 12, 19, 20] [13, 14] (fun (s : Int × Int) => low ≤ s.1 ∧ s.1 ≤ max low M ∧ max low M < s.2 ∧ s.2 ≤ o[k].keep) (fun (s : Int × Int) => [(13, (.c (.int .i64 (s.1)))), (14, (.c (.int .i64 (s.2))))]) (fun (s : Int × Int) => H ++ [.row 3 1 [[.int .i64 rate]] true, .row 3 1 [[.int .i64 quota]] true, .row 31 2 (o.map encL) true, .row 26 1 [[.sl (some (H.length + 2, 0)) l.length]] true, .row 3 1 [[.int .i64 k]] true]) (fun (s : Int × Int) => (s.2 - s.1).toNat) (by kernel_rfl) (fun _ => rfl) (by kernel_rfl) (by simp) (by first | (simp; done) | (simp; omega)) (by (try simp only [List.forall_mem_cons, List.not_mem_nil, false_implies, implies_true, and_true]); (try simp (disch := first | omega | (simp only [go_sem]; first | done | omega)) only [go_sem]); first | trivial | (simp [AV.ok, AV.ok1, AC.ok]; done) | (simp [AV.ok, AV.ok1, AC.ok]; omega)) ?_ (fun s hs _ _ => ?_)
  case' neg.refine_1.refine_1.refine_2.refine_1 | neg.refine_1.refine_2.refine_2.refine_1 | neg.refine_2.refine_1.refine_2.refine_1 | neg.refine_2.refine_2.refine_2.refine_1 =>
    exact Next.mk (low, o[k].keep) ⟨by dsimp only; omega, by dsimp only; omega, by dsimp only; omega, by dsimp only; omega⟩ (by (try simp (disch := first | omega | (simp only [go_sem]; first | done | omega)) only [go_sem]); (first | refine WkL.eq ?_ ?_ | refine WkL.rest (by assumption) ?_ ?_ ?_ | refine WkL.keepL (by assumption) rfl ?_ ?_ ?_ ?_) <;> first | rfl | (simp; done) | (simp; omega) | (simp only [List.cons.injEq, AV.c.injEq, AC.int.injEq, AC.bool.injEq, AC.str.injEq, and_true, true_and, Int.natCast_add, Int.natCast_one, Int.cast_ofNat_Int]; omega) | (simp [AV.ok, AV.ok1, AC.ok]; done) | (simp [AV.ok, AV.ok1, AC.ok]; omega) | (simp only [List.forall_mem_cons, List.not_mem_nil, false_implies, implies_true, and_true]; (repeat' apply And.intro) <;> first | exact okN_map (fun x => by simp [go_sem, AC.pure]) | exact okN_grO (fun x => by simp [go_sem, AC.pure]) | (simp [AObj.okN, AC.ok]; done) | (simp [AObj.okN, AC.ok]; omega)) | (simp [*]; done) | grind)
  all_goals
    obtain ⟨lo, hi⟩ := s
    obtain ⟨g1, g2, g3, g4⟩ := hs
    dsimp only at g1 g2 g3 g4
    by_cases hlh : lo < hi - 1
    · simp (disch := first | omega | (simp only [go_sem]; first | done | omega)) only [go_sem]
      refine fitOf1_a _ _ _ _ (H.length + 2) k l.length rate quota _ o (by first | exact at0 (by simp) | exact at1 (by simp) | exact at2 (by simp) | exact at3 (by simp) | exact at4 (by simp) | exact at5 (by simp) | assumption) (by first | exact at0 (by simp) | exact at1 (by simp) | exact at2 (by simp) | exact at3 (by simp) | exact at4 (by simp) | exact at5 (by simp) | assumption) (by first | exact at0 (by simp) | exact at1 (by simp) | exact at2 (by simp) | exact at3 (by simp) | exact at4 (by simp) | exact at5 (by simp) | assumption) (by first | exact at0 (by simp) | exact at1 (by simp) | exact at2 (by simp) | exact at3 (by simp) | exact at4 (by simp) | exact at5 (by simp) | assumption) (by first | exact at0 (by simp) | exact at1 (by simp) | exact at2 (by simp) | exact at3 (by simp) | exact at4 (by simp) | exact at5 (by simp) | assumption) hol.symm hko (by omega) hoo (by omega) (by omega) hr hr2 ?_
      rw [decide_eq_decide.2 (hfit _ (by omega))]
      simp (disch := first | omega | (simp only [go_sem]; first | done | omega)) only [go_sem]
      refine acond_d (fun c => ?_) (fun c => ?_)
      · simp (disch := first | omega | (simp only [go_sem]; first | done | omega)) only [go_sem, c]
        exact Next.mk ((lo + hi) / 2, hi) ⟨⟨by dsimp only; omega, by dsimp only; omega, by dsimp only; omega, by dsimp only; omega⟩, by dsimp only; omega⟩ (by (try simp (disch := first | omega | (simp only [go_sem]; first | done | omega)) only [go_sem]); (first | refine WkL.eq ?_ ?_ | refine WkL.rest (by assumption) ?_ ?_ ?_ | refine WkL.keepL (by assumption) rfl ?_ ?_ ?_ ?_) <;> first | rfl | (simp; done) | (simp; omega) | (simp only [List.cons.injEq, AV.c.injEq, AC.int.injEq, AC.bool.injEq, AC.str.injEq, and_true, true_and, Int.natCast_add, Int.natCast_one, Int.cast_ofNat_Int]; omega) | (simp [AV.ok, AV.ok1, AC.ok]; done) | (simp [AV.ok, AV.ok1, AC.ok]; omega) | (simp only [List.forall_mem_cons, List.not_mem_nil, false_implies, implies_true, and_true]; (repeat' apply And.intro) <;> first | exact okN_map (fun x => by simp [go_sem, AC.pure]) | exact okN_grO (fun x => by simp [go_sem, AC.pure]) | (simp [AObj.okN, AC.ok]; done) | (simp [AObj.okN, AC.ok]; omega)) | (simp [*]; done) | grind)
      · simp (disch := first | omega | (simp only [go_sem]; first | done | omega)) only [go_sem, c]
        exact Next.mk (lo, (lo + hi) / 2) ⟨⟨by dsimp only; omega, by dsimp only; omega, by dsimp only; omega, by dsimp only; omega⟩, by dsimp only; omega⟩ (by (try simp (disch := first | omega | (simp only [go_sem]; first | done | omega)) only [go_sem]); (first | refine WkL.eq ?_ ?_ | refine WkL.rest (by assumption) ?_ ?_ ?_ | refine WkL.keepL (by assumption) rfl ?_ ?_ ?_ ?_) <;> first | rfl | (simp; done) | (simp; omega) | (simp only [List.cons.injEq, AV.c.injEq, AC.int.injEq, AC.bool.injEq, AC.str.injEq, and_true, true_and, Int.natCast_add, Int.natCast_one, Int.cast_ofNat_Int]; omega) | (simp [AV.ok, AV.ok1, AC.ok]; done) | (simp [AV.ok, AV.ok1, AC.ok]; omega) | (simp only [List.forall_mem_cons, List.not_mem_nil, false_implies, implies_true, and_true]; (repeat' apply And.intro) <;> first | exact okN_map (fun x => by simp [go_sem, AC.pure]) | exact okN_grO (fun x => by simp [go_sem, AC.pure]) | (simp [AObj.okN, AC.ok]; done) | (simp [AObj.okN, AC.ok]; omega)) | (simp [*]; done) | grind)
    · have hkk : lo = kl := by omega
      subst hkk
      simp (disch := first | omega | (simp only [go_sem]; first | done | omega)) only [go_sem]
      rw [hset]
      exact Next.mk (k + 1, o.set k ⟨o[k].step, lo⟩) ⟨⟨by omega, by simpa using hol, hsetok, by dsimp only; omega, by dsimp only; omega, hfin⟩, by dsimp only; omega⟩ (by (try simp (disch := first | omega | (simp only [go_sem]; first | done | omega)) only [go_sem]); (first | refine WkL.eq ?_ ?_ | refine WkL.rest (by assumption) ?_ ?_ ?_ | refine WkL.keepL (by assumption) rfl ?_ ?_ ?_ ?_) <;> first | rfl | (simp; done) | (simp; omega) | (simp only [List.cons.injEq, AV.c.injEq, AC.int.injEq, AC.bool.injEq, AC.str.injEq, and_true, true_and, Int.natCast_add, Int.natCast_one, Int.cast_ofNat_Int]; omega) | (simp [AV.ok, AV.ok1, AC.ok]; done) | (simp [AV.ok, AV.ok1, AC.ok]; omega) | (simp only [List.forall_mem_cons, List.not_mem_nil, false_implies, implies_true, and_true]; (repeat' apply And.intro) <;> first | exact okN_map (fun x => by simp [go_sem, AC.pure]) | exact okN_grO (fun x => by simp [go_sem, AC.pure]) | (simp [AObj.okN, AC.ok]; done) | (simp [AObj.okN, AC.ok]; omega)) | (simp [*]; done) | grind)
end Go.Proofs.Ytfhadgemgfpdbaa
