/- BinsMade: what the law's function answers for all numbers it is given. No condition. -/
import Derived.Test.YtfhadgemgfpdbaaVDraw
namespace Go.Proofs.Ytfhadgemgfpdbaa
open Go Go.RowKit
set_option maxRecDepth 100000
set_option linter.all false
set_option maxHeartbeats 1000000
variable {H : Hp} {K : AV → Hp → Prop}
theorem levelListF_a (s : Nat) (zs : List Int) (j : Int) (hs : Str H s zs j) (hj : j ≤ 1000000000)
    (hk : ∀ (lv : List Level) (j' : Int), j ≤ j' → j' ≤ j + 20 → lv.length ≤ 4 → K (.c (.lst 2 (lv.map encL))) (H.set s (strO zs j'))) :
    ACalls Try.prog 5 [.c (.ptr (some (s, 0, 0)))] H K := by
  refine ACalls.postR (levelList_o s zs j hs hj (K := fun v G => ∃ lv j', j ≤ j' ∧ j' ≤ j + 20 ∧ lv.length ≤ 4 ∧ v = .c (clV H.length 2 (lv.map encL)) ∧ G = H.set s (strO zs j') ++ [grO 31 2 (lv.map encL)]) (fun lv j' h1 h2 h3 _ => ⟨lv, j', h1, h2, h3, rfl, rfl⟩)) ?_
  rintro hH _ _ ⟨lv, j', h1, h2, h3, rfl, rfl⟩
  have := WkL.frzCl1 (A := H.set s (strO zs j')) (n := H.length) (ty := 31) (sz := 2) (l := lv.map encL) (HOk.str hH) (by simp) (pureL_encL _)
  rw [List.length_set] at this
  exact Ret.wk this (hk lv j' h1 h2 h3)
theorem binsTopF_a (l : List Smp) (step : Int) (hn : l.length ≤ 1099511627776) (hk : K (.tup [.c (.lst 6 ((binsRes l step).1.map encN)), (.c (.int .i64 ((binsRes l step).2)))]) H) : ACalls Try.prog 20 [.c (.lst 3 (l.map encS)), (.c (.int .i64 step))] H K := by
  refine ACalls.postR (binsTop_o l step hn (K := fun v G => v = .tup [.c (grV H.length (binsRes l step).1), (.c (.int .i64 ((binsRes l step).2)))] ∧ G = H ++ [grO 62 6 ((binsRes l step).1.map encN)]) ⟨rfl, rfl⟩) ?_
  rintro hH _ _ ⟨rfl, rfl⟩
  exact Ret.frzGrT 0 hH (Nat.le_refl _) rfl (pureL_encN _) rfl (map_grV _ _ _).symm hk
theorem binsOfF_a (l : List Smp) (step : Int) (h1 : serF l = 0) (h2 : isStep step) (hk : K (.c (.lst 6 ((binsF step l).map encN))) H) : ACalls Try.prog 26 [.c (.lst 3 (l.map encS)), (.c (.int .i64 step))] H K := by
  obtain ⟨h3, h4⟩ := serF_ok h1
  refine ACalls.postR (binsOf_o l step h3 h2.1 h2.2.1 (fun x hx => by have := smp_ok (h4 x hx); simp only [Smp.small]; omega) (serF_inc h1) (K := fun v G => v = .c (grV H.length (binsF step l)) ∧ G = H ++ [grO 62 6 ((binsF step l).map encN)]) ⟨rfl, rfl⟩) ?_
  rintro hH _ _ ⟨rfl, rfl⟩
  exact Ret.frzGr 0 hH (Nat.le_refl _) rfl (pureL_encN _) (map_grV _ _ _).symm hk
theorem foldB_len (l : List Bin) : (foldB l).length ≤ l.length := by
  have key : ∀ k, k ≤ l.length → (foldB (l.take k)).length ≤ k := by
    intro k
    induction k with
    | zero => simp [foldB]
    | succ k ih =>
      intro hk
      have := ih (by omega)
      rw [fold_next (by omega)]
      have h2 : (putB (foldB (l.take k)) l[k]).length ≤ (foldB (l.take k)).length + 1 := by
        unfold putB
        split
        · simp
        · split <;> simp
      omega
  have := key l.length (Nat.le_refl _)
  rwa [List.take_length] at this
theorem coarse2_len (b : List Bin) (step to : Int) : (coarse2 b step to).1.length ≤ b.length := by
  have := foldB_len (b.map (toA to))
  rw [List.length_map] at this
  unfold coarse2
  split
  · simp
  · split
    · simp
    · split
      · simp
      · exact this
theorem mergeB_len (a b : List Bin) : (mergeB a b).1.length ≤ a.length + b.length := by
  have := foldB_len (isortB (a ++ b))
  rw [isortB_len, List.length_append] at this
  unfold mergeB combRes
  split
  · simp
  · exact this
theorem errs_lit2 (a b : Int) {i ty n : Nat} {els : List (List AC)} {own : Bool} (hi : H[i]? = some (.row ty 1 els own)) (he : els = [[.int .i64 a], [.int .i64 b]]) (hn : n = 2) (hk : K (.c (.int .i64 (firstE [a, b]))) (H.set i .dead)) : ACalls Try.prog 10 [.c (.sl (some (i, 0)) n)] H K := errs_lit a b hi he hn hk
theorem binsMade_a (zs : List Int) (hz : zs.length ≤ 9223372036854775807) (hk : K (.c (.bool true)) H) : ACalls Try.prog 4 [.c (.lst 1 (zs.map encI))] H K := by
  have st : ∀ (k : Int) (L : Hp), 0 ≤ k → k ≤ 1000000000 → Str (H ++ strO zs k :: L) H.length zs k := fun k L h1 h2 => ⟨hz, h1, by omega, by simp⟩
  refine acalls Try.func4 rfl (by kernel_rfl) (by simp (disch := first | omega | (simp only [go_sem]; first | done | omega)) only [go_sem]) (fun hH => ?_)
  simp (disch := first | omega | (simp only [go_sem]; first | done | omega)) only [go_sem]
  refine levelListF_a H.length zs 0 (st 0 _ (by omega) (by omega)) (by omega) (fun lv j1 g1 g2 g3 => ?_)
  simp (disch := first | omega | (simp only [go_sem]; first | done | omega)) only [go_sem]
  refine samples_a H.length zs j1 8 (st _ _ (by omega) (by omega)) (by omega) (by omega) (by omega) (fun a j2 g4 g5 g6 => ?_)
  simp (disch := first | omega | (simp only [go_sem]; first | done | omega)) only [go_sem]
  refine aStep_a H.length zs j2 (st _ _ (by omega) (by omega)) (by omega) (fun step hst => ?_)
  have hst2 : -10 ≤ step ∧ step ≤ 172800000 := by simp at hst; omega
  clear hst
  simp (disch := first | omega | (simp only [go_sem]; first | done | omega)) only [go_sem]
  refine binList_a H.length zs (j2 + 1) step (st _ _ (by omega) (by omega)) (by omega) hst2 (fun b j3 g7 g8 g9 => ?_)
  simp (disch := first | omega | (simp only [go_sem]; first | done | omega)) only [go_sem]
  refine binList_a H.length zs j3 step (st _ _ (by omega) (by omega)) (by omega) hst2 (fun c j4 g10 g11 g12 => ?_)
  simp (disch := first | omega | (simp only [go_sem]; first | done | omega)) only [go_sem]
  refine pick_lit H.length zs j4 [100, 1000, 10 * step, step, 0, 7, 86400000] (by first | exact at0 (by simp) | exact at1 (by simp) | exact at2 (by simp) | exact at3 (by simp) | exact at4 (by simp) | exact at5 (by simp) | exact atG 6 (by simp) rfl | exact atG 7 (by simp) rfl | exact atG 8 (by simp) rfl | exact atG 9 (by simp) rfl | exact atG 10 (by simp) rfl | assumption) rfl rfl (st _ _ (by omega) (by omega)) (by omega) (by simp) (by simp) (fun to _ => ?_)
  simp (disch := first | omega | (simp only [go_sem]; first | done | omega)) only [go_sem]
  refine binsTopF_a a step (by omega) ?_
  simp (disch := first | omega | (simp only [go_sem]; first | done | omega)) only [go_sem]
  refine coarser_a b step to (by omega) ?_
  simp (disch := first | omega | (simp only [go_sem]; first | done | omega)) only [go_sem]
  refine mergeBins_a b c step (by omega) (by omega) ?_
  simp (disch := first | omega | (simp only [go_sem]; first | done | omega)) only [go_sem]
  refine seriesFault_a a (by omega) ?_
  simp (disch := first | omega | (simp only [go_sem]; first | done | omega)) only [go_sem]
  refine stepFault_a _ _ _ ?_
  simp (disch := first | omega | (simp only [go_sem]; first | done | omega)) only [go_sem]
  refine errs_lit2 (serF a) (if isStep step then 0 else 1) (by first | exact at0 (by simp) | exact at1 (by simp) | exact at2 (by simp) | exact at3 (by simp) | exact at4 (by simp) | exact at5 (by simp) | exact atG 6 (by simp) rfl | exact atG 7 (by simp) rfl | exact atG 8 (by simp) rfl | exact atG 9 (by simp) rfl | exact atG 10 (by simp) rfl | assumption) rfl rfl ?_
  simp (disch := first | omega | (simp only [go_sem]; first | done | omega)) only [go_sem]
  refine binsFault_a b step (by omega) ?_
  simp (disch := first | omega | (simp only [go_sem]; first | done | omega)) only [go_sem]
  refine binsFault_a b step (by omega) ?_
  simp (disch := first | omega | (simp only [go_sem]; first | done | omega)) only [go_sem]
  refine binsFault_a c step (by omega) ?_
  simp (disch := first | omega | (simp only [go_sem]; first | done | omega)) only [go_sem]
  refine errs_lit2 (bnF b step) (bnF c step) (by first | exact at0 (by simp) | exact at1 (by simp) | exact at2 (by simp) | exact at3 (by simp) | exact at4 (by simp) | exact at5 (by simp) | exact atG 6 (by simp) rfl | exact atG 7 (by simp) rfl | exact atG 8 (by simp) rfl | exact atG 9 (by simp) rfl | exact atG 10 (by simp) rfl | assumption) rfl rfl ?_
  have e1 : binsRes a step = if firstE [serF a, if isStep step then 0 else 1] = 0 then (binsF step a, 0) else ([], firstE [serF a, if isStep step then 0 else 1]) := by
    unfold binsRes
    by_cases h1 : serF a = 0 <;> by_cases h2 : isStep step <;> simp [firstE, h1, h2]
  have e2 : coarseRes b step to = if bnF b step = 0 then coarse2 b step to else ([], bnF b step) := by
    unfold coarseRes
    by_cases h1 : bnF b step = 0 <;> simp [h1]
  have e3 : mergeRes b c step = if firstE [bnF b step, bnF c step] = 0 then mergeB b c else ([], firstE [bnF b step, bnF c step]) := by
    unfold mergeRes
    by_cases h1 : firstE [bnF b step, bnF c step] = 0 <;> simp [h1]
  have l1 := binsF_len step a
  have l2 := coarse2_len b step to
  have l3 := mergeB_len b c
  have n1 : firstE [serF a, if isStep step then 0 else 1] = 0 → serF a = 0 ∧ isStep step := fun h => by
    obtain ⟨h1, h2⟩ := firstE_two h
    exact ⟨h1, Classical.byContradiction fun h3 => by rw [if_neg h3] at h2; cases h2⟩
  have n3 : firstE [bnF b step, bnF c step] = 0 → bnF b step = 0 ∧ bnF c step = 0 := firstE_two
  generalize firstE [serF a, if isStep step then 0 else 1] = one at *
  generalize firstE [bnF b step, bnF c step] = three at *
  have hl1 : (binsF step a).length ≤ 1099511627776 := by omega
  have hl2 : (coarse2 b step to).1.length ≤ 1099511627776 := by omega
  have hl3 : (mergeB b c).1.length ≤ 1099511627776 := by omega
  by_cases h1 : one = 0 <;> by_cases h2 : bnF b step = 0 <;> by_cases h3 : three = 0
  all_goals try exact absurd (n3 h3).1 h2
  all_goals
    simp only [h1, if_true, if_false] at e1
    simp only [h2, if_true, if_false] at e2
    simp only [h3, if_true, if_false] at e3
    simp (disch := first | omega | (simp only [go_sem]; first | done | omega)) only [go_sem, h1, h2, h3, e1, e2, e3]
    repeat' (first | ((first | refine acond_d ?_ ?_ | refine acond_b ?_ ?_ | refine ag_d ?_ ?_ | refine ag_n ?_ ?_ | refine ag_bt ?_ ?_ | refine ag_bf ?_ ?_) <;> intro c <;> try simp (disch := first | omega | (simp only [go_sem]; first | done | omega)) only [go_sem, c, h1, h2, h3, e1, e2, e3]) | ((first | refine w_draw (by kernel_rfl) (by decide +kernel) ?_ | refine binsOfF_a a step (n1 h1).1 (n1 h1).2 ?_ | refine coarserOf_a b step to h2 ?_ | refine mergedBins_a b c step (n3 h3).1 (n3 h3).2 (by omega) ?_ | refine checkLevels_a lv (by omega) ?_ | refine levelsFault_a lv (by omega) ?_ | refine checkBins_a b step (by omega) ?_ | refine ACalls.nilz [6, 6] (by simp) (equalN_a [] [] (by simp) (by simp) ?_) | refine equalN_a _ _ hl1 hl1 ?_ | refine equalN_a _ _ hl2 hl2 ?_ | refine equalN_a _ _ hl3 hl3 ?_ | refine retained_a ?_) <;> try simp (disch := first | omega | (simp only [go_sem]; first | done | omega)) only [go_sem, h1, h2, h3, e1, e2, e3]))
    exact Ret.drop hH (Nat.le_refl _) trivial hk
end Go.Proofs.Ytfhadgemgfpdbaa
