/- TopRollupsAnswer: what the law's function answers for all numbers it is given. No condition. -/
import Derived.Test.YthbdhennkmpgbaaGreatDoorHVTopM
import Derived.Test.YthbdhennkmpgbaaGreatDoorHVGood
import Derived.Test.YthbdhennkmpgbaaGreatDoorHVAnswer
import Derived.Test.YthbdhennkmpgbaaGreatDoorHVGC
import Derived.Test.YthbdhennkmpgbaaGreatDoorHVFacts
namespace Go.Proofs.YthbdhennkmpgbaaGreatDoor
open Go Go.RowKit
set_option maxRecDepth 100000
set_option linter.all false
set_option maxHeartbeats 1000000
variable {H : Hp} {K : AV → Hp → Prop}
theorem hdF_nil : hdF [] = 0 := rfl
theorem ofF_nil (tag : ByteArray) : ofF [] tag = [] := rfl
theorem topRollupsAnswer_a (zs : List Int) (hz : zs.length ≤ 9223372036854775807) (hk : K (.c (.bool true)) H) : ACalls Tryz.prog 3 [.c (.lst 1 (zs.map encI))] H K := by
  have st : ∀ (k : Int) (L : Hp), 0 ≤ k → k ≤ 1000000000 → Str (H ++ strO zs k :: L) H.length zs k := fun k L h1 h2 => ⟨hz, h1, by omega, by simp⟩
  have i800 : isStep 800 := by decide
  refine acalls Tryz.func3 rfl (by kernel_rfl) (by simp (disch := first | omega | (simp only [go_sem]; first | done | omega)) only [go_sem]) (fun hH => ?_)
  simp (disch := first | omega | (simp only [go_sem]; first | done | omega)) only [go_sem]
  refine rightLv_a H.length zs 0 (st _ _ (by omega) (by omega)) (by omega) (fun lv j1 g1 g2 c1 g4 => ?_)
  simp (disch := first | omega | (simp only [go_sem]; first | done | omega)) only [go_sem]
  refine rightSmp_a H.length zs j1 10 (st _ _ (by omega) (by omega)) (by omega) (by omega) (by omega) (fun a j2 g5 g6 g7 => ?_)
  obtain ⟨c4, hal, hab⟩ := g7
  simp (disch := first | omega | (simp only [go_sem]; first | done | omega)) only [go_sem]
  refine range_a H.length zs j2 100 600 (st _ _ (by omega) (by omega)) (by omega) (by omega) (by omega) (fun t t1 t2 => ?_)
  simp (disch := first | omega | (simp only [go_sem]; first | done | omega)) only [go_sem]
  refine range_a H.length zs (j2 + 1) 0 300 (st _ _ (by omega) (by omega)) (by omega) (by omega) (by omega) (fun r r1 r2 => ?_)
  simp (disch := first | omega | (simp only [go_sem]; first | done | omega)) only [go_sem]
  refine ACalls.nilz [0, 6] (by simp) (answer0_a lv taB ⟨0, 800⟩ 800 (800 + r) c1 taB_ok (by decide) (by decide) (by decide) (by dsimp only; omega) (by omega) i800 (by decide) (by decide) (fun i ok hi ho => ?_))
  simp (disch := first | omega | (simp only [go_sem]; first | done | omega)) only [go_sem]
  refine ACalls.nilz [0, 6] (by simp) (purge_a lv [] taB a (800 + r) (by omega) (by simp) (by simp) (by simp) (by decide) (by omega) ?_)
  rw [purge_ok c1 hdF_nil taB_ok c4 (by omega) (by omega)]
  have hYl := purgeB_len (kp := fun x m => keepB x (ofF [] taB) m (800 + r)) (lv := lv) (s := a) (t := 800 + r)
  have hY : ∀ k (hk : k + 1 < lv.length), (purgeB (fun x m => keepB x (ofF [] taB) m (800 + r)) lv a (800 + r))[k]? = some (binsLeft (fun m => keepB lv[k + 1] (ofF [] taB) m (800 + r)) lv[k + 1].step (upTo a (800 + r))) := fun k hk1 => purgeB_get hk1
  generalize purgeS (fun x m => keepB x (ofF [] taB) m (800 + r)) lv a (800 + r) = S at *
  generalize purgeB (fun x m => keepB x (ofF [] taB) m (800 + r)) lv a (800 + r) = Y at *
  have hlv := lvF_ok c1
  cases ok with
  | false =>
    have hi0 := ho rfl
    subst hi0
    simp (disch := first | omega | (simp only [go_sem]; first | done | omega)) only [go_sem]
    refine facts_a ?_
    simp (disch := first | omega | (simp only [go_sem]; first | done | omega)) only [go_sem]
    exact Ret.drop hH (Nat.le_refl _) trivial hk
  | true =>
    obtain ⟨hil, hd, hkp⟩ := hi rfl
    rcases Nat.eq_zero_or_pos i with i0 | i0
    · subst i0
      simp (disch := first | omega | (simp only [go_sem]; first | done | omega)) only [go_sem]
      refine facts_a ?_
      simp (disch := first | omega | (simp only [go_sem]; first | done | omega)) only [go_sem]
      exact Ret.drop hH (Nat.le_refl _) trivial hk
    · obtain ⟨q, rfl⟩ : ∃ q, i = q + 1 := ⟨i - 1, by omega⟩
      have isS := lvF_isStep c1 hil
      have hs1 : 1 ≤ lv[q + 1].step := isS.1
      have hmx : max 1 lv[q + 1].step = lv[q + 1].step := by omega
      rw [hmx] at hd
      have hYq : Y[q]'(by omega) = binsF lv[q + 1].step a := by
        have h1 := hY q hil
        rw [List.getElem?_eq_getElem (by omega)] at h1
        rw [Option.some.inj h1, ofF_nil, upTo_all (fun x hx => by have := hab x hx; omega)]
        exact left_all hs1 hkp a (binsF_pos hs1 c4)
      have hbl := binsF_len' lv[q + 1].step a
      have hsum := sum_all c4 isS (B := 800) (by omega) (by omega) hd (fun x hx => by have := hab x hx; omega)
      have hwin := within_all (s := a) (b := 800) (fun x hx => by have := hab x hx; omega)
      have e1 : (((q + 1 : Nat) : Int) - 1).toNat = q := by omega
      have hX : Y[(((q + 1 : Nat) : Int) - 1).toNat]'(by omega) = binsF lv[q + 1].step a := by simp only [e1]; exact hYq
      have gb := gs_bd a (fun x hx => by have := hab x hx; omega)
      simp (disch := first | omega | (simp only [go_sem]; first | done | omega)) only [go_sem, hX]
      repeat' (first | ((first | refine acond_d ?_ ?_ | refine acond_b ?_ ?_ | refine ag_d ?_ ?_ | refine ag_n ?_ ?_ | refine ag_bt ?_ ?_ | refine ag_bf ?_ ?_ | refine agt_d ?_ ?_ | refine agt_n ?_ ?_ | refine agt_bt ?_ ?_ | refine agt_bf ?_ ?_) <;> intro c <;> try simp (disch := first | omega | (simp only [go_sem]; first | done | omega)) only [go_sem, c, hX, hsum]) | ((first | refine w_draw (by kernel_rfl) (by decide +kernel) ?_ | refine sum_a (binsF lv[q + 1].step a) lv[q + 1].step ⟨0, 800⟩ (by omega) ?_ | refine w_tree (.one 0 (.one 1 (.one 2 (.one 3 (.one 4 (.one 5 (.one 6 (.one 7 (.one 8 (.one 9 (.one 10 (.one 11 (.one 12 (.one 13 (.one 14 (.one 15 (.one 16 (.one 17 (.one 18 .done))))))))))))))))))) (by kernel_rfl) (by decide +kernel) ?_) <;> try simp (disch := first | omega | (simp only [go_sem]; first | done | omega)) only [go_sem, hX, hsum]) | (refine And.intro ?_ ?_ <;> try simp (disch := first | omega | (simp only [go_sem]; first | done | omega)) only [go_sem, hX, hsum]))
      refine sliceOf_a a ⟨0, 800⟩ (by omega) ?_
      rw [hwin]
      simp (disch := first | omega | (simp only [go_sem]; first | done | omega)) only [go_sem]
      refine AWp.upto (H.length) [17, 102, 103] [104, 15, 16] (a.length) (fun k => [(104, (.c (.int .i64 k))), (15, (.c (.int .i64 (gs (a.drop k))))), (16, (.c (.int .i64 (gn (a.drop k)))))]) (fun k => H) (by kernel_rfl) (fun _ => rfl) (by kernel_rfl) (by simp) (by first | (simp; done) | (simp; omega)) (by (try simp only [List.forall_mem_cons, List.not_mem_nil, false_implies, implies_true, and_true]); (try simp (disch := first | omega | (simp only [go_sem]; first | done | omega)) only [go_sem]); all_goals first | trivial | (simp [AV.ok, AV.ok1, AC.ok]; done) | (simp [AV.ok, AV.ok1, AC.ok]; omega) | (simp [AV.ok, AV.ok1, AC.ok]; assumption) | ((repeat' apply And.intro) <;> first | trivial | (simp [AV.ok, AV.ok1, AC.ok]; done) | (simp [AV.ok, AV.ok1, AC.ok]; omega) | (simp [AV.ok, AV.ok1, AC.ok]; assumption) | (refine grV_ok ?_ _; first | (simp; done) | (simp; omega) | omega))) (by refine Next.mk 0 rfl ?_; simp only [List.drop_zero, gs, gn]; (try simp (disch := first | omega | (simp only [go_sem]; first | done | omega)) only [go_sem]); (first | refine WkL.eq ?_ ?_ | refine WkL.rest (by assumption) ?_ ?_ ?_ | refine WkL.keepL (by assumption) rfl ?_ ?_ ?_ ?_) <;> first | rfl | (simp; done) | (simp; omega) | (simp only [List.cons.injEq, AV.c.injEq, AC.int.injEq, AC.bool.injEq, AC.str.injEq, and_true, true_and, Int.natCast_add, Int.natCast_one, Int.cast_ofNat_Int]; omega) | (simp [AV.ok, AV.ok1, AC.ok]; done) | (simp [AV.ok, AV.ok1, AC.ok]; omega) | (simp only [List.forall_mem_cons, List.not_mem_nil, false_implies, implies_true, and_true]; (repeat' apply And.intro) <;> first | exact okN_map (fun x => by simp [go_sem, AC.pure]) | exact okN_grO (fun x => by simp [go_sem, AC.pure]) | (simp [AObj.okN, AC.ok]; done) | (simp [AObj.okN, AC.ok]; omega)) | (simp [*]; done) | grind) (fun k hk1 _ _ => ?_)
      have gbk := gs_bd (a.drop k) (fun x hx => by have := hab x (List.mem_of_mem_drop hx); omega)
      have hdk : (a.drop k).length ≤ a.length := by rw [List.length_drop]; omega
      by_cases hlt : k < a.length
      · have hx := hab a[k] (List.getElem_mem hlt)
        have e1 := gs_next hlt
        by_cases c0 : a[k].q = 0
        · rw [if_pos c0] at e1
          simp (disch := first | omega | (simp only [go_sem]; first | done | omega)) only [go_sem, c0]
          refine Next.mk (k + 1) (by first | rfl | exact ⟨rfl, by omega⟩) ?_
          (try simp (disch := first | omega | (simp only [go_sem]; first | done | omega)) only [go_sem]); (first | refine WkL.eq ?_ ?_ | refine WkL.rest (by assumption) ?_ ?_ ?_ | refine WkL.keepL (by assumption) rfl ?_ ?_ ?_ ?_) <;> first | rfl | (simp; done) | (simp; omega) | (simp only [List.cons.injEq, AV.c.injEq, AC.int.injEq, AC.bool.injEq, AC.str.injEq, and_true, true_and, Int.natCast_add, Int.natCast_one, Int.cast_ofNat_Int]; omega) | (simp [AV.ok, AV.ok1, AC.ok]; done) | (simp [AV.ok, AV.ok1, AC.ok]; omega) | (simp only [List.forall_mem_cons, List.not_mem_nil, false_implies, implies_true, and_true]; (repeat' apply And.intro) <;> first | exact okN_map (fun x => by simp [go_sem, AC.pure]) | exact okN_grO (fun x => by simp [go_sem, AC.pure]) | (simp [AObj.okN, AC.ok]; done) | (simp [AObj.okN, AC.ok]; omega)) | (simp [*]; done) | grind
        · rw [if_neg c0] at e1
          simp (disch := first | omega | (simp only [go_sem]; first | done | omega)) only [go_sem, c0]
          refine Next.mk (k + 1) (by first | rfl | exact ⟨rfl, by omega⟩) ?_
          (try simp (disch := first | omega | (simp only [go_sem]; first | done | omega)) only [go_sem]); (first | refine WkL.eq ?_ ?_ | refine WkL.rest (by assumption) ?_ ?_ ?_ | refine WkL.keepL (by assumption) rfl ?_ ?_ ?_ ?_) <;> first | rfl | (simp; done) | (simp; omega) | (simp only [List.cons.injEq, AV.c.injEq, AC.int.injEq, AC.bool.injEq, AC.str.injEq, and_true, true_and, Int.natCast_add, Int.natCast_one, Int.cast_ofNat_Int]; omega) | (simp [AV.ok, AV.ok1, AC.ok]; done) | (simp [AV.ok, AV.ok1, AC.ok]; omega) | (simp only [List.forall_mem_cons, List.not_mem_nil, false_implies, implies_true, and_true]; (repeat' apply And.intro) <;> first | exact okN_map (fun x => by simp [go_sem, AC.pure]) | exact okN_grO (fun x => by simp [go_sem, AC.pure]) | (simp [AObj.okN, AC.ok]; done) | (simp [AObj.okN, AC.ok]; omega)) | (simp [*]; done) | grind
      · have e0 : a.drop k = [] := List.drop_eq_nil_of_le (by omega)
        rw [e0]
        simp (disch := first | omega | (simp only [go_sem]; first | done | omega)) only [go_sem]
        refine facts_a ?_
        simp (disch := first | omega | (simp only [go_sem]; first | done | omega)) only [go_sem]
        (first | refine Ret.sameE (Nat.le_refl _) (by assumption) ?_ | refine Ret.dropE (by assumption) (Nat.le_refl _) (by assumption) (by simp [AV.ok, AV.ok1, AC.ok]) ?_) <;> (first | rfl | (simp only [AV.c.injEq, AC.bool.injEq]; rw [Bool.eq_iff_iff]; simp only [Bool.not_eq_true', decide_eq_true_eq, decide_eq_false_iff_not, Bool.and_eq_true, Bool.or_eq_true]; omega) | grind | (simp [*]; done) | (simp [*]; omega))
end Go.Proofs.YthbdhennkmpgbaaGreatDoor
