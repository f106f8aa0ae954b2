/- QuotasFit: what the law's function answers for all numbers it is given. No condition. -/
import Derived.Test.YtfhadgemgfpdbaaVBins
import Derived.Test.YtfhadgemgfpdbaaVGr
namespace Go.Proofs.Ytfhadgemgfpdbaa
open Go Go.RowKit
set_option maxRecDepth 100000
set_option linter.all false
set_option maxHeartbeats 1000000
variable {H : Hp} {K : AV → Hp → Prop}
theorem fitGo_len (rate quota : Int) : ∀ (n i : Nat) (least : Int) (l : List Level), (fitGo rate quota n i least l).length = l.length
  | 0, _, _, _ => rfl
  | n + 1, i, least, l => by
    unfold fitGo
    split
    · rfl
    · rw [fitGo_len rate quota n]; simp
theorem fitRes_len (l : List Level) (rate quota : Int) : (fitRes l rate quota).1.length ≤ l.length := by
  have := fitGo_len rate quota l.length 0 1 l
  unfold fitRes
  split
  · simp
  · split
    · simp
    · split
      · simp
      · simp [this]
theorem errsGo_a (l : List Int) (hl : l.length ≤ 1000000) (hk : K (.c (.int .i64 (firstE l))) H) : ACalls Try.prog 10 [.c (.lst 1 (l.map encI))] H K := by
  refine acalls Try.func10 rfl (by kernel_rfl) (by simp (disch := first | omega | (simp only [go_sem]; first | done | omega)) only [go_sem]) (fun hH => ?_)
  simp (disch := first | omega | (simp only [go_sem]; first | done | omega)) only [go_sem]
  refine AWp.loop (H.length) [5, 6] [7] (fun (k : Nat) => k ≤ l.length ∧ firstE (l.drop k) = firstE l) (fun (k : Nat) => [(7, (.c (.int .i64 k)))]) (fun (k : Nat) => H) (fun (k : Nat) => l.length - k) (by kernel_rfl) (fun _ => rfl) (by kernel_rfl) (by simp) (by first | (simp; done) | (simp; omega)) (by (try simp only [List.forall_mem_cons, List.not_mem_nil, false_implies, implies_true, and_true]); (try simp (disch := first | omega | (simp only [go_sem]; first | done | omega)) only [go_sem]); first | trivial | (simp [AV.ok, AV.ok1, AC.ok]; done) | (simp [AV.ok, AV.ok1, AC.ok]; omega) | ((repeat' apply And.intro) <;> first | trivial | (simp [AV.ok, AV.ok1, AC.ok]; done) | (simp [AV.ok, AV.ok1, AC.ok]; omega) | (refine grV_ok ?_ _; first | (simp; done) | (simp; omega) | omega))) ?_ (fun k hk1 _ _ => ?_)
  · exact Next.mk 0 (by simp) (by (try simp (disch := first | omega | (simp only [go_sem]; first | done | omega)) only [go_sem]); (first | refine WkL.eq ?_ ?_ | refine WkL.rest (by assumption) ?_ ?_ ?_ | refine WkL.keepL (by assumption) rfl ?_ ?_ ?_ ?_) <;> first | rfl | (simp; done) | (simp; omega) | (simp only [List.cons.injEq, AV.c.injEq, AC.int.injEq, AC.bool.injEq, AC.str.injEq, and_true, true_and, Int.natCast_add, Int.natCast_one, Int.cast_ofNat_Int]; omega) | (simp [AV.ok, AV.ok1, AC.ok]; done) | (simp [AV.ok, AV.ok1, AC.ok]; omega) | (simp only [List.forall_mem_cons, List.not_mem_nil, false_implies, implies_true, and_true]; (repeat' apply And.intro) <;> first | exact okN_map (fun x => by simp [go_sem, AC.pure]) | exact okN_grO (fun x => by simp [go_sem, AC.pure]) | (simp [AObj.okN, AC.ok]; done) | (simp [AObj.okN, AC.ok]; omega)) | (simp [*]; done) | grind)
  · simp (disch := first | omega | (simp only [go_sem]; first | done | omega)) only [go_sem, *]
    repeat' (first | ((first | refine acond_d ?_ ?_ | refine acond_b ?_ ?_ | refine ag_d ?_ ?_ | refine ag_n ?_ ?_ | refine ag_bt ?_ ?_ | refine ag_bf ?_ ?_) <;> intro c <;> try simp (disch := first | omega | (simp only [go_sem]; first | done | omega)) only [go_sem, c]) | ((first | refine w_draw (by kernel_rfl) (by decide +kernel) ?_) <;> try simp (disch := first | omega | (simp only [go_sem]; first | done | omega)) only [go_sem]))
    · have := firstE_drop l k (by omega)
      exact Next.mk (k + 1) ⟨⟨by omega, by grind⟩, by omega⟩ (by (try simp (disch := first | omega | (simp only [go_sem]; first | done | omega)) only [go_sem]); (first | refine WkL.eq ?_ ?_ | refine WkL.rest (by assumption) ?_ ?_ ?_ | refine WkL.keepL (by assumption) rfl ?_ ?_ ?_ ?_) <;> first | rfl | (simp; done) | (simp; omega) | (simp only [List.cons.injEq, AV.c.injEq, AC.int.injEq, AC.bool.injEq, AC.str.injEq, and_true, true_and, Int.natCast_add, Int.natCast_one, Int.cast_ofNat_Int]; omega) | (simp [AV.ok, AV.ok1, AC.ok]; done) | (simp [AV.ok, AV.ok1, AC.ok]; omega) | (simp only [List.forall_mem_cons, List.not_mem_nil, false_implies, implies_true, and_true]; (repeat' apply And.intro) <;> first | exact okN_map (fun x => by simp [go_sem, AC.pure]) | exact okN_grO (fun x => by simp [go_sem, AC.pure]) | (simp [AObj.okN, AC.ok]; done) | (simp [AObj.okN, AC.ok]; omega)) | (simp [*]; done) | grind)
    · have := firstE_drop l k (by omega)
      (first | refine Ret.sameE (Nat.le_refl _) (by assumption) ?_ | refine Ret.dropE (by assumption) (Nat.le_refl _) (by assumption) (by simp [AV.ok, AV.ok1, AC.ok]) ?_) <;> (first | rfl | (simp only [AV.c.injEq, AC.bool.injEq]; rw [Bool.eq_iff_iff]; simp only [Bool.not_eq_true', decide_eq_true_eq, decide_eq_false_iff_not, Bool.and_eq_true, Bool.or_eq_true]; omega) | grind | (simp [*]; done) | (simp [*]; omega))
    · have : l.drop k = [] := List.drop_eq_nil_of_le (by omega)
      have h0 : firstE l = 0 := by rw [← hk1.2, this]; rfl
      (first | refine Ret.sameE (Nat.le_refl _) (by assumption) ?_ | refine Ret.dropE (by assumption) (Nat.le_refl _) (by assumption) (by simp [AV.ok, AV.ok1, AC.ok]) ?_) <;> (first | rfl | (simp only [AV.c.injEq, AC.bool.injEq]; rw [Bool.eq_iff_iff]; simp only [Bool.not_eq_true', decide_eq_true_eq, decide_eq_false_iff_not, Bool.and_eq_true, Bool.or_eq_true]; omega) | grind | (simp [*]; done) | (simp [*]; omega))
theorem errs_lit (a b : Int) {i ty n : Nat} {els : List (List AC)} {own : Bool} (hi : H[i]? = some (.row ty 1 els own)) (he : els = [a, b].map encI) (hn : n = 2) (hk : K (.c (.int .i64 (firstE [a, b]))) (H.set i .dead)) : ACalls Try.prog 10 [.c (.sl (some (i, 0)) n)] H K := by
  subst he hn
  exact ACalls.lit hi (by simp [pureL, encI, AC.pure]) (args' := [.c (.lst 1 ([a, b].map encI))]) (by simp [AV.frz1, AC.frz]) (errsGo_a [a, b] (by simp) hk)
def twoE (l : List Level) (rate quota : Int) : Int := firstE [rateErr l rate, if quota < 1 ∨ 1000000 < quota then 1 else 0]
theorem quotasFit_a (zs : List Int) (hz : zs.length ≤ 9223372036854775807) (hk : K (.c (.bool true)) H) : ACalls Try.prog 3 [.c (.lst 1 (zs.map encI))] H K := by
  have st : ∀ (k : Int) (L : Hp), 0 ≤ k → k ≤ 1000000000 → Str (H ++ strO zs k :: L) H.length zs k := fun k L h1 h2 => ⟨hz, h1, by omega, by simp⟩
  refine acallsS Try.func3 rfl (by simp (disch := first | omega | (simp only [go_sem]; first | done | omega)) only [go_sem]) (fun hH => ?_)
  (refine SWp.go (by kernel_rfl) ?_; simp (disch := first | omega | (simp only [go_sem]; first | done | omega)) only [go_sem])
  (refine SWp.go (by kernel_rfl) ?_; simp (disch := first | omega | (simp only [go_sem]; first | done | omega)) only [go_sem])
  refine SWp.go (by kernel_rfl) ?_
  simp (disch := first | omega | (simp only [go_sem]; first | done | omega)) only [go_sem]
  refine levelList_o H.length zs 0 (st 0 _ (by omega) (by omega)) (by omega) (fun lv j1 g1 g2 g3 g4 => ?_)
  simp (disch := first | omega | (simp only [go_sem]; first | done | omega)) only [go_sem]
  refine pick_lit H.length zs j1 [1, 60, 3600, 100000, 1000000, 0, 1000001] (by first | exact at0 (by simp) | exact at1 (by simp) | exact at2 (by simp) | exact at3 (by simp) | exact at4 (by simp) | exact at5 (by simp) | exact atG 6 (by simp) rfl | exact atG 7 (by simp) rfl | exact atG 8 (by simp) rfl | exact atG 9 (by simp) rfl | exact atG 10 (by simp) rfl | assumption) rfl rfl (st _ _ (by omega) (by omega)) (by omega) (by simp) (by simp) (fun rate hr => ?_)
  have hr' : 0 ≤ rate ∧ rate ≤ 1000001 := by simp at hr; omega
  clear hr
  simp (disch := first | omega | (simp only [go_sem]; first | done | omega)) only [go_sem]
  refine pick_lit H.length zs (j1 + 1) [1, 2, 3, 5, 8, 20, 100, 1000000, 0, 1000001] (by first | exact at0 (by simp) | exact at1 (by simp) | exact at2 (by simp) | exact at3 (by simp) | exact at4 (by simp) | exact at5 (by simp) | exact atG 6 (by simp) rfl | exact atG 7 (by simp) rfl | exact atG 8 (by simp) rfl | exact atG 9 (by simp) rfl | exact atG 10 (by simp) rfl | assumption) rfl rfl (st _ _ (by omega) (by omega)) (by omega) (by simp) (by simp) (fun quota hq => ?_)
  have hq' : 0 ≤ quota ∧ quota ≤ 1000001 := by simp at hq; omega
  clear hq
  simp (disch := first | omega | (simp only [go_sem]; first | done | omega)) only [go_sem]
  refine SWp.cut (H.length) [5, 6] [4] (fun (lw : List Level) => lw.length ≤ 4) (fun (lw : List Level) => [(4, .c (.lst 2 (lw.map encL)))]) (fun (lw : List Level) => H) (fun _ => rfl) (by kernel_rfl) (by simp) (by first | (simp; done) | (simp; omega)) (by (try simp only [List.forall_mem_cons, List.not_mem_nil, false_implies, implies_true, and_true]); (try simp (disch := first | omega | (simp only [go_sem]; first | done | omega)) only [go_sem]); first | trivial | (simp [AV.ok, AV.ok1, AC.ok]; done) | (simp [AV.ok, AV.ok1, AC.ok]; omega) | ((repeat' apply And.intro) <;> first | trivial | (simp [AV.ok, AV.ok1, AC.ok]; done) | (simp [AV.ok, AV.ok1, AC.ok]; omega) | (refine grV_ok ?_ _; first | (simp; done) | (simp; omega) | omega))) (SWp.of (by kernel_rfl) ?_) (fun lw hlw _ _ => ?_)
  · simp (disch := first | omega | (simp only [go_sem]; first | done | omega)) only [go_sem]
    refine flip_a H.length zs (j1 + 1 + 1) 3 (st _ _ (by omega) (by omega)) (by omega) (by omega) (fun b => ?_)
    simp (disch := first | omega | (simp only [go_sem]; first | done | omega)) only [go_sem]
    have hend : ∀ (lw : List Level) (G : Hp), lw.length ≤ 4 → G[1]? = some (grO 31 2 (lw.map encL)) → WkL H.length [.c (clV (H.length + 1) 2 (lw.map encL))] (H ++ G) [.c (.lst 2 (lw.map encL))] H := by
      intro lw G h1 h2
      cases lw with
      | nil => exact WkL.rest hH (Nat.le_refl _) rfl (by simp [AV.ok, AV.ok1, AC.ok])
      | cons y ys =>
        refine (WkL.pick [1] hH (Nat.le_refl _) (L := [grO 31 2 ((y :: ys).map encL)]) (vs' := [.c (clV H.length 2 ((y :: ys).map encL))]) (by simp [h2]) (by simp) (by simp [AObj.pureO, grO, pureL, encL, AC.pure]) ?_ ?_).trans (WkL.frzCl1 hH (Nat.le_refl _) (pureL_encL _))
        · simp [clV, AV.ren, AV.ren1, AC.ren, pickS]
        · simp [clV, AV.ok, AV.ok1, AC.ok]
    refine acond_b (fun c => ?_) (fun c => ?_)
    · by_cases hnil : lv = []
      · subst hnil
        simp only [List.map_nil, clV, grO]
        simp (disch := first | omega | (simp only [go_sem]; first | done | omega)) only [go_sem]
        refine AWp.loop (H.length) [4, 5, 6, 32] [33] (fun (k : Nat) => k = 0) (fun (k : Nat) => [(33, (.c (.int .i64 0)))]) (fun (k : Nat) => H ++ [strO zs (j1 + 1 + 1 + 1), .dead, .dead, .dead]) (fun (k : Nat) => k) (by kernel_rfl) (fun _ => rfl) (by kernel_rfl) (by simp) (by first | (simp; done) | (simp; omega)) (by (try simp only [List.forall_mem_cons, List.not_mem_nil, false_implies, implies_true, and_true]); (try simp (disch := first | omega | (simp only [go_sem]; first | done | omega)) only [go_sem]); first | trivial | (simp [AV.ok, AV.ok1, AC.ok]; done) | (simp [AV.ok, AV.ok1, AC.ok]; omega) | ((repeat' apply And.intro) <;> first | trivial | (simp [AV.ok, AV.ok1, AC.ok]; done) | (simp [AV.ok, AV.ok1, AC.ok]; omega) | (refine grV_ok ?_ _; first | (simp; done) | (simp; omega) | omega))) ?_ (fun k hk _ _ => ?_)
        · exact Next.mk 0 rfl (by (try simp (disch := first | omega | (simp only [go_sem]; first | done | omega)) only [go_sem]); (first | refine WkL.eq ?_ ?_ | refine WkL.rest (by assumption) ?_ ?_ ?_ | refine WkL.keepL (by assumption) rfl ?_ ?_ ?_ ?_) <;> first | rfl | (simp; done) | (simp; omega) | (simp only [List.cons.injEq, AV.c.injEq, AC.int.injEq, AC.bool.injEq, AC.str.injEq, and_true, true_and, Int.natCast_add, Int.natCast_one, Int.cast_ofNat_Int]; omega) | (simp [AV.ok, AV.ok1, AC.ok]; done) | (simp [AV.ok, AV.ok1, AC.ok]; omega) | (simp only [List.forall_mem_cons, List.not_mem_nil, false_implies, implies_true, and_true]; (repeat' apply And.intro) <;> first | exact okN_map (fun x => by simp [go_sem, AC.pure]) | exact okN_grO (fun x => by simp [go_sem, AC.pure]) | (simp [AObj.okN, AC.ok]; done) | (simp [AObj.okN, AC.ok]; omega)) | (simp [*]; done) | grind)
        · simp (disch := first | omega | (simp only [go_sem]; first | done | omega)) only [go_sem]
          exact Next.mk [] (by simp) (hend [] _ (by simp) rfl)
      · have hne : ∀ l : List Level, l.length = lv.length → l.map encL ≠ [] := fun l h => by
          have : lv.length ≠ 0 := by simpa using hnil
          intro h'; have := congrArg List.length h'; simp at this; subst this; simp at h; omega
        rw [clV_pos _ _ (hne lv rfl), grO_pos _ _ (hne lv rfl)]
        simp (disch := first | omega | (simp only [go_sem]; first | done | omega)) only [go_sem]
        refine AWp.loop (H.length + 2) [4, 5, 6, 32] [33] (fun (s : Nat × List Level) => s.1 ≤ lv.length ∧ s.2.length = lv.length ∧ ∀ y ∈ s.2, 0 ≤ y.keep ∧ y.keep ≤ 345686400001) (fun (s : Nat × List Level) => [(33, (.c (.int .i64 (s.1))))]) (fun (s : Nat × List Level) => H ++ [strO zs (j1 + 1 + 1 + 1), .row 31 2 (s.2.map encL) true, .dead, .dead]) (fun (s : Nat × List Level) => lv.length - s.1) (by kernel_rfl) (fun _ => rfl) (by kernel_rfl) (by simp) (by first | (simp; done) | (simp; omega)) (by (try simp only [List.forall_mem_cons, List.not_mem_nil, false_implies, implies_true, and_true]); (try simp (disch := first | omega | (simp only [go_sem]; first | done | omega)) only [go_sem]); first | trivial | (simp [AV.ok, AV.ok1, AC.ok]; done) | (simp [AV.ok, AV.ok1, AC.ok]; omega) | ((repeat' apply And.intro) <;> first | trivial | (simp [AV.ok, AV.ok1, AC.ok]; done) | (simp [AV.ok, AV.ok1, AC.ok]; omega) | (refine grV_ok ?_ _; first | (simp; done) | (simp; omega) | omega))) ?_ (fun s hs _ _ => ?_)
        · exact Next.mk (0, lv) ⟨by simp, rfl, fun y hy => (g4 y hy).2.2⟩ (by (try simp (disch := first | omega | (simp only [go_sem]; first | done | omega)) only [go_sem]); (first | refine WkL.eq ?_ ?_ | refine WkL.rest (by assumption) ?_ ?_ ?_ | refine WkL.keepL (by assumption) rfl ?_ ?_ ?_ ?_) <;> first | rfl | (simp; done) | (simp; omega) | (simp only [List.cons.injEq, AV.c.injEq, AC.int.injEq, AC.bool.injEq, AC.str.injEq, and_true, true_and, Int.natCast_add, Int.natCast_one, Int.cast_ofNat_Int]; omega) | (simp [AV.ok, AV.ok1, AC.ok]; done) | (simp [AV.ok, AV.ok1, AC.ok]; omega) | (simp only [List.forall_mem_cons, List.not_mem_nil, false_implies, implies_true, and_true]; (repeat' apply And.intro) <;> first | exact okN_map (fun x => by simp [go_sem, AC.pure]) | exact okN_grO (fun x => by simp [go_sem, AC.pure]) | (simp [AObj.okN, AC.ok]; done) | (simp [AObj.okN, AC.ok]; omega)) | (simp [*]; done) | grind)
        obtain ⟨k, lw⟩ := s
        obtain ⟨hk1, hlw, hbd⟩ := hs
        dsimp only at hk1 hlw hbd
        by_cases hlt : k < lv.length
        · have hk2 : k < lw.length := by omega
          have hy := hbd lw[k] (List.getElem_mem hk2)
          have hset : ∀ v : Int, (lw.map encL).set k [.int .i64 lw[k].step, .int .i64 v] = (lw.set k ⟨lw[k].step, v⟩).map encL := fun v => by rw [List.map_set]; rfl
          simp (disch := first | omega | (simp only [go_sem]; first | done | omega)) only [go_sem]
          rw [hset]
          refine Next.mk (k + 1, lw.set k ⟨lw[k].step, min (lw[k].keep * 3000000) (345686399900 + k)⟩) ⟨⟨by omega, by simpa using hlw, fun y hy' => ?_⟩, by dsimp only; omega⟩ (by (try simp (disch := first | omega | (simp only [go_sem]; first | done | omega)) only [go_sem]); (first | refine WkL.eq ?_ ?_ | refine WkL.rest (by assumption) ?_ ?_ ?_ | refine WkL.keepL (by assumption) rfl ?_ ?_ ?_ ?_) <;> first | rfl | (simp; done) | (simp; omega) | (simp only [List.cons.injEq, AV.c.injEq, AC.int.injEq, AC.bool.injEq, AC.str.injEq, and_true, true_and, Int.natCast_add, Int.natCast_one, Int.cast_ofNat_Int]; omega) | (simp [AV.ok, AV.ok1, AC.ok]; done) | (simp [AV.ok, AV.ok1, AC.ok]; omega) | (simp only [List.forall_mem_cons, List.not_mem_nil, false_implies, implies_true, and_true]; (repeat' apply And.intro) <;> first | exact okN_map (fun x => by simp [go_sem, AC.pure]) | exact okN_grO (fun x => by simp [go_sem, AC.pure]) | (simp [AObj.okN, AC.ok]; done) | (simp [AObj.okN, AC.ok]; omega)) | (simp [*]; done) | grind)
          rcases List.mem_or_eq_of_mem_set hy' with h | rfl
          · exact hbd y h
          · dsimp only; omega
        · simp (disch := first | omega | (simp only [go_sem]; first | done | omega)) only [go_sem]
          refine Next.mk lw (by omega) ?_
          have := hend lw [strO zs (j1 + 1 + 1 + 1), grO 31 2 (lw.map encL), .dead, .dead] (by omega) rfl
          rw [clV_pos _ _ (hne lw hlw), grO_pos _ _ (hne lw hlw), List.length_map, hlw] at this
          exact this
    · simp (disch := first | omega | (simp only [go_sem]; first | done | omega)) only [go_sem]
      exact Next.mk lv (by omega) (hend lv _ (by omega) rfl)
  clear g1 g2 g3 g4
  refine SWp.go (by kernel_rfl) ?_
  simp (disch := first | omega | (simp only [go_sem]; first | done | omega)) only [go_sem]
  refine costTop_a lw rate (by omega) ?_
  simp (disch := first | omega | (simp only [go_sem]; first | done | omega)) only [go_sem]
  refine SWp.go (by kernel_rfl) ?_
  simp (disch := first | omega | (simp only [go_sem]; first | done | omega)) only [go_sem]
  refine fit_a lw rate quota (by omega) (by omega) ?_
  simp (disch := first | omega | (simp only [go_sem]; first | done | omega)) only [go_sem]
  refine SWp.cut (H.length) [4, 5, 6, 8, 9, 10, 11, 12] [13] (fun (s : Unit) => True) (fun (s : Unit) => [(13, (.c (.int .i64 (rateErr lw rate))))]) (fun (s : Unit) => H) (fun _ => rfl) (by kernel_rfl) (by simp) (by first | (simp; done) | (simp; omega)) (by (try simp only [List.forall_mem_cons, List.not_mem_nil, false_implies, implies_true, and_true]); (try simp (disch := first | omega | (simp only [go_sem]; first | done | omega)) only [go_sem]); first | trivial | (simp [AV.ok, AV.ok1, AC.ok]; done) | (simp [AV.ok, AV.ok1, AC.ok]; omega) | ((repeat' apply And.intro) <;> first | trivial | (simp [AV.ok, AV.ok1, AC.ok]; done) | (simp [AV.ok, AV.ok1, AC.ok]; omega) | (refine grV_ok ?_ _; first | (simp; done) | (simp; omega) | omega))) (SWp.of (by kernel_rfl) ?_) (fun _ _ _ _ => ?_)
  · simp (disch := first | omega | (simp only [go_sem]; first | done | omega)) only [go_sem]
    refine levelsFault_a lw (by omega) ?_
    by_cases r1 : rate < 1
    · simp (disch := first | omega | (simp only [go_sem]; first | done | omega)) only [go_sem, r1]
      refine when_a _ _ _ _ ?_
      simp (disch := first | omega | (simp only [go_sem]; first | done | omega)) only [go_sem, r1]
      refine errs_lit (lvF lw) 1 (by first | exact at0 (by simp) | exact at1 (by simp) | exact at2 (by simp) | exact at3 (by simp) | exact at4 (by simp) | exact at5 (by simp) | exact atG 6 (by simp) rfl | exact atG 7 (by simp) rfl | exact atG 8 (by simp) rfl | exact atG 9 (by simp) rfl | exact atG 10 (by simp) rfl | assumption) rfl rfl ?_
      simp (disch := first | omega | (simp only [go_sem]; first | done | omega)) only [go_sem, r1]
      exact Next.mk () trivial (by rw [show rateErr lw rate = firstE [lvF lw, 1] by simp [rateErr, r1]]; (try simp (disch := first | omega | (simp only [go_sem]; first | done | omega)) only [go_sem]); (first | refine WkL.eq ?_ ?_ | refine WkL.rest (by assumption) ?_ ?_ ?_ | refine WkL.keepL (by assumption) rfl ?_ ?_ ?_ ?_) <;> first | rfl | (simp; done) | (simp; omega) | (simp only [List.cons.injEq, AV.c.injEq, AC.int.injEq, AC.bool.injEq, AC.str.injEq, and_true, true_and, Int.natCast_add, Int.natCast_one, Int.cast_ofNat_Int]; omega) | (simp [AV.ok, AV.ok1, AC.ok]; done) | (simp [AV.ok, AV.ok1, AC.ok]; omega) | (simp only [List.forall_mem_cons, List.not_mem_nil, false_implies, implies_true, and_true]; (repeat' apply And.intro) <;> first | exact okN_map (fun x => by simp [go_sem, AC.pure]) | exact okN_grO (fun x => by simp [go_sem, AC.pure]) | (simp [AObj.okN, AC.ok]; done) | (simp [AObj.okN, AC.ok]; omega)) | (simp [*]; done) | grind)
    by_cases r2 : 1000000 < rate
    · simp (disch := first | omega | (simp only [go_sem]; first | done | omega)) only [go_sem, r1, r2]
      refine when_a _ _ _ _ ?_
      simp (disch := first | omega | (simp only [go_sem]; first | done | omega)) only [go_sem, r1, r2]
      refine errs_lit (lvF lw) 1 (by first | exact at0 (by simp) | exact at1 (by simp) | exact at2 (by simp) | exact at3 (by simp) | exact at4 (by simp) | exact at5 (by simp) | exact atG 6 (by simp) rfl | exact atG 7 (by simp) rfl | exact atG 8 (by simp) rfl | exact atG 9 (by simp) rfl | exact atG 10 (by simp) rfl | assumption) rfl rfl ?_
      simp (disch := first | omega | (simp only [go_sem]; first | done | omega)) only [go_sem, r1, r2]
      exact Next.mk () trivial (by rw [show rateErr lw rate = firstE [lvF lw, 1] by simp [rateErr, r2]]; (try simp (disch := first | omega | (simp only [go_sem]; first | done | omega)) only [go_sem]); (first | refine WkL.eq ?_ ?_ | refine WkL.rest (by assumption) ?_ ?_ ?_ | refine WkL.keepL (by assumption) rfl ?_ ?_ ?_ ?_) <;> first | rfl | (simp; done) | (simp; omega) | (simp only [List.cons.injEq, AV.c.injEq, AC.int.injEq, AC.bool.injEq, AC.str.injEq, and_true, true_and, Int.natCast_add, Int.natCast_one, Int.cast_ofNat_Int]; omega) | (simp [AV.ok, AV.ok1, AC.ok]; done) | (simp [AV.ok, AV.ok1, AC.ok]; omega) | (simp only [List.forall_mem_cons, List.not_mem_nil, false_implies, implies_true, and_true]; (repeat' apply And.intro) <;> first | exact okN_map (fun x => by simp [go_sem, AC.pure]) | exact okN_grO (fun x => by simp [go_sem, AC.pure]) | (simp [AObj.okN, AC.ok]; done) | (simp [AObj.okN, AC.ok]; omega)) | (simp [*]; done) | grind)
    · simp (disch := first | omega | (simp only [go_sem]; first | done | omega)) only [go_sem, r1, r2]
      refine when_a _ _ _ _ ?_
      simp (disch := first | omega | (simp only [go_sem]; first | done | omega)) only [go_sem, r1, r2]
      refine errs_lit (lvF lw) 0 (by first | exact at0 (by simp) | exact at1 (by simp) | exact at2 (by simp) | exact at3 (by simp) | exact at4 (by simp) | exact at5 (by simp) | exact atG 6 (by simp) rfl | exact atG 7 (by simp) rfl | exact atG 8 (by simp) rfl | exact atG 9 (by simp) rfl | exact atG 10 (by simp) rfl | assumption) rfl rfl ?_
      simp (disch := first | omega | (simp only [go_sem]; first | done | omega)) only [go_sem, r1, r2]
      exact Next.mk () trivial (by rw [show rateErr lw rate = firstE [lvF lw, 0] by simp [rateErr, r1, r2]]; (try simp (disch := first | omega | (simp only [go_sem]; first | done | omega)) only [go_sem]); (first | refine WkL.eq ?_ ?_ | refine WkL.rest (by assumption) ?_ ?_ ?_ | refine WkL.keepL (by assumption) rfl ?_ ?_ ?_ ?_) <;> first | rfl | (simp; done) | (simp; omega) | (simp only [List.cons.injEq, AV.c.injEq, AC.int.injEq, AC.bool.injEq, AC.str.injEq, and_true, true_and, Int.natCast_add, Int.natCast_one, Int.cast_ofNat_Int]; omega) | (simp [AV.ok, AV.ok1, AC.ok]; done) | (simp [AV.ok, AV.ok1, AC.ok]; omega) | (simp only [List.forall_mem_cons, List.not_mem_nil, false_implies, implies_true, and_true]; (repeat' apply And.intro) <;> first | exact okN_map (fun x => by simp [go_sem, AC.pure]) | exact okN_grO (fun x => by simp [go_sem, AC.pure]) | (simp [AObj.okN, AC.ok]; done) | (simp [AObj.okN, AC.ok]; omega)) | (simp [*]; done) | grind)
  refine SWp.cut (H.length) [4, 5, 6, 8, 9, 10, 11, 12, 13] [14] (fun (s : Unit) => True) (fun (s : Unit) => [(14, (.c (.int .i64 (twoE lw rate quota))))]) (fun (s : Unit) => H) (fun _ => rfl) (by kernel_rfl) (by simp) (by first | (simp; done) | (simp; omega)) (by (try simp only [List.forall_mem_cons, List.not_mem_nil, false_implies, implies_true, and_true]); (try simp (disch := first | omega | (simp only [go_sem]; first | done | omega)) only [go_sem]); first | trivial | (simp [AV.ok, AV.ok1, AC.ok]; done) | (simp [AV.ok, AV.ok1, AC.ok]; omega) | ((repeat' apply And.intro) <;> first | trivial | (simp [AV.ok, AV.ok1, AC.ok]; done) | (simp [AV.ok, AV.ok1, AC.ok]; omega) | (refine grV_ok ?_ _; first | (simp; done) | (simp; omega) | omega))) (SWp.of (by kernel_rfl) ?_) (fun _ _ _ _ => ?_)
  · by_cases r1 : quota < 1
    · simp (disch := first | omega | (simp only [go_sem]; first | done | omega)) only [go_sem, r1]
      refine when_a _ _ _ _ ?_
      simp (disch := first | omega | (simp only [go_sem]; first | done | omega)) only [go_sem, r1]
      refine errs_lit (rateErr lw rate) 1 (by first | exact at0 (by simp) | exact at1 (by simp) | exact at2 (by simp) | exact at3 (by simp) | exact at4 (by simp) | exact at5 (by simp) | exact atG 6 (by simp) rfl | exact atG 7 (by simp) rfl | exact atG 8 (by simp) rfl | exact atG 9 (by simp) rfl | exact atG 10 (by simp) rfl | assumption) rfl rfl ?_
      simp (disch := first | omega | (simp only [go_sem]; first | done | omega)) only [go_sem, r1]
      exact Next.mk () trivial (by rw [show twoE lw rate quota = firstE [rateErr lw rate, 1] by simp [twoE, r1]]; (try simp (disch := first | omega | (simp only [go_sem]; first | done | omega)) only [go_sem]); (first | refine WkL.eq ?_ ?_ | refine WkL.rest (by assumption) ?_ ?_ ?_ | refine WkL.keepL (by assumption) rfl ?_ ?_ ?_ ?_) <;> first | rfl | (simp; done) | (simp; omega) | (simp only [List.cons.injEq, AV.c.injEq, AC.int.injEq, AC.bool.injEq, AC.str.injEq, and_true, true_and, Int.natCast_add, Int.natCast_one, Int.cast_ofNat_Int]; omega) | (simp [AV.ok, AV.ok1, AC.ok]; done) | (simp [AV.ok, AV.ok1, AC.ok]; omega) | (simp only [List.forall_mem_cons, List.not_mem_nil, false_implies, implies_true, and_true]; (repeat' apply And.intro) <;> first | exact okN_map (fun x => by simp [go_sem, AC.pure]) | exact okN_grO (fun x => by simp [go_sem, AC.pure]) | (simp [AObj.okN, AC.ok]; done) | (simp [AObj.okN, AC.ok]; omega)) | (simp [*]; done) | grind)
    by_cases r2 : 1000000 < quota
    · simp (disch := first | omega | (simp only [go_sem]; first | done | omega)) only [go_sem, r1, r2]
      refine when_a _ _ _ _ ?_
      simp (disch := first | omega | (simp only [go_sem]; first | done | omega)) only [go_sem, r1, r2]
      refine errs_lit (rateErr lw rate) 1 (by first | exact at0 (by simp) | exact at1 (by simp) | exact at2 (by simp) | exact at3 (by simp) | exact at4 (by simp) | exact at5 (by simp) | exact atG 6 (by simp) rfl | exact atG 7 (by simp) rfl | exact atG 8 (by simp) rfl | exact atG 9 (by simp) rfl | exact atG 10 (by simp) rfl | assumption) rfl rfl ?_
      simp (disch := first | omega | (simp only [go_sem]; first | done | omega)) only [go_sem, r1, r2]
      exact Next.mk () trivial (by rw [show twoE lw rate quota = firstE [rateErr lw rate, 1] by simp [twoE, r2]]; (try simp (disch := first | omega | (simp only [go_sem]; first | done | omega)) only [go_sem]); (first | refine WkL.eq ?_ ?_ | refine WkL.rest (by assumption) ?_ ?_ ?_ | refine WkL.keepL (by assumption) rfl ?_ ?_ ?_ ?_) <;> first | rfl | (simp; done) | (simp; omega) | (simp only [List.cons.injEq, AV.c.injEq, AC.int.injEq, AC.bool.injEq, AC.str.injEq, and_true, true_and, Int.natCast_add, Int.natCast_one, Int.cast_ofNat_Int]; omega) | (simp [AV.ok, AV.ok1, AC.ok]; done) | (simp [AV.ok, AV.ok1, AC.ok]; omega) | (simp only [List.forall_mem_cons, List.not_mem_nil, false_implies, implies_true, and_true]; (repeat' apply And.intro) <;> first | exact okN_map (fun x => by simp [go_sem, AC.pure]) | exact okN_grO (fun x => by simp [go_sem, AC.pure]) | (simp [AObj.okN, AC.ok]; done) | (simp [AObj.okN, AC.ok]; omega)) | (simp [*]; done) | grind)
    · simp (disch := first | omega | (simp only [go_sem]; first | done | omega)) only [go_sem, r1, r2]
      refine when_a _ _ _ _ ?_
      simp (disch := first | omega | (simp only [go_sem]; first | done | omega)) only [go_sem, r1, r2]
      refine errs_lit (rateErr lw rate) 0 (by first | exact at0 (by simp) | exact at1 (by simp) | exact at2 (by simp) | exact at3 (by simp) | exact at4 (by simp) | exact at5 (by simp) | exact atG 6 (by simp) rfl | exact atG 7 (by simp) rfl | exact atG 8 (by simp) rfl | exact atG 9 (by simp) rfl | exact atG 10 (by simp) rfl | assumption) rfl rfl ?_
      simp (disch := first | omega | (simp only [go_sem]; first | done | omega)) only [go_sem, r1, r2]
      exact Next.mk () trivial (by rw [show twoE lw rate quota = firstE [rateErr lw rate, 0] by simp [twoE, r1, r2]]; (try simp (disch := first | omega | (simp only [go_sem]; first | done | omega)) only [go_sem]); (first | refine WkL.eq ?_ ?_ | refine WkL.rest (by assumption) ?_ ?_ ?_ | refine WkL.keepL (by assumption) rfl ?_ ?_ ?_ ?_) <;> first | rfl | (simp; done) | (simp; omega) | (simp only [List.cons.injEq, AV.c.injEq, AC.int.injEq, AC.bool.injEq, AC.str.injEq, and_true, true_and, Int.natCast_add, Int.natCast_one, Int.cast_ofNat_Int]; omega) | (simp [AV.ok, AV.ok1, AC.ok]; done) | (simp [AV.ok, AV.ok1, AC.ok]; omega) | (simp only [List.forall_mem_cons, List.not_mem_nil, false_implies, implies_true, and_true]; (repeat' apply And.intro) <;> first | exact okN_map (fun x => by simp [go_sem, AC.pure]) | exact okN_grO (fun x => by simp [go_sem, AC.pure]) | (simp [AObj.okN, AC.ok]; done) | (simp [AObj.okN, AC.ok]; omega)) | (simp [*]; done) | grind)
  refine SWp.of (by kernel_rfl) ?_
  have hlf := fitRes_len lw rate quota
  by_cases h1 : rateErr lw rate = 0
  · have h3 := firstE_two (a := lvF lw) (b := if rate < 1 ∨ 1000000 < rate then 1 else 0) h1
    obtain ⟨hok, h6, h0⟩ := lvF_ok h3.1
    have hr : 1 ≤ rate ∧ rate ≤ 1000000 := by have := h3.2; split at this <;> omega
    have ec : costRes lw rate = (costs lw rate, 0) := by simp [costRes, h1]
    by_cases h2 : quota < 1 ∨ 1000000 < quota
    · have e14 : twoE lw rate quota = 1 := by simp [twoE, firstE, h1, h2]
      have ef : fitRes lw rate quota = ([], false, 1) := by simp [fitRes, h1, h2]
      rw [e14]
      simp (disch := first | omega | (simp only [go_sem]; first | done | omega)) only [go_sem, h1, ec, ef]
      repeat' (first | ((first | refine acond_d ?_ ?_ | refine acond_b ?_ ?_ | refine ag_d ?_ ?_ | refine ag_n ?_ ?_ | refine ag_bt ?_ ?_ | refine ag_bf ?_ ?_) <;> intro c <;> try simp (disch := first | omega | (simp only [go_sem]; first | done | omega)) only [go_sem, c]) | ((first | refine w_draw (by kernel_rfl) (by decide +kernel) ?_ | refine costR_a lw rate hok h6 hr.1 hr.2 ?_ | refine ACalls.nilz [2, 2] (by simp) (equalL_a [] [] (by simp) (by simp) ?_) | refine retained_a ?_) <;> try simp (disch := first | omega | (simp only [go_sem]; first | done | omega)) only [go_sem]))
      exact Ret.same (Nat.le_refl _) hk
    · have e14 : twoE lw rate quota = 0 := by simp [twoE, firstE, h1, h2]
      rw [e14]
      have ef : fitRes lw rate quota = if quota < costs (fitGo rate quota lw.length 0 1 lw) rate then ([], false, 0) else (fitGo rate quota lw.length 0 1 lw, true, 0) := by simp [fitRes, h1, h2]
      by_cases h4 : quota < costs (fitGo rate quota lw.length 0 1 lw) rate
      · rw [if_pos h4] at ef
        simp (disch := first | omega | (simp only [go_sem]; first | done | omega)) only [go_sem, h1, ec, ef]
        repeat' (first | ((first | refine acond_d ?_ ?_ | refine acond_b ?_ ?_ | refine ag_d ?_ ?_ | refine ag_n ?_ ?_ | refine ag_bt ?_ ?_ | refine ag_bf ?_ ?_) <;> intro c <;> try simp (disch := first | omega | (simp only [go_sem]; first | done | omega)) only [go_sem, c, h4]) | ((first | refine w_draw (by kernel_rfl) (by decide +kernel) ?_ | refine costR_a lw rate hok h6 hr.1 hr.2 ?_ | refine fitOf_a lw rate quota h6 h0 hok hr.1 hr.2 (by omega) (by omega) ?_ | refine ACalls.nilz [2, 2] (by simp) (equalL_a [] [] (by simp) (by simp) ?_) | refine retained_a ?_) <;> try simp (disch := first | omega | (simp only [go_sem]; first | done | omega)) only [go_sem, h4]))
        exact Ret.same (Nat.le_refl _) hk
      · rw [if_neg h4] at ef
        have hl2 : (fitGo rate quota lw.length 0 1 lw).length ≤ 4 := by rw [fitGo_len]; exact hlw
        simp (disch := first | omega | (simp only [go_sem]; first | done | omega)) only [go_sem, h1, ec, ef]
        repeat' (first | ((first | refine acond_d ?_ ?_ | refine acond_b ?_ ?_ | refine ag_d ?_ ?_ | refine ag_n ?_ ?_ | refine ag_bt ?_ ?_ | refine ag_bf ?_ ?_) <;> intro c <;> try simp (disch := first | omega | (simp only [go_sem]; first | done | omega)) only [go_sem, c, h4]) | ((first | refine w_draw (by kernel_rfl) (by decide +kernel) ?_ | refine costR_a lw rate hok h6 hr.1 hr.2 ?_ | refine fitOf_a lw rate quota h6 h0 hok hr.1 hr.2 (by omega) (by omega) ?_ | refine equalL_a _ _ (by omega) (by omega) ?_ | refine retained_a ?_) <;> try simp (disch := first | omega | (simp only [go_sem]; first | done | omega)) only [go_sem, h4]))
        exact Ret.same (Nat.le_refl _) hk
  · have e14 : twoE lw rate quota = rateErr lw rate := by simp [twoE, firstE, h1]
    have ec : costRes lw rate = (0, rateErr lw rate) := by simp [costRes, h1]
    have ef : fitRes lw rate quota = ([], false, rateErr lw rate) := by simp [fitRes, h1]
    rw [e14]
    simp (disch := first | omega | (simp only [go_sem]; first | done | omega)) only [go_sem, h1, ec, ef]
    repeat' (first | ((first | refine acond_d ?_ ?_ | refine acond_b ?_ ?_ | refine ag_d ?_ ?_ | refine ag_n ?_ ?_ | refine ag_bt ?_ ?_ | refine ag_bf ?_ ?_) <;> intro c <;> try simp (disch := first | omega | (simp only [go_sem]; first | done | omega)) only [go_sem, c]) | ((first | refine w_draw (by kernel_rfl) (by decide +kernel) ?_ | refine ACalls.nilz [2, 2] (by simp) (equalL_a [] [] (by simp) (by simp) ?_) | refine retained_a ?_) <;> try simp (disch := first | omega | (simp only [go_sem]; first | done | omega)) only [go_sem]))
    exact Ret.same (Nat.le_refl _) hk
end Go.Proofs.Ytfhadgemgfpdbaa
