/- Coarser bins: the document's answer. Condition: the bins are right. -/
import Derived.Test.YtfhadgemgfpdbaaVCoarse
namespace Go.Proofs.Ytfhadgemgfpdbaa
open Go Go.RowKit
set_option maxRecDepth 100000
set_option linter.all false
set_option maxHeartbeats 1000000
variable {H : Hp} {K : AV → Hp → Prop}
def halfA (to : Int) (b : List Bin) (k : Nat) : List Bin := (b.take k).map (toA to) ++ b.drop k
theorem halfA_len (to : Int) (b : List Bin) (k : Nat) (h : k ≤ b.length) : (halfA to b k).length = b.length := by simp [halfA]; omega
theorem halfA_get (to : Int) (b : List Bin) (k : Nat) (h : k < b.length) : (halfA to b k)[k]'(by rw [halfA_len _ _ _ (by omega)]; exact h) = b[k] := by
  simp only [halfA]
  rw [List.getElem_append_right (by simp; omega)]
  simp [List.length_take, Nat.min_eq_left (Nat.le_of_lt h)]
theorem halfA_set (to : Int) (b : List Bin) (k : Nat) (h : k < b.length) : (halfA to b k).set k (toA to b[k]) = halfA to b (k + 1) := by
  simp only [halfA]
  rw [List.set_append_right _ _ (by simp; omega)]
  simp only [List.length_map, List.length_take, Nat.min_eq_left (Nat.le_of_lt h), Nat.sub_self]
  rw [List.drop_eq_getElem_cons h, List.set_cons_zero, List.take_succ_eq_append_getElem h, List.map_append, List.append_assoc]
  rfl
def combRes (l : List Bin) : List Bin × Int := if fitsE (foldB l) ≠ 0 then ([], 2) else (foldB l, 0)
theorem combR_a (l : List Bin) (hlen : l.length ≤ 100000) (hok : ∀ x ∈ l, x.fine) (hk : K (.tup [.c (.lst 6 ((combRes l).1.map encN)), (.c (.int .i64 ((combRes l).2)))]) H) : ACalls Try.prog 62 [.c (.lst 6 (l.map encN))] H K := by
  by_cases h : fitsE (foldB l) = 0
  · rw [show combRes l = (foldB l, 0) by simp [combRes, h]] at hk
    refine ACalls.postR (combinedR_o l hlen hok (K := fun v G => v = .tup [.c (grV H.length (foldB l)), (.c (.int .i64 0))] ∧ G = H ++ [grO 62 6 ((foldB l).map encN)]) (fun h' => absurd h h') (fun _ => ⟨rfl, rfl⟩)) ?_
    rintro hH _ _ ⟨rfl, rfl⟩
    exact Ret.frzGrT 0 hH (Nat.le_refl _) rfl (pureL_encN _) rfl (map_grV _ _ _).symm hk
  · rw [show combRes l = ([], 2) by simp [combRes, h]] at hk
    refine ACalls.postR (combinedR_o l hlen hok (K := fun v G => v = .tup [.c (.sl none 0), (.c (.int .i64 2))] ∧ G = H) (fun _ => ⟨rfl, rfl⟩) (fun h' => absurd h' h)) ?_
    rintro hH _ _ ⟨rfl, rfl⟩
    exact Ret.nilS (Nat.le_refl _) rfl hk
theorem coarserOf_a (b : List Bin) (step to : Int) (hv : bnF b step = 0) (hk : K (.tup [.c (.lst 6 ((coarse2 b step to).1.map encN)), (.c (.int .i64 ((coarse2 b step to).2)))]) H) : ACalls Try.prog 27 [.c (.lst 6 (b.map encN)), (.c (.int .i64 step)), (.c (.int .i64 to))] H K := by
  obtain ⟨hs, hl, hr⟩ := bnF_ok hv
  have hs0 : step ≠ 0 := by omega
  refine acalls Try.func27 rfl (by kernel_rfl) (by simp (disch := first | omega | (simp only [go_sem]; first | done | omega)) only [go_sem]) (fun hH => ?_)
  simp (disch := first | omega | (simp only [go_sem]; first | done | omega)) only [go_sem]
  refine stepR_a _ _ _ ?_
  simp (disch := first | omega | (simp only [go_sem]; first | done | omega)) only [go_sem]
  refine acond_d (fun h2 => ?_) (fun h2 => ?_)
  rotate_left
  · simp (disch := first | omega | (simp only [go_sem]; first | done | omega)) only [go_sem]
    rw [show coarse2 b step to = ([], 1) by simp only [coarse2, h2]; simp] at hk
    exact Ret.nilS (Nat.le_refl _) rfl hk
  have hto : to ≠ 0 := by omega
  simp (disch := first | omega | (simp only [go_sem]; first | done | omega)) only [go_sem]
  refine acond_d (fun h3 => ?_) (fun h3 => ?_)
  rotate_left
  · simp (disch := first | omega | (simp only [go_sem]; first | done | omega)) only [go_sem]
    rw [show coarse2 b step to = ([], 16) by unfold coarse2; rw [if_neg (not_not_intro h2), if_pos h3]] at hk
    exact Ret.nilS (Nat.le_refl _) rfl hk
  have e : coarse2 b step to = if fitsE (foldB (b.map (toA to))) ≠ 0 then ([], 2) else (foldB (b.map (toA to)), 0) := by unfold coarse2; rw [if_neg (not_not_intro h2), if_neg (not_not_intro h3)]
  simp (disch := first | omega | (simp only [go_sem]; first | done | omega)) only [go_sem]
  refine cloneN_a b (by omega) ?_
  simp (disch := first | omega | (simp only [go_sem]; first | done | omega)) only [go_sem]
  have e2 : combRes (halfA to b b.length) = coarse2 b step to := by rw [e, show halfA to b b.length = b.map (toA to) by simp [halfA]]; rfl
  rw [← e2] at hk
  have hfine : ∀ x ∈ halfA to b b.length, x.fine := fun x hx => by
    simp only [halfA, List.take_length, List.drop_length, List.append_nil] at hx
    obtain ⟨y, hy, rfl⟩ := List.mem_map.1 hx
    have := hr y hy
    simp only [Bin.right] at this
    exact ⟨by simp only [toA]; omega, by simp only [Bin.bd, toA]; omega⟩
  have hlen2 := halfA_len to b b.length (Nat.le_refl _)
  by_cases hnil : b = []
  · subst hnil
    simp only [List.map_nil, clV, grO]
    simp (disch := first | omega | (simp only [go_sem]; first | done | omega)) only [go_sem]
    refine AWp.loop (H.length) [2, 8, 22] [23] (fun (k : Nat) => k = 0) (fun (k : Nat) => [(23, (.c (.int .i64 0)))]) (fun (k : Nat) => H) (fun (k : Nat) => k) (by kernel_rfl) (fun _ => rfl) (by kernel_rfl) (by simp) (by first | (simp; done) | (simp; omega)) (by (try simp only [List.forall_mem_cons, List.not_mem_nil, false_implies, implies_true, and_true]); (try simp (disch := first | omega | (simp only [go_sem]; first | done | omega)) only [go_sem]); first | trivial | (simp [AV.ok, AV.ok1, AC.ok]; done) | (simp [AV.ok, AV.ok1, AC.ok]; omega) | ((repeat' apply And.intro) <;> first | trivial | (simp [AV.ok, AV.ok1, AC.ok]; done) | (simp [AV.ok, AV.ok1, AC.ok]; omega) | (refine grV_ok ?_ _; first | (simp; done) | (simp; omega) | omega))) ?_ (fun k hk0 _ _ => ?_)
    · exact Next.mk 0 rfl (by (try simp (disch := first | omega | (simp only [go_sem]; first | done | omega)) only [go_sem]); (first | refine WkL.eq ?_ ?_ | refine WkL.rest (by assumption) ?_ ?_ ?_ | refine WkL.keepL (by assumption) rfl ?_ ?_ ?_ ?_) <;> first | rfl | (simp; done) | (simp; omega) | (simp only [List.cons.injEq, AV.c.injEq, AC.int.injEq, AC.bool.injEq, AC.str.injEq, and_true, true_and, Int.natCast_add, Int.natCast_one, Int.cast_ofNat_Int]; omega) | (simp [AV.ok, AV.ok1, AC.ok]; done) | (simp [AV.ok, AV.ok1, AC.ok]; omega) | (simp only [List.forall_mem_cons, List.not_mem_nil, false_implies, implies_true, and_true]; (repeat' apply And.intro) <;> first | exact okN_map (fun x => by simp [go_sem, AC.pure]) | exact okN_grO (fun x => by simp [go_sem, AC.pure]) | (simp [AObj.okN, AC.ok]; done) | (simp [AObj.okN, AC.ok]; omega)) | (simp [*]; done) | grind)
    · simp (disch := first | omega | (simp only [go_sem]; first | done | omega)) only [go_sem]
      refine combR_a _ (by simp [halfA]) hfine ?_
      simp (disch := first | omega | (simp only [go_sem]; first | done | omega)) only [go_sem]
      exact Ret.same (Nat.le_refl _) hk
  · have hne : b.map encN ≠ [] := by simpa using hnil
    rw [clV_pos _ _ hne, grO_pos _ _ hne]
    simp (disch := first | omega | (simp only [go_sem]; first | done | omega)) only [go_sem]
    refine AWp.loop (H.length + 1) [2, 8, 22] [23] (fun (k : Nat) => k ≤ b.length) (fun (k : Nat) => [(23, (.c (.int .i64 k)))]) (fun (k : Nat) => H ++ [.row 62 6 ((halfA to b k).map encN) true]) (fun (k : Nat) => b.length - k) (by kernel_rfl) (fun _ => rfl) (by kernel_rfl) (by simp) (by first | (simp; done) | (simp; omega)) (by (try simp only [List.forall_mem_cons, List.not_mem_nil, false_implies, implies_true, and_true]); (try simp (disch := first | omega | (simp only [go_sem]; first | done | omega)) only [go_sem]); first | trivial | (simp [AV.ok, AV.ok1, AC.ok]; done) | (simp [AV.ok, AV.ok1, AC.ok]; omega) | ((repeat' apply And.intro) <;> first | trivial | (simp [AV.ok, AV.ok1, AC.ok]; done) | (simp [AV.ok, AV.ok1, AC.ok]; omega) | (refine grV_ok ?_ _; first | (simp; done) | (simp; omega) | omega))) ?_ (fun k hkb _ _ => ?_)
    · exact Next.mk 0 (by simp) (by (try simp (disch := first | omega | (simp only [go_sem]; first | done | omega)) only [go_sem]); (first | refine WkL.eq ?_ ?_ | refine WkL.rest (by assumption) ?_ ?_ ?_ | refine WkL.keepL (by assumption) rfl ?_ ?_ ?_ ?_) <;> first | rfl | (simp; done) | (simp; omega) | (simp only [List.cons.injEq, AV.c.injEq, AC.int.injEq, AC.bool.injEq, AC.str.injEq, and_true, true_and, Int.natCast_add, Int.natCast_one, Int.cast_ofNat_Int]; omega) | (simp [AV.ok, AV.ok1, AC.ok]; done) | (simp [AV.ok, AV.ok1, AC.ok]; omega) | (simp only [List.forall_mem_cons, List.not_mem_nil, false_implies, implies_true, and_true]; (repeat' apply And.intro) <;> first | exact okN_map (fun x => by simp [go_sem, AC.pure]) | exact okN_grO (fun x => by simp [go_sem, AC.pure]) | (simp [AObj.okN, AC.ok]; done) | (simp [AObj.okN, AC.ok]; omega)) | (simp [*]; done) | grind)
    have hkl := halfA_len to b k hkb
    by_cases hlt : k < b.length
    · have hg := halfA_get to b k hlt
      have hst := halfA_set to b k hlt
      have hx := hr b[k] (List.getElem_mem hlt)
      simp only [Bin.right] at hx
      have t0 : b[k].a - b[k].a % to = b[k].a / to * to := by have := Int.emod_add_ediv_mul b[k].a to; omega
      have t1 : 0 ≤ b[k].a % to := Int.emod_nonneg _ hto
      have t2 : b[k].a % to < to := Int.emod_lt_of_pos _ (by omega)
      simp (disch := first | omega | (simp only [go_sem]; first | done | omega)) only [go_sem]
      first | refine w_draw (by kernel_rfl) (by decide +kernel) ?_ | refine w_tree (.one 0 (.one 1 (.one 2 (.one 3 (.one 4 (.one 5 (.one 6 (.one 7 (.one 8 (.one 9 (.one 10 (.one 11 (.one 12 (.one 13 (.one 14 (.one 15 .done)))))))))))))))) (by kernel_rfl) (by decide +kernel) ?_
      simp (disch := first | omega | (simp only [go_sem]; first | done | omega)) only [go_sem, hg]
      have hset : ((halfA to b k).map encN).set k [.int .i64 (b[k].a - b[k].a % to), .int .i64 b[k].s, .int .i64 b[k].n, .int .i64 b[k].m, .int .i64 b[k].lo, .int .i64 b[k].hi] = (halfA to b (k + 1)).map encN := by rw [t0, ← hst, List.map_set]; rfl
      rw [hset]
      exact Next.mk (k + 1) ⟨by omega, by omega⟩ (by (try simp (disch := first | omega | (simp only [go_sem]; first | done | omega)) only [go_sem]); (first | refine WkL.eq ?_ ?_ | refine WkL.rest (by assumption) ?_ ?_ ?_ | refine WkL.keepL (by assumption) rfl ?_ ?_ ?_ ?_) <;> first | rfl | (simp; done) | (simp; omega) | (simp only [List.cons.injEq, AV.c.injEq, AC.int.injEq, AC.bool.injEq, AC.str.injEq, and_true, true_and, Int.natCast_add, Int.natCast_one, Int.cast_ofNat_Int]; omega) | (simp [AV.ok, AV.ok1, AC.ok]; done) | (simp [AV.ok, AV.ok1, AC.ok]; omega) | (simp only [List.forall_mem_cons, List.not_mem_nil, false_implies, implies_true, and_true]; (repeat' apply And.intro) <;> first | exact okN_map (fun x => by simp [go_sem, AC.pure]) | exact okN_grO (fun x => by simp [go_sem, AC.pure]) | (simp [AObj.okN, AC.ok]; done) | (simp [AObj.okN, AC.ok]; omega)) | (simp [*]; done) | grind)
    · obtain rfl : k = b.length := by omega
      simp (disch := first | omega | (simp only [go_sem]; first | done | omega)) only [go_sem]
      refine ACalls.lit (i := H.length) (ty := 62) (sz := 6) (els := (halfA to b b.length).map encN) (own := true) (by first | exact at0 (by simp) | exact at1 (by simp) | exact at2 (by simp) | exact at3 (by simp) | exact at4 (by simp) | exact at5 (by simp) | exact atG 6 (by simp) rfl | exact atG 7 (by simp) rfl | exact atG 8 (by simp) rfl | exact atG 9 (by simp) rfl | exact atG 10 (by simp) rfl | assumption) (pureL_encN _) (args' := [.c (.lst 6 ((halfA to b b.length).map encN))]) ?_ (combR_a _ (by omega) hfine ?_)
      · simp [AV.frz1, AC.frz, hkl]
        rw [List.take_of_length_le (by simp [hkl])]
      · simp (disch := first | omega | (simp only [go_sem]; first | done | omega)) only [go_sem]
        exact Ret.drop hH (Nat.le_refl _) (by simp [AV.ok, AV.ok1, AC.ok]) hk
end Go.Proofs.Ytfhadgemgfpdbaa
