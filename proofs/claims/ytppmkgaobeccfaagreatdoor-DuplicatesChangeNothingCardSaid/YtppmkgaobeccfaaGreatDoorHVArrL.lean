/- Missing: the program's answer. Condition: names' sizes; at most a million; numbers at most 100000. -/
import Derived.Test.YtppmkgaobeccfaaGreatDoorHVGL
namespace Go.Proofs.YtppmkgaobeccfaaGreatDoor
open Go Go.RowKit
set_option maxRecDepth 100000
set_option linter.all false
set_option maxHeartbeats 1000000
variable {H : Hp} {K : AV → Hp → Prop}
/-- the numbers from 1 to below k + 1 that are not there -/
def msF (S : List Int) (k : Nat) : List Int := ((List.range k).map fun i : Nat => (i : Int) + 1).filter fun n => !decide (n ∈ S)
theorem msF_next (S : List Int) (k : Nat) : msF S (k + 1) = msF S k ++ (if (k : Int) + 1 ∈ S then [] else [(k : Int) + 1]) := by
  unfold msF
  rw [List.range_succ, List.map_append, List.filter_append]
  congr 1
  by_cases h : (k : Int) + 1 ∈ S <;> simp [h]
theorem msF_len (S : List Int) (k : Nat) : (msF S k).length ≤ k := by
  unfold msF
  have := List.length_filter_le (fun n => !decide (n ∈ S)) ((List.range k).map fun i : Nat => (i : Int) + 1)
  rwa [List.length_map, List.length_range] at this
theorem msF_bd (S : List Int) (k : Nat) : ∀ x ∈ msF S k, 1 ≤ x ∧ x ≤ k := by
  intro x hx
  unfold msF at hx
  obtain ⟨i, hi, rfl⟩ := List.mem_map.1 (List.mem_filter.1 hx).1
  rw [List.mem_range] at hi
  omega
def miF (l : List Arr) (n : ByteArray) : List Int := msF (evF l n) (moF l n - 1).toNat
theorem missing_a (l : List Arr) (n : ByteArray) (hn : n.size ≤ 1099511627776) (hsz : ∀ x ∈ l, x.nd.size ≤ 1099511627776 ∧ x.p.tag.size ≤ 1099511627776) (hl : l.length ≤ 1000000) (hm0 : ndErr l n = 0 → 0 ≤ moF l n ∧ moF l n ≤ 100000) (hk : K (.tup [.c (.lst 2 ((if ndErr l n = 0 then rowsF (srtI (miF l n)) else []).map encRw)), (.c (.int .i64 (ndErr l n)))]) H) : ACalls Tryz.prog 14 [.c (.lst 7 (l.map encAr)), (.c (.str n))] H K := by
  refine acalls Tryz.func14 rfl (by kernel_rfl) (by simp (disch := first | omega | (simp only [go_sem]; first | done | omega)) only [go_sem]) (fun hH => ?_)
  simp (disch := first | omega | (simp only [go_sem]; first | done | omega)) only [go_sem]
  refine nodeFault_a l n hn hsz hl ?_
  by_cases he : ndErr l n = 0
  · rw [if_pos he, he] at hk
    have hm0 := hm0 he
    simp (disch := first | omega | (simp only [go_sem]; first | done | omega)) only [go_sem, he]
    refine numbers_a l n hl ?_
    unfold miF at hk
    generalize moF l n = m at *
    generalize evF l n = S at *
    simp (disch := first | omega | (simp only [go_sem]; first | done | omega)) only [go_sem]
    refine AWp.loop (H.length + 1) [7, 8] [10, 9] (fun (k : Nat) => (k : Int) + 1 ≤ max 1 m) (fun (k : Nat) => [(10, (.c (.int .i64 ((k : Int) + 1)))), (9, .c (grV (H.length + 1) (msF S k)))]) (fun (k : Nat) => H ++ [mpO (S.map encEv), grO 3 1 ((msF S k).map encI)]) (fun (k : Nat) => m.toNat - k) (by kernel_rfl) (fun _ => rfl) (by kernel_rfl) (by first | (simp; done) | omega) (by first | (simp; done) | (simp; omega) | omega) (by (try simp only [List.forall_mem_cons, List.not_mem_nil, false_implies, implies_true, and_true]); (try simp (disch := first | omega | (simp only [go_sem]; first | done | omega)) only [go_sem]); all_goals first | trivial | (simp [AV.ok, AV.ok1, AC.ok]; done) | (simp [AV.ok, AV.ok1, AC.ok]; omega) | (simp [AV.ok, AV.ok1, AC.ok]; assumption) | ((repeat' apply And.intro) <;> first | trivial | (simp [AV.ok, AV.ok1, AC.ok]; done) | (simp [AV.ok, AV.ok1, AC.ok]; omega) | (simp [AV.ok, AV.ok1, AC.ok]; assumption) | (refine grV_ok ?_ _; first | (simp; done) | (simp; omega) | omega))) ?_ (fun k q _ _ => ?_)
    · refine Next.mk 0 (by omega) ?_
      rw [show H ++ [mpO (S.map encEv), grO 3 1 ((msF S 0).map encI)] = (H ++ [mpO (S.map encEv)]) ++ [grO 3 1 ((msF S 0).map encI)] by simp]
      exact WkL.pad (by simp)
    have hcast : ((k + 1 : Nat) : Int) + 1 = (k : Int) + 1 + 1 := by omega
    have hlk := fun ht => get_ever (kt := 3) ((k : Int) + 1) S ht
    have hnx := msF_next S k
    have hln := msF_len S k
    have hbd := msF_bd S k
    by_cases hlt : (k : Int) + 1 < m
    · generalize msF S k = ms at *
      simp (disch := first | omega | (simp only [go_sem]; first | done | omega)) only [go_sem, hlt]
      refine look_mp (by kernel_rfl) (hlk (by kernel_rfl)) rfl ?_
      by_cases hm : (k : Int) + 1 ∈ S
      · rw [if_pos hm, List.append_nil] at hnx
        simp (disch := first | omega | (simp only [go_sem]; first | done | omega)) only [go_sem, decide_eq_true hm]
        refine Next.mk (k + 1) ⟨by omega, by omega⟩ ?_
        rw [hnx, hcast]
        refine WkL.keepL hH rfl (by simp) rfl ?_ ?_
        · intro o ho
          simp only [List.mem_cons, List.not_mem_nil, or_false] at ho
          rcases ho with rfl | rfl
          · exact okN_ev _ _
          · exact okN_grO (enc := encI) (fun x => by simp [go_sem, AC.pure])
        · intro v hv
          simp only [newV, List.map_cons, List.map_nil, List.mem_cons, List.not_mem_nil, or_false] at hv
          rcases hv with rfl | rfl
          · trivial
          · exact grV_ok (by simp) _
      · rw [if_neg hm] at hnx
        simp (disch := first | omega | (simp only [go_sem]; first | done | omega)) only [go_sem, decide_eq_false hm]
        refine appI ms ((k : Int) + 1) _ hnx (by first | exact at0 (by simp) | exact at1 (by simp) | exact at2 (by simp) | exact at3 (by simp) | exact at4 (by simp) | exact at5 (by simp) | exact atG 6 (by simp) rfl | exact atG 7 (by simp) rfl | exact atG 8 (by simp) rfl | exact atG 9 (by simp) rfl | exact atG 10 (by simp) rfl | exact atG 11 (by simp) rfl | exact atG 12 (by simp) rfl | exact atG 13 (by simp) rfl | exact atG 14 (by simp) rfl | exact atG 15 (by simp) rfl | assumption) (by first | exact at0 (by simp) | exact at1 (by simp) | exact at2 (by simp) | exact at3 (by simp) | exact at4 (by simp) | exact at5 (by simp) | exact atG 6 (by simp) rfl | exact atG 7 (by simp) rfl | exact atG 8 (by simp) rfl | exact atG 9 (by simp) rfl | exact atG 10 (by simp) rfl | exact atG 11 (by simp) rfl | exact atG 12 (by simp) rfl | exact atG 13 (by simp) rfl | exact atG 14 (by simp) rfl | exact atG 15 (by simp) rfl | assumption) (by omega) ?_
        simp (disch := first | omega | (simp only [go_sem]; first | done | omega)) only [go_sem]
        refine Next.mk (k + 1) ⟨by omega, by omega⟩ ?_
        rw [hcast]
        have hP : ∀ o ∈ [mpO (S.map encEv)], o.okN (H.length + [mpO (S.map encEv)].length) := by
          intro o ho
          simp only [List.mem_singleton] at ho
          subst ho
          exact okN_ev _ _
        ((try simp (disch := first | omega | (simp only [go_sem]; first | done | omega)) only [go_sem]); (first | refine WkL.pickAt [_] [0] ?_ ?_ ?_ rfl ?_ ?_ ?_ ?_ | refine WkL.pickAt [_] [1] ?_ ?_ ?_ rfl ?_ ?_ ?_ ?_ | refine WkL.pickAt [_] [2] ?_ ?_ ?_ rfl ?_ ?_ ?_ ?_ | refine WkL.pickAt [_] [3] ?_ ?_ ?_ rfl ?_ ?_ ?_ ?_ | refine WkL.pickAt [_] [4] ?_ ?_ ?_ rfl ?_ ?_ ?_ ?_ | refine WkL.pickAt [_] [5] ?_ ?_ ?_ rfl ?_ ?_ ?_ ?_ | refine WkL.pickAt [_] [6] ?_ ?_ ?_ rfl ?_ ?_ ?_ ?_ | refine WkL.pickAt [_] [7] ?_ ?_ ?_ rfl ?_ ?_ ?_ ?_ | refine WkL.pickAt [_] [8] ?_ ?_ ?_ rfl ?_ ?_ ?_ ?_ | refine WkL.pickAt [_] [9] ?_ ?_ ?_ rfl ?_ ?_ ?_ ?_ | refine WkL.pickAt [_] [10] ?_ ?_ ?_ rfl ?_ ?_ ?_ ?_ | refine WkL.pickAt [_] [11] ?_ ?_ ?_ rfl ?_ ?_ ?_ ?_ | refine WkL.pickAt [_] [12] ?_ ?_ ?_ rfl ?_ ?_ ?_ ?_ | refine WkL.pickAt [_] [13] ?_ ?_ ?_ rfl ?_ ?_ ?_ ?_ | refine WkL.pickAt [_] [14] ?_ ?_ ?_ rfl ?_ ?_ ?_ ?_ | refine WkL.pickAt [_] [15] ?_ ?_ ?_ rfl ?_ ?_ ?_ ?_ | refine WkL.pickAt [_] [16] ?_ ?_ ?_ rfl ?_ ?_ ?_ ?_ | refine WkL.pickAt [_] [17] ?_ ?_ ?_ rfl ?_ ?_ ?_ ?_) <;> first | assumption | exact HOk.str (by assumption) | (simp; done) | (simp; omega) | (simp [pureO_gr, AObj.pureO, pureL, go_sem, AC.pure]; done) | (simp only [List.all_cons, List.all_nil, Bool.and_true]; exact pureO_gr (pureL_map _ (fun x => by simp [go_sem, AC.pure]))) | ((try simp only [List.map_cons, List.map_nil, av_ren_gr]); simp [AV.ren, AV.ren1, AC.ren, renP, pickS]; first | done | omega) | (simp only [List.forall_mem_cons, List.not_mem_nil, false_implies, implies_true, and_true]; (repeat' apply And.intro) <;> first | trivial | exact grV_ok (by simp) _ | exact okN_grO (fun x => by simp [go_sem, AC.pure]) | exact okN_map (fun x => by simp [go_sem, AC.pure]) | (simp [AV.ok, AV.ok1, AC.ok]; done) | (simp [AV.ok, AV.ok1, AC.ok]; omega) | (simp [AObj.okN, AC.ok]; done)) | (simp [AObj.okN]; done))
    · have hkm : k = (m - 1).toNat := by omega
      simp (disch := first | omega | (simp only [go_sem]; first | done | omega)) only [go_sem, hlt]
      refine rows_a (msF S k) (by first | exact at0 (by simp) | exact at1 (by simp) | exact at2 (by simp) | exact at3 (by simp) | exact at4 (by simp) | exact at5 (by simp) | exact atG 6 (by simp) rfl | exact atG 7 (by simp) rfl | exact atG 8 (by simp) rfl | exact atG 9 (by simp) rfl | exact atG 10 (by simp) rfl | exact atG 11 (by simp) rfl | exact atG 12 (by simp) rfl | exact atG 13 (by simp) rfl | exact atG 14 (by simp) rfl | exact atG 15 (by simp) rfl | assumption) (by omega) (fun x hx => by have := hbd x hx; omega) ?_
      rw [← hkm] at hk
      simp (disch := first | omega | (simp only [go_sem]; first | done | omega)) only [go_sem]
      exact Ret.drop hH (Nat.le_refl _) (by simp [AV.ok, AV.ok1, AC.ok]) hk
  · rw [if_neg he] at hk
    simp (disch := first | omega | (simp only [go_sem]; first | done | omega)) only [go_sem, he]
    exact Ret.nil [2, 0] (Nat.le_refl _) (Ret.same (Nat.le_refl _) hk)
end Go.Proofs.YtppmkgaobeccfaaGreatDoor
