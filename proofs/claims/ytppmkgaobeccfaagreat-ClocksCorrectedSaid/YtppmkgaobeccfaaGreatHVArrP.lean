/- How long arrivals of a node were on their way: the program's answer and the document's. Condition: names' sizes; at most a million. -/
import Derived.Test.YtppmkgaobeccfaaGreatHVArrO
namespace Go.Proofs.YtppmkgaobeccfaaGreat
open Go Go.RowKit
set_option maxRecDepth 100000
set_option linter.all false
set_option maxHeartbeats 1000000
variable {H : Hp} {K : AV → Hp → Prop}
theorem smpErr_bd {s : Smp} (h : smpErr s = 0) : 0 ≤ s.t ∧ s.t ≤ 345686399999 := by
  unfold smpErr at h
  split at h
  · omega
  · omega
theorem arrErr_smp {a : Arr} (h : arrErr a = 0) : smpErr a.p.s = 0 := by
  unfold arrErr at h
  split at h
  · omega
  · split at h
    · omega
    · split at h
      · omega
      · exact h
/-! ### the document's -/
def fiN (l : List Arr) (k : Nat) : List Nat := (List.range k).filter fun i => !isD l i
def fiF (l : List Arr) (k : Nat) : List Int := (fiN l k).map fun i : Nat => (i : Int)
theorem fiF_next (l : List Arr) (k : Nat) : fiF l (k + 1) = fiF l k ++ (if isD l k = true then [] else [(k : Int)]) := by
  unfold fiF fiN
  rw [List.range_succ, List.filter_append, List.map_append]
  congr 1
  cases h : isD l k <;> simp [h]
theorem fiN_len (l : List Arr) (k : Nat) : (fiN l k).length ≤ k := by
  unfold fiN
  have := List.length_filter_le (fun i => !isD l i) (List.range k)
  rwa [List.length_range] at this
theorem fiF_len (l : List Arr) (k : Nat) : (fiF l k).length ≤ k := by unfold fiF; rw [List.length_map]; exact fiN_len l k
theorem fiF_at (l : List Arr) {k : Nat} (h : k < (fiF l l.length).length) : (fiF l l.length)[k] = (((fiN l l.length)[k]'(by unfold fiF at h; rwa [List.length_map] at h) : Nat) : Int) := by simp [fiF]
theorem dupF_has (l : List Arr) {k : Nat} (h : k < l.length) : decide ((k : Int) ∈ dupF l l.length) = isD l k := by
  rw [Bool.eq_iff_iff, decide_eq_true_eq]
  unfold dupF
  rw [List.mem_map]
  constructor
  · rintro ⟨i, hi, e⟩
    have : i = k := by omega
    subst this
    exact (List.mem_filter.1 hi).2
  · intro hd
    exact ⟨k, List.mem_filter.2 ⟨List.mem_range.2 h, hd⟩, rfl⟩
theorem firstsR_a (l : List Arr) (hl : l.length ≤ 1000000) (hk : K (.c (.lst 1 ((fiF l l.length).map encI))) H) : ACalls Tryz.prog 81 [.c (.lst 7 (l.map encAr))] H K := by
  refine acalls Tryz.func81 rfl (by kernel_rfl) (by simp (disch := first | omega | (simp only [go_sem]; first | done | omega)) only [go_sem]) (fun hH => ?_)
  simp (disch := first | omega | (simp only [go_sem]; first | done | omega)) only [go_sem]
  refine duplicatesOf_a l hl ?_
  have hdl := dupF_len l l.length
  simp (disch := first | omega | (simp only [go_sem]; first | done | omega)) only [go_sem]
  refine AWp.loop (H.length) [3, 9] [10, 4] (fun (k : Nat) => k ≤ l.length) (fun (k : Nat) => [(10, (.c (.int .i64 k))), (4, .c (grV H.length (fiF l k)))]) (fun (k : Nat) => H ++ [grO 3 1 ((fiF l k).map encI)]) (fun (k : Nat) => l.length - k) (by kernel_rfl) (fun _ => rfl) (by kernel_rfl) (by first | (simp; done) | omega) (by first | (simp; done) | (simp; omega) | omega) (by (try simp only [List.forall_mem_cons, List.not_mem_nil, false_implies, implies_true, and_true]); (try simp (disch := first | omega | (simp only [go_sem]; first | done | omega)) only [go_sem]); all_goals first | trivial | (simp [AV.ok, AV.ok1, AC.ok]; done) | (simp [AV.ok, AV.ok1, AC.ok]; omega) | (simp [AV.ok, AV.ok1, AC.ok]; assumption) | ((repeat' apply And.intro) <;> first | trivial | (simp [AV.ok, AV.ok1, AC.ok]; done) | (simp [AV.ok, AV.ok1, AC.ok]; omega) | (simp [AV.ok, AV.ok1, AC.ok]; assumption) | (refine grV_ok ?_ _; first | (simp; done) | (simp; omega) | omega))) ?_ (fun k q1 _ _ => ?_)
  · refine Next.mk 0 (Nat.zero_le _) ?_
    exact WkL.pad (by omega)
  by_cases hlt : k < l.length
  · have hnx := fiF_next l k
    have hln := fiF_len l k
    have hhas := dupF_has l hlt
    generalize fiF l k = fs at *
    simp (disch := first | omega | (simp only [go_sem]; first | done | omega)) only [go_sem, hlt]
    refine hasIt_a (dupF l l.length) _ (by omega) ?_
    rw [hhas]
    cases hd : isD l k with
    | true =>
      rw [hd, if_pos rfl, List.append_nil] at hnx
      simp (disch := first | omega | (simp only [go_sem]; first | done | omega)) only [go_sem]
      refine Next.mk (k + 1) ⟨by omega, by omega⟩ ?_
      rw [hnx]
      ((try simp (disch := first | omega | (simp only [go_sem]; first | done | omega)) only [go_sem]); (first | refine WkL.pick [0] ?_ ?_ rfl ?_ ?_ ?_ ?_ | refine WkL.pick [1] ?_ ?_ rfl ?_ ?_ ?_ ?_ | refine WkL.pick [2] ?_ ?_ rfl ?_ ?_ ?_ ?_ | refine WkL.pick [3] ?_ ?_ rfl ?_ ?_ ?_ ?_ | refine WkL.pick [4] ?_ ?_ rfl ?_ ?_ ?_ ?_ | refine WkL.pick [5] ?_ ?_ rfl ?_ ?_ ?_ ?_ | refine WkL.pick [6] ?_ ?_ rfl ?_ ?_ ?_ ?_ | refine WkL.pick [7] ?_ ?_ rfl ?_ ?_ ?_ ?_ | refine WkL.pick [8] ?_ ?_ rfl ?_ ?_ ?_ ?_ | refine WkL.pick [9] ?_ ?_ rfl ?_ ?_ ?_ ?_ | refine WkL.pick [10] ?_ ?_ rfl ?_ ?_ ?_ ?_ | refine WkL.pick [11] ?_ ?_ rfl ?_ ?_ ?_ ?_ | refine WkL.pick [12] ?_ ?_ rfl ?_ ?_ ?_ ?_ | refine WkL.pick [13] ?_ ?_ rfl ?_ ?_ ?_ ?_ | refine WkL.pick [14] ?_ ?_ rfl ?_ ?_ ?_ ?_ | refine WkL.pick [15] ?_ ?_ rfl ?_ ?_ ?_ ?_) <;> first | assumption | exact HOk.str (by assumption) | (simp; done) | (simp; omega) | (simp [pureO_gr, AObj.pureO, pureL, go_sem, AC.pure]; done) | (simp only [List.all_cons, List.all_nil, Bool.and_true]; exact pureO_gr (pureL_map _ (fun x => by simp [go_sem, AC.pure]))) | ((try simp only [List.map_cons, List.map_nil, av_ren_gr]); simp [AV.ren, AV.ren1, AC.ren, pickS]; first | done | omega) | (simp only [List.forall_mem_cons, List.not_mem_nil, false_implies, implies_true, and_true]; (repeat' apply And.intro) <;> first | trivial | exact grV_ok (by simp) _ | exact okN_grO (fun x => by simp [go_sem, AC.pure]) | exact okN_map (fun x => by simp [go_sem, AC.pure]) | (simp [AV.ok, AV.ok1, AC.ok]; done) | (simp [AV.ok, AV.ok1, AC.ok]; omega) | (simp [AObj.okN, AC.ok]; done)) | (simp [AObj.okN]; done))
    | false =>
      rw [hd, if_neg (by simp)] at hnx
      simp (disch := first | omega | (simp only [go_sem]; first | done | omega)) only [go_sem]
      refine appI fs (k : Int) _ hnx (by first | exact at0 (by simp) | exact at1 (by simp) | exact at2 (by simp) | exact at3 (by simp) | exact at4 (by simp) | exact at5 (by simp) | exact atG 6 (by simp) rfl | exact atG 7 (by simp) rfl | exact atG 8 (by simp) rfl | exact atG 9 (by simp) rfl | exact atG 10 (by simp) rfl | exact atG 11 (by simp) rfl | exact atG 12 (by simp) rfl | exact atG 13 (by simp) rfl | exact atG 14 (by simp) rfl | exact atG 15 (by simp) rfl | assumption) (by first | exact at0 (by simp) | exact at1 (by simp) | exact at2 (by simp) | exact at3 (by simp) | exact at4 (by simp) | exact at5 (by simp) | exact atG 6 (by simp) rfl | exact atG 7 (by simp) rfl | exact atG 8 (by simp) rfl | exact atG 9 (by simp) rfl | exact atG 10 (by simp) rfl | exact atG 11 (by simp) rfl | exact atG 12 (by simp) rfl | exact atG 13 (by simp) rfl | exact atG 14 (by simp) rfl | exact atG 15 (by simp) rfl | assumption) (by omega) ?_
      simp (disch := first | omega | (simp only [go_sem]; first | done | omega)) only [go_sem]
      refine Next.mk (k + 1) ⟨by omega, by omega⟩ ?_
      ((try simp (disch := first | omega | (simp only [go_sem]; first | done | omega)) only [go_sem]); (first | refine WkL.pick [0] ?_ ?_ rfl ?_ ?_ ?_ ?_ | refine WkL.pick [1] ?_ ?_ rfl ?_ ?_ ?_ ?_ | refine WkL.pick [2] ?_ ?_ rfl ?_ ?_ ?_ ?_ | refine WkL.pick [3] ?_ ?_ rfl ?_ ?_ ?_ ?_ | refine WkL.pick [4] ?_ ?_ rfl ?_ ?_ ?_ ?_ | refine WkL.pick [5] ?_ ?_ rfl ?_ ?_ ?_ ?_ | refine WkL.pick [6] ?_ ?_ rfl ?_ ?_ ?_ ?_ | refine WkL.pick [7] ?_ ?_ rfl ?_ ?_ ?_ ?_ | refine WkL.pick [8] ?_ ?_ rfl ?_ ?_ ?_ ?_ | refine WkL.pick [9] ?_ ?_ rfl ?_ ?_ ?_ ?_ | refine WkL.pick [10] ?_ ?_ rfl ?_ ?_ ?_ ?_ | refine WkL.pick [11] ?_ ?_ rfl ?_ ?_ ?_ ?_ | refine WkL.pick [12] ?_ ?_ rfl ?_ ?_ ?_ ?_ | refine WkL.pick [13] ?_ ?_ rfl ?_ ?_ ?_ ?_ | refine WkL.pick [14] ?_ ?_ rfl ?_ ?_ ?_ ?_ | refine WkL.pick [15] ?_ ?_ rfl ?_ ?_ ?_ ?_) <;> first | assumption | exact HOk.str (by assumption) | (simp; done) | (simp; omega) | (simp [pureO_gr, AObj.pureO, pureL, go_sem, AC.pure]; done) | (simp only [List.all_cons, List.all_nil, Bool.and_true]; exact pureO_gr (pureL_map _ (fun x => by simp [go_sem, AC.pure]))) | ((try simp only [List.map_cons, List.map_nil, av_ren_gr]); simp [AV.ren, AV.ren1, AC.ren, pickS]; first | done | omega) | (simp only [List.forall_mem_cons, List.not_mem_nil, false_implies, implies_true, and_true]; (repeat' apply And.intro) <;> first | trivial | exact grV_ok (by simp) _ | exact okN_grO (fun x => by simp [go_sem, AC.pure]) | exact okN_map (fun x => by simp [go_sem, AC.pure]) | (simp [AV.ok, AV.ok1, AC.ok]; done) | (simp [AV.ok, AV.ok1, AC.ok]; omega) | (simp [AObj.okN, AC.ok]; done)) | (simp [AObj.okN]; done))
  · have hkl : k = l.length := by omega
    subst hkl
    simp (disch := first | omega | (simp only [go_sem]; first | done | omega)) only [go_sem]
    exact Ret.frzGr 0 hH (by omega) rfl (pureL_map _ (fun x => by simp [go_sem, AC.pure])) (by rw [map_grV]; simp) hk
theorem fiN_lt (l : List Arr) {k : Nat} (h : k < (fiN l l.length).length) : (fiN l l.length)[k] < l.length ∧ isD l (fiN l l.length)[k] = false := by
  obtain ⟨a, b⟩ := List.mem_filter.1 (show (fiN l l.length)[k] ∈ (List.range l.length).filter (fun i => !isD l i) from List.getElem_mem h)
  exact ⟨List.mem_range.1 a, by simpa using b⟩
end Go.Proofs.YtppmkgaobeccfaaGreat
