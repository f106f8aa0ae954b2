/- Changes: the moments at which a corrected series differs as of two moments. Condition: names are not longer than a machine holds, lists are not long. -/
import Derived.Test.YtgcjenfdndhhpaaGreatHVFixD
namespace Go.Proofs.YtgcjenfdndhhpaaGreat
open Go Go.RowKit
set_option maxRecDepth 100000
set_option linter.all false
set_option maxHeartbeats 1000000
variable {H : Hp} {K : AV → Hp → Prop}
def dfF (a b : List Smp) : List Int := (srtI ((qbS (pfS a) (pbS a) b).map (·.1))).filter (lkB (qbS (pfS a) (pbS a) b))
theorem serM_mem {m : List Smp} {x : Smp} (h : x ∈ serM m) : x ∈ m := by
  unfold serM at h
  obtain ⟨t, _, h2⟩ := List.mem_filterMap.1 h
  exact List.mem_of_find?_eq_some h2
def chgRes (l : List Smp) (fs : List Fix) (a b : Int) : List Int × Int := if faultF l fs ≠ 0 then ([], faultF l fs) else if ¬ (0 ≤ a ∧ a ≤ 345686399999) ∨ ¬ (0 ≤ b ∧ b ≤ 345686399999) then ([], 1) else (dfF (serM (fxM l (fxUp fs a))) (serM (fxM l (fxUp fs b))), 0)
theorem changesTop_a (l : List Smp) (fs : List Fix) (a b : Int) (hl : l.length ≤ 1000) (hsz : ∀ x ∈ fs, x.by_.size ≤ 1099511627776) (hfl : fs.length ≤ 1000) (hk : K (.tup [.c (.lst 1 ((chgRes l fs a b).1.map encI)), (.c (.int .i64 ((chgRes l fs a b).2)))]) H) : ACalls Tryz.prog 48 [.c (.lst 3 (l.map encS)), .c (.lst 11 (fs.map encF)), (.c (.int .i64 a)), (.c (.int .i64 b))] H K := by
  unfold chgRes at hk
  refine acalls Tryz.func48 rfl (by kernel_rfl) (by simp (disch := first | omega | (simp only [go_sem]; first | done | omega)) only [go_sem]) (fun hH => ?_)
  simp (disch := first | omega | (simp only [go_sem]; first | done | omega)) only [go_sem]
  refine faultX_a l fs (by omega) hsz (by omega) ?_
  by_cases h0 : faultF l fs = 0
  rotate_left
  · rw [if_pos h0] at hk
    simp (disch := first | omega | (simp only [go_sem]; first | done | omega)) only [go_sem, h0]
    exact Ret.nilS (Nat.le_refl _) rfl hk
  rw [if_neg (by simpa using h0)] at hk
  simp (disch := first | omega | (simp only [go_sem]; first | done | omega)) only [go_sem, h0]
  refine moment_a _ _ _ ?_
  by_cases h1 : 0 ≤ a ∧ a ≤ 345686399999
  rotate_left
  · rw [if_pos (Or.inl h1)] at hk
    simp (disch := first | omega | (simp only [go_sem]; first | done | omega)) only [go_sem, h1]
    exact Ret.nilS (Nat.le_refl _) rfl hk
  simp (disch := first | omega | (simp only [go_sem]; first | done | omega)) only [go_sem, h1]
  refine moment_a _ _ _ ?_
  by_cases h2 : 0 ≤ b ∧ b ≤ 345686399999
  rotate_left
  · rw [if_pos (Or.inr h2)] at hk
    simp (disch := first | omega | (simp only [go_sem]; first | done | omega)) only [go_sem, h2]
    exact Ret.nilS (Nat.le_refl _) rfl hk
  rw [if_neg (fun h => h.elim (fun h => h h1) (fun h => h h2))] at hk
  simp (disch := first | omega | (simp only [go_sem]; first | done | omega)) only [go_sem, h2]
  have hua := (fxUp_sub fs a).length_le
  have hub := (fxUp_sub fs b).length_le
  have hma := fxM_len l (fxUp fs a)
  have hmb := fxM_len l (fxUp fs b)
  have hwa := fxM_i64 (a := a) h0
  have hwb := fxM_i64 (a := b) h0
  have hsa := serM_len (m := fxM l (fxUp fs a))
  have hsb := serM_len (m := fxM l (fxUp fs b))
  have hw : ∀ x ∈ serM (fxM l (fxUp fs a)) ++ serM (fxM l (fxUp fs b)), -9223372036854775808 ≤ x.t ∧ x.t ≤ 9223372036854775807 := by
    intro x hx
    rcases List.mem_append.1 hx with h | h
    · exact hwa x (serM_mem h)
    · exact hwb x (serM_mem h)
  have h5 : ¬ (5000 : Int) < (serM (fxM l (fxUp fs a))).length := by omega
  have h6 : ¬ (5000 : Int) < (serM (fxM l (fxUp fs b))).length := by omega
  refine fixed_a l fs a (by omega) (by omega) (fun bs c ok => ?_)
  simp (disch := first | omega | (simp only [go_sem]; first | done | omega)) only [go_sem]
  refine series_a _ bs c H.length ok (by first | ((repeat first | exact at0 (by simp) | refine atS ?_); done) | assumption) hwa (by omega) ?_
  generalize serM (fxM l (fxUp fs a)) = S at *
  simp (disch := first | omega | (simp only [go_sem]; first | done | omega)) only [go_sem]
  refine fixed_a l fs b (by omega) (by omega) (fun bs2 c2 ok2 => ?_)
  simp (disch := first | omega | (simp only [go_sem]; first | done | omega)) only [go_sem]
  refine series_a _ bs2 c2 (H.length + 1) ok2 (by first | ((repeat first | exact at0 (by simp) | refine atS ?_); done) | assumption) hwb (by omega) ?_
  generalize serM (fxM l (fxUp fs b)) = T at *
  simp (disch := first | omega | (simp only [go_sem]; first | done | omega)) only [go_sem, h5, h6]
  refine differ_a S T (by omega) (by omega) hw ?_
  rw [show List.filter (lkB (qbS (pfS S) (pbS S) T)) (srtI ((qbS (pfS S) (pbS S) T).map (·.1))) = dfF S T from rfl]
  generalize dfF S T = R at *
  simp (disch := first | omega | (simp only [go_sem]; first | done | omega)) only [go_sem]
  exact Ret.drop hH (Nat.le_refl _) (by simp [AV.ok, AV.ok1, AC.ok]) hk
/-- does a moment's sample differ as of two moments? -/
def chB (l : List Smp) (fs : List Fix) (a b : Int) (t : Int) : Bool := (decide ((fxAt l fs t a).2 ≠ (fxAt l fs t b).2)) || ((fxAt l fs t a).2 && !decide ((fxAt l fs t a).1 = (fxAt l fs t b).1))
theorem changesOf_a (l : List Smp) (fs : List Fix) (a b : Int) (hl : l.length ≤ 1000) (hfl : fs.length ≤ 1000) (hk : K (.tup [.c (.lst 1 (((momsF l fs).filter (chB l fs a b)).map encI)), (.c (.int .i64 0))]) H) : ACalls Tryz.prog 55 [.c (.lst 3 (l.map encS)), .c (.lst 11 (fs.map encF)), (.c (.int .i64 a)), (.c (.int .i64 b))] H K := by
  have hml : (momsF l fs).length ≤ 2000 := by
    unfold momsF
    have h1 := cplF_le (srtI (l.map (·.t) ++ setsF fs))
    have h2 := setsF_len fs fs.length
    rw [List.take_length] at h2
    rw [srtI_len, List.length_append, List.length_map] at h1
    omega
  refine acalls Tryz.func55 rfl (by kernel_rfl) (by simp (disch := first | omega | (simp only [go_sem]; first | done | omega)) only [go_sem]) (fun hH => ?_)
  simp (disch := first | omega | (simp only [go_sem]; first | done | omega)) only [go_sem]
  refine AWp.rounds 2 (by kernel_rfl) ?_
  simp (disch := first | omega | (simp only [go_sem]; first | done | omega)) only [go_sem]
  refine fixedOf_a l fs a hl hfl ?_
  simp (disch := first | omega | (simp only [go_sem]; first | done | omega)) only [go_sem]
  refine fixedOf_a l fs b hl hfl ?_
  simp (disch := first | omega | (simp only [go_sem]; first | done | omega)) only [go_sem]
  refine moments_a l fs (by omega) (by omega) ?_
  generalize momsF l fs = ms at *
  simp (disch := first | omega | (simp only [go_sem]; first | done | omega)) only [go_sem]
  refine AWp.loop (H.length) [0, 1, 2, 3, 42, 43] [44, 14] (fun (k : Nat) => k ≤ ms.length) (fun (k : Nat) => [(44, (.c (.int .i64 k))), (14, .c (grV H.length ((ms.take k).filter (chB l fs a b))))]) (fun (k : Nat) => H ++ [grO 3 1 (((ms.take k).filter (chB l fs a b)).map encI)]) (fun (k : Nat) => ms.length - k) (by kernel_rfl) (fun _ => rfl) (by kernel_rfl) (by first | (simp; done) | omega) (by first | (simp; done) | (simp; omega) | omega) (by (try simp only [List.forall_mem_cons, List.not_mem_nil, false_implies, implies_true, and_true]); (try simp (disch := first | omega | (simp only [go_sem]; first | done | omega)) only [go_sem]); all_goals first | trivial | (simp [AV.ok, AV.ok1, AC.ok]; done) | (simp [AV.ok, AV.ok1, AC.ok]; omega) | (simp [AV.ok, AV.ok1, AC.ok]; assumption) | ((repeat' apply And.intro) <;> first | trivial | (simp [AV.ok, AV.ok1, AC.ok]; done) | (simp [AV.ok, AV.ok1, AC.ok]; omega) | (simp [AV.ok, AV.ok1, AC.ok]; assumption) | (refine grV_ok ?_ _; first | (simp; done) | (simp; omega) | omega))) ?_ (fun k q1 _ _ => ?_)
  · refine Next.mk 0 (Nat.zero_le _) ?_
    refine WkL.trans (H1 := H) (vs1 := [.c (.int .i64 0), .c (.sl none 0)]) (WkL.rest hH (Nat.le_refl _) (by rfl) (by simp [AV.ok, AV.ok1, AC.ok])) ?_
    exact WkL.pad (Nat.le_refl _)
  by_cases hlt : k < ms.length
  · have hnx := flt_next (p := chB l fs a b) hlt
    have hln : ((ms.take k).filter (chB l fs a b)).length ≤ 2000 := by
      have := List.length_filter_le (chB l fs a b) (ms.take k)
      rw [List.length_take] at this
      omega
    generalize (ms.take k).filter (chB l fs a b) = L at *
    simp (disch := first | omega | (simp only [go_sem]; first | done | omega)) only [go_sem, hlt]
    refine fixedAt_a l fs ms[k] a (by omega) (by omega) ?_
    simp (disch := first | omega | (simp only [go_sem]; first | done | omega)) only [go_sem]
    refine fixedAt_a l fs ms[k] b (by omega) (by omega) ?_
    have hch : chB l fs a b ms[k] = ((decide ((fxAt l fs ms[k] a).2 ≠ (fxAt l fs ms[k] b).2)) || ((fxAt l fs ms[k] a).2 && !decide ((fxAt l fs ms[k] a).1 = (fxAt l fs ms[k] b).1))) := rfl
    rw [hch] at hnx
    clear hch
    generalize fxAt l fs ms[k] a = u at *
    generalize fxAt l fs ms[k] b = v at *
    obtain ⟨x, u⟩ := u
    obtain ⟨y, v⟩ := v
    dsimp only at hnx ⊢
    rw [← smpD] at hnx
    cases u <;> cases v
    · rw [if_neg (by simp), List.append_nil] at hnx
      simp (disch := first | omega | (simp only [go_sem]; first | done | omega)) only [go_sem]
      refine Next.mk (k + 1) ⟨by omega, by omega⟩ ?_
      rw [hnx]
      ((try simp (disch := first | omega | (simp only [go_sem]; first | done | omega)) only [go_sem]); (first | refine WkL.pick [0] ?_ ?_ rfl ?_ ?_ ?_ ?_ | refine WkL.pick [1] ?_ ?_ rfl ?_ ?_ ?_ ?_ | refine WkL.pick [2] ?_ ?_ rfl ?_ ?_ ?_ ?_ | refine WkL.pick [3] ?_ ?_ rfl ?_ ?_ ?_ ?_ | refine WkL.pick [4] ?_ ?_ rfl ?_ ?_ ?_ ?_ | refine WkL.pick [5] ?_ ?_ rfl ?_ ?_ ?_ ?_ | refine WkL.pick [6] ?_ ?_ rfl ?_ ?_ ?_ ?_ | refine WkL.pick [7] ?_ ?_ rfl ?_ ?_ ?_ ?_ | refine WkL.pick [8] ?_ ?_ rfl ?_ ?_ ?_ ?_ | refine WkL.pick [9] ?_ ?_ rfl ?_ ?_ ?_ ?_ | refine WkL.pick [10] ?_ ?_ rfl ?_ ?_ ?_ ?_ | refine WkL.pick [11] ?_ ?_ rfl ?_ ?_ ?_ ?_ | refine WkL.pick [12] ?_ ?_ rfl ?_ ?_ ?_ ?_ | refine WkL.pick [13] ?_ ?_ rfl ?_ ?_ ?_ ?_ | refine WkL.pick [14] ?_ ?_ rfl ?_ ?_ ?_ ?_ | refine WkL.pick [15] ?_ ?_ rfl ?_ ?_ ?_ ?_) <;> first | assumption | exact HOk.str (by assumption) | (simp; done) | (simp; omega) | (simp [pureO_gr, AObj.pureO, pureL, go_sem, AC.pure]; done) | (simp only [List.all_cons, List.all_nil, Bool.and_true]; exact pureO_gr (pureL_map _ (fun x => by simp [go_sem, AC.pure]))) | ((try simp only [List.map_cons, List.map_nil, av_ren_gr]); simp [AV.ren, AV.ren1, AC.ren, renP, pickS]; first | done | omega) | (simp only [List.forall_mem_cons, List.not_mem_nil, false_implies, implies_true, and_true]; (repeat' apply And.intro) <;> first | trivial | exact grV_ok (by simp) _ | exact okN_grO (fun x => by simp [go_sem, AC.pure]) | exact okN_map (fun x => by simp [go_sem, AC.pure]) | (simp [AV.ok, AV.ok1, AC.ok]; done) | (simp [AV.ok, AV.ok1, AC.ok]; omega) | (simp [AObj.okN, AC.ok]; done)) | (simp [AObj.okN]; done))
    · rw [if_pos (by simp)] at hnx
      simp (disch := first | omega | (simp only [go_sem]; first | done | omega)) only [go_sem]
      refine appI L ms[k] _ hnx (by first | ((repeat first | exact at0 (by simp) | refine atS ?_); done) | assumption) (by first | ((repeat first | exact at0 (by simp) | refine atS ?_); done) | assumption) (by omega) ?_
      simp (disch := first | omega | (simp only [go_sem]; first | done | omega)) only [go_sem]
      refine Next.mk (k + 1) ⟨by omega, by omega⟩ ?_
      rw [hnx]
      ((try simp (disch := first | omega | (simp only [go_sem]; first | done | omega)) only [go_sem]); (first | refine WkL.pick [0] ?_ ?_ rfl ?_ ?_ ?_ ?_ | refine WkL.pick [1] ?_ ?_ rfl ?_ ?_ ?_ ?_ | refine WkL.pick [2] ?_ ?_ rfl ?_ ?_ ?_ ?_ | refine WkL.pick [3] ?_ ?_ rfl ?_ ?_ ?_ ?_ | refine WkL.pick [4] ?_ ?_ rfl ?_ ?_ ?_ ?_ | refine WkL.pick [5] ?_ ?_ rfl ?_ ?_ ?_ ?_ | refine WkL.pick [6] ?_ ?_ rfl ?_ ?_ ?_ ?_ | refine WkL.pick [7] ?_ ?_ rfl ?_ ?_ ?_ ?_ | refine WkL.pick [8] ?_ ?_ rfl ?_ ?_ ?_ ?_ | refine WkL.pick [9] ?_ ?_ rfl ?_ ?_ ?_ ?_ | refine WkL.pick [10] ?_ ?_ rfl ?_ ?_ ?_ ?_ | refine WkL.pick [11] ?_ ?_ rfl ?_ ?_ ?_ ?_ | refine WkL.pick [12] ?_ ?_ rfl ?_ ?_ ?_ ?_ | refine WkL.pick [13] ?_ ?_ rfl ?_ ?_ ?_ ?_ | refine WkL.pick [14] ?_ ?_ rfl ?_ ?_ ?_ ?_ | refine WkL.pick [15] ?_ ?_ rfl ?_ ?_ ?_ ?_) <;> first | assumption | exact HOk.str (by assumption) | (simp; done) | (simp; omega) | (simp [pureO_gr, AObj.pureO, pureL, go_sem, AC.pure]; done) | (simp only [List.all_cons, List.all_nil, Bool.and_true]; exact pureO_gr (pureL_map _ (fun x => by simp [go_sem, AC.pure]))) | ((try simp only [List.map_cons, List.map_nil, av_ren_gr]); simp [AV.ren, AV.ren1, AC.ren, renP, pickS]; first | done | omega) | (simp only [List.forall_mem_cons, List.not_mem_nil, false_implies, implies_true, and_true]; (repeat' apply And.intro) <;> first | trivial | exact grV_ok (by simp) _ | exact okN_grO (fun x => by simp [go_sem, AC.pure]) | exact okN_map (fun x => by simp [go_sem, AC.pure]) | (simp [AV.ok, AV.ok1, AC.ok]; done) | (simp [AV.ok, AV.ok1, AC.ok]; omega) | (simp [AObj.okN, AC.ok]; done)) | (simp [AObj.okN]; done))
    · rw [if_pos (by simp)] at hnx
      simp (disch := first | omega | (simp only [go_sem]; first | done | omega)) only [go_sem]
      refine appI L ms[k] _ hnx (by first | ((repeat first | exact at0 (by simp) | refine atS ?_); done) | assumption) (by first | ((repeat first | exact at0 (by simp) | refine atS ?_); done) | assumption) (by omega) ?_
      simp (disch := first | omega | (simp only [go_sem]; first | done | omega)) only [go_sem]
      refine Next.mk (k + 1) ⟨by omega, by omega⟩ ?_
      rw [hnx]
      ((try simp (disch := first | omega | (simp only [go_sem]; first | done | omega)) only [go_sem]); (first | refine WkL.pick [0] ?_ ?_ rfl ?_ ?_ ?_ ?_ | refine WkL.pick [1] ?_ ?_ rfl ?_ ?_ ?_ ?_ | refine WkL.pick [2] ?_ ?_ rfl ?_ ?_ ?_ ?_ | refine WkL.pick [3] ?_ ?_ rfl ?_ ?_ ?_ ?_ | refine WkL.pick [4] ?_ ?_ rfl ?_ ?_ ?_ ?_ | refine WkL.pick [5] ?_ ?_ rfl ?_ ?_ ?_ ?_ | refine WkL.pick [6] ?_ ?_ rfl ?_ ?_ ?_ ?_ | refine WkL.pick [7] ?_ ?_ rfl ?_ ?_ ?_ ?_ | refine WkL.pick [8] ?_ ?_ rfl ?_ ?_ ?_ ?_ | refine WkL.pick [9] ?_ ?_ rfl ?_ ?_ ?_ ?_ | refine WkL.pick [10] ?_ ?_ rfl ?_ ?_ ?_ ?_ | refine WkL.pick [11] ?_ ?_ rfl ?_ ?_ ?_ ?_ | refine WkL.pick [12] ?_ ?_ rfl ?_ ?_ ?_ ?_ | refine WkL.pick [13] ?_ ?_ rfl ?_ ?_ ?_ ?_ | refine WkL.pick [14] ?_ ?_ rfl ?_ ?_ ?_ ?_ | refine WkL.pick [15] ?_ ?_ rfl ?_ ?_ ?_ ?_) <;> first | assumption | exact HOk.str (by assumption) | (simp; done) | (simp; omega) | (simp [pureO_gr, AObj.pureO, pureL, go_sem, AC.pure]; done) | (simp only [List.all_cons, List.all_nil, Bool.and_true]; exact pureO_gr (pureL_map _ (fun x => by simp [go_sem, AC.pure]))) | ((try simp only [List.map_cons, List.map_nil, av_ren_gr]); simp [AV.ren, AV.ren1, AC.ren, renP, pickS]; first | done | omega) | (simp only [List.forall_mem_cons, List.not_mem_nil, false_implies, implies_true, and_true]; (repeat' apply And.intro) <;> first | trivial | exact grV_ok (by simp) _ | exact okN_grO (fun x => by simp [go_sem, AC.pure]) | exact okN_map (fun x => by simp [go_sem, AC.pure]) | (simp [AV.ok, AV.ok1, AC.ok]; done) | (simp [AV.ok, AV.ok1, AC.ok]; omega) | (simp [AObj.okN, AC.ok]; done)) | (simp [AObj.okN]; done))
    · simp (disch := first | omega | (simp only [go_sem]; first | done | omega)) only [go_sem]
      refine acond_b (fun c => ?_) (fun c => ?_)
      · rw [c, if_neg (by simp), List.append_nil] at hnx
        simp (disch := first | omega | (simp only [go_sem]; first | done | omega)) only [go_sem]
        refine Next.mk (k + 1) ⟨by omega, by omega⟩ ?_
        rw [hnx]
        ((try simp (disch := first | omega | (simp only [go_sem]; first | done | omega)) only [go_sem]); (first | refine WkL.pick [0] ?_ ?_ rfl ?_ ?_ ?_ ?_ | refine WkL.pick [1] ?_ ?_ rfl ?_ ?_ ?_ ?_ | refine WkL.pick [2] ?_ ?_ rfl ?_ ?_ ?_ ?_ | refine WkL.pick [3] ?_ ?_ rfl ?_ ?_ ?_ ?_ | refine WkL.pick [4] ?_ ?_ rfl ?_ ?_ ?_ ?_ | refine WkL.pick [5] ?_ ?_ rfl ?_ ?_ ?_ ?_ | refine WkL.pick [6] ?_ ?_ rfl ?_ ?_ ?_ ?_ | refine WkL.pick [7] ?_ ?_ rfl ?_ ?_ ?_ ?_ | refine WkL.pick [8] ?_ ?_ rfl ?_ ?_ ?_ ?_ | refine WkL.pick [9] ?_ ?_ rfl ?_ ?_ ?_ ?_ | refine WkL.pick [10] ?_ ?_ rfl ?_ ?_ ?_ ?_ | refine WkL.pick [11] ?_ ?_ rfl ?_ ?_ ?_ ?_ | refine WkL.pick [12] ?_ ?_ rfl ?_ ?_ ?_ ?_ | refine WkL.pick [13] ?_ ?_ rfl ?_ ?_ ?_ ?_ | refine WkL.pick [14] ?_ ?_ rfl ?_ ?_ ?_ ?_ | refine WkL.pick [15] ?_ ?_ rfl ?_ ?_ ?_ ?_) <;> first | assumption | exact HOk.str (by assumption) | (simp; done) | (simp; omega) | (simp [pureO_gr, AObj.pureO, pureL, go_sem, AC.pure]; done) | (simp only [List.all_cons, List.all_nil, Bool.and_true]; exact pureO_gr (pureL_map _ (fun x => by simp [go_sem, AC.pure]))) | ((try simp only [List.map_cons, List.map_nil, av_ren_gr]); simp [AV.ren, AV.ren1, AC.ren, renP, pickS]; first | done | omega) | (simp only [List.forall_mem_cons, List.not_mem_nil, false_implies, implies_true, and_true]; (repeat' apply And.intro) <;> first | trivial | exact grV_ok (by simp) _ | exact okN_grO (fun x => by simp [go_sem, AC.pure]) | exact okN_map (fun x => by simp [go_sem, AC.pure]) | (simp [AV.ok, AV.ok1, AC.ok]; done) | (simp [AV.ok, AV.ok1, AC.ok]; omega) | (simp [AObj.okN, AC.ok]; done)) | (simp [AObj.okN]; done))
      · rw [c, if_pos (by simp)] at hnx
        simp (disch := first | omega | (simp only [go_sem]; first | done | omega)) only [go_sem]
        refine appI L ms[k] _ hnx (by first | ((repeat first | exact at0 (by simp) | refine atS ?_); done) | assumption) (by first | ((repeat first | exact at0 (by simp) | refine atS ?_); done) | assumption) (by omega) ?_
        simp (disch := first | omega | (simp only [go_sem]; first | done | omega)) only [go_sem]
        refine Next.mk (k + 1) ⟨by omega, by omega⟩ ?_
        rw [hnx]
        ((try simp (disch := first | omega | (simp only [go_sem]; first | done | omega)) only [go_sem]); (first | refine WkL.pick [0] ?_ ?_ rfl ?_ ?_ ?_ ?_ | refine WkL.pick [1] ?_ ?_ rfl ?_ ?_ ?_ ?_ | refine WkL.pick [2] ?_ ?_ rfl ?_ ?_ ?_ ?_ | refine WkL.pick [3] ?_ ?_ rfl ?_ ?_ ?_ ?_ | refine WkL.pick [4] ?_ ?_ rfl ?_ ?_ ?_ ?_ | refine WkL.pick [5] ?_ ?_ rfl ?_ ?_ ?_ ?_ | refine WkL.pick [6] ?_ ?_ rfl ?_ ?_ ?_ ?_ | refine WkL.pick [7] ?_ ?_ rfl ?_ ?_ ?_ ?_ | refine WkL.pick [8] ?_ ?_ rfl ?_ ?_ ?_ ?_ | refine WkL.pick [9] ?_ ?_ rfl ?_ ?_ ?_ ?_ | refine WkL.pick [10] ?_ ?_ rfl ?_ ?_ ?_ ?_ | refine WkL.pick [11] ?_ ?_ rfl ?_ ?_ ?_ ?_ | refine WkL.pick [12] ?_ ?_ rfl ?_ ?_ ?_ ?_ | refine WkL.pick [13] ?_ ?_ rfl ?_ ?_ ?_ ?_ | refine WkL.pick [14] ?_ ?_ rfl ?_ ?_ ?_ ?_ | refine WkL.pick [15] ?_ ?_ rfl ?_ ?_ ?_ ?_) <;> first | assumption | exact HOk.str (by assumption) | (simp; done) | (simp; omega) | (simp [pureO_gr, AObj.pureO, pureL, go_sem, AC.pure]; done) | (simp only [List.all_cons, List.all_nil, Bool.and_true]; exact pureO_gr (pureL_map _ (fun x => by simp [go_sem, AC.pure]))) | ((try simp only [List.map_cons, List.map_nil, av_ren_gr]); simp [AV.ren, AV.ren1, AC.ren, renP, pickS]; first | done | omega) | (simp only [List.forall_mem_cons, List.not_mem_nil, false_implies, implies_true, and_true]; (repeat' apply And.intro) <;> first | trivial | exact grV_ok (by simp) _ | exact okN_grO (fun x => by simp [go_sem, AC.pure]) | exact okN_map (fun x => by simp [go_sem, AC.pure]) | (simp [AV.ok, AV.ok1, AC.ok]; done) | (simp [AV.ok, AV.ok1, AC.ok]; omega) | (simp [AObj.okN, AC.ok]; done)) | (simp [AObj.okN]; done))
  · have hkk : k = ms.length := by omega
    subst hkk
    rw [List.take_length]
    simp (disch := first | omega | (simp only [go_sem]; first | done | omega)) only [go_sem]
    exact Ret.frzGrT 0 hH (Nat.le_refl _) rfl (pureL_map _ (fun x => by simp [go_sem, AC.pure])) rfl (map_grV _ _ _).symm hk
end Go.Proofs.YtgcjenfdndhhpaaGreat
