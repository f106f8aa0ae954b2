/- Changes: the moments at which a corrected series differs as of two moments. Condition: names are not longer than a machine holds, lists are not long. -/
import Derived.Test.YtgcjenfdndhhpaaGreatDoorHVFixD
namespace Go.Proofs.YtgcjenfdndhhpaaGreatDoor
open Go Go.RowKit
set_option maxRecDepth 100000
set_option linter.all false
set_option maxHeartbeats 1000000
variable {H : Hp} {K : AV → Hp → Prop}
def dfF (a b : List Smp) : List Int := (srtI ((qbS (pfS a) (pbS a) b).map (·.1))).filter (lkB (qbS (pfS a) (pbS a) b))
theorem serM_mem {m : List Smp} {x : Smp} (h : x ∈ serM m) : x ∈ m := by
  unfold serM at h
  obtain ⟨t, _, h2⟩ := List.mem_filterMap.1 h
  exact List.mem_of_find?_eq_some h2
def chgRes (l : List Smp) (fs : List Fix) (a b : Int) : List Int × Int := if faultF l fs ≠ 0 then ([], faultF l fs) else if ¬ (0 ≤ a ∧ a ≤ 345686399999) ∨ ¬ (0 ≤ b ∧ b ≤ 345686399999) then ([], 1) else (dfF (serM (fxM l (fxUp fs a))) (serM (fxM l (fxUp fs b))), 0)
theorem changesTop_a (l : List Smp) (fs : List Fix) (a b : Int) (hl : l.length ≤ 1000) (hsz : ∀ x ∈ fs, x.by_.size ≤ 1099511627776) (hfl : fs.length ≤ 1000) (hk : K (.tup [.c (.lst 1 ((chgRes l fs a b).1.map encI)), (.c (.int .i64 ((chgRes l fs a b).2)))]) H) : ACalls Tryz.prog 32 [.c (.lst 3 (l.map encS)), .c (.lst 11 (fs.map encF)), (.c (.int .i64 a)), (.c (.int .i64 b))] H K := by
  unfold chgRes at hk
  refine acalls Tryz.func32 rfl (by kernel_rfl) (by simp (disch := first | omega | (simp only [go_sem]; first | done | omega)) only [go_sem]) (fun hH => ?_)
  simp (disch := first | omega | (simp only [go_sem]; first | done | omega)) only [go_sem]
  refine faultX_a l fs (by omega) hsz (by omega) ?_
  by_cases h0 : faultF l fs = 0
  rotate_left
  · rw [if_pos h0] at hk
    simp (disch := first | omega | (simp only [go_sem]; first | done | omega)) only [go_sem, h0]
    exact Ret.nilS (Nat.le_refl _) rfl hk
  rw [if_neg (by simpa using h0)] at hk
  simp (disch := first | omega | (simp only [go_sem]; first | done | omega)) only [go_sem, h0]
  refine moment_a _ _ _ ?_
  by_cases h1 : 0 ≤ a ∧ a ≤ 345686399999
  rotate_left
  · rw [if_pos (Or.inl h1)] at hk
    simp (disch := first | omega | (simp only [go_sem]; first | done | omega)) only [go_sem, h1]
    exact Ret.nilS (Nat.le_refl _) rfl hk
  simp (disch := first | omega | (simp only [go_sem]; first | done | omega)) only [go_sem, h1]
  refine moment_a _ _ _ ?_
  by_cases h2 : 0 ≤ b ∧ b ≤ 345686399999
  rotate_left
  · rw [if_pos (Or.inr h2)] at hk
    simp (disch := first | omega | (simp only [go_sem]; first | done | omega)) only [go_sem, h2]
    exact Ret.nilS (Nat.le_refl _) rfl hk
  rw [if_neg (fun h => h.elim (fun h => h h1) (fun h => h h2))] at hk
  simp (disch := first | omega | (simp only [go_sem]; first | done | omega)) only [go_sem, h2]
  have hua := (fxUp_sub fs a).length_le
  have hub := (fxUp_sub fs b).length_le
  have hma := fxM_len l (fxUp fs a)
  have hmb := fxM_len l (fxUp fs b)
  have hwa := fxM_i64 (a := a) h0
  have hwb := fxM_i64 (a := b) h0
  have hsa := serM_len (m := fxM l (fxUp fs a))
  have hsb := serM_len (m := fxM l (fxUp fs b))
  have hw : ∀ x ∈ serM (fxM l (fxUp fs a)) ++ serM (fxM l (fxUp fs b)), -9223372036854775808 ≤ x.t ∧ x.t ≤ 9223372036854775807 := by
    intro x hx
    rcases List.mem_append.1 hx with h | h
    · exact hwa x (serM_mem h)
    · exact hwb x (serM_mem h)
  have h5 : ¬ (5000 : Int) < (serM (fxM l (fxUp fs a))).length := by omega
  have h6 : ¬ (5000 : Int) < (serM (fxM l (fxUp fs b))).length := by omega
  refine fixed_a l fs a (by omega) (by omega) (fun bs c ok => ?_)
  simp (disch := first | omega | (simp only [go_sem]; first | done | omega)) only [go_sem]
  refine series_a _ bs c H.length ok (by first | ((repeat first | exact at0 (by simp) | refine atS ?_); done) | assumption) hwa (by omega) ?_
  generalize serM (fxM l (fxUp fs a)) = S at *
  simp (disch := first | omega | (simp only [go_sem]; first | done | omega)) only [go_sem]
  refine fixed_a l fs b (by omega) (by omega) (fun bs2 c2 ok2 => ?_)
  simp (disch := first | omega | (simp only [go_sem]; first | done | omega)) only [go_sem]
  refine series_a _ bs2 c2 (H.length + 1) ok2 (by first | ((repeat first | exact at0 (by simp) | refine atS ?_); done) | assumption) hwb (by omega) ?_
  generalize serM (fxM l (fxUp fs b)) = T at *
  simp (disch := first | omega | (simp only [go_sem]; first | done | omega)) only [go_sem, h5, h6]
  refine differ_a S T (by omega) (by omega) hw ?_
  rw [show List.filter (lkB (qbS (pfS S) (pbS S) T)) (srtI ((qbS (pfS S) (pbS S) T).map (·.1))) = dfF S T from rfl]
  generalize dfF S T = R at *
  simp (disch := first | omega | (simp only [go_sem]; first | done | omega)) only [go_sem]
  exact Ret.drop hH (Nat.le_refl _) (by simp [AV.ok, AV.ok1, AC.ok]) hk
/-- does a moment's sample differ as of two moments? -/
def chB (l : List Smp) (fs : List Fix) (a b : Int) (t : Int) : Bool := (decide ((fxAt l fs t a).2 ≠ (fxAt l fs t b).2)) || ((fxAt l fs t a).2 && !decide ((fxAt l fs t a).1 = (fxAt l fs t b).1))
end Go.Proofs.YtgcjenfdndhhpaaGreatDoor
