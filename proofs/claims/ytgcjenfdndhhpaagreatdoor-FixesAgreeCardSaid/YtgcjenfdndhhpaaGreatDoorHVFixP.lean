/- sample.Fixed: a series after its fixes. Condition: names are not longer than a machine holds, lists are not long. -/
import Derived.Test.YtgcjenfdndhhpaaGreatDoorHVFixO
import Derived.Test.YtgcjenfdndhhpaaGreatDoorHVArrR
namespace Go.Proofs.YtgcjenfdndhhpaaGreatDoor
open Go Go.RowKit
set_option maxRecDepth 100000
set_option linter.all false
set_option maxHeartbeats 1000000
variable {H : Hp} {K : AV → Hp → Prop}
theorem fxGo_all : ∀ (l : List Fix) (p : Option Fix), fxGo p l = 0 → ∀ x ∈ l, fxErr x = 0
  | [], _, _, x, h => by simp at h
  | a :: t, p, h0, x, h => by
    unfold fxGo at h0
    split at h0
    · rename_i h1; exact absurd h0 h1
    · rename_i h1
      have h2 : fxS p a = 0 := Classical.not_not.1 h1
      rcases List.mem_cons.1 h with rfl | h
      · unfold fxS at h2
        split at h2
        · rename_i h3; exact absurd h2 h3
        · rename_i h3; exact Classical.not_not.1 h3
      · exact fxGo_all t (some a) h0 x h
theorem fxF_go {l : List Fix} (h : fxF l = 0) : l.length ≤ 2000 ∧ fxGo none l = 0 ∧ twF l = false := by
  unfold fxF at h
  split at h
  · cases h
  · split at h
    · rename_i h1; exact absurd h h1
    · split at h
      · cases h
      · rename_i h1 h2 h3
        exact ⟨by omega, Classical.not_not.1 h2, by simpa using h3⟩
theorem fxF_all {l : List Fix} (h : fxF l = 0) : ∀ x ∈ l, fxErr x = 0 := fxGo_all l none (fxF_go h).2.1
theorem putS_mem {x y : Smp} {m : List Smp} (h : y ∈ putS x m) : y = x ∨ y ∈ m := by
  unfold putS upsert at h
  split at h
  · rcases List.mem_or_eq_of_mem_set h with h | h
    · exact .inr h
    · exact .inl h
  · rcases List.mem_append.1 h with h | h
    · exact .inr h
    · exact .inl (by simpa using h)
theorem putS_len (x : Smp) (m : List Smp) : (putS x m).length ≤ m.length + 1 := by
  unfold putS upsert
  split <;> simp
theorem delS_mem {t : Int} {y : Smp} {m : List Smp} (h : y ∈ delS t m) : y ∈ m := by
  unfold delS at h
  split at h
  · exact List.mem_of_mem_eraseIdx h
  · exact h
theorem delS_len (t : Int) (m : List Smp) : (delS t m).length ≤ m.length := by
  unfold delS
  split
  · exact List.length_eraseIdx_le _ _
  · exact Nat.le_refl _
theorem apF_len (m : List Smp) (f : Fix) : (apF m f).length ≤ m.length + 1 := by
  unfold apF
  split
  · exact putS_len _ _
  · split
    · exact Nat.le_succ_of_le (delS_len _ _)
    · split
      · rw [List.length_map]; omega
      · omega
theorem apF_at {P : Int → Prop} {m : List Smp} {f : Fix} (hm : ∀ x ∈ m, P x.t) (hf : f.kind = 1 → P f.s.t) : ∀ x ∈ apF m f, P x.t := by
  intro x hx
  unfold apF at hx
  split at hx
  · rename_i k1
    rcases putS_mem hx with rfl | h
    · exact hf k1
    · exact hm x h
  · split at hx
    · exact hm x (delS_mem hx)
    · split at hx
      · obtain ⟨y, hy, rfl⟩ := List.mem_map.1 hx
        rw [mkF_t]
        exact hm y hy
      · exact hm x hx
theorem apAll_len : ∀ (fs : List Fix) (m : List Smp), (fs.foldl apF m).length ≤ m.length + fs.length
  | [], m => by simp
  | f :: r, m => by
    have h1 := apAll_len r (apF m f)
    have h2 := apF_len m f
    rw [List.foldl_cons, List.length_cons]
    omega
theorem apAll_at {P : Int → Prop} : ∀ (fs : List Fix) (m : List Smp), (∀ x ∈ m, P x.t) → (∀ f ∈ fs, f.kind = 1 → P f.s.t) → ∀ x ∈ fs.foldl apF m, P x.t
  | [], m, hm, _ => hm
  | f :: r, m, hm, hf => apAll_at r (apF m f) (apF_at hm (hf f (by simp))) (fun g hg => hf g (by simp [hg]))
theorem puts_len : ∀ (l m : List Smp), (l.foldl (fun m x => putS x m) m).length ≤ m.length + l.length
  | [], m => by simp
  | x :: r, m => by
    have h1 := puts_len r (putS x m)
    have h2 := putS_len x m
    rw [List.foldl_cons, List.length_cons]
    omega
theorem puts_at {P : Int → Prop} : ∀ (l m : List Smp), (∀ x ∈ m, P x.t) → (∀ x ∈ l, P x.t) → ∀ x ∈ l.foldl (fun m x => putS x m) m, P x.t
  | [], m, hm, _ => hm
  | x :: r, m, hm, hl => puts_at r (putS x m) (fun y hy => by rcases putS_mem hy with rfl | h; exact hl y (by simp); exact hm y h) (fun y hy => hl y (by simp [hy]))
theorem fxM_len (l : List Smp) (fs : List Fix) : (fxM l fs).length ≤ l.length + fs.length := by
  have h1 := apAll_len fs (l.foldl (fun m x => putS x m) [])
  have h2 := puts_len l []
  unfold fxM
  simp only [List.length_nil] at h2
  omega
theorem fxM_at {P : Int → Prop} {l : List Smp} {fs : List Fix} (hl : ∀ x ∈ l, P x.t) (hf : ∀ f ∈ fs, f.kind = 1 → P f.s.t) : ∀ x ∈ fxM l fs, P x.t := apAll_at fs _ (puts_at l [] (by simp) hl) hf
theorem fxUp_sub (fs : List Fix) (a : Int) : (fxUp fs a).Sublist fs := List.takeWhile_sublist _
theorem serM_len {m : List Smp} : (serM m).length = m.length := by
  have h1 := (serM_at (m := m) (srtI (m.map (·.t))) (fun t ht => srtI_mem.1 ht)).1
  rw [srtI_len, List.length_map] at h1
  exact h1
theorem fx_moment {x : Fix} (h : fxErr x = 0) (k1 : x.kind = 1) : smpErr x.s = 0 := by
  unfold fxErr at h
  split at h
  · cases h
  · split at h
    · cases h
    · split at h
      · cases h
      · split at h
        · rename_i h1; exact absurd h h1
        · rename_i h1
          have h2 : kdErr x = 0 := Classical.not_not.1 h1
          unfold kdErr at h2
          rw [if_pos k1] at h2
          exact h2
def faultF (l : List Smp) (fs : List Fix) : Int := firstE [serF l, fxF fs]
theorem faultX_a (l : List Smp) (fs : List Fix) (hl : l.length ≤ 1000000) (hsz : ∀ x ∈ fs, x.by_.size ≤ 1099511627776) (hfl : fs.length ≤ 1000000) (hk : K (.c (.int .i64 (faultF l fs))) H) : ACalls Tryz.prog 70 [.c (.lst 3 (l.map encS)), .c (.lst 11 (fs.map encF))] H K := by
  refine acalls Tryz.func70 rfl (by kernel_rfl) (by simp (disch := first | omega | (simp only [go_sem]; first | done | omega)) only [go_sem]) (fun hH => ?_)
  simp (disch := first | omega | (simp only [go_sem]; first | done | omega)) only [go_sem]
  refine checkSeries_a l (by omega) ?_
  simp (disch := first | omega | (simp only [go_sem]; first | done | omega)) only [go_sem]
  refine checkFixes_a fs hsz hfl ?_
  simp (disch := first | omega | (simp only [go_sem]; first | done | omega)) only [go_sem]
  refine first2A (serF l) (fxF fs) (by first | ((repeat first | exact at0 (by simp) | refine atS ?_); done) | assumption) rfl rfl ?_
  simp (disch := first | omega | (simp only [go_sem]; first | done | omega)) only [go_sem]
  exact Ret.drop hH (Nat.le_refl _) trivial hk
def fxdRes (l : List Smp) (fs : List Fix) (a : Int) : List Smp × Int := if faultF l fs ≠ 0 then ([], faultF l fs) else if ¬ (0 ≤ a ∧ a ≤ 345686399999) then ([], 1) else (serM (fxM l (fxUp fs a)), 0)
theorem faultF_0 {l : List Smp} {fs : List Fix} (h : faultF l fs = 0) : serF l = 0 ∧ fxF fs = 0 := by
  unfold faultF at h
  simp only [firstE] at h
  grind
theorem fxM_i64 {l : List Smp} {fs : List Fix} {a : Int} (h : faultF l fs = 0) : ∀ x ∈ fxM l (fxUp fs a), -9223372036854775808 ≤ x.t ∧ x.t ≤ 9223372036854775807 := by
  obtain ⟨h1, h2⟩ := faultF_0 h
  refine fxM_at (P := fun t => -9223372036854775808 ≤ t ∧ t ≤ 9223372036854775807) (fun x hx => ?_) (fun f hf k1 => ?_)
  · have := smp_ok ((serF_ok h1).2 x hx)
    omega
  · have := smp_ok (fx_moment (fxF_all h2 f ((fxUp_sub fs a).subset hf)) k1)
    omega
theorem fixedTop_a (l : List Smp) (fs : List Fix) (a : Int) (hl : l.length ≤ 1000) (hsz : ∀ x ∈ fs, x.by_.size ≤ 1099511627776) (hfl : fs.length ≤ 1000) (hk : K (.tup [.c (.lst 3 ((fxdRes l fs a).1.map encS)), (.c (.int .i64 ((fxdRes l fs a).2)))]) H) : ACalls Tryz.prog 30 [.c (.lst 3 (l.map encS)), .c (.lst 11 (fs.map encF)), (.c (.int .i64 a))] H K := by
  unfold fxdRes at hk
  refine acalls Tryz.func30 rfl (by kernel_rfl) (by simp (disch := first | omega | (simp only [go_sem]; first | done | omega)) only [go_sem]) (fun hH => ?_)
  simp (disch := first | omega | (simp only [go_sem]; first | done | omega)) only [go_sem]
  refine faultX_a l fs (by omega) hsz (by omega) ?_
  by_cases h0 : faultF l fs = 0
  rotate_left
  · rw [if_pos h0] at hk
    simp (disch := first | omega | (simp only [go_sem]; first | done | omega)) only [go_sem, h0]
    exact Ret.nilS (Nat.le_refl _) rfl hk
  rw [if_neg (by simpa using h0)] at hk
  simp (disch := first | omega | (simp only [go_sem]; first | done | omega)) only [go_sem, h0]
  refine moment_a _ _ _ ?_
  by_cases h1 : 0 ≤ a ∧ a ≤ 345686399999
  rotate_left
  · rw [if_pos h1] at hk
    simp (disch := first | omega | (simp only [go_sem]; first | done | omega)) only [go_sem, h1]
    exact Ret.nilS (Nat.le_refl _) rfl hk
  rw [if_neg (by simpa using h1)] at hk
  simp (disch := first | omega | (simp only [go_sem]; first | done | omega)) only [go_sem, h1]
  have hub := (fxUp_sub fs a).length_le
  have hml := fxM_len l (fxUp fs a)
  have hw := fxM_i64 (a := a) h0
  refine fixed_a l fs a (by omega) (by omega) (fun bs c ok => ?_)
  have hsl := serM_len (m := fxM l (fxUp fs a))
  simp (disch := first | omega | (simp only [go_sem]; first | done | omega)) only [go_sem]
  refine series_a _ bs c H.length ok (by first | ((repeat first | exact at0 (by simp) | refine atS ?_); done) | assumption) hw (by omega) ?_
  have h5 : ¬ (5000 : Int) < (serM (fxM l (fxUp fs a))).length := by omega
  generalize serM (fxM l (fxUp fs a)) = S at *
  simp (disch := first | omega | (simp only [go_sem]; first | done | omega)) only [go_sem, h5]
  exact Ret.drop hH (Nat.le_refl _) (by simp [AV.ok, AV.ok1, AC.ok]) hk
end Go.Proofs.YtgcjenfdndhhpaaGreatDoor
