/- A right series after right fixes is a right one. No program in sight. -/
import Derived.Test.YtgcjenfdndhhpaaGreatDoorHVFixK
import Derived.Test.YtgcjenfdndhhpaaGreatDoorHVGC
namespace Go.Proofs.YtgcjenfdndhhpaaGreatDoor
open Go Go.RowKit
set_option maxRecDepth 100000
set_option linter.all false
theorem fx_kd {x : Fix} (h : fxErr x = 0) : kdErr x = 0 := by
  unfold fxErr at h
  split at h
  · cases h
  · split at h
    · cases h
    · split at h
      · cases h
      · split at h
        · rename_i h1; exact absurd h h1
        · rename_i h1
          exact Classical.not_not.1 h1
theorem fx_q {x : Fix} (h : fxErr x = 0) (k : x.kind = 3) : 0 ≤ x.q ∧ x.q ≤ 2 := by
  have h2 := fx_kd h
  unfold kdErr at h2
  rw [if_neg (by omega), if_neg (by omega), if_pos k] at h2
  split at h2
  · cases h2
  · split at h2
    · cases h2
    · omega
theorem fxV_of {x : Fix} (h : fxErr x = 0) : (x.kind = 1 ∨ x.kind = 2 ∨ x.kind = 3) ∧ fxV x :=
  ⟨fx_kind h, fun k => (smp_ok (fx_moment h k)).2.2.2, fx_q h⟩
theorem mk_right {f : Fix} {x : Smp} (hq : 0 ≤ f.q ∧ f.q ≤ 2) (h : smpErr x = 0) : smpErr (mkF f x) = 0 := by
  unfold mkF
  split
  · unfold smpErr at h ⊢
    dsimp only
    grind
  · exact h
theorem ap_right {m : List Smp} {f : Fix} (hf : fxErr f = 0) (h : ∀ x ∈ m, smpErr x = 0) : ∀ x ∈ apF m f, smpErr x = 0 := by
  intro x hx
  unfold apF at hx
  split at hx
  · rename_i k
    rcases putS_mem hx with rfl | hx
    · exact fx_moment hf k
    · exact h x hx
  · split at hx
    · exact h x (delS_mem hx)
    · split at hx
      · rename_i k
        obtain ⟨y, hy, rfl⟩ := List.mem_map.1 hx
        exact mk_right (fx_q hf k) (h y hy)
      · exact h x hx
theorem aps_right : ∀ (fs : List Fix) (m : List Smp), (∀ f ∈ fs, fxErr f = 0) → (∀ x ∈ m, smpErr x = 0) → ∀ x ∈ fs.foldl apF m, smpErr x = 0
  | [], _, _, h => h
  | f :: r, m, hf, h => aps_right r (apF m f) (fun g hg => hf g (by simp [hg])) (ap_right (hf f (by simp)) h)
theorem fixed_right {l : List Smp} {fs : List Fix} (hn : (l.map (·.t)).Nodup) (h1 : serF l = 0) (h2 : ∀ f ∈ fs, fxErr f = 0) (hl : l.length + fs.length ≤ 5000) : serF (serM (fxM l fs)) = 0 := by
  have hm := fxM_nd (fs := fs) hn
  refine serF_of ?_ (fun x hx => ?_) (incS_iff.2 ?_)
  · rw [serM_len]
    have := fxM_len l fs
    omega
  · refine aps_right fs (l.foldl (fun m x => putS x m) []) h2 ?_ x (serM_mem hx)
    rw [puts_id l [] (by simpa using hn), List.nil_append]
    exact (serF_ok h1).2
  · have h := srtI_lt hm
    rw [← serM_t] at h
    exact List.pairwise_map.1 h
/-- nothing changes between a moment and itself -/
theorem chg_same {l : List Smp} {fs : List Fix} {a : Int} (hn : (l.map (·.t)).Nodup) (h1 : serF l = 0) (h2 : fxF fs = 0) : dfF (serM (fxM l (fxUp fs a))) (serM (fxM l (fxUp fs a))) = [] := by
  rw [changes_same hn h1 h2, List.filter_eq_nil_iff]
  intro t _
  unfold chB
  simp
end Go.Proofs.YtgcjenfdndhhpaaGreatDoor
