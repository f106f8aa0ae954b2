/- What small buffers come to: no program in sight. No condition. -/
import Derived.Test.YtnpdbnkgipkgaaaGreatDoorHVBufG
namespace Go.Proofs.YtnpdbnkgipkgaaaGreatDoor
open Go Go.RowKit
set_option maxRecDepth 100000
set_option linter.all false
theorem srtI_inc {l : List Int} (h : l.Nodup) : (srtI l).Pairwise (· < ·) := by
  have h1 : (srtI l).Pairwise (fun x y => (decide (x ≤ y)) = true) := by
    unfold srtI
    exact List.pairwise_mergeSort (fun a b c h1 h2 => by simp at *; omega) (fun a b => by simp; omega) l
  have h2 : (srtI l).Nodup := by unfold srtI; exact (List.mergeSort_perm l _).nodup_iff.2 h
  refine (h1.and h2).imp ?_
  rintro a b ⟨h3, h4⟩
  have : a ≤ b := by simpa using h3
  omega
structure SmallOk (c : Int) (B : List Pk) (D : List (Int × Int)) : Prop where
  len : (B.length : Int) ≤ c
  inc : ∀ k (h : k < B.length) (h0 : 0 < k), B[k - 1].n < B[k].n
  out : ∀ y ∈ B, ∀ r ∈ D, ¬ (r.1 ≤ y.n ∧ y.n < r.2)
  row : ∀ r ∈ D, r.1 < r.2
  apart : ∀ k (h : k < D.length) (h0 : 0 < k), D[k - 1].2 < D[k].1
theorem pair_at {α : Type} {R : α → α → Prop} {l : List α} (h : l.Pairwise R) (k : Nat) (hk : k < l.length) (h0 : 0 < k) : R l[k - 1] l[k] :=
  List.pairwise_iff_getElem.1 h (k - 1) k (by omega) hk (by omega)
theorem small_ok {c p : Int} (hc : 2 ≤ c) (hp : 1 ≤ p ∧ p ≤ 3) (l : List Stp) : SmallOk c ((playF c p l).l.map (fun x => x.p)) (rowsF (srtI (playF c p l).drp)) := by
  obtain ⟨h1, h2, h3, h4, h5, h6, h7⟩ := play_ok hc hp l
  generalize playF c p l = nd at *
  obtain ⟨r1, r2, r3, r4⟩ := rows_ok (srtI_inc h6)
  refine ⟨by rw [List.length_map]; exact h7, fun k h h0 => ?_, fun y hy r hr hh => ?_, r1, fun k h h0 => pair_at r2 k h h0⟩
  · have hl : k < (sq nd.l).length := by rw [sq_len]; simpa using h
    have := pair_at h2 k hl h0
    simpa [sq] using this
  · obtain ⟨x, hx, rfl⟩ := List.mem_map.1 hy
    have := r3 r hr x.p.n hh.1 hh.2
    exact h5 x.p.n (List.mem_map.2 ⟨x, hx, rfl⟩) (srtI_mem.1 this)
theorem stpF_bfE {c p : Int} {l : List Stp} (h : stpF l = 0) (hc : 2 ≤ c ∧ c ≤ 1000) (hp : 1 ≤ p ∧ p ≤ 3) : bfE c p l = 0 := by
  unfold bfE
  rw [if_neg (by omega), if_neg (by omega)]
  exact h
end Go.Proofs.YtnpdbnkgipkgaaaGreatDoor
