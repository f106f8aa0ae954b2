/- A text with a byte changed: any letters. Condition: they are ASCII. -/
import Derived.Test.YtflklkijfkmeiaaGreatDoorHVTxtS
import Derived.Test.YtflklkijfkmeiaaGreatDoorHVGC
namespace Go.Proofs.YtflklkijfkmeiaaGreatDoor
open Go Go.RowKit
set_option maxRecDepth 100000
set_option linter.all false
set_option maxHeartbeats 2000000
variable {H : Hp} {K : AV → Hp → Prop}
theorem changedG_a (W : ByteArray) (n : Nat) (hw : W.size = n) (hn : 0 < n ∧ n ≤ 100) (hbd : ∀ i, i < n → 0 ≤ byteAt W i ∧ byteAt W i < 128) (s : Nat) (zs : List Int) (j : Int) (t : ByteArray) (hs : Str H s zs j) (hj : j ≤ 1099000000000) (ht : t.size ≤ 100000)
    (hk : ∀ (t' : ByteArray) (j' : Int), j ≤ j' → j' ≤ j + 3 → t'.size ≤ t.size + n → K (.c (.str t')) (H.set s (strO zs j'))) : ACalls Tryz.prog 44 [.c (.ptr (some (s, 0, 0))), (.c (.str t)), (.c (.str W))] H K := by
  have hlt := hs.lt
  have hpos := hs.pos
  have hne : H.length ≠ s := by omega
  have hw0 : ¬ W = ⟨#[]⟩ := fun h => by rw [h] at hw; have : (⟨#[]⟩ : ByteArray).size = 0 := rfl; omega
  by_cases h0 : t = ⟨#[]⟩
  · subst h0
    refine acalls Tryz.func44 rfl (by kernel_rfl) (by simp (disch := first | omega | (simp only [go_sem]; first | done | omega)) only [go_sem]) (fun hH => ?_)
    simp (disch := first | omega | (simp only [go_sem]; first | done | omega)) only [go_sem, hw0]
    have := hk W j (Int.le_refl _) (by omega) (by rw [hw]; omega)
    rw [set_same hs.2.2.2] at this
    exact Ret.same (Nat.le_refl _) this
  have hts : 0 < t.size := by have := mt size_zero.2 h0; omega
  refine acalls Tryz.func44 rfl (by kernel_rfl) (by simp (disch := first | omega | (simp only [go_sem]; first | done | omega)) only [go_sem]) (fun hH => ?_)
  simp (disch := first | omega | (simp only [go_sem]; first | done | omega)) only [go_sem, h0, hw0]
  refine next_a s zs j t.size (by first | exact hs | exact hs.app _ | exact hs.set (by omega) (by omega) | exact (hs.set (by omega) (by omega)).app _) (by omega) (by omega) (fun r h1 h2 => ?_)
  simp (disch := first | omega | (simp only [go_sem]; first | done | omega)) only [go_sem, hw]
  refine next_a s zs (j + 1) n (by first | exact hs | exact hs.app _ | exact hs.set (by omega) (by omega) | exact (hs.set (by omega) (by omega)).app _) (by omega) (by omega) (fun q h3 h4 => ?_)
  have hqb := hbd q.toNat (by omega)
  have hqw : q < (n : Int) := h4
  obtain ⟨b, hb⟩ : ∃ b : Int, b = byteAt W q.toNat := ⟨_, rfl⟩
  rw [← hb] at hqb
  have hwb : IntKind.i32.wrap b = b := by rw [IntKind.wrap_i32]; omega
  simp (disch := first | omega | (simp only [go_sem]; first | done | omega)) only [go_sem, hw, ← hb]
  refine next_a s zs (j + 1 + 1) 3 (by first | exact hs | exact hs.app _ | exact hs.set (by omega) (by omega) | exact (hs.set (by omega) (by omega)).app _) (by omega) (by omega) (fun d h5 h6 => ?_)
  have e1 : ((r : Int) + 1).toNat = r.toNat + 1 := by omega
  have hsz1 : (t.extract 0 r.toNat).size = r.toNat := by rw [ByteArray.size_extract]; omega
  have hsz2 : (t.extract r.toNat t.size).size = t.size - r.toNat := by rw [ByteArray.size_extract]; omega
  have hsz3 : (t.extract (r.toNat + 1) t.size).size = t.size - (r.toNat + 1) := by rw [ByteArray.size_extract]; omega
  have hone : (#[UInt8.ofNat b.toNat] : Array UInt8).size = 1 := rfl
  have hone2 : (⟨#[UInt8.ofNat b.toNat]⟩ : ByteArray).size = 1 := rfl
  have hfin : ∀ t' : ByteArray, t'.size ≤ t.size + 1 → Ret H.length (.c (.str t')) (H.set s (strO zs (j + 1 + 1 + 1))) K := fun t' h => Ret.same (by simp) (hk t' _ (by omega) (by omega) (by omega))
  have hd : d = 0 ∨ d = 1 ∨ d = 2 := by omega
  rcases hd with rfl | rfl | rfl
  · simp (disch := first | omega | (simp only [go_sem]; first | done | omega)) only [go_sem]
    refine w_draw (by kernel_rfl) (by decide +kernel) ?_
    simp (disch := first | omega | (simp only [go_sem]; first | done | omega)) only [go_sem, hwb, e1, hsz1, hsz2, hsz3, ByteArray.size_append, hone]
    refine hfin _ ?_
    simp only [ByteArray.size_append, hone2, hsz1, hsz2, hsz3]
    omega
  · simp (disch := first | omega | (simp only [go_sem]; first | done | omega)) only [go_sem]
    refine w_draw (by kernel_rfl) (by decide +kernel) ?_
    simp (disch := first | omega | (simp only [go_sem]; first | done | omega)) only [go_sem, hwb, e1, hsz1, hsz2, hsz3, ByteArray.size_append, hone]
    refine hfin _ ?_
    simp only [ByteArray.size_append, hone2, hsz1, hsz2, hsz3]
    omega
  · simp (disch := first | omega | (simp only [go_sem]; first | done | omega)) only [go_sem]
    refine w_draw (by kernel_rfl) (by decide +kernel) ?_
    simp (disch := first | omega | (simp only [go_sem]; first | done | omega)) only [go_sem, e1, hsz1, hsz2, hsz3, ByteArray.size_append]
    refine hfin _ ?_
    simp only [ByteArray.size_append, hsz1, hsz3]
    omega
end Go.Proofs.YtflklkijfkmeiaaGreatDoor
