/- What a buffer with the capacity that is needed comes to: no program in sight. No condition. -/
import Derived.Test.YtnpdbnkgipkgaaaGreatDoorHVSmallM
namespace Go.Proofs.YtnpdbnkgipkgaaaGreatDoor
open Go Go.RowKit
set_option maxRecDepth 100000
set_option linter.all false
theorem need_ok {l : List Stp} (h : stpF l = 0) (hl : l.length ≤ 100) : ∃ n : Int, needR l = (n, 0) ∧ 2 ≤ n ∧ n ≤ 100 + 2 ∧ (playF 0 1 l).most ≤ n := by
  have hbd := play_bd 0 1 l l.length (Nat.le_refl _) (by omega)
  rw [List.take_length] at hbd
  obtain ⟨b1, b2, b3, b4, b5, b6⟩ := hbd
  unfold needR
  rw [if_neg (fun h2 => h2 h), if_neg (by omega)]
  exact ⟨_, rfl, by omega, by omega, by omega⟩
/-- the numbers of one run, step by step -/
def plA (l : List Stp) (k : Nat) : Int := (playF 0 1 (l.take k)).acked
def plL (l : List Stp) (k : Nat) : Int := (playF 0 1 (l.take k)).last
theorem plL_bd (l : List Stp) (k : Nat) (h : k ≤ l.length) (h2 : k ≤ 2000) : 0 ≤ plL l k ∧ plL l k ≤ k := (play_bd 0 1 l k h h2).a
theorem plL_next {l : List Stp} {k : Nat} (h : k < l.length) : plL l (k + 1) = plL l k + (if l[k].kind = 1 then 1 else 0) := last_next h
theorem plA_next {l : List Stp} {k : Nat} (h : k < l.length) : plA l (k + 1) = if l[k].kind = 3 ∧ ¬ ((k : Int) ∈ (playF 0 1 l).ref) then l[k].seq else plA l k := by
  have h1 := acked_next (c := 0) (p := 1) h
  have h2 := ref_mem (c := 0) (p := 1) (l := l) l.length (Nat.le_refl _) k
  rw [List.take_length] at h2
  unfold plA
  rw [h1]
  by_cases h3 : l[k].kind = 3
  · by_cases h4 : ackE l[k].seq (playF 0 1 (l.take k)) = 0
    · have g2 : ¬ ((k : Int) ∈ (playF 0 1 l).ref) := fun h5 => by
        obtain ⟨_, _, h6⟩ := h2.1 h5
        exact h6 h4
      simp only [if_pos (show l[k].kind = 3 ∧ ackE l[k].seq (playF 0 1 (l.take k)) = 0 from ⟨h3, h4⟩), if_pos (show l[k].kind = 3 ∧ ¬ ((k : Int) ∈ (playF 0 1 l).ref) from ⟨h3, g2⟩)]
    · rw [if_neg (fun h5 => h4 h5.2), if_neg (fun h5 => h5.2 (h2.2 ⟨⟨h, h⟩, h3, h4⟩))]
  · have g1 : ¬ (l[k].kind = 3 ∧ ackE l[k].seq (playF 0 1 (l.take k)) = 0) := fun h5 => h3 h5.1
    have g2 : ¬ (l[k].kind = 3 ∧ ¬ ((k : Int) ∈ (playF 0 1 l).ref)) := fun h5 => h3 h5.1
    simp only [if_neg g1, if_neg g2]
structure LoseOk (l : List Stp) (nd : Nd) : Prop where
  drp : nd.drp = []
  len : ((nd.l.map (fun x : Hd => x.p)).length : Int) = nd.last - nd.acked
  num : ∀ k (h : k < (nd.l.map (fun x : Hd => x.p)).length), (nd.l.map (fun x : Hd => x.p))[k].n = nd.acked + 1 + k
  out : ∀ q ∈ nd.out, 1 ≤ q.n ∧ q.n ≤ nd.last
theorem lose_ok (l : List Stp) : LoseOk l (playF 0 1 l) := by
  have h := play_free l l.length (Nat.le_refl _)
  rw [List.take_length] at h
  obtain ⟨h1, h2, h3, h4, h5, h6⟩ := h
  generalize playF 0 1 l = nd at *
  have hl : (sq nd.l).length = (nd.last - nd.acked).toNat := by rw [h2, consG_len]
  refine ⟨h5, ?_, fun k h => ?_, h4⟩
  · rw [List.length_map, ← sq_len, hl]; omega
  · have hk : k < (sq nd.l).length := by rw [sq_len]; simpa using h
    have e : (nd.l.map (fun x : Hd => x.p))[k].n = (sq nd.l)[k] := by simp [sq]
    rw [e]
    have := consG_get (nd.last - nd.acked).toNat nd.acked k (by rw [consG_len, ← hl]; exact hk)
    simp only [h2]
    exact this
end Go.Proofs.YtnpdbnkgipkgaaaGreatDoor
