/- How great a buffer's lists get: no program in sight. Condition: at most 2000 steps. -/
import Derived.Test.YtnodfnjmhcjnfaaGreatDoorHVGK
namespace Go.Proofs.YtnodfnjmhcjnfaaGreatDoor
open Go Go.RowKit
set_option maxRecDepth 100000
set_option linter.all false
structure NdBd (k : Nat) (nd : Nd) : Prop where
  a : 0 ≤ nd.last ∧ nd.last ≤ (k : Int)
  b : nd.l.length + nd.drp.length ≤ k
  c : nd.out.length ≤ 2000 * k
  d : nd.ref.length ≤ k
  e : nd.why.length ≤ k
  f : 0 ≤ nd.most ∧ nd.most ≤ (k : Int)
theorem sendG_len : ∀ (c : Int) (l : List Hd), (sendG c l).2.length ≤ l.length
  | _, [] => by simp [sendG]
  | c, x :: t => by
    unfold sendG
    split
    · have := sendG_len (c - 1) t; simp only [List.length_cons]; omega
    · have := sendG_len c t; simp only [List.length_cons]; omega
theorem sendG_len1 (c : Int) (l : List Hd) : (sendG c l).1.length = l.length := by
  have := congrArg List.length (sq_send c l)
  rwa [sq_len, sq_len] at this
theorem room_sum (p : Int) (l : List Hd) (d : List Int) : (roomF p l d).1.length + (roomF p l d).2.length = l.length + d.length := by
  unfold roomF
  split
  · cases l with
    | nil => simp
    | cons x t => simp; omega
  · split
    · obtain ⟨e, h1, h2, h3⟩ := thin_perm l.length 1 l d
      have h4 := h3.length_eq
      rw [List.length_append, sq_len, sq_len] at h4
      rw [h1, List.length_append]; omega
    · rfl
theorem step_bd {c p : Int} {k : Nat} (hk : k < 2000) (j : Nat) (x : Stp) {nd : Nd} (h : NdBd k nd) : NdBd (k + 1) (stepF c p j x nd) := by
  obtain ⟨h1, h2, h3, h4, h5, h6⟩ := h
  have e : ((k + 1 : Nat) : Int) = (k : Int) + 1 := by omega
  unfold stepF
  split
  · unfold putF
    split
    · split
      · exact ⟨by dsimp only; omega, by simp only [List.length_append, List.length_singleton]; omega, by dsimp only; omega, by dsimp only; omega, by dsimp only; omega, by dsimp only; omega⟩
      · have := room_sum p nd.l nd.drp
        exact ⟨by dsimp only; omega, by simp only [List.length_append, List.length_singleton]; omega, by dsimp only; omega, by dsimp only; omega, by dsimp only; omega, by dsimp only; omega⟩
    · exact ⟨by dsimp only; omega, by simp only [List.length_append, List.length_singleton]; omega, by dsimp only; omega, by dsimp only; omega, by dsimp only; omega, by dsimp only; omega⟩
  split
  · unfold sendF
    have g1 := sendG_len x.count nd.l
    have g2 := sendG_len1 x.count nd.l
    exact ⟨by dsimp only; omega, by dsimp only; omega, by simp only [List.length_append]; omega, by dsimp only; omega, by dsimp only; omega, by dsimp only; omega⟩
  split
  · unfold ackF
    split
    · exact ⟨by dsimp only; omega, by dsimp only; omega, by dsimp only; omega, by simp only [List.length_append, List.length_singleton]; omega, by simp only [List.length_append, List.length_singleton]; omega, by dsimp only; omega⟩
    · have := List.length_filter_le (fun y : Hd => decide (x.seq < y.p.n)) nd.l
      exact ⟨by dsimp only; omega, by dsimp only; omega, by dsimp only; omega, by dsimp only; omega, by dsimp only; omega, by dsimp only; omega⟩
  split
  · unfold resetF
    exact ⟨by dsimp only; omega, by dsimp only; rw [List.length_map]; omega, by dsimp only; omega, by dsimp only; omega, by dsimp only; omega, by dsimp only; omega⟩
  · exact ⟨by omega, by omega, by omega, by omega, by omega, by omega⟩
theorem play_bd (c p : Int) (l : List Stp) : ∀ k, k ≤ l.length → k ≤ 2000 → NdBd k (playF c p (l.take k)) := by
  intro k
  induction k with
  | zero => intro _ _; rw [play_nil]; exact ⟨by simp [nd0], by simp [nd0], by simp [nd0], by simp [nd0], by simp [nd0], by simp [nd0]⟩
  | succ k ih => intro h1 h2; rw [play_next c p (by omega)]; exact step_bd (by omega) _ _ (ih (by omega) (by omega))
end Go.Proofs.YtnodfnjmhcjnfaaGreatDoor
