/- Decode, and the reference's reader. Condition: the bytes fit. -/
import Derived.Test.YtnodfnjmhcjnfaaGreatDoorHVDecode
namespace Go.Proofs.YtnodfnjmhcjnfaaGreatDoor
open Go Go.RowKit
set_option maxRecDepth 100000
set_option linter.all false
set_option maxHeartbeats 2000000
variable {H : Hp} {K : AV → Hp → Prop}
def decTop (l : List UInt8) (p : Int) : Blk × List Smp × Int := if 200000 < l.length then (blk0, [], 2) else if p < 0 ∨ l.length < p then (blk0, [], 1) else decRes l p.toNat
theorem encBk_ok (b : Blk) (n : Nat) : ∀ x ∈ encBk b, x.ok n := by simp [encBk, AC.ok]
/-! ### the reference's reader -/
def numF (l : List UInt8) (lo hi : Int) (s : Nat × Bool) : Int × Nat × Bool := if s.2 = true then (lo, s.1, true) else match uvR l s.1 with
  | some (n, x) => if lo ≤ n ∧ n ≤ hi then (n, x, false) else (lo, s.1, true)
  | none => (lo, s.1, true)
theorem numberR_a {c : Nat} (l : List UInt8) (s : Nat × Bool) (lo hi : Int) (hc : H[c]? = some (rdc 384 l s.1 s.2)) (hp : s.1 ≤ l.length) (hl : l.length ≤ 1099511627776)
    (hk : K (.c (.int .i64 ((numF l lo hi s).1))) (H.set c (rdc 384 l (numF l lo hi s).2.1 (numF l lo hi s).2.2))) : ACalls Tryz.prog 337 [.c (.ptr (some (c, 0, 0))), (.c (.int .i64 lo)), (.c (.int .i64 hi))] H K := by
  have lc := getElem?_lt hc
  obtain ⟨p, b⟩ := s
  dsimp only at hc hp
  unfold numF at hk
  dsimp only at hk
  cases b with
  | true =>
    rw [if_pos rfl] at hk
    refine acalls Tryz.func337 rfl (by kernel_rfl) (by simp (disch := first | omega | (simp only [go_sem]; first | done | omega)) only [go_sem]) (fun hH => ?_)
    simp (disch := first | omega | (simp only [go_sem]; first | done | omega)) only [go_sem, hc]
    rw [set_same hc] at hk
    exact Ret.same (Nat.le_refl _) hk
  | false =>
    rw [if_neg (by simp)] at hk
    refine acalls Tryz.func337 rfl (by kernel_rfl) (by simp (disch := first | omega | (simp only [go_sem]; first | done | omega)) only [go_sem]) (fun hH => ?_)
    simp (disch := first | omega | (simp only [go_sem]; first | done | omega)) only [go_sem, hc]
    refine w_draw (by kernel_rfl) (by decide +kernel) ?_
    simp (disch := first | omega | (simp only [go_sem]; first | done | omega)) only [go_sem, hc]
    refine unvarintOf_a l p hp hl (fun n x h => ?_) (fun h => ?_)
    · rw [h] at hk
      dsimp only at hk
      by_cases hr : lo ≤ n ∧ n ≤ hi
      · rw [if_pos hr] at hk
        have e : decide (lo ≤ n ∧ n ≤ hi) = true := decide_eq_true hr
        simp (disch := first | omega | (simp only [go_sem]; first | done | omega)) only [go_sem, hc]
        refine in_a _ _ _ _ _ ?_
        simp (disch := first | omega | (simp only [go_sem]; first | done | omega)) only [go_sem, hc, e]
        exact Ret.same (by simp) hk
      · rw [if_neg hr] at hk
        have e : decide (lo ≤ n ∧ n ≤ hi) = false := decide_eq_false hr
        simp (disch := first | omega | (simp only [go_sem]; first | done | omega)) only [go_sem, hc]
        refine in_a _ _ _ _ _ ?_
        simp (disch := first | omega | (simp only [go_sem]; first | done | omega)) only [go_sem, hc, e]
        exact Ret.same (by simp) hk
    · rw [h] at hk
      dsimp only at hk
      simp (disch := first | omega | (simp only [go_sem]; first | done | omega)) only [go_sem, hc]
      exact Ret.same (by simp) hk
def bytF (l : List UInt8) (n : Int) (s : Nat × Bool) : List UInt8 × Nat × Bool := if s.2 = true ∨ (l.length : Int) - s.1 < n then ([], s.1, true) else ((l.drop s.1).take n.toNat, s.1 + n.toNat, false)
theorem bytesR_a {c : Nat} (l : List UInt8) (s : Nat × Bool) (n : Int) (hn : 0 ≤ n) (hn2 : n ≤ 1000000) (hc : H[c]? = some (rdc 384 l s.1 s.2)) (hp : s.1 ≤ l.length) (hl : l.length ≤ 1099511627776)
    (hk : K (.c (.lst 1 ((bytF l n s).1.map encU))) (H.set c (rdc 384 l (bytF l n s).2.1 (bytF l n s).2.2))) : ACalls Tryz.prog 336 [.c (.ptr (some (c, 0, 0))), (.c (.int .i64 n))] H K := by
  have lc := getElem?_lt hc
  obtain ⟨p, b⟩ := s
  dsimp only at hc hp
  unfold bytF at hk
  dsimp only at hk
  cases b with
  | true =>
    rw [if_pos (.inl rfl)] at hk
    refine acalls Tryz.func336 rfl (by kernel_rfl) (by simp (disch := first | omega | (simp only [go_sem]; first | done | omega)) only [go_sem]) (fun hH => ?_)
    simp (disch := first | omega | (simp only [go_sem]; first | done | omega)) only [go_sem]
    refine w_draw (by kernel_rfl) (by decide +kernel) ?_
    simp (disch := first | omega | (simp only [go_sem]; first | done | omega)) only [go_sem, hc]
    refine Ret.nil [1] (by simp) ?_
    exact Ret.same (by simp) hk
  | false =>
    refine acalls Tryz.func336 rfl (by kernel_rfl) (by simp (disch := first | omega | (simp only [go_sem]; first | done | omega)) only [go_sem]) (fun hH => ?_)
    simp (disch := first | omega | (simp only [go_sem]; first | done | omega)) only [go_sem]
    refine w_draw (by kernel_rfl) (by decide +kernel) ?_
    by_cases h : (l.length : Int) - p < n
    · rw [if_pos (.inr h)] at hk
      simp (disch := first | omega | (simp only [go_sem]; first | done | omega)) only [go_sem, hc, h]
      refine Ret.nil [1] (by simp) ?_
      exact Ret.same (by simp) hk
    · rw [if_neg (by simpa using h)] at hk
      obtain ⟨n, rfl⟩ := Int.eq_ofNat_of_zero_le hn
      simp only [Int.toNat_natCast] at hk
      simp (disch := first | omega | (simp only [go_sem]; first | done | omega)) only [go_sem, hc, h]
      refine w_draw (by kernel_rfl) (by decide +kernel) ?_
      simp (disch := first | omega | (simp only [go_sem]; first | done | omega)) only [go_sem, hc, h]
      rw [show ((p : Int) + (n : Int)).toNat - p = n by omega]
      rw [show ((p + n : Nat) : Int) = (p : Int) + n by omega] at hk
      exact Ret.same (by simp) hk
end Go.Proofs.YtnodfnjmhcjnfaaGreatDoor
