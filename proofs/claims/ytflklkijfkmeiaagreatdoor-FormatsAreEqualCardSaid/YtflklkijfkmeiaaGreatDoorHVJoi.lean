/- Several texts in one: strings, and what follows. No condition. -/
import Derived.Test.YtflklkijfkmeiaaGreatDoorHVTxtJ
import Derived.Test.YtflklkijfkmeiaaGreatDoorHVTxtB
import Derived.Test.YtflklkijfkmeiaaGreatDoorHVAtoi
import Derived.Test.YtflklkijfkmeiaaGreatDoorHVGA
/- strings.Join with a comma and a blank. Condition: no more than a thousand words, none empty, none too long. -/
namespace Go.Proofs.YtflklkijfkmeiaaGreatDoor
open Go Go.RowKit Go.Shelf
set_option maxRecDepth 100000
set_option linter.all false
set_option maxHeartbeats 2000000
variable {H : Hp} {K : AV → Hp → Prop}
theorem join2_a (x : List UInt8) (t : List (List UInt8)) (ht : 0 < t.length ∧ t.length ≤ 1000) (hx : 0 < x.length ∧ x.length ≤ 40000) (hy : ∀ y ∈ t, 0 < y.length ∧ y.length ≤ 40000) (hk : K (.c (.str (tB (joinL [44, 32] (x :: t))))) H) : ACalls Tryz.prog 164 [.c (.lst 1 ((x :: t).map encTx)), (.c (.str (tB [44, 32])))] H K := by
  have e1 : (tB [44, 32]).size = 2 := rfl
  have hsx := tB_size x
  have hml : ((x :: t).map encTx).length = t.length + 1 := by simp
  have n0 : ¬ ((t.length + 1 : Nat) : Int) = 0 := by omega
  have n1 : ¬ ((t.length + 1 : Nat) : Int) = 1 := by omega
  have hall : ∀ y ∈ x :: t, 0 < y.length ∧ y.length ≤ 40000 := by
    intro y hm
    rcases List.mem_cons.1 hm with rfl | hm
    · exact hx
    · exact hy y hm
  have hlen : (x :: t).length = t.length + 1 := rfl
  obtain ⟨ws, hws⟩ : ∃ ws, ws = x :: t := ⟨_, rfl⟩
  rw [← hws] at hml hall hlen ⊢
  have n2 : ¬ (9223372036854775807 : Int) / (((t.length + 1 : Nat) : Int) - 1) ≤ 2 := by
    have := Int.le_ediv_of_mul_le (a := 3) (b := (9223372036854775807 : Int)) (c := ((t.length + 1 : Nat) : Int) - 1) (by omega) (by omega)
    omega
  refine acalls Tryz.func164 rfl (by kernel_rfl) (by simp (disch := first | omega | (simp only [go_sem]; first | done | omega)) only [go_sem]) (fun hH => ?_)
  simp (disch := first | omega | (simp only [go_sem]; first | done | omega)) only [go_sem, e1, hml, hlen, n0, n1, n2]
  refine AWp.loop (H.length) [0, 1, 39, 40] [5, 41] (fun (q : Nat × Nat) => q.1 ≤ ws.length ∧ 1 ≤ q.2 ∧ q.2 ≤ 2000 + 40000 * q.1) (fun (q : Nat × Nat) => [(5, (.c (.int .i64 (q.2)))), (41, (.c (.int .i64 (q.1))))]) (fun (q : Nat × Nat) => H) (fun (q : Nat × Nat) => ws.length - q.1) (by kernel_rfl) (fun _ => rfl) (by kernel_rfl) (by first | (simp; done) | omega) (by first | (simp; done) | (simp; omega) | omega) kl ?_ (fun q hq _ _ => ?_)
  · refine Next.mk (0, 2 * t.length) ⟨Nat.zero_le _, by dsimp only; omega, by dsimp only; omega⟩ ?_
    exact wk
  obtain ⟨k, n⟩ := q
  obtain ⟨q1, q2, q3⟩ := hq
  dsimp only at q1 q2 q3 ⊢
  by_cases hlt : k < ws.length
  · have hlt' : (k : Int) < ((t.length + 1 : Nat) : Int) := by omega
    have hb := hall ws[k] (List.getElem_mem hlt)
    have hsk := tB_size ws[k]
    have n3 : ¬ (9223372036854775807 : Int) - n < (ws[k].length : Int) := by omega
    simp (disch := first | omega | (simp only [go_sem]; first | done | omega)) only [go_sem, hml, hlen, hlt', getElem_tx hlt, hsk, n3]
    refine Next.mk (k + 1, n + ws[k].length) ⟨⟨by dsimp only; omega, by dsimp only; omega, by dsimp only; omega⟩, by dsimp only; omega⟩ ?_
    exact wk
  have hlt' : ¬ (k : Int) < ((t.length + 1 : Nat) : Int) := by omega
  have h00 : ∀ h : 0 < (ws.map encTx).length, (ws.map encTx)[0]'h = [.str (tB x)] := by rw [hws]; intro h; rfl
  have hdr : (ws.map encTx).drop 1 = t.map encTx := by rw [hws]; rfl
  simp (disch := first | omega | (simp only [go_sem]; first | done | omega)) only [go_sem, hml, hlen, hlt']
  refine grow2_a n (by omega) (by omega) (by first | ((repeat first | exact at0 (by simp) | refine atS ?_); done) | assumption) ?_
  simp (disch := first | omega | (simp only [go_sem]; first | done | omega)) only [go_sem, hml, hlen, h00]
  have hw0 : ∀ h : 0 < ws.length, ws[0]'h = x := by rw [hws]; intro h; rfl
  rw [hw0]
  refine write0_a (i := H.length) (j := H.length + 1) (by omega) (tB x) (by omega) (by omega) (by first | ((repeat first | exact at0 (by simp) | refine atS ?_); done) | assumption) (by first | ((repeat first | exact at0 (by simp) | refine atS ?_); done) | assumption) ?_
  simp (disch := first | omega | (simp only [go_sem]; first | done | omega)) only [go_sem, hml, hlen, hdr]
  rw [show (tB x).data.toList = x from tL_tB x]
  have hjl : ∀ k, k ≤ t.length → (joinL [44, 32] (x :: t.take k)).length ≤ 40000 + 40002 * k := by
    intro k
    induction k with
    | zero => intro _; simp [joinL]; omega
    | succ k ih =>
      intro hk
      have h1 := hy t[k] (List.getElem_mem (by omega))
      rw [joinL_next [44, 32] (by omega : k < t.length)]
      simp only [List.length_append, List.length_cons, List.length_nil]
      have := ih (by omega)
      omega
  have hmt : (t.map encTx).length = t.length := List.length_map ..
  refine AWp.loop (H.length + 1) [1, 8, 63, 64] [65] (fun (k : Nat) => k ≤ t.length) (fun (k : Nat) => [(65, (.c (.int .i64 k)))]) (fun (k : Nat) => H ++ [bldO true H.length (H.length + 1) (joinL [44, 32] (x :: t.take k)), grO 5 1 ((joinL [44, 32] (x :: t.take k)).map encU)]) (fun (k : Nat) => t.length - k) (by kernel_rfl) (fun _ => rfl) (by kernel_rfl) (by first | (simp; done) | omega) (by first | (simp; done) | (simp; omega) | omega) kl ?_ (fun k q _ _ => ?_)
  · refine Next.mk 0 (Nat.zero_le _) ?_
    rw [List.take_zero, show joinL [44, 32] [x] = x by simp [joinL]]
    simp (disch := first | omega | (simp only [go_sem]; first | done | omega)) only [go_sem]
    exact pickBld (q := 2) hH (Nat.le_refl _) rfl rfl (by omega) (by intro v hv; rw [List.mem_singleton] at hv; exact ⟨_, hv⟩)
  by_cases hlt2 : k < t.length
  · have hb := hy t[k] (List.getElem_mem hlt2)
    have hsk := tB_size t[k]
    have hnx := joinL_next [44, 32] (x := x) hlt2
    have hjk := hjl k q
    simp (disch := first | omega | (simp only [go_sem]; first | done | omega)) only [go_sem, hmt, hlt2, getElem_tx hlt2]
    obtain ⟨T2, hT2⟩ : ∃ T2, T2 = joinL [44, 32] (x :: t.take (k + 1)) := ⟨_, rfl⟩
    rw [← hT2] at hnx
    generalize joinL [44, 32] (x :: t.take k) = T at *
    refine write_a (i := H.length) (j := H.length + 1) (by omega) T (tB [44, 32]) (by omega) (by omega) (by omega) (by first | ((repeat first | exact at0 (by simp) | refine atS ?_); done) | assumption) (by first | ((repeat first | exact at0 (by simp) | refine atS ?_); done) | assumption) ?_
    rw [show (tB [44, 32]).data.toList = [44, 32] from tL_tB [44, 32]]
    obtain ⟨T1, hT1⟩ : ∃ T1, T1 = T ++ [44, 32] := ⟨_, rfl⟩
    rw [← hT1] at hnx ⊢
    have hl1 : T1.length = T.length + 2 := by rw [hT1]; simp
    simp (disch := first | omega | (simp only [go_sem]; first | done | omega)) only [go_sem]
    refine write_a (i := H.length) (j := H.length + 2) (p := true) (by omega) T1 (tB t[k]) (by omega) (by omega) (by omega) (at0 (by simp)) (by first | ((repeat first | exact at0 (by simp) | refine atS ?_); done) | assumption) ?_
    rw [show (tB t[k]).data.toList = t[k] from tL_tB t[k], ← hnx]
    simp (disch := first | omega | (simp only [go_sem]; first | done | omega)) only [go_sem]
    refine Next.mk (k + 1) ⟨by omega, by omega⟩ ?_
    rw [← hT2]
    simp (disch := first | omega | (simp only [go_sem]; first | done | omega)) only [go_sem]
    exact pickBld (q := 3) hH (Nat.le_refl _) rfl rfl (by omega) (by intro v hv; rw [List.mem_singleton] at hv; exact ⟨_, hv⟩)
  · have hkl : k = t.length := by omega
    have hjk := hjl k q
    rw [hkl, List.take_length] at hjk ⊢
    simp (disch := first | omega | (simp only [go_sem]; first | done | omega)) only [go_sem, hmt]
    refine str_a (i := H.length) (m := H.length + 1) (by omega) _ (by first | ((repeat first | exact at0 (by simp) | refine atS ?_); done) | assumption) (by first | ((repeat first | exact at0 (by simp) | refine atS ?_); done) | assumption) ?_
    simp (disch := first | omega | (simp only [go_sem]; first | done | omega)) only [go_sem]
    exact Ret.drop hH (Nat.le_refl _) trivial hk
end Go.Proofs.YtflklkijfkmeiaaGreatDoor
/- The reference's texts of samples. -/
namespace Go.Proofs.YtflklkijfkmeiaaGreatDoor
open Go Go.RowKit
set_option maxRecDepth 100000
set_option linter.all false
set_option maxHeartbeats 2000000
variable {H : Hp} {K : AV → Hp → Prop}
theorem itoa_pos (n : Int) : 0 < (Lib.itoa n).length := by
  have h := (dec_dig n.natAbs n.natAbs (Nat.le_refl _)).2.1
  have h2 : 0 < (Lib.decDigits n.natAbs).length := by
    rcases Nat.eq_zero_or_pos (Lib.decDigits n.natAbs).length with h3 | h3
    · exact absurd (List.length_eq_zero_iff.1 h3) h
    · exact h3
  unfold Lib.itoa
  split
  · simp
  · first | exact h2 | (rw [show n.toNat = n.natAbs by omega]; exact h2)
end Go.Proofs.YtflklkijfkmeiaaGreatDoor
