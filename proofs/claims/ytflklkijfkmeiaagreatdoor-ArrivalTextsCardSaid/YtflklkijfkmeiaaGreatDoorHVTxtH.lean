/- The reference reads words, numbers, samples. -/
import Derived.Test.YtflklkijfkmeiaaGreatDoorHVTxtF
import Derived.Test.YtflklkijfkmeiaaGreatDoorHVTxtQ
namespace Go.Proofs.YtflklkijfkmeiaaGreatDoor
open Go Go.RowKit
set_option maxRecDepth 100000
set_option linter.all false
set_option maxHeartbeats 2000000
variable {H : Hp} {K : AV → Hp → Prop}
theorem indexW_a (ws : List (List UInt8)) (w : List UInt8) (hlen : ws.length ≤ 1000001) (hk : ∀ r : Int, (w ∉ ws ∧ r = -1 ∨ ∃ k : Nat, ws[k]? = some w ∧ r = k ∧ ∀ j : Nat, j < k → ws[j]? ≠ some w) → K (.c (.int .i64 r)) H) : ACalls Tryz.prog 174 [.c (.lst 1 (ws.map encTx)), (.c (.str (tB w)))] H K := by
  have hml : (ws.map encTx).length = ws.length := List.length_map ..
  refine acalls Tryz.func174 rfl (by kernel_rfl) (by simp (disch := first | omega | (simp only [go_sem]; first | done | omega)) only [go_sem]) (fun hH => ?_)
  simp (disch := first | omega | (simp only [go_sem]; first | done | omega)) only [go_sem]
  refine AWp.loop (H.length) [0, 1, 7] [8] (fun (k : Nat) => k ≤ ws.length ∧ ∀ j : Nat, j < k → ws[j]? ≠ some w) (fun (k : Nat) => [(8, (.c (.int .i64 k)))]) (fun (k : Nat) => H) (fun (k : Nat) => ws.length - k) (by kernel_rfl) (fun _ => rfl) (by kernel_rfl) (by first | (simp; done) | omega) (by first | (simp; done) | (simp; omega) | omega) kl ?_ (fun k q _ _ => ?_)
  · exact Next.mk 0 ⟨Nat.zero_le _, fun j hj => by omega⟩ wk
  obtain ⟨q1, q2⟩ := q
  by_cases hlt : k < ws.length
  · by_cases he : w = ws[k]
    · simp (disch := first | omega | (simp only [go_sem]; first | done | omega)) only [go_sem, hml, hlt, getElem_tx hlt, tB_inj]
      exact Ret.same (Nat.le_refl _) (hk k (.inr ⟨k, by rw [List.getElem?_eq_getElem hlt, ← he], rfl, q2⟩))
    · simp (disch := first | omega | (simp only [go_sem]; first | done | omega)) only [go_sem, hml, hlt, getElem_tx hlt, tB_inj]
      refine Next.mk (k + 1) ⟨⟨by omega, fun j hj => ?_⟩, by omega⟩ wk
      rcases Nat.lt_or_ge j k with h | h
      · exact q2 j h
      · obtain rfl : j = k := by omega
        rw [List.getElem?_eq_getElem hlt]
        exact fun e => he (Option.some.inj e).symm
  · simp (disch := first | omega | (simp only [go_sem]; first | done | omega)) only [go_sem, hml, hlt]
    refine Ret.same (Nat.le_refl _) (hk (-1) (.inl ⟨fun hm => ?_, rfl⟩))
    obtain ⟨j, hj⟩ := List.getElem?_of_mem hm
    exact q2 j (by have := getElem?_lt hj; omega) hj
theorem containsW_a (ws : List (List UInt8)) (w : List UInt8) (hlen : ws.length ≤ 1000001) (hk : K (.c (.bool (decide (w ∈ ws)))) H) : ACalls Tryz.prog 168 [.c (.lst 1 (ws.map encTx)), (.c (.str (tB w)))] H K := by
  refine acalls Tryz.func168 rfl (by kernel_rfl) (by simp (disch := first | omega | (simp only [go_sem]; first | done | omega)) only [go_sem]) (fun hH => ?_)
  simp (disch := first | omega | (simp only [go_sem]; first | done | omega)) only [go_sem]
  refine indexW_a ws w hlen (fun r hr => ?_)
  simp (disch := first | omega | (simp only [go_sem]; first | done | omega)) only [go_sem]
  rw [show decide (0 ≤ r) = decide (w ∈ ws) by
    rcases hr with ⟨h1, rfl⟩ | ⟨k, h1, rfl, _⟩
    · rw [decide_eq_false h1]; rfl
    · rw [decide_eq_true (List.mem_of_getElem? h1)]; simp]
  exact Ret.same (Nat.le_refl _) hk
theorem splitL_le (c : UInt8) (l : List UInt8) : (splitL c l).length ≤ l.length + 1 := by
  rw [splitL_len]
  have := List.length_filter_le (fun x => decide (x = c)) l
  omega
theorem wordsQ_a (l : List UInt8) (hl : l.length ≤ 1000000) (hk : K (.tup [.c (.lst 1 ((splitL 32 l).map encTx)), (.c (.bool (!decide ([] ∈ splitL 32 l))))]) H) : ACalls Tryz.prog 103 [(.c (.str (tB l)))] H K := by
  have hlen := splitL_le 32 l
  refine acalls Tryz.func103 rfl (by kernel_rfl) (by simp (disch := first | omega | (simp only [go_sem]; first | done | omega)) only [go_sem]) (fun hH => ?_)
  simp (disch := first | omega | (simp only [go_sem]; first | done | omega)) only [go_sem]
  refine splitS_a l 32 hl ?_
  generalize splitL 32 l = ws at *
  simp (disch := first | omega | (simp only [go_sem]; first | done | omega)) only [go_sem]
  refine containsW_a ws [] (by omega) ?_
  simp (disch := first | omega | (simp only [go_sem]; first | done | omega)) only [go_sem]
  exact Ret.same (Nat.le_refl _) hk
theorem numsQ_a (ws : List (List UInt8)) (hw : ws.length ≤ 1000000) (hl : ∀ w ∈ ws, w.length ≤ 1000000) (hk : ∀ vs : List Int, vs.length = ws.length → (∀ (k : Nat) (w : List UInt8) (n : Int), ws[k]? = some w → numF w 15 = some n → vs[k]? = some n) → K (.tup [.c (.lst 1 (vs.map encI)), (.c (.bool (ws.all fun w => (numF w 15).isSome)))]) H) : ACalls Tryz.prog 104 [.c (.lst 1 (ws.map encTx)), (.c (.int .i64 15))] H K := by
  have hml : (ws.map encTx).length = ws.length := List.length_map ..
  refine acalls Tryz.func104 rfl (by kernel_rfl) (by simp (disch := first | omega | (simp only [go_sem]; first | done | omega)) only [go_sem]) (fun hH => ?_)
  simp (disch := first | omega | (simp only [go_sem]; first | done | omega)) only [go_sem]
  refine AWp.loop (H.length) [1, 12, 13] [14, 6, 7] (fun (q : Nat × List Int) => q.1 ≤ ws.length ∧ q.2.length = q.1 ∧ (∀ (k : Nat) (w : List UInt8) (n : Int), k < q.1 → ws[k]? = some w → numF w 15 = some n → q.2[k]? = some n)) (fun (q : Nat × List Int) => [(14, (.c (.int .i64 (q.1)))), (6, .c (grV H.length q.2)), (7, (.c (.bool ((ws.take q.1).all fun w => (numF w 15).isSome))))]) (fun (q : Nat × List Int) => H ++ [grO 3 1 (q.2.map encI)]) (fun (q : Nat × List Int) => ws.length - q.1) (by kernel_rfl) (fun _ => rfl) (by kernel_rfl) (by first | (simp; done) | omega) (by first | (simp; done) | (simp; omega) | omega) kl ?_ (fun q hq _ _ => ?_)
  · refine Next.mk (0, []) ⟨Nat.zero_le _, rfl, fun k w n h => by dsimp only at h; omega⟩ ?_
    exact WkL.pad (by omega)
  obtain ⟨k, L⟩ := q
  obtain ⟨q1, q2, q3⟩ := hq
  dsimp only at q1 q2 q3 ⊢
  by_cases hlt : k < ws.length
  · have htk : (ws.take (k + 1)).all (fun w => (numF w 15).isSome) = ((ws.take k).all (fun w => (numF w 15).isSome) && (numF ws[k] 15).isSome) := by
      rw [List.take_succ_eq_append_getElem hlt, List.all_append]
      simp
    simp (disch := first | omega | (simp only [go_sem]; first | done | omega)) only [go_sem, hml, hlt, getElem_tx hlt]
    refine numR_a ws[k] 15 (hl _ (List.getElem_mem hlt)) (by omega) (fun v hv => ?_)
    obtain ⟨L2, hL2⟩ : ∃ L2, L2 = L ++ [v] := ⟨_, rfl⟩
    have hinv : (k + 1 ≤ ws.length ∧ L2.length = k + 1 ∧ (∀ (j : Nat) (w : List UInt8) (n : Int), j < k + 1 → ws[j]? = some w → numF w 15 = some n → L2[j]? = some n)) ∧ ws.length - (k + 1) < ws.length - k := by
      refine ⟨⟨by omega, by rw [hL2, List.length_append, q2]; rfl, fun j w n hj h1 h2 => ?_⟩, by omega⟩
      rcases Nat.lt_or_ge j k with h | h
      · rw [hL2, List.getElem?_append_left (by omega)]
        exact q3 j w n h h1 h2
      · obtain rfl : j = k := by omega
        rw [hL2, List.getElem?_append_right (by omega), q2, Nat.sub_self]
        rw [List.getElem?_eq_getElem hlt] at h1
        injection h1 with h1
        rw [h1] at hv
        rw [hv n h2]
        rfl
    generalize (ws.take k).all (fun w => (numF w 15).isSome) = bb at *
    generalize (numF ws[k] 15).isSome = cc at *
    simp (disch := first | omega | (simp only [go_sem]; first | done | omega)) only [go_sem]
    refine appIx L v L2 hL2 (by first | ((repeat first | exact at0 (by simp) | refine atS ?_); done) | assumption) (by first | ((repeat first | exact at0 (by simp) | refine atS ?_); done) | assumption) (by omega) ?_
    cases bb
    · simp (disch := first | omega | (simp only [go_sem]; first | done | omega)) only [go_sem]
      refine Next.mk (k + 1, L2) hinv ?_
      rw [htk]
      exact ow
    · simp (disch := first | omega | (simp only [go_sem]; first | done | omega)) only [go_sem]
      refine Next.mk (k + 1, L2) hinv ?_
      rw [htk]
      exact ow
  · have hkl : k = ws.length := by omega
    subst hkl
    rw [List.take_length]
    simp (disch := first | omega | (simp only [go_sem]; first | done | omega)) only [go_sem, hml]
    exact Ret.frzGrT 0 hH (by omega) rfl (pureL_map _ (fun x => by simp [go_sem, AC.pure])) rfl (map_grV _ _ _).symm (hk L q2 (fun j w n h1 h2 => q3 j w n (getElem?_lt h1) h1 h2))
end Go.Proofs.YtflklkijfkmeiaaGreatDoor
