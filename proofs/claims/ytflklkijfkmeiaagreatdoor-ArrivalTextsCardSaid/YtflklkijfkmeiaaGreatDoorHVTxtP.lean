/- A number of a string: base.Number and the reference's Number. -/
import Derived.Test.YtflklkijfkmeiaaGreatDoorHVTxtS
namespace Go.Proofs.YtflklkijfkmeiaaGreatDoor
open Go Go.RowKit
set_option maxRecDepth 100000
set_option linter.all false
set_option maxHeartbeats 2000000
variable {H : Hp} {K : AV → Hp → Prop}
theorem byteAt_tB (l : List UInt8) (i : Nat) : byteAt (tB l) i = ((l.getD i 0).toNat : Int) := by
  show (((tL (tB l)).getD i 0).toNat : Int) = _
  rw [tL_tB]
theorem dig_iff (b : UInt8) : (Lib.digitVal b).isSome = decide (48 ≤ b.toNat ∧ b.toNat ≤ 57) := by
  unfold Lib.digitVal
  split <;> simp_all <;> omega
theorem getD_in {l : List UInt8} {i : Nat} (h : i < l.length) : l.getD i 0 = l[i] := by
  rw [List.getD_eq_getElem?_getD, List.getElem?_eq_getElem h, Option.getD_some]
theorem digB_iff (d : List UInt8) : digB d = true ↔ ∀ i, i < d.length → 48 ≤ byteAt (tB d) i ∧ byteAt (tB d) i ≤ 57 := by
  unfold digB
  rw [List.all_eq_true]
  constructor
  · intro h i hi
    have := h _ (List.getElem_mem hi)
    rw [dig_iff, decide_eq_true_eq] at this
    rw [byteAt_tB, getD_in hi]
    omega
  · intro h b hb
    obtain ⟨i, hi, rfl⟩ := List.mem_iff_getElem.1 hb
    have := h i hi
    rw [byteAt_tB, getD_in hi] at this
    rw [dig_iff, decide_eq_true_eq]
    omega
theorem head_byte {d : List UInt8} (h : d ≠ []) : d.head? = some 48 ↔ byteAt (tB d) 0 = 48 := by
  cases d with
  | nil => exact absurd rfl h
  | cons x t =>
    rw [byteAt_tB]
    show some x = some 48 ↔ (x.toNat : Int) = 48
    rw [Option.some.injEq]
    refine ⟨fun e => by rw [e]; rfl, fun e => ?_⟩
    apply UInt8.toNat_inj.1
    have : (48 : UInt8).toNat = 48 := rfl
    omega
theorem strip_le (l : List UInt8) : (stripF l).length ≤ l.length ∧ l.length ≤ (stripF l).length + 1 := by
  unfold stripF
  split
  · rw [List.length_tail]; omega
  · omega
theorem tB_nil {l : List UInt8} : tB l = ⟨#[]⟩ ↔ l = [] := by
  rw [size_zero, tB_size, List.length_eq_zero_iff]
theorem numP_a (l : List UInt8) (m : Nat) (hl : l.length ≤ 1000000) (hm : m ≤ 15) (hk : K (.tup [(.c (.int .i64 ((numF l m).getD 0))), (.c (.bool ((numF l m).isSome)))]) H) : ACalls Tryz.prog 227 [(.c (.str (tB l))), (.c (.int .i64 m))] H K := by
  have hs1 := strip_le l
  have hsz := tB_size l
  have hsd := tB_size (stripF l)
  rw [numF_eq] at hk
  refine acalls Tryz.func227 rfl (by kernel_rfl) (by simp (disch := first | omega | (simp only [go_sem]; first | done | omega)) only [go_sem]) (fun hH => ?_)
  simp (disch := first | omega | (simp only [go_sem]; first | done | omega)) only [go_sem]
  refine trimP_a l hl ?_
  generalize hd : stripF l = d at *
  by_cases h0 : d = []
  · rw [if_pos (.inl h0)] at hk
    simp (disch := first | omega | (simp only [go_sem]; first | done | omega)) only [go_sem, tB_nil, h0]
    exact Ret.same (Nat.le_refl _) hk
  have h0' : ¬ tB d = ⟨#[]⟩ := fun e => h0 (tB_nil.1 e)
  by_cases h1 : m < d.length
  · rw [if_pos (.inr h1)] at hk
    simp (disch := first | omega | (simp only [go_sem]; first | done | omega)) only [go_sem, h0', hsd, h1]
    exact Ret.same (Nat.le_refl _) hk
  rw [if_neg (fun e => e.elim h0 h1)] at hk
  have hpos : 0 < d.length := by cases d with | nil => exact absurd rfl h0 | cons x t => simp
  have hx : 0 < (tB d).size := by omega
  by_cases h2 : byteAt (tB d) 0 = 48
  · have hd48 := (head_byte h0).2 h2
    by_cases h3 : 1 < d.length
    · rw [if_pos ⟨hd48, .inl h3⟩] at hk
      simp (disch := first | omega | (simp only [go_sem]; first | done | omega)) only [go_sem, h0', hsd, h1, h2, h3]
      exact Ret.same (Nat.le_refl _) hk
    by_cases h4 : d.length < l.length
    · rw [if_pos ⟨hd48, .inr h4⟩] at hk
      simp (disch := first | omega | (simp only [go_sem]; first | done | omega)) only [go_sem, h0', hsd, hsz, h1, h2, h3, h4]
      exact Ret.same (Nat.le_refl _) hk
    rw [if_neg (fun e => e.2.elim h3 h4)] at hk
    simp (disch := first | omega | (simp only [go_sem]; first | done | omega)) only [go_sem, h0', hsd, hsz, h1, h2, h3, h4]
    refine AWp.loop (H.length) [0, 6, 38] [39] (fun (k : Nat) => k ≤ d.length ∧ ∀ i, i < k → 48 ≤ byteAt (tB d) i ∧ byteAt (tB d) i ≤ 57) (fun (k : Nat) => [(39, (.c (.int .i64 k)))]) (fun (k : Nat) => H) (fun (k : Nat) => d.length - k) (by kernel_rfl) (fun _ => rfl) (by kernel_rfl) (by first | (simp; done) | omega) (by first | (simp; done) | (simp; omega) | omega) kl ?_ (fun k hk1 _ _ => ?_)
    · exact Next.mk 0 ⟨by omega, fun i hi => by omega⟩ wk
    obtain ⟨hk1, hk2⟩ := hk1
    by_cases hlt : k < d.length
    · have hc := byteAt_bd (tB d) k
      have hlt' : k < (tB d).size := by omega
      by_cases hkey : 48 ≤ byteAt (tB d) k ∧ byteAt (tB d) k ≤ 57
      · have hside : (k + 1 ≤ d.length ∧ ∀ i, i < k + 1 → 48 ≤ byteAt (tB d) i ∧ byteAt (tB d) i ≤ 57) ∧ d.length - (k + 1) < d.length - k := by
          refine ⟨⟨by omega, fun i hi => ?_⟩, by omega⟩
          rcases Nat.lt_or_ge i k with h | h
          · exact hk2 i h
          · obtain rfl : i = k := by omega
            exact hkey
        have hc1 : ¬ byteAt (tB d) k < 48 := by omega
        have hc2 : ¬ 57 < byteAt (tB d) k := by omega
        simp (disch := first | omega | (simp only [go_sem]; first | done | omega)) only [go_sem, hsd, hlt, hlt', hc1, hc2]
        exact Next.mk (k + 1) hside wk
      · rw [if_neg (fun e => hkey ((digB_iff d).1 e k hlt))] at hk
        by_cases hc1 : byteAt (tB d) k < 48
        · simp (disch := first | omega | (simp only [go_sem]; first | done | omega)) only [go_sem, hsd, hlt, hlt', hc1]
          exact Ret.same (Nat.le_refl _) hk
        have hc2 : 57 < byteAt (tB d) k := by omega
        simp (disch := first | omega | (simp only [go_sem]; first | done | omega)) only [go_sem, hsd, hlt, hlt', hc1, hc2]
        exact Ret.same (Nat.le_refl _) hk
    · have hdig : digB d = true := (digB_iff d).2 (fun i hi => hk2 i (by omega))
      obtain ⟨n, hn, hb1, hb2⟩ := atoi_bd (l := l) (by rw [hd]; exact hdig) (by rw [hd]; exact h0) (by rw [hd]; omega)
      rw [if_pos hdig, hn] at hk
      simp (disch := first | omega | (simp only [go_sem]; first | done | omega)) only [go_sem, hsd, hlt]
      refine atoi_a (tB l) n (by omega) (by rw [show (tB l).data.toList = l from tL_tB l]; exact hn) ?_
      simp (disch := first | omega | (simp only [go_sem]; first | done | omega)) only [go_sem]
      refine w_draw (by kernel_rfl) (by decide +kernel) ?_
      simp (disch := first | omega | (simp only [go_sem]; first | done | omega)) only [go_sem]
      exact Ret.same (Nat.le_refl _) hk
  · rw [if_neg (fun e => h2 ((head_byte h0).1 e.1))] at hk
    simp (disch := first | omega | (simp only [go_sem]; first | done | omega)) only [go_sem, h0', hsd, h1, h2]
    refine AWp.loop (H.length) [0, 6, 38] [39] (fun (k : Nat) => k ≤ d.length ∧ ∀ i, i < k → 48 ≤ byteAt (tB d) i ∧ byteAt (tB d) i ≤ 57) (fun (k : Nat) => [(39, (.c (.int .i64 k)))]) (fun (k : Nat) => H) (fun (k : Nat) => d.length - k) (by kernel_rfl) (fun _ => rfl) (by kernel_rfl) (by first | (simp; done) | omega) (by first | (simp; done) | (simp; omega) | omega) kl ?_ (fun k hk1 _ _ => ?_)
    · exact Next.mk 0 ⟨by omega, fun i hi => by omega⟩ wk
    obtain ⟨hk1, hk2⟩ := hk1
    by_cases hlt : k < d.length
    · have hc := byteAt_bd (tB d) k
      have hlt' : k < (tB d).size := by omega
      by_cases hkey : 48 ≤ byteAt (tB d) k ∧ byteAt (tB d) k ≤ 57
      · have hside : (k + 1 ≤ d.length ∧ ∀ i, i < k + 1 → 48 ≤ byteAt (tB d) i ∧ byteAt (tB d) i ≤ 57) ∧ d.length - (k + 1) < d.length - k := by
          refine ⟨⟨by omega, fun i hi => ?_⟩, by omega⟩
          rcases Nat.lt_or_ge i k with h | h
          · exact hk2 i h
          · obtain rfl : i = k := by omega
            exact hkey
        have hc1 : ¬ byteAt (tB d) k < 48 := by omega
        have hc2 : ¬ 57 < byteAt (tB d) k := by omega
        simp (disch := first | omega | (simp only [go_sem]; first | done | omega)) only [go_sem, hsd, hlt, hlt', hc1, hc2]
        exact Next.mk (k + 1) hside wk
      · rw [if_neg (fun e => hkey ((digB_iff d).1 e k hlt))] at hk
        by_cases hc1 : byteAt (tB d) k < 48
        · simp (disch := first | omega | (simp only [go_sem]; first | done | omega)) only [go_sem, hsd, hlt, hlt', hc1]
          exact Ret.same (Nat.le_refl _) hk
        have hc2 : 57 < byteAt (tB d) k := by omega
        simp (disch := first | omega | (simp only [go_sem]; first | done | omega)) only [go_sem, hsd, hlt, hlt', hc1, hc2]
        exact Ret.same (Nat.le_refl _) hk
    · have hdig : digB d = true := (digB_iff d).2 (fun i hi => hk2 i (by omega))
      obtain ⟨n, hn, hb1, hb2⟩ := atoi_bd (l := l) (by rw [hd]; exact hdig) (by rw [hd]; exact h0) (by rw [hd]; omega)
      rw [if_pos hdig, hn] at hk
      simp (disch := first | omega | (simp only [go_sem]; first | done | omega)) only [go_sem, hsd, hlt]
      refine atoi_a (tB l) n (by omega) (by rw [show (tB l).data.toList = l from tL_tB l]; exact hn) ?_
      simp (disch := first | omega | (simp only [go_sem]; first | done | omega)) only [go_sem]
      refine w_draw (by kernel_rfl) (by decide +kernel) ?_
      simp (disch := first | omega | (simp only [go_sem]; first | done | omega)) only [go_sem]
      exact Ret.same (Nat.le_refl _) hk
theorem only_digits : ∀ n : Fin 256, (0 ≤ Lib.indexByte [48, 49, 50, 51, 52, 53, 54, 55, 56, 57] n.val.toUInt8 ↔ 48 ≤ n.val ∧ n.val ≤ 57) := by decide
theorem onlyD (d : List UInt8) : decide (onlyB (tB d) ⟨#[48, 49, 50, 51, 52, 53, 54, 55, 56, 57]⟩) = digB d := by
  rw [Bool.eq_iff_iff, decide_eq_true_eq, digB_iff]
  unfold onlyB
  rw [tB_size]
  refine forall_congr' fun i => forall_congr' fun _ => ?_
  have hb := byteAt_bd (tB d) i
  have := only_digits ⟨(byteAt (tB d) i).toNat, by omega⟩
  refine Iff.trans this ?_
  constructor
  · intro h; dsimp only at h; omega
  · intro h; dsimp only; omega
theorem numR_a (l : List UInt8) (m : Nat) (hl : l.length ≤ 1000000) (hm : m ≤ 15) (hk : ∀ v : Int, (∀ n, numF l m = some n → v = n) → K (.tup [(.c (.int .i64 v)), (.c (.bool ((numF l m).isSome)))]) H) : ACalls Tryz.prog 173 [(.c (.str (tB l))), (.c (.int .i64 m))] H K := by
  have hs1 := strip_le l
  have hsz := tB_size l
  have hsd := tB_size (stripF l)
  have hnf := numF_eq l m
  refine acalls Tryz.func173 rfl (by kernel_rfl) (by simp (disch := first | omega | (simp only [go_sem]; first | done | omega)) only [go_sem]) (fun hH => ?_)
  simp (disch := first | omega | (simp only [go_sem]; first | done | omega)) only [go_sem]
  refine trimP_a l hl ?_
  generalize hd : stripF l = d at *
  by_cases h0 : d = []
  · rw [if_pos (.inl h0)] at hnf
    rw [hnf] at hk
    simp (disch := first | omega | (simp only [go_sem]; first | done | omega)) only [go_sem, tB_nil, h0]
    exact Ret.same (Nat.le_refl _) (hk _ (by simp))
  have h0' : ¬ tB d = ⟨#[]⟩ := fun e => h0 (tB_nil.1 e)
  by_cases h1 : m < d.length
  · rw [if_pos (.inr h1)] at hnf
    rw [hnf] at hk
    simp (disch := first | omega | (simp only [go_sem]; first | done | omega)) only [go_sem, h0', hsd, h1]
    exact Ret.same (Nat.le_refl _) (hk _ (by simp))
  rw [if_neg (fun e => e.elim h0 h1)] at hnf
  simp (disch := first | omega | (simp only [go_sem]; first | done | omega)) only [go_sem, h0', hsd, h1]
  refine only_a (tB d) ⟨#[48, 49, 50, 51, 52, 53, 54, 55, 56, 57]⟩ (by omega) ?_
  rw [onlyD]
  by_cases h2 : digB d = true
  · rw [if_pos h2] at hnf
    obtain ⟨n, hn, hb1, hb2⟩ := atoi_bd (l := l) (by rw [hd]; exact h2) (by rw [hd]; exact h0) (by rw [hd]; omega)
    have hback := itoa_back (l := l) (by rw [hd]; exact h2) (by rw [hd]; exact h0) hn
    rw [hd] at hback
    simp (disch := first | omega | (simp only [go_sem]; first | done | omega)) only [go_sem, h2]
    refine atoi_a (tB l) n (by omega) (by rw [show (tB l).data.toList = l from tL_tB l]; exact hn) ?_
    simp (disch := first | omega | (simp only [go_sem]; first | done | omega)) only [go_sem]
    refine itoa_a n (by omega) (by omega) ?_
    simp (disch := first | omega | (simp only [go_sem]; first | done | omega)) only [go_sem]
    rw [show (⟨(Lib.itoa n).toArray⟩ : ByteArray) = tB (Lib.itoa n) from rfl]
    by_cases h3 : d.head? = some 48 ∧ (1 < d.length ∨ d.length < l.length)
    · rw [if_pos h3] at hnf
      rw [hnf] at hk
      rw [show decide (tB (Lib.itoa n) = tB l) = false from decide_eq_false fun e => hback.1 (tB_inj.1 e) h3]
      exact Ret.same (Nat.le_refl _) (hk _ (by simp))
    · rw [if_neg h3, hn] at hnf
      rw [hnf] at hk
      rw [show decide (tB (Lib.itoa n) = tB l) = true from decide_eq_true (tB_inj.2 (hback.2 h3))]
      exact Ret.same (Nat.le_refl _) (hk _ (by simp))
  · have h2' : digB d = false := by simpa using h2
    rw [if_neg h2, ite_self] at hnf
    rw [hnf] at hk
    simp (disch := first | omega | (simp only [go_sem]; first | done | omega)) only [go_sem, h2']
    exact Ret.same (Nat.le_refl _) (hk _ (by simp))
end Go.Proofs.YtflklkijfkmeiaaGreatDoor
