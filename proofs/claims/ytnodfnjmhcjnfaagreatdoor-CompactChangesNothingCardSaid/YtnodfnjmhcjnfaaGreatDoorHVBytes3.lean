/- Bytes: the reference's reading of a number. Condition: no bytes but such as fit. -/
import Derived.Test.YtnodfnjmhcjnfaaGreatDoorHVBytes2
namespace Go.Proofs.YtnodfnjmhcjnfaaGreatDoor
open Go Go.RowKit
set_option maxRecDepth 100000
set_option linter.all false
set_option maxHeartbeats 1000000
variable {H : Hp} {K : AV → Hp → Prop}
theorem unv_some {l : List UInt8} {Z k : Nat} (h : uv l = some (Z, k)) : unv l = if Z ≤ 2000000000000 ∧ (vb Z).length = k then some (unz Z, k) else none := by
  unfold unv; rw [h]
theorem unvarintOf_a (l : List UInt8) (p : Nat) (hp : p ≤ l.length) (hl : l.length ≤ 1099511627776) (hk1 : ∀ n x, uvR l p = some (n, x) → K (.tup [(.c (.int .i64 n)), (.c (.int .i64 x)), (.c (.int .i64 0))]) H) (hk0 : uvR l p = none → K (.tup [(.c (.int .i64 0)), (.c (.int .i64 0)), (.c (.int .i64 9))]) H) : ACalls Tryz.prog 366 [.c (.lst 1 (l.map encU)), (.c (.int .i64 p))] H K := by
  refine acalls Tryz.func366 rfl (by kernel_rfl) (by simp (disch := first | omega | (simp only [go_sem]; first | done | omega)) only [go_sem]) (fun hH => ?_)
  simp (disch := first | omega | (simp only [go_sem]; first | done | omega)) only [go_sem]
  refine in_a _ _ _ _ _ ?_
  have hd : decide (0 ≤ (p : Int) ∧ (p : Int) ≤ l.length) = true := decide_eq_true (by omega)
  simp (disch := first | omega | (simp only [go_sem]; first | done | omega)) only [go_sem, hd]
  refine AWp.loop (H.length) [0, 1] [7, 8, 9] (fun (s : Nat × Nat) => s.1 < 128 ^ s.2 ∧ s.2 ≤ 8 ∧ p + s.2 ≤ l.length ∧ uv (l.drop p) = (uv ((l.drop p).drop s.2)).map fun r => (s.1 + 128 ^ s.2 * r.1, r.2 + s.2)) (fun (s : Nat × Nat) => [(7, (.c (.int .i64 (s.1)))), (8, (.c (.int .i64 (((128 ^ s.2 : Nat) : Int))))), (9, (.c (.int .i64 ((p : Int) + (s.2 : Nat)))))]) (fun (s : Nat × Nat) => H) (fun (s : Nat × Nat) => l.length - s.2) (by kernel_rfl) (fun _ => rfl) (by kernel_rfl) (by first | (simp; done) | omega) (by first | (simp; done) | (simp; omega) | omega) kl ?_ (fun s hs _ _ => ?_)
  · exact Next.mk (0, 0) ⟨by simp, by simp, by simpa using hp, by simp⟩ wk
  obtain ⟨q, j⟩ := s
  dsimp only at hs
  obtain ⟨hq, hj, hpj, hu⟩ := hs
  dsimp only
  by_cases hlt : p + j < l.length
  · have hcs : (l.drop p)[j]'(by rw [List.length_drop]; omega) = l[p + j] := by simp
    have hcc256 : (l[p + j]).toNat < 256 := UInt8.toNat_lt _
    by_cases h8 : 8 ≤ j
    · have hn : uvR l p = none := by unfold uvR; rw [unv_long (by omega) hu]; rfl
      have hk := hk0 hn
      have e1 : ¬ (p : Int) + j < (p : Int) + 8 := by omega
      have e0 : (p : Int) + j < l.length := by omega
      simp (disch := first | omega | (simp only [go_sem]; first | done | omega)) only [go_sem, e0, e1]
      exact Ret.same (Nat.le_refl _) hk
    · have e1 : (p : Int) + j < (p : Int) + 8 := by omega
      have e0 : (p : Int) + j < l.length := by omega
      have f1 : ∀ h, (l[((p : Int) + (j : Int)).toNat]'h).toNat = (l[p + j]).toNat := fun h => rfl
      generalize hcc : (l[p + j]).toNat = cc at *
      have hp6 : 128 ^ j ≤ 128 ^ 7 := Nat.pow_le_pow_right (by omega) (by omega)
      have hp1 : 128 ^ (j + 1) = 128 ^ j * 128 := Nat.pow_succ 128 j
      have hpos : 0 < 128 ^ j := Nat.pow_pos (by omega)
      have hU : ((128 ^ (j + 1) : Nat) : Int) = ((128 ^ j : Nat) : Int) * 128 := by rw [hp1]; push_cast; rfl
      have hst := uv_step (l.drop p) j q (by rw [List.length_drop]; omega) hq
      have hsp := uv_stop (l.drop p) j q (by rw [List.length_drop]; omega)
      rw [hcs, hcc] at hst hsp
      generalize hUU : (128 ^ j : Nat) = U at *
      have hle : (cc % 128) * U ≤ 127 * U := Nat.mul_le_mul_right _ (by have := Nat.mod_lt cc (show 0 < 128 by omega); omega)
      have hM : (cc : Int) % 128 * (U : Int) = ((cc % 128 * U : Nat) : Int) := by push_cast; rfl
      generalize hMM : cc % 128 * U = M at *
      by_cases h128 : 128 ≤ cc
      · have e3 : (128 : Int) ≤ (cc : Int) := by omega
        obtain ⟨hs1, hs2⟩ := hst h128 hu
        simp (disch := first | omega | (simp only [go_sem]; first | done | omega)) only [go_sem, e0, e1, e3, hM, f1, hcc]
        refine Next.mk (q + M, j + 1) ⟨⟨hs1, by dsimp only; omega, by dsimp only; omega, hs2⟩, by dsimp only; omega⟩ ?_
        dsimp only
        rw [hU]
        exact wk
      · have e3 : ¬ (128 : Int) ≤ (cc : Int) := by omega
        have hs := hsp (by omega) hu
        have hm : cc % 128 = cc := Nat.mod_eq_of_lt (by omega)
        rw [hm] at hMM
        rw [hMM] at hs
        have hv := unv_some hs
        have hms := unz_most (q + M)
        have hzz := zig_unz (q + M)
        have hbd : unz (q + M) = if (q + M) % 2 = 1 then -(((q + M) / 2 : Nat) : Int) - 1 else (((q + M) / 2 : Nat) : Int) := rfl
        have hZc : ((q : Int) + (M : Int)) = ((q + M : Nat) : Int) := by push_cast; rfl
        generalize hZ : q + M = Z at *
        have hZ1 : Z ≤ 563087392374784000 := by rw [← hZ]; omega
        have f3 : (Z : Int).tmod 2 = (Z : Int) % 2 := Int.tmod_eq_emod_of_nonneg (by omega)
        have f4 : (Z : Int).tdiv 2 = (Z : Int) / 2 := Int.tdiv_eq_ediv_of_nonneg (by omega)
        have e9 : (p : Int) + j + 1 - p = ((j + 1 : Nat) : Int) := by omega
        by_cases hodd : Z % 2 = 1
        · rw [if_pos hodd] at hbd
          have e6 : (Z : Int) % 2 = 1 := by omega
          have e5 : (0 - ((Z : Int) + 1)).tdiv 2 = unz Z := by
            rw [hbd, show (0 - ((Z : Int) + 1)) = (-((Z / 2 : Nat) : Int) - 1) * 2 by omega, Int.mul_tdiv_cancel _ (by omega)]
          have b1 : -563087392374784000 ≤ unz Z ∧ unz Z ≤ 563087392374784000 := by omega
          clear hbd
          simp (disch := first | omega | (simp only [go_sem]; first | done | omega)) only [go_sem, e0, e1, e3, hM, f1, hcc, hZc, f3, f4, e5, e6]
          refine varintOf_a (unz Z) (fun h9 => ?_) (fun h9 => ?_)
          · rw [hzz]
            by_cases h10 : (vb Z).length = j + 1
            · have e10 : ((vb Z).length : Int) = ((j + 1 : Nat) : Int) := by omega
              have hk := hk1 (unz Z) (p + (j + 1)) (by unfold uvR; rw [hv, if_pos ⟨hms.1 h9, h10⟩]; rfl)
              rw [show (((p + (j + 1) : Nat)) : Int) = (p : Int) + j + 1 by omega] at hk
              simp (disch := first | omega | (simp only [go_sem]; first | done | omega)) only [go_sem, e9, e10]
              exact Ret.same (Nat.le_refl _) hk
            · have e10 : ¬ ((vb Z).length : Int) = ((j + 1 : Nat) : Int) := by omega
              have hk := hk0 (by unfold uvR; rw [hv, if_neg (fun h => h10 h.2)]; rfl)
              simp (disch := first | omega | (simp only [go_sem]; first | done | omega)) only [go_sem, e9, e10]
              exact Ret.same (Nat.le_refl _) hk
          · have hk := hk0 (by unfold uvR; rw [hv, if_neg (fun h => h9 (hms.2 h.1))]; rfl)
            simp (disch := first | omega | (simp only [go_sem]; first | done | omega)) only [go_sem]
            exact Ret.same (Nat.le_refl _) hk
        · rw [if_neg hodd] at hbd
          have e6 : ¬ (Z : Int) % 2 = 1 := by omega
          have e5 : (Z : Int) / 2 = unz Z := by omega
          have b1 : -563087392374784000 ≤ unz Z ∧ unz Z ≤ 563087392374784000 := by omega
          clear hbd
          simp (disch := first | omega | (simp only [go_sem]; first | done | omega)) only [go_sem, e0, e1, e3, hM, f1, hcc, hZc, f3, f4, e5, e6]
          refine varintOf_a (unz Z) (fun h9 => ?_) (fun h9 => ?_)
          · rw [hzz]
            by_cases h10 : (vb Z).length = j + 1
            · have e10 : ((vb Z).length : Int) = ((j + 1 : Nat) : Int) := by omega
              have hk := hk1 (unz Z) (p + (j + 1)) (by unfold uvR; rw [hv, if_pos ⟨hms.1 h9, h10⟩]; rfl)
              rw [show (((p + (j + 1) : Nat)) : Int) = (p : Int) + j + 1 by omega] at hk
              simp (disch := first | omega | (simp only [go_sem]; first | done | omega)) only [go_sem, e9, e10]
              exact Ret.same (Nat.le_refl _) hk
            · have e10 : ¬ ((vb Z).length : Int) = ((j + 1 : Nat) : Int) := by omega
              have hk := hk0 (by unfold uvR; rw [hv, if_neg (fun h => h10 h.2)]; rfl)
              simp (disch := first | omega | (simp only [go_sem]; first | done | omega)) only [go_sem, e9, e10]
              exact Ret.same (Nat.le_refl _) hk
          · have hk := hk0 (by unfold uvR; rw [hv, if_neg (fun h => h9 (hms.2 h.1))]; rfl)
            simp (disch := first | omega | (simp only [go_sem]; first | done | omega)) only [go_sem]
            exact Ret.same (Nat.le_refl _) hk
  · have hn : uvR l p = none := by unfold uvR; rw [unv_none (uv_out _ j q (by rw [List.length_drop]; omega) hu)]; rfl
    have hk := hk0 hn
    have e0 : ¬ (p : Int) + j < l.length := by omega
    simp (disch := first | omega | (simp only [go_sem]; first | done | omega)) only [go_sem, e0]
    exact Ret.same (Nat.le_refl _) hk
/-! ### what a block's bytes are -/
theorem unvarint_le {l : List UInt8} {p x : Nat} {n : Int} (h : uvR l p = some (n, x)) : p + 1 ≤ x ∧ (p ≤ l.length → x ≤ l.length) ∧ okN n := by
  unfold uvR at h
  obtain ⟨⟨a, b⟩, h1, h2⟩ := Option.map_eq_some_iff.1 h
  have h3 := unv_le h1
  simp only [Prod.mk.injEq] at h2
  obtain ⟨rfl, rfl⟩ := h2
  rw [List.length_drop] at h3
  exact ⟨by omega, fun _ => by omega, h3.2.2⟩
end Go.Proofs.YtnodfnjmhcjnfaaGreatDoor
