/- Bytes: the reference's numbers, checksums, and what is read. Condition: no bytes but such as fit. -/
import Derived.Test.YtnodfnjmhcjnfaaGreatDoorHVBytes
namespace Go.Proofs.YtnodfnjmhcjnfaaGreatDoor
open Go Go.RowKit
set_option maxRecDepth 100000
set_option linter.all false
set_option maxHeartbeats 1000000
variable {H : Hp} {K : AV → Hp → Prop}
theorem vb_end' {q : Nat} (l t : List UInt8) (h : q / 128 = 0) (hl : l ++ vb q = t) : l ++ [u8I ((q : Int) % 128)] = t := by
  rw [← hl, vb_lt (by omega)]
  have : u8I ((q : Int) % 128) = UInt8.ofNat q := by
    unfold u8I; congr 1; omega
  rw [this]
def okN (n : Int) : Prop := -1000000000000 ≤ n ∧ n ≤ 1000000000000
theorem varintOf_a (n : Int) (hk1 : okN n → K (.tup [.c (.lst 1 ((vb (zig n)).map encU)), (.c (.int .i64 0))]) H) (hk0 : ¬ okN n → K (.tup [.c (.lst 1 []), (.c (.int .i64 1))]) H) : ACalls Tryz.prog 340 [(.c (.int .i64 n))] H K := by
  refine acalls Tryz.func340 rfl (by kernel_rfl) (by simp (disch := first | omega | (simp only [go_sem]; first | done | omega)) only [go_sem]) (fun hH => ?_)
  simp (disch := first | omega | (simp only [go_sem]; first | done | omega)) only [go_sem]
  refine in_a _ _ _ _ _ ?_
  by_cases ho : okN n
  · have hk := hk1 ho
    clear hk0 hk1
    obtain ⟨h1, h2⟩ := ho
    have hz : zig n ≤ 2000000000000 := zig_most n ⟨h1, h2⟩
    have hlen : (vb (zig n)).length ≤ 6 := vb_len6 (by omega)
    have hd : decide (-1000000000000 ≤ n ∧ n ≤ 1000000000000) = true := decide_eq_true ⟨h1, h2⟩
    simp (disch := first | omega | (simp only [go_sem]; first | done | omega)) only [go_sem, hd]
    repeat' (first | ((first | refine acond_d ?_ ?_ | refine acond_b ?_ ?_ | refine ag_d ?_ ?_ | refine ag_n ?_ ?_ | refine ag_bt ?_ ?_ | refine ag_bf ?_ ?_) <;> intro c <;> try simp (disch := first | omega | (simp only [go_sem]; first | done | omega)) only [go_sem, c]) | ((first | refine w_draw (by kernel_rfl) (by decide +kernel) ?_) <;> try simp (disch := first | omega | (simp only [go_sem]; first | done | omega)) only [go_sem]))
    all_goals
      refine AWp.loop (H.length) [] [4, 5] (fun (s : Nat × List UInt8) => s.2 ++ vb s.1 = vb (zig n) ∧ s.1 ≤ 2000000000000) (fun (s : Nat × List UInt8) => [(4, (.c (.int .i64 (s.1)))), (5, .c (grV H.length s.2))]) (fun (s : Nat × List UInt8) => H ++ [grO 5 1 (s.2.map encU)]) (fun (s : Nat × List UInt8) => s.1) (by kernel_rfl) (fun _ => rfl) (by kernel_rfl) (by first | (simp; done) | omega) (by first | (simp; done) | (simp; omega) | omega) kl ?_ (fun s hs _ _ => ?_)
      · refine Next.mk (zig n, []) ⟨by simp, hz⟩ ?_
        simp (disch := first | omega | (simp only [go_sem]; first | done | omega)) only [go_sem]
        first
          | rw [show (-2 * n - 1 : Int) = ((zig n : Nat) : Int) by have := zig_neg c; omega]
          | rw [show (2 * n : Int) = ((zig n : Nat) : Int) by have := zig_pos c; omega]
        exact WkL.pad (by simp)
      obtain ⟨q, l⟩ := s
      dsimp only at hs
      obtain ⟨e1, e2⟩ := hs
      have hll : l.length ≤ 6 := by have := congrArg List.length e1; simp at this; omega
      by_cases hq : 127 < q
      · have hq' : ¬ (q : Int) / 128 = 0 := by omega
        simp (disch := first | omega | (simp only [go_sem]; first | done | omega)) only [go_sem, hq']
        (refine app_gr (enc := encU) (e := 5) (sz := 1) (bs := 1) (z := [.int .u8 0]) (l) (u8I ((q : Int) % 128 + 128)) (by kernel_rfl) (by kernel_rfl) (by kernel_rfl) (by kernel_rfl) (by first | ((repeat first | exact at0 (by simp) | refine atS ?_); done) | assumption) (by first | (simp (disch := first | omega | (simp only [go_sem]; first | done | omega)) only [go_sem]; done) | (simp (disch := first | omega | (simp only [go_sem]; first | done | omega)) only [go_sem]; rfl) | (simp (disch := first | omega | (simp only [go_sem]; first | done | omega)) only [go_sem]; simp [go_sem]; done) | (simp (disch := first | omega | (simp only [go_sem]; first | done | omega)) only [go_sem]; simp [*]; done)) rfl (by decide) (by omega) (by omega) (by rfl) ?_)
        simp (disch := first | omega | (simp only [go_sem]; first | done | omega)) only [go_sem]
        exact Next.mk (q / 128, l ++ [u8I ((q : Int) % 128 + 128)]) ⟨⟨vb_step l _ hq e1, by dsimp only; omega⟩, by dsimp only; omega⟩ (by exact ow)
      · have hq' : (q : Int) / 128 = 0 := by omega
        simp (disch := first | omega | (simp only [go_sem]; first | done | omega)) only [go_sem, hq']
        (refine app_gr (enc := encU) (e := 5) (sz := 1) (bs := 1) (z := [.int .u8 0]) (l) (u8I ((q : Int) % 128)) (by kernel_rfl) (by kernel_rfl) (by kernel_rfl) (by kernel_rfl) (by first | ((repeat first | exact at0 (by simp) | refine atS ?_); done) | assumption) (by first | (simp (disch := first | omega | (simp only [go_sem]; first | done | omega)) only [go_sem]; done) | (simp (disch := first | omega | (simp only [go_sem]; first | done | omega)) only [go_sem]; rfl) | (simp (disch := first | omega | (simp only [go_sem]; first | done | omega)) only [go_sem]; simp [go_sem]; done) | (simp (disch := first | omega | (simp only [go_sem]; first | done | omega)) only [go_sem]; simp [*]; done)) rfl (by decide) (by omega) (by omega) (by rfl) ?_)
        simp (disch := first | omega | (simp only [go_sem]; first | done | omega)) only [go_sem]
        rw [← vb_end' l _ (by omega) e1] at hk
        exact Ret.frzGrT 2 hH (Nat.le_refl _) rfl (pureL_U _) rfl (by rw [map_grV, grV_snoc]) hk
  · have hk := hk0 ho
    have hd : decide (-1000000000000 ≤ n ∧ n ≤ 1000000000000) = false := decide_eq_false ho
    simp (disch := first | omega | (simp only [go_sem]; first | done | omega)) only [go_sem, hd]
    exact Ret.nilS (Nat.le_refl _) rfl hk
theorem csum_step {l : List UInt8} {k : Nat} (hk : k < l.length) : ((csum (l.take (k + 1)) : Nat) : Int) = ((csum (l.take k) : Nat) * 31 + ((l[k]).toNat : Int) + 1) % 65521 := by
  rw [take_snoc l k hk, csum_snoc]; omega
theorem checksum_a (l : List UInt8) (hl : l.length ≤ 1099511627776) (hk : K (.c (.int .i64 ((csum l : Nat)))) H) : ACalls Tryz.prog 250 [.c (.lst 1 (l.map encU))] H K := by
  refine acalls Tryz.func250 rfl (by kernel_rfl) (by simp (disch := first | omega | (simp only [go_sem]; first | done | omega)) only [go_sem]) (fun hH => ?_)
  simp (disch := first | omega | (simp only [go_sem]; first | done | omega)) only [go_sem]
  refine AWp.upto (H.length) [6, 7] [3, 8] (l.length) (fun k => [(3, (.c (.int .i64 ((csum (l.take k) : Nat))))), (8, (.c (.int .i64 k)))]) (fun k => H) (by kernel_rfl) (fun _ => rfl) (by kernel_rfl) (by first | (simp; done) | omega) (by first | (simp; done) | (simp; omega) | omega) kl ?_ (fun k hk1 _ _ => ?_)
  · exact Next.mk 0 rfl wk
  have hc := csum_lt (l.take k)
  by_cases hlt : k < l.length
  · have hb : (l[k]).toNat < 256 := UInt8.toNat_lt _
    simp (disch := first | omega | (simp only [go_sem]; first | done | omega)) only [go_sem, hlt]
    refine Next.mk (k + 1) (by first | rfl | exact ⟨rfl, hlt⟩) ?_
    rw [csum_step hlt]
    exact wk
  · have : k = l.length := by omega
    subst this
    simp (disch := first | omega | (simp only [go_sem]; first | done | omega)) only [go_sem, hlt]
    exact Ret.same (Nat.le_refl _) hk
theorem checksumR_a (l : List UInt8) (hl : l.length ≤ 1099511627776) (hk : K (.c (.int .i64 ((csum l : Nat)))) H) : ACalls Tryz.prog 338 [.c (.lst 1 (l.map encU))] H K := by
  refine acalls Tryz.func338 rfl (by kernel_rfl) (by simp (disch := first | omega | (simp only [go_sem]; first | done | omega)) only [go_sem]) (fun hH => ?_)
  simp (disch := first | omega | (simp only [go_sem]; first | done | omega)) only [go_sem]
  refine AWp.upto (H.length) [6, 7] [3, 8] (l.length) (fun k => [(3, (.c (.int .i64 ((csum (l.take k) : Nat))))), (8, (.c (.int .i64 k)))]) (fun k => H) (by kernel_rfl) (fun _ => rfl) (by kernel_rfl) (by first | (simp; done) | omega) (by first | (simp; done) | (simp; omega) | omega) kl ?_ (fun k hk1 _ _ => ?_)
  · exact Next.mk 0 rfl wk
  have hc := csum_lt (l.take k)
  by_cases hlt : k < l.length
  · have hb : (l[k]).toNat < 256 := UInt8.toNat_lt _
    simp (disch := first | omega | (simp only [go_sem]; first | done | omega)) only [go_sem, hlt]
    refine Next.mk (k + 1) (by first | rfl | exact ⟨rfl, hlt⟩) ?_
    rw [csum_step hlt]
    exact wk
  · have : k = l.length := by omega
    subst this
    simp (disch := first | omega | (simp only [go_sem]; first | done | omega)) only [go_sem, hlt]
    exact Ret.same (Nat.le_refl _) hk
theorem csum_lend {i : Nat} {f : FuncId} (l : List UInt8) (hi : H[i]? = some (grO 5 1 (l.map encU))) (hc : ∀ (G : Hp) (J : AV → Hp → Prop), J (.c (.int .i64 ((csum l : Nat)))) G → ACalls Tryz.prog f [.c (.lst 1 (l.map encU))] G J) (hk : K (.c (.int .i64 ((csum l : Nat)))) H) : ACalls Tryz.prog f [.c (grV i l)] H K := by
  rw [← map_grV encU i l]
  exact ACalls.lendGr (.c (.int .i64 ((csum l : Nat)))) hi (pureL_U l) rfl rfl rfl (by simp) hc hk
/-! ### what is read -/
def uvR (l : List UInt8) (p : Nat) : Option (Int × Nat) := (unv (l.drop p)).map fun r => (r.1, p + r.2)
theorem zstep (q cc j : Nat) (hq : q < 128 ^ j) (hj : j ≤ 6) : orI (q : Int) (IntKind.i64.wrap (((cc : Int) % 128) * 2 ^ (7 * j))) = ((q + cc % 128 * 128 ^ j : Nat) : Int) := by
  have h7 : cc % 128 < 128 := Nat.mod_lt _ (by omega)
  have hp : 128 ^ j ≤ 128 ^ 6 := Nat.pow_le_pow_right (by omega) hj
  have hle : (cc % 128) * 128 ^ j ≤ 127 * 128 ^ j := Nat.mul_le_mul_right _ (by omega)
  have e : (((cc : Int) % 128) * 2 ^ (7 * j)) = (((cc % 128) * 128 ^ j : Nat) : Int) := by
    rw [pow_128 j]; push_cast; rfl
  rw [e, IntWalk.i64_in _ (by omega), i64_or _ _ (by omega) (by omega)]
  have := or_shift q (cc % 128) (7 * j) (by rw [← pow_128]; exact hq)
  rw [Nat.shiftLeft_eq, ← pow_128] at this
  rw [this]
theorem unvarint_a (l : List UInt8) (p : Nat) (hp : p ≤ l.length) (hl : l.length ≤ 1099511627776) (hk1 : ∀ n x, uvR l p = some (n, x) → K (.tup [(.c (.int .i64 n)), (.c (.int .i64 x)), (.c (.bool true))]) H) (hk0 : uvR l p = none → ∀ n x : Int, K (.tup [(.c (.int .i64 n)), (.c (.int .i64 x)), (.c (.bool false))]) H) : ACalls Tryz.prog 365 [.c (.lst 1 (l.map encU)), (.c (.int .i64 p))] H K := by
  refine acalls Tryz.func365 rfl (by kernel_rfl) (by simp (disch := first | omega | (simp only [go_sem]; first | done | omega)) only [go_sem]) (fun hH => ?_)
  simp (disch := first | omega | (simp only [go_sem]; first | done | omega)) only [go_sem]
  refine AWp.loop (H.length) [0, 1] [7, 8] (fun (s : Nat × Nat) => s.1 < 128 ^ s.2 ∧ s.2 ≤ 7 ∧ p + s.2 ≤ l.length ∧ uv (l.drop p) = (uv ((l.drop p).drop s.2)).map fun r => (s.1 + 128 ^ s.2 * r.1, r.2 + s.2)) (fun (s : Nat × Nat) => [(7, (.c (.int .i64 (s.1)))), (8, (.c (.int .i64 ((p : Int) + (s.2 : Nat)))))]) (fun (s : Nat × Nat) => H) (fun (s : Nat × Nat) => l.length - s.2) (by kernel_rfl) (fun _ => rfl) (by kernel_rfl) (by first | (simp; done) | omega) (by first | (simp; done) | (simp; omega) | omega) kl ?_ (fun s hs _ _ => ?_)
  · exact Next.mk (0, 0) ⟨by simp, by simp, by simpa using hp, by simp⟩ wk
  obtain ⟨q, j⟩ := s
  dsimp only at hs
  obtain ⟨hq, hj, hpj, hu⟩ := hs
  by_cases hlt : p + j < l.length
  · have hcs : (l.drop p)[j]'(by rw [List.length_drop]; omega) = l[p + j] := by simp
    have hcc256 : (l[p + j]).toNat < 256 := UInt8.toNat_lt _
    by_cases h7 : 7 ≤ j
    · have hn : uvR l p = none := by unfold uvR; rw [unv_long h7 hu]; rfl
      have hk := hk0 hn 0 0
      have e1 : (42 : Int) < 7 * (j : Int) := by omega
      simp (disch := first | omega | (simp only [go_sem]; first | done | omega)) only [go_sem, hlt, e1]
      exact Ret.same (Nat.le_refl _) hk
    · have e1 : ¬ (42 : Int) < 7 * (j : Int) := by omega
      have e2 : min (7 * (j : Int)).toNat 64 = 7 * j := by omega
      have f2 : (p : Int) + (j : Int) - p = j := by omega
      have f1 : ∀ h, (l[((p : Int) + (j : Int)).toNat]'h).toNat = (l[p + j]).toNat := fun h => rfl
      generalize hcc : (l[p + j]).toNat = cc at *
      have hz := zstep q cc j hq (by omega)
      have hp6 : 128 ^ j ≤ 128 ^ 6 := Nat.pow_le_pow_right (by omega) (by omega)
      have hpos : 0 < 128 ^ j := Nat.pow_pos (by omega)
      by_cases h128 : 128 ≤ cc
      · have e3 : ¬ (cc : Int) / 128 * 128 = 0 := by omega
        have hs := uv_step (l.drop p) j q (by rw [List.length_drop]; omega) hq (by rw [hcs, hcc]; exact h128) hu
        rw [hcs, hcc] at hs
        simp (disch := first | omega | (simp only [go_sem]; first | done | omega)) only [go_sem, hlt, e1, e2, f2, hz, e3, f1, hcc]
        exact Next.mk (q + cc % 128 * 128 ^ j, j + 1) ⟨⟨hs.1, by dsimp only; omega, by dsimp only; omega, hs.2⟩, by dsimp only; omega⟩ wk
      · have e3 : (cc : Int) / 128 * 128 = 0 := by omega
        have hs := uv_stop (l.drop p) j q (by rw [List.length_drop]; omega) (by rw [hcs, hcc]; omega) hu
        rw [hcs, hcc] at hs
        have hv := unv_stop hq (by omega) hs
        have hm : cc % 128 = cc := Nat.mod_eq_of_lt (by omega)
        rw [hm] at hz
        have hle : cc * 128 ^ j ≤ 127 * 128 ^ j := Nat.mul_le_mul_right _ (by omega)
        have hms := unz_most (q + cc * 128 ^ j)
        have hbd : unz (q + cc * 128 ^ j) = if (q + cc * 128 ^ j) % 2 = 1 then -(((q + cc * 128 ^ j) / 2 : Nat) : Int) - 1 else (((q + cc * 128 ^ j) / 2 : Nat) : Int) := rfl
        generalize hZ : q + cc * 128 ^ j = Z at *
        have hZ1 : Z ≤ 563087392374784 := by rw [← hZ]; omega
        have f3 : (Z : Int).tmod 2 = (Z : Int) % 2 := Int.tmod_eq_emod_of_nonneg (by omega)
        have f4 : (Z : Int).tdiv 2 = (Z : Int) / 2 := Int.tdiv_eq_ediv_of_nonneg (by omega)
        have fin : (j = 0 ∨ 0 < cc) → ∀ n : Int, n = unz Z → K (.tup [(.c (.int .i64 n)), (.c (.int .i64 ((p : Int) + j + 1))), (.c (.bool (!decide (n < -1000000000000 ∨ 1000000000000 < n))))]) H := by
          rintro hc n rfl
          by_cases hle2 : Z ≤ 2000000000000
          · have := hk1 (unz Z) (p + (j + 1)) (by unfold uvR; rw [hv, if_pos ⟨hc, hle2⟩]; rfl)
            have e5 : (!decide (unz Z < -1000000000000 ∨ 1000000000000 < unz Z)) = true := by have := hms.2 hle2; simp; omega
            rw [e5]
            rw [show (((p + (j + 1) : Nat)) : Int) = (p : Int) + j + 1 by omega] at this
            exact this
          · have := hk0 (by unfold uvR; rw [hv, if_neg (fun h => hle2 h.2)]; rfl) (unz Z) ((p : Int) + j + 1)
            have e5 : (!decide (unz Z < -1000000000000 ∨ 1000000000000 < unz Z)) = false := by have := fun h => hle2 (hms.1 h); simp; omega
            rw [e5]
            exact this
        by_cases hc0 : cc = 0
        · have e7 : ((cc : Int) = 0) = True := by simp [hc0]
          rcases Nat.eq_zero_or_pos j with hj0 | hj0
          · have e8 : ¬ (p : Int) < (p : Int) + j := by omega
            by_cases hodd : Z % 2 = 1
            · rw [if_pos hodd] at hbd
              have e6 : (Z : Int) % 2 = 1 := by omega
              simp (disch := first | omega | (simp only [go_sem]; first | done | omega)) only [go_sem, hlt, e1, e2, f2, hz, e3, f1, hcc, f3, f4, e6, e7, e8]
              refine out_a _ _ _ _ _ ?_
              simp (disch := first | omega | (simp only [go_sem]; first | done | omega)) only [go_sem, hlt, e1, e2, f2, hz, e3, f1, hcc, f3, f4, e6, e7, e8]
              exact Ret.same (Nat.le_refl _) (fin (.inl hj0) _ (by omega))
            · rw [if_neg hodd] at hbd
              have e6 : ¬ (Z : Int) % 2 = 1 := by omega
              simp (disch := first | omega | (simp only [go_sem]; first | done | omega)) only [go_sem, hlt, e1, e2, f2, hz, e3, f1, hcc, f3, f4, e6, e7, e8]
              refine out_a _ _ _ _ _ ?_
              simp (disch := first | omega | (simp only [go_sem]; first | done | omega)) only [go_sem, hlt, e1, e2, f2, hz, e3, f1, hcc, f3, f4, e6, e7, e8]
              exact Ret.same (Nat.le_refl _) (fin (.inl hj0) _ (by omega))
          · have hk := hk0 (by unfold uvR; rw [hv, if_neg (fun h => by omega)]; rfl) 0 0
            have e6 : (p : Int) < (p : Int) + j := by omega
            have e8 := e6
            simp (disch := first | omega | (simp only [go_sem]; first | done | omega)) only [go_sem, hlt, e1, e2, f2, hz, e3, f1, hcc, f3, f4, e6, e7, e8]
            exact Ret.same (Nat.le_refl _) hk
        · have e7 : ¬ (cc : Int) = 0 := by omega
          by_cases hodd : Z % 2 = 1
          · rw [if_pos hodd] at hbd
            have e6 : (Z : Int) % 2 = 1 := by omega
            simp (disch := first | omega | (simp only [go_sem]; first | done | omega)) only [go_sem, hlt, e1, e2, f2, hz, e3, f1, hcc, f3, f4, e6, e7]
            refine out_a _ _ _ _ _ ?_
            simp (disch := first | omega | (simp only [go_sem]; first | done | omega)) only [go_sem, hlt, e1, e2, f2, hz, e3, f1, hcc, f3, f4, e6, e7]
            exact Ret.same (Nat.le_refl _) (fin (.inr (by omega)) _ (by omega))
          · rw [if_neg hodd] at hbd
            have e6 : ¬ (Z : Int) % 2 = 1 := by omega
            simp (disch := first | omega | (simp only [go_sem]; first | done | omega)) only [go_sem, hlt, e1, e2, f2, hz, e3, f1, hcc, f3, f4, e6, e7]
            refine out_a _ _ _ _ _ ?_
            simp (disch := first | omega | (simp only [go_sem]; first | done | omega)) only [go_sem, hlt, e1, e2, f2, hz, e3, f1, hcc, f3, f4, e6, e7]
            exact Ret.same (Nat.le_refl _) (fin (.inr (by omega)) _ (by omega))
  · have hn : uvR l p = none := by unfold uvR; rw [unv_none (uv_out _ j q (by rw [List.length_drop]; omega) hu)]; rfl
    have hk := hk0 hn 0 0
    simp (disch := first | omega | (simp only [go_sem]; first | done | omega)) only [go_sem, hlt]
    exact Ret.same (Nat.le_refl _) hk
end Go.Proofs.YtnodfnjmhcjnfaaGreatDoor
