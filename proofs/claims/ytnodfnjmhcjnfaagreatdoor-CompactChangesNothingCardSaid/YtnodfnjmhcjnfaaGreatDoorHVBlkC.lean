/- How many samples a file's blocks hold, and that these are right. No program in sight. -/
import Derived.Test.YtnodfnjmhcjnfaaGreatDoorHVQry
namespace Go.Proofs.YtnodfnjmhcjnfaaGreatDoor
open Go Go.RowKit
set_option maxRecDepth 100000
set_option linter.all false
theorem smps_adv {l : List UInt8} : ∀ (k p : Nat) (s : Smp) (ss : List Smp) (e : Nat), smps l k p s = some (ss, e) → p + k ≤ e
  | 0, p, s, ss, e, h => by
    simp only [smps, Option.some.injEq, Prod.mk.injEq] at h
    omega
  | k + 1, p, s, ss, e, h => by
    unfold smps at h
    split at h
    · cases h
    · rename_i a p1 h1
      split at h
      · cases h
      · rename_i v p2 h2
        split at h
        · cases h
        · rename_i q p3 h3
          obtain ⟨r, h4, h5⟩ := Option.map_eq_some_iff.1 h
          obtain ⟨r1, r2⟩ := r
          simp only [Prod.mk.injEq] at h5
          obtain ⟨_, rfl⟩ := h5
          have g := smps_adv k p3 _ r1 r2 h4
          have b1 := (unvarint_le h1).1
          have b2 := (unvarint_le h2).1
          have b3 := (unvarint_le h3).1
          omega
theorem decP_adv {l : List UInt8} {p : Nat} {kind : UInt8} {tag : ByteArray} {ss : List Smp} {e : Nat} (h : decP l p = some (kind, tag, ss, e)) : p + ss.length ≤ e := by
  unfold decP at h
  split at h
  · cases h
  · split at h
    · cases h
    · rename_i n x h1
      split at h
      · cases h
      · split at h
        · cases h
        · rename_i m y h2
          split at h
          · cases h
          · split at h
            · cases h
            · rename_i ss' e' h3
              split at h
              · cases h
              · simp only [Option.some.injEq, Prod.mk.injEq] at h
                obtain ⟨_, _, rfl, rfl⟩ := h
                have g := smps_adv _ _ _ _ _ h3
                have g2 := (smps_len _ _ _ _ _ h3).1
                have b1 := (unvarint_le h1).1
                have b2 := (unvarint_le h2).1
                omega
theorem decRes_cnt {l : List UInt8} {p : Nat} (h : (decRes l p).2.2 = 0) : ((decRes l p).2.1.length : Int) ≤ (decRes l p).1.long := by
  unfold decRes at h ⊢
  split at h
  · cases h
  rename_i g0
  rw [if_neg g0]
  split at h
  · cases h
  rename_i g1
  rw [if_neg g1]
  split at h
  · cases h
  rename_i kind tag ss e hd
  have g := decP_adv hd
  split at h
  · cases h
  rename_i g2
  split at h
  · cases h
  rename_i g3
  split at h
  · rename_i g4; exact absurd h g4
  rename_i g4
  rw [if_neg g2, if_neg g3, if_neg g4]
  dsimp only
  omega
def ssL (ps : List Pc) : Nat := (ps.flatMap fun x => x.ss).length
theorem ssL_app (a b : List Pc) : ssL (a ++ b) = ssL a + ssL b := by unfold ssL; rw [List.flatMap_append, List.length_append]
theorem ssL_one (x : Pc) : ssL [x] = x.ss.length := by unfold ssL; simp
theorem par_cnt {l : List UInt8} (hl : l.length ≤ 200000) : ∀ (n p : Nat) (acc : List Pc), l.length - p ≤ n → p ≤ l.length → p ≤ (parG l p acc).2.1 ∧ ssL (parG l p acc).1 ≤ ssL acc + ((parG l p acc).2.1 - p) := by
  intro n
  induction n with
  | zero =>
    intro p acc hn hp
    rw [parG_end acc (by omega)]
    exact ⟨Nat.le_refl _, by dsimp only; omega⟩
  | succ n ih =>
    intro p acc hn hp
    by_cases hlt : p < l.length
    case neg =>
      rw [parG_end acc (by omega)]
      exact ⟨Nat.le_refl _, by dsimp only; omega⟩
    rw [parG_step acc hlt]
    by_cases h0 : (decTop l p).2.2 = 0
    case neg => rw [if_pos h0]; exact ⟨Nat.le_refl _, by dsimp only; omega⟩
    rw [if_neg (by simpa using h0)]
    by_cases h1 : foll acc (decTop l p).1 = false
    case pos => rw [if_pos h1]; exact ⟨Nat.le_refl _, by dsimp only; omega⟩
    rw [if_neg h1]
    have hok := decTop_ok h0
    have hdt := decTop_in hl hp
    have hc := decRes_cnt (l := l) (p := p) (by rw [← hdt]; exact h0)
    rw [← hdt] at hc
    obtain ⟨i1, i2⟩ := ih (p + (decTop l p).1.long.toNat) (acc ++ [⟨(decTop l p).1, (decTop l p).2.1⟩]) (by omega) (by omega)
    rw [ssL_app, ssL_one] at i2
    dsimp only at i2
    omega
theorem par_good {l : List UInt8} (h : (par l).2.2 = 0) : chainP 0 (par l).1 l.length ∧ ssL (par l).1 ≤ 200000 ∧ (par l).1.length ≤ 200000 ∧ ∀ x ∈ (par l).1, serF x.ss = 0 ∧ isKey x.b.tag ∧ 1 ≤ x.ss.length := by
  have hl := par_small h
  have hpl := par_len l
  rw [par_G hl] at h hpl ⊢
  obtain ⟨B, h1, h2, h3, h4⟩ := par_chain hl l.length 0 [] (by omega) (by omega)
  obtain ⟨h5, h6⟩ := par_cnt hl l.length 0 [] (by omega) (by omega)
  rw [List.nil_append] at h1
  rw [h4 h] at h2 h6
  rw [← h1] at h2
  refine ⟨h2, ?_, by omega, fun x hx => ?_⟩
  · have : ssL ([] : List Pc) = 0 := rfl
    omega
  · have := (chainP_all _ _ _ h2).2 x hx
    exact ⟨this.2.2.2.2.1, this.2.2.2.2.2.1, this.2.2.2.2.2.2⟩
theorem par_smOk {l : List UInt8} (h : (par l).2.2 = 0) : ∀ x ∈ (par l).1, ∀ y ∈ x.ss, smOk y := by
  intro x hx y hy
  have h1 := (par_good h).2.2.2 x hx
  have h2 := smp_ok ((serF_ok h1.1).2 y hy)
  exact ⟨by omega, by omega⟩
end Go.Proofs.YtnodfnjmhcjnfaaGreatDoor
