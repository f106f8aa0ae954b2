/- Numbers of any length that a machine holds, read back. -/
import Derived.Test.YtebhpfhichdgaaaGreatDoorHVAtoi
import Derived.Test.YtebhpfhichdgaaaGreatDoorHVTxtP
import Derived.Test.YtebhpfhichdgaaaGreatDoorHVTxtQ
namespace Go.Proofs.YtebhpfhichdgaaaGreatDoor
open Go Go.RowKit
set_option maxRecDepth 100000
set_option linter.all false
set_option maxHeartbeats 2000000
variable {H : Hp} {K : AV → Hp → Prop}
def rdN (l : List UInt8) : Option Int := match Lib.atoiAll l with
  | .ok v => if Lib.itoa v = l then some v else none
  | _ => none
theorem uint_dec : ∀ (d : List UInt8) (acc u : Nat), Lib.parseUint10 acc d = .ok u → Lib.decFrom acc d = some u
  | [], acc, u, h => by
    unfold Lib.parseUint10 at h
    injection h with h
    rw [← h]; rfl
  | c :: r, acc, u, h => by
    unfold Lib.parseUint10 at h
    split at h
    · rename_i hc
      split at h
      · cases h
      · split at h
        · cases h
        · have := uint_dec r _ u h
          unfold Lib.decFrom Lib.digitVal
          rw [if_pos hc]
          exact this
    · cases h
theorem mag_dec {d : List UInt8} {u : Nat} (h : Lib.parseMag d = .ok u) : d ≠ [] ∧ Lib.decFrom 0 d = some u := by
  unfold Lib.parseMag at h
  split at h
  · cases h
  · exact ⟨by assumption, uint_dec d 0 u h⟩
theorem all_atoi {l : List UInt8} {v : Int} (h : Lib.atoiAll l = .ok v) : Lib.atoi l = some v ∧ -9223372036854775808 ≤ v ∧ v ≤ 9223372036854775807 := by
  cases l with
  | nil => cases h
  | cons c r =>
    unfold Lib.atoiAll at h
    dsimp only at h
    have h45 : (c == 45) = decide (c.toNat = 45) := by
      rw [Bool.eq_iff_iff, beq_iff_eq, decide_eq_true_eq]
      exact ⟨fun e => by rw [e]; rfl, fun e => UInt8.toNat_inj.1 (by rw [e]; rfl)⟩
    have h43 : (c == 43) = decide (c.toNat = 43) := by
      rw [Bool.eq_iff_iff, beq_iff_eq, decide_eq_true_eq]
      exact ⟨fun e => by rw [e]; rfl, fun e => UInt8.toNat_inj.1 (by rw [e]; rfl)⟩
    unfold Lib.atoi
    dsimp only
    rw [h45, h43]
    split at h
    · cases h
    · cases h
    · rename_i u hu
      obtain ⟨g1, g2⟩ := mag_dec hu
      have hn : ∀ t, t ≠ [] → Lib.decFrom 0 t = some u → Lib.decNat t = some u := fun t ht h => by
        unfold Lib.decNat
        rw [if_neg (by simpa using ht)]
        exact h
      split at h
      · cases h
      · split at h
        · cases h
        · injection h with h
          rename_i k1 k2
          by_cases e1 : c.toNat = 45
          · rw [if_pos (by simpa using e1)]
            rw [if_pos (.inr e1)] at g1 g2
            rw [if_pos e1] at h
            rw [hn r g1 g2]
            refine ⟨?_, ?_⟩
            · rw [← h]; rfl
            · omega
          · rw [if_neg (by simpa using e1)]
            rw [if_neg e1] at h
            by_cases e2 : c.toNat = 43
            · rw [if_pos (by simpa using e2)]
              rw [if_pos (.inl e2)] at g1 g2
              rw [hn r g1 g2]
              refine ⟨?_, ?_⟩
              · rw [← h]; rfl
              · omega
            · rw [if_neg (by simpa using e2)]
              rw [if_neg (fun e => e.elim e2 e1)] at g1 g2
              rw [hn _ g1 g2]
              refine ⟨?_, ?_⟩
              · rw [← h]; rfl
              · omega
theorem rdN_eq (l : List UInt8) : rdN l = if stripF l = [] ∨ 19 < (stripF l).length then none else if (stripF l).head? = some 48 ∧ (1 < (stripF l).length ∨ (stripF l).length < l.length) then none else if digB (stripF l) = true then (match Lib.atoiAll l with | .ok v => some v | _ => none) else none := by
  have key : ∀ v, rdN l = some v → Lib.atoiAll l = .ok v ∧ Lib.itoa v = l := fun v h => by
    unfold rdN at h
    split at h
    · split at h
      · injection h with h
        subst h
        exact ⟨by assumption, by assumption⟩
      · cases h
    · cases h
  have key2 : ∀ v, rdN l = some v → stripF l ≠ [] ∧ (stripF l).length ≤ 19 ∧ digB (stripF l) = true ∧ ¬ ((stripF l).head? = some 48 ∧ (1 < (stripF l).length ∨ (stripF l).length < l.length)) := fun v h => by
    obtain ⟨h1, h2⟩ := key v h
    obtain ⟨h3, h4, h5⟩ := all_atoi h1
    obtain ⟨g1, g2, g3, g4⟩ := dec_dig v.natAbs v.natAbs (Nat.le_refl _)
    obtain ⟨hst, hat⟩ := atoi_itoa v
    have hlen := dec_len 18 v.natAbs (by omega)
    have hb := (itoa_back (l := Lib.itoa v) (n := v) (by rw [hst]; exact g1) (by rw [hst]; exact g2) hat).1 rfl
    rw [h2] at hst hb
    exact ⟨by rw [hst]; exact g2, by rw [hst]; omega, by rw [hst]; exact g1, hb⟩
  by_cases c1 : stripF l = [] ∨ 19 < (stripF l).length
  · rw [if_pos c1]
    cases hr : rdN l with
    | none => rfl
    | some v =>
      obtain ⟨k1, k2, k3, k4⟩ := key2 v hr
      exact absurd c1 (fun e => e.elim k1 (by omega))
  rw [if_neg c1]
  by_cases c2 : (stripF l).head? = some 48 ∧ (1 < (stripF l).length ∨ (stripF l).length < l.length)
  · rw [if_pos c2]
    cases hr : rdN l with
    | none => rfl
    | some v => exact absurd c2 (key2 v hr).2.2.2
  rw [if_neg c2]
  by_cases c3 : digB (stripF l) = true
  · rw [if_pos c3]
    unfold rdN
    split
    · rename_i v hv
      have := (itoa_back c3 (fun e => c1 (.inl e)) (all_atoi hv).1).2 c2
      rw [if_pos this]
    · rfl
  · rw [if_neg c3]
    cases hr : rdN l with
    | none => rfl
    | some v => exact absurd (key2 v hr).2.2.1 c3
theorem num19_a (l : List UInt8) (hl : l.length ≤ 1000000) (hk : ∀ x : Int, (∀ v, rdN l = some v → x = v) → K (.tup [(.c (.int .i64 x)), (.c (.bool ((rdN l).isSome)))]) H) : ACalls Tryz.prog 171 [(.c (.str (tB l))), (.c (.int .i64 19))] H K := by
  have hs1 := strip_le l
  have hsz := tB_size l
  have hsd := tB_size (stripF l)
  have hk0 : rdN l = none → K (.tup [(.c (.int .i64 0)), (.c (.bool false))]) H := fun h => by
    have := hk 0 (fun v hv => by rw [h] at hv; cases hv)
    rw [h] at this
    exact this
  have heq := rdN_eq l
  refine acalls Tryz.func171 rfl (by kernel_rfl) (by simp (disch := first | omega | (simp only [go_sem]; first | done | omega)) only [go_sem]) (fun hH => ?_)
  simp (disch := first | omega | (simp only [go_sem]; first | done | omega)) only [go_sem]
  refine trimP_a l hl ?_
  generalize hd : stripF l = d at *
  by_cases h0 : d = []
  · rw [if_pos (.inl h0)] at heq
    simp (disch := first | omega | (simp only [go_sem]; first | done | omega)) only [go_sem, tB_nil, h0]
    exact Ret.same (Nat.le_refl _) (hk0 heq)
  have h0' : ¬ tB d = ⟨#[]⟩ := fun e => h0 (tB_nil.1 e)
  by_cases h1 : 19 < d.length
  · rw [if_pos (.inr h1)] at heq
    simp (disch := first | omega | (simp only [go_sem]; first | done | omega)) only [go_sem, h0', hsd, h1]
    exact Ret.same (Nat.le_refl _) (hk0 heq)
  rw [if_neg (fun e => e.elim h0 h1)] at heq
  have hpos : 0 < d.length := by cases d with | nil => exact absurd rfl h0 | cons x t => simp
  have hx : 0 < (tB d).size := by omega
  by_cases h2 : byteAt (tB d) 0 = 48
  · have hd48 := (head_byte h0).2 h2
    by_cases h3 : 1 < d.length
    · rw [if_pos ⟨hd48, .inl h3⟩] at heq
      simp (disch := first | omega | (simp only [go_sem]; first | done | omega)) only [go_sem, h0', hsd, h1, h2, h3]
      exact Ret.same (Nat.le_refl _) (hk0 heq)
    by_cases h4 : d.length < l.length
    · rw [if_pos ⟨hd48, .inr h4⟩] at heq
      simp (disch := first | omega | (simp only [go_sem]; first | done | omega)) only [go_sem, h0', hsd, hsz, h1, h2, h3, h4]
      exact Ret.same (Nat.le_refl _) (hk0 heq)
    rw [if_neg (fun e => e.2.elim h3 h4)] at heq
    simp (disch := first | omega | (simp only [go_sem]; first | done | omega)) only [go_sem, h0', hsd, hsz, h1, h2, h3, h4]
    refine AWp.loop (H.length) [0, 6, 38] [39] (fun (k : Nat) => k ≤ d.length ∧ ∀ i, i < k → 48 ≤ byteAt (tB d) i ∧ byteAt (tB d) i ≤ 57) (fun (k : Nat) => [(39, (.c (.int .i64 k)))]) (fun (k : Nat) => H) (fun (k : Nat) => d.length - k) (by kernel_rfl) (fun _ => rfl) (by kernel_rfl) (by first | (simp; done) | omega) (by first | (simp; done) | (simp; omega) | omega) kl ?_ (fun k hk1 _ _ => ?_)
    · exact Next.mk 0 ⟨by omega, fun i hi => by omega⟩ wk
    obtain ⟨hk1, hk2⟩ := hk1
    by_cases hlt : k < d.length
    · have hc := byteAt_bd (tB d) k
      have hlt' : k < (tB d).size := by omega
      by_cases hkey : 48 ≤ byteAt (tB d) k ∧ byteAt (tB d) k ≤ 57
      · have hside : (k + 1 ≤ d.length ∧ ∀ i, i < k + 1 → 48 ≤ byteAt (tB d) i ∧ byteAt (tB d) i ≤ 57) ∧ d.length - (k + 1) < d.length - k := by
          refine ⟨⟨by omega, fun i hi => ?_⟩, by omega⟩
          rcases Nat.lt_or_ge i k with h | h
          · exact hk2 i h
          · obtain rfl : i = k := by omega
            exact hkey
        have hc1 : ¬ byteAt (tB d) k < 48 := by omega
        have hc2 : ¬ 57 < byteAt (tB d) k := by omega
        simp (disch := first | omega | (simp only [go_sem]; first | done | omega)) only [go_sem, hsd, hlt, hlt', hc1, hc2]
        exact Next.mk (k + 1) hside wk
      · rw [if_neg (fun e => hkey ((digB_iff d).1 e k hlt))] at heq
        by_cases hc1 : byteAt (tB d) k < 48
        · simp (disch := first | omega | (simp only [go_sem]; first | done | omega)) only [go_sem, hsd, hlt, hlt', hc1]
          exact Ret.same (Nat.le_refl _) (hk0 heq)
        have hc2 : 57 < byteAt (tB d) k := by omega
        simp (disch := first | omega | (simp only [go_sem]; first | done | omega)) only [go_sem, hsd, hlt, hlt', hc1, hc2]
        exact Ret.same (Nat.le_refl _) (hk0 heq)
    · have hdig : digB d = true := (digB_iff d).2 (fun i hi => hk2 i (by omega))
      rw [if_pos hdig] at heq
      simp (disch := first | omega | (simp only [go_sem]; first | done | omega)) only [go_sem, hsd, hlt]
      refine atoiAny_a (tB l) (by omega) (fun v hv => ?_) (fun hv x => ?_)
      · rw [show (tB l).data.toList = l from tL_tB l] at hv
        rw [hv] at heq
        have := hk v (fun u hu => by rw [heq] at hu; injection hu)
        rw [heq] at this
        simp (disch := first | omega | (simp only [go_sem]; first | done | omega)) only [go_sem]
        refine w_draw (by kernel_rfl) (by decide +kernel) ?_
        simp (disch := first | omega | (simp only [go_sem]; first | done | omega)) only [go_sem]
        exact Ret.same (Nat.le_refl _) this
      · rw [show (tB l).data.toList = l from tL_tB l] at hv
        have hno : rdN l = none := by
          rw [heq]
          split
          · rename_i v h; exact absurd h (hv v)
          · rfl
        have := hk x (fun u hu => by rw [hno] at hu; cases hu)
        rw [hno] at this
        simp (disch := first | omega | (simp only [go_sem]; first | done | omega)) only [go_sem]
        refine w_draw (by kernel_rfl) (by decide +kernel) ?_
        simp (disch := first | omega | (simp only [go_sem]; first | done | omega)) only [go_sem]
        exact Ret.same (Nat.le_refl _) this
  · rw [if_neg (fun e => h2 ((head_byte h0).1 e.1))] at heq
    simp (disch := first | omega | (simp only [go_sem]; first | done | omega)) only [go_sem, h0', hsd, h1, h2]
    refine AWp.loop (H.length) [0, 6, 38] [39] (fun (k : Nat) => k ≤ d.length ∧ ∀ i, i < k → 48 ≤ byteAt (tB d) i ∧ byteAt (tB d) i ≤ 57) (fun (k : Nat) => [(39, (.c (.int .i64 k)))]) (fun (k : Nat) => H) (fun (k : Nat) => d.length - k) (by kernel_rfl) (fun _ => rfl) (by kernel_rfl) (by first | (simp; done) | omega) (by first | (simp; done) | (simp; omega) | omega) kl ?_ (fun k hk1 _ _ => ?_)
    · exact Next.mk 0 ⟨by omega, fun i hi => by omega⟩ wk
    obtain ⟨hk1, hk2⟩ := hk1
    by_cases hlt : k < d.length
    · have hc := byteAt_bd (tB d) k
      have hlt' : k < (tB d).size := by omega
      by_cases hkey : 48 ≤ byteAt (tB d) k ∧ byteAt (tB d) k ≤ 57
      · have hside : (k + 1 ≤ d.length ∧ ∀ i, i < k + 1 → 48 ≤ byteAt (tB d) i ∧ byteAt (tB d) i ≤ 57) ∧ d.length - (k + 1) < d.length - k := by
          refine ⟨⟨by omega, fun i hi => ?_⟩, by omega⟩
          rcases Nat.lt_or_ge i k with h | h
          · exact hk2 i h
          · obtain rfl : i = k := by omega
            exact hkey
        have hc1 : ¬ byteAt (tB d) k < 48 := by omega
        have hc2 : ¬ 57 < byteAt (tB d) k := by omega
        simp (disch := first | omega | (simp only [go_sem]; first | done | omega)) only [go_sem, hsd, hlt, hlt', hc1, hc2]
        exact Next.mk (k + 1) hside wk
      · rw [if_neg (fun e => hkey ((digB_iff d).1 e k hlt))] at heq
        by_cases hc1 : byteAt (tB d) k < 48
        · simp (disch := first | omega | (simp only [go_sem]; first | done | omega)) only [go_sem, hsd, hlt, hlt', hc1]
          exact Ret.same (Nat.le_refl _) (hk0 heq)
        have hc2 : 57 < byteAt (tB d) k := by omega
        simp (disch := first | omega | (simp only [go_sem]; first | done | omega)) only [go_sem, hsd, hlt, hlt', hc1, hc2]
        exact Ret.same (Nat.le_refl _) (hk0 heq)
    · have hdig : digB d = true := (digB_iff d).2 (fun i hi => hk2 i (by omega))
      rw [if_pos hdig] at heq
      simp (disch := first | omega | (simp only [go_sem]; first | done | omega)) only [go_sem, hsd, hlt]
      refine atoiAny_a (tB l) (by omega) (fun v hv => ?_) (fun hv x => ?_)
      · rw [show (tB l).data.toList = l from tL_tB l] at hv
        rw [hv] at heq
        have := hk v (fun u hu => by rw [heq] at hu; injection hu)
        rw [heq] at this
        simp (disch := first | omega | (simp only [go_sem]; first | done | omega)) only [go_sem]
        refine w_draw (by kernel_rfl) (by decide +kernel) ?_
        simp (disch := first | omega | (simp only [go_sem]; first | done | omega)) only [go_sem]
        exact Ret.same (Nat.le_refl _) this
      · rw [show (tB l).data.toList = l from tL_tB l] at hv
        have hno : rdN l = none := by
          rw [heq]
          split
          · rename_i v h; exact absurd h (hv v)
          · rfl
        have := hk x (fun u hu => by rw [hno] at hu; cases hu)
        rw [hno] at this
        simp (disch := first | omega | (simp only [go_sem]; first | done | omega)) only [go_sem]
        refine w_draw (by kernel_rfl) (by decide +kernel) ?_
        simp (disch := first | omega | (simp only [go_sem]; first | done | omega)) only [go_sem]
        exact Ret.same (Nat.le_refl _) this
end Go.Proofs.YtebhpfhichdgaaaGreatDoor
