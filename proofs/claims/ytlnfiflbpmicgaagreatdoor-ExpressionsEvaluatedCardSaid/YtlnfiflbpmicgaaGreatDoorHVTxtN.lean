/- Decimal numbers as text, there and back. No program in sight. -/
import Derived.Lib.ItoaNum
import Derived.Lib.Atoi
import Derived.Test.YtlnfiflbpmicgaaGreatDoorHCoreC
set_option linter.all false
namespace Go.Proofs.YtlnfiflbpmicgaaGreatDoor
open Go Go.RowKit
set_option maxRecDepth 100000
set_option maxHeartbeats 1000000
theorem dig_val {d : Nat} (h : d < 10) : Lib.digitVal (UInt8.ofNat (48 + d)) = some d := by
  have e : (UInt8.ofNat (48 + d)).toNat = 48 + d := by rw [UInt8.toNat_ofNat']; omega
  unfold Lib.digitVal
  rw [e, if_pos (by omega)]
  congr 1
  omega
theorem dig_inv {b : UInt8} {d : Nat} (h : Lib.digitVal b = some d) : d < 10 ∧ b = UInt8.ofNat (48 + d) := by
  unfold Lib.digitVal at h
  split at h
  · injection h with h
    refine ⟨by omega, ?_⟩
    rw [← h, show 48 + (b.toNat - 48) = b.toNat by omega]
    exact (UInt8.ofNat_toNat).symm
  · cases h
theorem head_app {α : Type} {t : List α} (b : List α) (h : t ≠ []) : (t ++ b).head? = t.head? := by
  cases t with
  | nil => exact absurd rfl h
  | cons x r => rfl
theorem dig0 : Lib.decDigits 0 = [48] := by rw [Lib.decDigits, dif_pos (by omega)]; rfl
def digB (l : List UInt8) : Bool := l.all fun b => (Lib.digitVal b).isSome
theorem decFrom_all : ∀ (l : List UInt8) (acc : Nat), digB l = true → ∃ v, Lib.decFrom acc l = some v
  | [], acc, _ => ⟨acc, rfl⟩
  | b :: r, acc, h => by
    unfold digB at h
    rw [List.all_cons, Bool.and_eq_true] at h
    obtain ⟨d, hd⟩ := Option.isSome_iff_exists.1 h.1
    obtain ⟨v, hv⟩ := decFrom_all r (acc * 10 + d) h.2
    exact ⟨v, by rw [Lib.decFrom, hd]; exact hv⟩
theorem decFrom_snoc : ∀ (l : List UInt8) (b : UInt8) (acc : Nat), Lib.decFrom acc (l ++ [b]) = (Lib.decFrom acc l).bind fun v => (Lib.digitVal b).map fun d => v * 10 + d
  | [], b, acc => by
    show Lib.decFrom acc [b] = _
    unfold Lib.decFrom
    cases Lib.digitVal b <;> rfl
  | a :: l, b, acc => by
    rw [List.cons_append, Lib.decFrom, Lib.decFrom]
    cases Lib.digitVal a with
    | none => rfl
    | some d => exact decFrom_snoc l b _
theorem decFrom_lt : ∀ (l : List UInt8) (acc v : Nat), Lib.decFrom acc l = some v → v < (acc + 1) * 10 ^ l.length
  | [], acc, v, h => by
    injection h with h
    simp
    omega
  | b :: r, acc, v, h => by
    unfold Lib.decFrom at h
    split at h
    · rename_i d hd
      have h1 := decFrom_lt r _ _ h
      have h2 := (dig_inv hd).1
      have h3 : (acc * 10 + d + 1) * 10 ^ r.length ≤ ((acc + 1) * 10) * 10 ^ r.length := Nat.mul_le_mul_right _ (by omega)
      rw [List.length_cons, Nat.pow_succ, Nat.mul_comm (10 ^ r.length) 10, ← Nat.mul_assoc]
      omega
    · cases h
theorem dec_back : ∀ (n : Nat) (l : List UInt8) (v : Nat), l.length = n → l ≠ [] → Lib.decFrom 0 l = some v → (1 < l.length → l.head? ≠ some 48) → Lib.decDigits v = l ∧ (1 < l.length → 1 ≤ v)
  | 0, l, v, hn, hne, _, _ => absurd (List.length_eq_zero_iff.1 hn) hne
  | n + 1, l, v, hn, hne, h, h0 => by
    obtain ⟨t, b, rfl⟩ : ∃ t b, l = t ++ [b] := ⟨l.dropLast, l.getLast hne, (List.dropLast_concat_getLast hne).symm⟩
    rw [decFrom_snoc] at h
    obtain ⟨u, hu, h⟩ := Option.bind_eq_some_iff.1 h
    obtain ⟨d, hd, rfl⟩ := Option.map_eq_some_iff.1 h
    obtain ⟨d1, d2⟩ := dig_inv hd
    by_cases ht : t = []
    · subst ht
      injection hu with hu
      subst hu
      rw [Nat.zero_mul, Nat.zero_add, Lib.decDigits, dif_pos d1, ← d2]
      exact ⟨rfl, fun h => by simp at h⟩
    · have htl : t.length = n := by simpa using hn
      have htl0 : 0 < t.length := List.length_pos_iff.2 ht
      have hh : t.head? ≠ some 48 := by
        have := h0 (by rw [List.length_append]; simp; omega)
        rwa [head_app _ ht] at this
      have ih := dec_back n t u htl ht hu (fun _ => hh)
      have hu1 : 1 ≤ u := by
        by_cases h1 : 1 < t.length
        · exact ih.2 h1
        · obtain ⟨c, rfl⟩ : ∃ c, t = [c] := by
            match t, htl0, h1 with
            | [c], _, _ => exact ⟨c, rfl⟩
            | _ :: _ :: _, _, h1 => simp at h1
          have hc : Lib.decFrom 0 [c] = some u := hu
          unfold Lib.decFrom at hc
          split at hc
          · rename_i e he
            have h2 : 0 * 10 + e = u := by injection hc
            obtain ⟨e1, e2⟩ := dig_inv he
            rcases Nat.eq_zero_or_pos e with h3 | h3
            · subst h3
              exact absurd (by rw [e2]; rfl) hh
            · omega
          · cases hc
      refine ⟨?_, fun _ => by omega⟩
      rw [Lib.decDigits, dif_neg (by omega), show (u * 10 + d) / 10 = u by omega, show (u * 10 + d) % 10 = d by omega, ih.1, ← d2]
theorem dec_dig : ∀ (n u : Nat), u ≤ n → digB (Lib.decDigits u) = true ∧ Lib.decDigits u ≠ [] ∧ Lib.decFrom 0 (Lib.decDigits u) = some u ∧ ((Lib.decDigits u).head? = some 48 → u = 0)
  | n, u, h => by
    rw [Lib.decDigits]
    split
    · rename_i h1
      refine ⟨?_, by simp, ?_, fun h2 => ?_⟩
      · show ((Lib.digitVal (UInt8.ofNat (48 + u))).isSome && true) = true
        rw [dig_val h1]; rfl
      · show Lib.decFrom 0 [UInt8.ofNat (48 + u)] = some u
        unfold Lib.decFrom
        rw [dig_val h1]
        show some (0 * 10 + u) = some u
        rw [Nat.zero_mul, Nat.zero_add]
      · simp only [List.head?_cons, Option.some.injEq] at h2
        have := congrArg UInt8.toNat h2
        rw [UInt8.toNat_ofNat'] at this
        have h4 : (48 : UInt8).toNat = 48 := rfl
        omega
    · rename_i h1
      match n, h with
      | 0, h => omega
      | n + 1, h =>
        obtain ⟨g1, g2, g3, g4⟩ := dec_dig n (u / 10) (by omega)
        refine ⟨?_, by simp, ?_, fun h2 => ?_⟩
        · unfold digB at g1 ⊢
          rw [List.all_append, g1]
          show (true && ((Lib.digitVal (UInt8.ofNat (48 + u % 10))).isSome && true)) = true
          rw [dig_val (show u % 10 < 10 by omega)]; rfl
        · rw [decFrom_snoc, g3, dig_val (by omega)]
          show some (u / 10 * 10 + u % 10) = some u
          congr 1
          omega
        · rw [head_app _ g2] at h2
          have := g4 h2
          omega
def numF (l : List UInt8) (most : Nat) : Option Int :=
  if (if l.head? = some 45 then l.tail else l) = [] ∨ most < (if l.head? = some 45 then l.tail else l).length then none
  else if (if l.head? = some 45 then l.tail else l).head? = some 48 ∧ (1 < (if l.head? = some 45 then l.tail else l).length ∨ (if l.head? = some 45 then l.tail else l).length < l.length) then none
  else if digB (if l.head? = some 45 then l.tail else l) = true then Lib.atoi l else none
def stripF (l : List UInt8) : List UInt8 := if l.head? = some 45 then l.tail else l
theorem numF_eq (l : List UInt8) (most : Nat) : numF l most = if stripF l = [] ∨ most < (stripF l).length then none else if (stripF l).head? = some 48 ∧ (1 < (stripF l).length ∨ (stripF l).length < l.length) then none else if digB (stripF l) = true then Lib.atoi l else none := rfl
theorem strip_neg (t : List UInt8) : stripF (45 :: t) = t := by simp [stripF]
theorem strip_pos {l : List UInt8} (h : l.head? ≠ some 45) : stripF l = l := by unfold stripF; rw [if_neg h]
theorem dig_head {l : List UInt8} (h : digB l = true) : l.head? ≠ some 45 ∧ l.head? ≠ some 43 := by
  cases l with
  | nil => simp
  | cons b r =>
    unfold digB at h
    rw [List.all_cons, Bool.and_eq_true] at h
    obtain ⟨d, hd⟩ := Option.isSome_iff_exists.1 h.1
    obtain ⟨h1, rfl⟩ := dig_inv hd
    have e : (UInt8.ofNat (48 + d)).toNat = 48 + d := by rw [UInt8.toNat_ofNat']; omega
    constructor
    · intro h2
      simp only [List.head?_cons, Option.some.injEq] at h2
      rw [h2] at e
      have : (45 : UInt8).toNat = 45 := rfl
      omega
    · intro h2
      simp only [List.head?_cons, Option.some.injEq] at h2
      rw [h2] at e
      have : (43 : UInt8).toNat = 43 := rfl
      omega
theorem atoi_dig {l : List UInt8} (hd : digB (stripF l) = true) (hne : stripF l ≠ []) : ∃ v : Nat, Lib.decFrom 0 (stripF l) = some v ∧ Lib.atoi l = some (if l.head? = some 45 then -(v : Int) else v) := by
  obtain ⟨v, hv⟩ := decFrom_all (stripF l) 0 hd
  refine ⟨v, hv, ?_⟩
  have hnat : Lib.decNat (stripF l) = some v := by
    unfold Lib.decNat
    rw [if_neg (by simpa using hne)]
    exact hv
  cases l with
  | nil => exact absurd rfl hne
  | cons b r =>
    by_cases hb : b = 45
    · subst hb
      rw [strip_neg] at hnat
      rw [if_pos (show (45 :: r : List UInt8).head? = some 45 from rfl)]
      show (if ((45 : UInt8) == 45) = true then (Lib.decNat r).map fun (m : Nat) => -(m : Int) else if ((45 : UInt8) == 43) = true then (Lib.decNat r).map fun (m : Nat) => (m : Int) else (Lib.decNat (45 :: r)).map fun (m : Nat) => (m : Int)) = _
      rw [if_pos (by decide), hnat]
      rfl
    · have hh : (b :: r).head? ≠ some 45 := by simpa using hb
      rw [if_neg hh]
      rw [strip_pos hh] at hnat hd
      have h43 := (dig_head hd).2
      show (if (b == 45) = true then (Lib.decNat r).map fun (m : Nat) => -(m : Int) else if (b == 43) = true then (Lib.decNat r).map fun (m : Nat) => (m : Int) else (Lib.decNat (b :: r)).map fun (m : Nat) => (m : Int)) = _
      rw [if_neg (by simpa using hb), if_neg (by simpa using h43), hnat]
      rfl
theorem atoi_bd {l : List UInt8} (hd : digB (stripF l) = true) (hne : stripF l ≠ []) (hl : (stripF l).length ≤ 15) : ∃ n : Int, Lib.atoi l = some n ∧ -1000000000000000 < n ∧ n < 1000000000000000 := by
  obtain ⟨v, h1, h2⟩ := atoi_dig hd hne
  have h3 := decFrom_lt _ _ _ h1
  have h4 : 10 ^ (stripF l).length ≤ 10 ^ 15 := Nat.pow_le_pow_right (by omega) hl
  refine ⟨_, h2, ?_⟩
  split <;> omega
theorem itoa_back {l : List UInt8} {n : Int} (hd : digB (stripF l) = true) (hne : stripF l ≠ []) (hn : Lib.atoi l = some n) : Lib.itoa n = l ↔ ¬ ((stripF l).head? = some 48 ∧ (1 < (stripF l).length ∨ (stripF l).length < l.length)) := by
  obtain ⟨v, h1, h2⟩ := atoi_dig hd hne
  rw [hn] at h2
  injection h2 with h2
  obtain ⟨g1, g2, g3, g4⟩ := dec_dig v v (Nat.le_refl _)
  have hback := dec_back _ (stripF l) v rfl hne h1
  by_cases hm : l.head? = some 45
  · obtain ⟨t, rfl⟩ : ∃ t, l = 45 :: t := by
      cases l with
      | nil => cases hm
      | cons b r => simp only [List.head?_cons, Option.some.injEq] at hm; exact ⟨r, by rw [hm]⟩
    rw [if_pos hm] at h2
    rw [strip_neg] at *
    subst h2
    have hlt : t.length < (45 :: t).length := by simp
    by_cases hv : v = 0
    · subst hv
      constructor
      · intro e
        have e2 : Lib.itoa (-((0 : Nat) : Int)) = [48] := by unfold Lib.itoa; rw [if_neg (by decide)]; exact dig0
        rw [e2] at e
        cases e
      · intro h
        exfalso
        by_cases h5 : 1 < t.length
        · by_cases h6 : t.head? = some 48
          · exact h ⟨h6, .inl h5⟩
          · have := (hback (fun _ => h6)).2 h5
            omega
        · have := (hback (fun h => absurd h h5)).1
          rw [dig0] at this
          exact h ⟨by rw [← this]; rfl, .inr hlt⟩
    · have e : Lib.itoa (-(v : Int)) = 45 :: Lib.decDigits v := by
        unfold Lib.itoa
        rw [if_pos (by omega)]
        congr 2
        omega
      rw [e]
      constructor
      · intro h h7
        simp only [List.cons.injEq, true_and] at h
        rw [← h] at h7
        exact hv (g4 h7.1)
      · intro h
        have h8 : t.head? ≠ some 48 := fun h6 => h ⟨h6, .inr hlt⟩
        rw [(hback (fun _ => h8)).1]
  · rw [if_neg hm] at h2
    rw [strip_pos hm] at *
    subst h2
    have e : Lib.itoa (v : Int) = Lib.decDigits v := by
      unfold Lib.itoa
      rw [if_neg (by omega)]
      rfl
    rw [e]
    constructor
    · intro h h7
      rcases h7 with ⟨h7, h8 | h8⟩
      · rw [← h] at h7
        have hv := g4 h7
        subst hv
        rw [← h, dig0] at h8
        simp at h8
      · omega
    · intro h
      exact (hback (fun h9 h10 => h ⟨h10, .inl h9⟩)).1
end Go.Proofs.YtlnfiflbpmicgaaGreatDoor
