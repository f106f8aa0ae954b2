/- Several texts in one: Decimal numbers as text, there and back, and what follows. No condition. -/
import Derived.Lib.ItoaNum
import Derived.Lib.Atoi
import Derived.Test.YtagoolooikpabaaGreatDoorHCoreC
set_option linter.all false
namespace Go.Proofs.YtagoolooikpabaaGreatDoor
open Go Go.RowKit
set_option maxRecDepth 100000
set_option maxHeartbeats 1000000
theorem dig_val {d : Nat} (h : d < 10) : Lib.digitVal (UInt8.ofNat (48 + d)) = some d := by
 have e : (UInt8.ofNat (48 + d)).toNat = 48 + d := by rw [UInt8.toNat_ofNat']; omega
 unfold Lib.digitVal
 rw [e, if_pos oMg]
 congr 1
 omega
theorem dig_inv {b : UInt8} {d : Nat} (h : Lib.digitVal b = some d) : d < 10 ∧ b = UInt8.ofNat (48 + d) := by
 unfold Lib.digitVal at h
 split at h
 ·injection h with h
  refine ⟨by omega, ?_⟩
  rw [← h, show 48 + (b.toNat - 48) = b.toNat by omega]
  exact (UInt8.ofNat_toNat).symm
 ·cases h
theorem head_app {α : Type} {t : List α} (b : List α) (h : t ≠ []) : (t ++ b).head? = t.head? := by
 cases t with
 | nil => exact absurd rfl h
 | cons x r => rfl
theorem dig0 : Lib.decDigits 0 = [48] := by rw [Lib.decDigits, dif_pos oMg]; rfl
def digB (l : List UInt8) : Bool := l.all fun b => (Lib.digitVal b).isSome
theorem decFrom_all : ∀ (l : List UInt8) (acc : Nat), digB l = true → ∃ v, Lib.decFrom acc l = some v
 | [], acc, _ => ⟨acc, rfl⟩
 | b :: r, acc, h => by
  unfold digB at h
  rw [List.all_cons, Bool.and_eq_true] at h
  obtain ⟨d, hd⟩ := Option.isSome_iff_exists.1 h.1
  obtain ⟨v, hv⟩ := decFrom_all r (acc * 10 + d) h.2
  exact ⟨v, by rw [Lib.decFrom, hd]; exact hv⟩
theorem decFrom_snoc : ∀ (l : List UInt8) (b : UInt8) (acc : Nat), Lib.decFrom acc (l ++ [b]) = (Lib.decFrom acc l).bind fun v => (Lib.digitVal b).map fun d => v * 10 + d
 | [], b, acc => by
  show Lib.decFrom acc [b] = _
  unfold Lib.decFrom
  cases Lib.digitVal b <;> rfl
 | a :: l, b, acc => by
  rw [List.cons_append, Lib.decFrom, Lib.decFrom]
  cases Lib.digitVal a with
  | none => rfl
  | some d => exact decFrom_snoc l b _
theorem decFrom_lt : ∀ (l : List UInt8) (acc v : Nat), Lib.decFrom acc l = some v → v < (acc + 1) * 10 ^ l.length
 | [], acc, v, h => by
  injection h with h
  simp
  omega
 | b :: r, acc, v, h => by
  unfold Lib.decFrom at h
  split at h
  ·rename_i d hd
   have h1 := decFrom_lt r _ _ h
   have h2 := (dig_inv hd).1
   have h3 : (acc * 10 + d + 1) * 10 ^ r.length ≤ ((acc + 1) * 10) * 10 ^ r.length := Nat.mul_le_mul_right _ oMg
   rw [List.length_cons, Nat.pow_succ, Nat.mul_comm (10 ^ r.length) 10, ← Nat.mul_assoc]
   omega
  ·cases h
theorem dec_back : ∀ (n : Nat) (l : List UInt8) (v : Nat), l.length = n → l ≠ [] → Lib.decFrom 0 l = some v → (1 < l.length → l.head? ≠ some 48) → Lib.decDigits v = l ∧ (1 < l.length → 1 ≤ v)
 | 0, l, v, hn, hne, _, _ => absurd (List.length_eq_zero_iff.1 hn) hne
 | n + 1, l, v, hn, hne, h, h0 => by
  obtain ⟨t, b, rfl⟩ : ∃ t b, l = t ++ [b] := ⟨l.dropLast, l.getLast hne, (List.dropLast_concat_getLast hne).symm⟩
  rw [decFrom_snoc] at h
  obtain ⟨u, hu, h⟩ := Option.bind_eq_some_iff.1 h
  obtain ⟨d, hd, rfl⟩ := Option.map_eq_some_iff.1 h
  obtain ⟨d1, d2⟩ := dig_inv hd
  by_cases ht : t = []
  ·subst ht
   injection hu with hu
   subst hu
   rw [Nat.zero_mul, Nat.zero_add, Lib.decDigits, dif_pos d1, ← d2]
   exact ⟨rfl, fun h => by simp at h⟩
  ·have htl : t.length = n := by simpa using hn
   have htl0 : 0 < t.length := List.length_pos_iff.2 ht
   have hh : t.head? ≠ some 48 := by
    have := h0 (by rw [List.length_append]; simp; omega)
    rwa [head_app _ ht] at this
   have ih := dec_back n t u htl ht hu (fun _ => hh)
   have hu1 : 1 ≤ u := by
    by_cases h1 : 1 < t.length
    ·exact ih.2 h1
    ·obtain ⟨c, rfl⟩ : ∃ c, t = [c] := by
      match t, htl0, h1 with
      | [c], _, _ => exact ⟨c, rfl⟩
      | _ :: _ :: _, _, h1 => simp at h1
     have hc : Lib.decFrom 0 [c] = some u := hu
     unfold Lib.decFrom at hc
     split at hc
     ·rename_i e he
      have h2 : 0 * 10 + e = u := by injection hc
      obtain ⟨e1, e2⟩ := dig_inv he
      rcases Nat.eq_zero_or_pos e with h3 | h3
      ·subst h3
       exact absurd (by rw [e2]; rfl) hh
      ·omega
     ·cases hc
   refine ⟨?_, fun _ => by omega⟩
   rw [Lib.decDigits, dif_neg oMg, show (u * 10 + d) / 10 = u by omega, show (u * 10 + d) % 10 = d by omega, ih.1, ← d2]
theorem dec_dig : ∀ (n u : Nat), u ≤ n → digB (Lib.decDigits u) = true ∧ Lib.decDigits u ≠ [] ∧ Lib.decFrom 0 (Lib.decDigits u) = some u ∧ ((Lib.decDigits u).head? = some 48 → u = 0)
 | n, u, h => by
  rw [Lib.decDigits]
  split
  ·rename_i h1
   refine ⟨?_, by simp, ?_, fun h2 => ?_⟩
   ·show ((Lib.digitVal (UInt8.ofNat (48 + u))).isSome && true) = true
    rw [dig_val h1]; rfl
   ·show Lib.decFrom 0 [UInt8.ofNat (48 + u)] = some u
    unfold Lib.decFrom
    rw [dig_val h1]
    show some (0 * 10 + u) = some u
    rw [Nat.zero_mul, Nat.zero_add]
   ·simp only [List.head?_cons, Option.some.injEq] at h2
    have := congrArg UInt8.toNat h2
    rw [UInt8.toNat_ofNat'] at this
    have h4 : (48 : UInt8).toNat = 48 := rfl
    omega
  ·rename_i h1
   match n, h with
   | 0, h => omega
   | n + 1, h =>
    obtain ⟨g1, g2, g3, g4⟩ := dec_dig n (u / 10) oMg
    refine ⟨?_, by simp, ?_, fun h2 => ?_⟩
    ·unfold digB at g1 ⊢
     rw [List.all_append, g1]
     show (true && ((Lib.digitVal (UInt8.ofNat (48 + u % 10))).isSome && true)) = true
     rw [dig_val (show u % 10 < 10 by omega)]; rfl
    ·rw [decFrom_snoc, g3, dig_val oMg]
     show some (u / 10 * 10 + u % 10) = some u
     congr 1
     omega
    ·rw [head_app _ g2] at h2
     have := g4 h2
     omega
def numF (l : List UInt8) (most : Nat) : Option Int :=
 if (if l.head? = some 45 then l.tail else l) = [] ∨ most < (if l.head? = some 45 then l.tail else l).length then none
 else if (if l.head? = some 45 then l.tail else l).head? = some 48 ∧ (1 < (if l.head? = some 45 then l.tail else l).length ∨ (if l.head? = some 45 then l.tail else l).length < l.length) then none
 else if digB (if l.head? = some 45 then l.tail else l) = true then Lib.atoi l else none
def stripF (l : List UInt8) : List UInt8 := if l.head? = some 45 then l.tail else l
theorem numF_eq (l : List UInt8) (most : Nat) : numF l most = if stripF l = [] ∨ most < (stripF l).length then none else if (stripF l).head? = some 48 ∧ (1 < (stripF l).length ∨ (stripF l).length < l.length) then none else if digB (stripF l) = true then Lib.atoi l else none := rfl
theorem strip_neg (t : List UInt8) : stripF (45 :: t) = t := by simp [stripF]
theorem strip_pos {l : List UInt8} (h : l.head? ≠ some 45) : stripF l = l := by unfold stripF; rw [if_neg h]
theorem dig_head {l : List UInt8} (h : digB l = true) : l.head? ≠ some 45 ∧ l.head? ≠ some 43 := by
 cases l with
 | nil => simp
 | cons b r =>
  unfold digB at h
  rw [List.all_cons, Bool.and_eq_true] at h
  obtain ⟨d, hd⟩ := Option.isSome_iff_exists.1 h.1
  obtain ⟨h1, rfl⟩ := dig_inv hd
  have e : (UInt8.ofNat (48 + d)).toNat = 48 + d := by rw [UInt8.toNat_ofNat']; omega
  constructor
  ·intro h2
   simp only [List.head?_cons, Option.some.injEq] at h2
   rw [h2] at e
   have : (45 : UInt8).toNat = 45 := rfl
   omega
  ·intro h2
   simp only [List.head?_cons, Option.some.injEq] at h2
   rw [h2] at e
   have : (43 : UInt8).toNat = 43 := rfl
   omega
theorem atoi_dig {l : List UInt8} (hd : digB (stripF l) = true) (hne : stripF l ≠ []) : ∃ v : Nat, Lib.decFrom 0 (stripF l) = some v ∧ Lib.atoi l = some (if l.head? = some 45 then -(v : Int) else v) := by
 obtain ⟨v, hv⟩ := decFrom_all (stripF l) 0 hd
 refine ⟨v, hv, ?_⟩
 have hnat : Lib.decNat (stripF l) = some v := by
  unfold Lib.decNat
  rw [if_neg (by simpa using hne)]
  exact hv
 cases l with
 | nil => exact absurd rfl hne
 | cons b r =>
  by_cases hb : b = 45
  ·subst hb
   rw [strip_neg] at hnat
   rw [if_pos (show (45 :: r : List UInt8).head? = some 45 from rfl)]
   show (if ((45 : UInt8) == 45) = true then (Lib.decNat r).map fun (m : Nat) => -(m : Int) else if ((45 : UInt8) == 43) = true then (Lib.decNat r).map fun (m : Nat) => (m : Int) else (Lib.decNat (45 :: r)).map fun (m : Nat) => (m : Int)) = _
   rw [if_pos (by decide), hnat]
   rfl
  ·have hh : (b :: r).head? ≠ some 45 := by simpa using hb
   rw [if_neg hh]
   rw [strip_pos hh] at hnat hd
   have h43 := (dig_head hd).2
   show (if (b == 45) = true then (Lib.decNat r).map fun (m : Nat) => -(m : Int) else if (b == 43) = true then (Lib.decNat r).map fun (m : Nat) => (m : Int) else (Lib.decNat (b :: r)).map fun (m : Nat) => (m : Int)) = _
   rw [if_neg (by simpa using hb), if_neg (by simpa using h43), hnat]
   rfl
theorem atoi_bd {l : List UInt8} (hd : digB (stripF l) = true) (hne : stripF l ≠ []) (hl : (stripF l).length ≤ 15) : ∃ n : Int, Lib.atoi l = some n ∧ -1000000000000000 < n ∧ n < 1000000000000000 := by
 obtain ⟨v, h1, h2⟩ := atoi_dig hd hne
 have h3 := decFrom_lt _ _ _ h1
 have h4 : 10 ^ (stripF l).length ≤ 10 ^ 15 := Nat.pow_le_pow_right oMg hl
 refine ⟨_, h2, ?_⟩
 split <;> omega
theorem itoa_back {l : List UInt8} {n : Int} (hd : digB (stripF l) = true) (hne : stripF l ≠ []) (hn : Lib.atoi l = some n) : Lib.itoa n = l ↔ ¬ ((stripF l).head? = some 48 ∧ (1 < (stripF l).length ∨ (stripF l).length < l.length)) := by
 obtain ⟨v, h1, h2⟩ := atoi_dig hd hne
 rw [hn] at h2
 injection h2 with h2
 obtain ⟨g1, g2, g3, g4⟩ := dec_dig v v lRf
 have hback := dec_back _ (stripF l) v rfl hne h1
 by_cases hm : l.head? = some 45
 ·obtain ⟨t, rfl⟩ : ∃ t, l = 45 :: t := by
   cases l with
   | nil => cases hm
   | cons b r => simp only [List.head?_cons, Option.some.injEq] at hm; exact ⟨r, by rw [hm]⟩
  rw [if_pos hm] at h2
  rw [strip_neg] at *
  subst h2
  have hlt : t.length < (45 :: t).length := by simp
  by_cases hv : v = 0
  ·subst hv
   constructor
   ·intro e
    have e2 : Lib.itoa (-((0 : Nat) : Int)) = [48] := by unfold Lib.itoa; rw [if_neg (by decide)]; exact dig0
    rw [e2] at e
    cases e
   ·intro h
    exfalso
    by_cases h5 : 1 < t.length
    ·by_cases h6 : t.head? = some 48
     ·exact h ⟨h6, .inl h5⟩
     ·have := (hback (fun _ => h6)).2 h5
      omega
    ·have := (hback (fun h => absurd h h5)).1
     rw [dig0] at this
     exact h ⟨by rw [← this]; rfl, .inr hlt⟩
  ·have e : Lib.itoa (-(v : Int)) = 45 :: Lib.decDigits v := by
    unfold Lib.itoa
    rw [if_pos oMg]
    congr 2
    omega
   rw [e]
   constructor
   ·intro h h7
    simp only [List.cons.injEq, true_and] at h
    rw [← h] at h7
    exact hv (g4 h7.1)
   ·intro h
    have h8 : t.head? ≠ some 48 := fun h6 => h ⟨h6, .inr hlt⟩
    rw [(hback (fun _ => h8)).1]
 ·rw [if_neg hm] at h2
  rw [strip_pos hm] at *
  subst h2
  have e : Lib.itoa (v : Int) = Lib.decDigits v := by
   unfold Lib.itoa
   rw [if_neg oMg]
   rfl
  rw [e]
  constructor
  ·intro h h7
   rcases h7 with ⟨h7, h8 | h8⟩
   ·rw [← h] at h7
    have hv := g4 h7
    subst hv
    rw [← h, dig0] at h8
    simp at h8
   ·omega
  ·intro h
   exact (hback (fun h9 h10 => h ⟨h10, .inl h9⟩)).1
theorem dec_len : ∀ (k u : Nat), u < 10 ^ (k + 1) → (Lib.decDigits u).length ≤ k + 1
 | 0, u, h => by rw [Lib.decDigits, dif_pos (by simpa using h)]; simp
 | k + 1, u, h => by
  rw [Lib.decDigits]
  split
  ·simp
  ·rw [List.length_append]
   have := dec_len k (u / 10) (by rw [Nat.pow_succ] at h; omega)
   simp
   omega
end Go.Proofs.YtagoolooikpabaaGreatDoor
namespace Go.Proofs.YtagoolooikpabaaGreatDoor
open Go Go.RowKit
set_option maxRecDepth 100000
set_option maxHeartbeats 1000000
structure Tok where
 k : Nat
 x : List UInt8
 o : Nat
def isDg (c : UInt8) : Bool := decide (48 ≤ c.toNat ∧ c.toNat ≤ 57)
def isSm (c : UInt8) : Bool := decide (97 ≤ c.toNat ∧ c.toNat ≤ 122)
def isWd (c : UInt8) : Bool := isDg c || isSm c || decide (c.toNat = 95)
def sgnL : List UInt8 := [40, 41, 44, 64, 43, 45, 42, 47, 60, 61]
def tokF : List UInt8 → Nat → List Tok
 | [], o => [⟨0, [], o⟩]
 | c :: r, o =>
  if c = 32 then tokF r (o + 1)
  else if isDg c = true then ⟨1, c :: r.takeWhile isDg, o⟩ :: tokF (r.dropWhile isDg) (o + 1 + (r.takeWhile isDg).length)
  else if isSm c = true then ⟨2, c :: r.takeWhile isWd, o⟩ :: tokF (r.dropWhile isWd) (o + 1 + (r.takeWhile isWd).length)
  else if c ∈ sgnL then ⟨3, [c], o⟩ :: tokF r (o + 1)
  else [⟨4, [c], o⟩]
termination_by l => l.length
decreasing_by
 all_goals first
  | (simp; done)
  | (have := (List.dropWhile_sublist isDg (l := r)).length_le; simp; omega)
  | (have := (List.dropWhile_sublist isWd (l := r)).length_le; simp; omega)
theorem tokF_nil (o : Nat) : tokF [] o = [⟨0, [], o⟩] := by rw [tokF]
theorem tokF_cons (c : UInt8) (r : List UInt8) (o : Nat) : tokF (c :: r) o =
  if c = 32 then tokF r (o + 1)
  else if isDg c = true then ⟨1, c :: r.takeWhile isDg, o⟩ :: tokF (r.dropWhile isDg) (o + 1 + (r.takeWhile isDg).length)
  else if isSm c = true then ⟨2, c :: r.takeWhile isWd, o⟩ :: tokF (r.dropWhile isWd) (o + 1 + (r.takeWhile isWd).length)
  else if c ∈ sgnL then ⟨3, [c], o⟩ :: tokF r (o + 1)
  else [⟨4, [c], o⟩] := by rw [tokF]
theorem drop_tw (p : UInt8 → Bool) (r : List UInt8) : r.dropWhile p = r.drop (r.takeWhile p).length := by
 have h := List.takeWhile_append_dropWhile (p := p) (l := r)
 have : (r.takeWhile p ++ r.dropWhile p).drop (r.takeWhile p).length = r.dropWhile p := List.drop_left
 rw [h] at this
 exact this.symm
theorem tokF_len : ∀ (r : List UInt8) (o : Nat), 1 ≤ (tokF r o).length ∧ (tokF r o).length ≤ r.length + 1
 | [], o => by rw [tokF_nil]; simp
 | c :: r, o => by
  rw [tokF_cons]
  have h1 := (List.dropWhile_sublist isDg (l := r)).length_le
  have h2 := (List.dropWhile_sublist isWd (l := r)).length_le
  split
  ·have := tokF_len r (o + 1); rw [List.length_cons]; omega
  ·split
   ·have := tokF_len (r.dropWhile isDg) (o + 1 + (r.takeWhile isDg).length)
    rw [List.length_cons, List.length_cons]; omega
   ·split
    ·have := tokF_len (r.dropWhile isWd) (o + 1 + (r.takeWhile isWd).length)
     rw [List.length_cons, List.length_cons]; omega
    ·split
     ·have := tokF_len r (o + 1)
      rw [List.length_cons, List.length_cons]; omega
     ·simp
termination_by r => r.length
def Tl (l : List UInt8) (T : List Tok) : Prop := ∃ o, o ≤ l.length ∧ tokF (l.drop o) o = T
def tkOk (l : List UInt8) (t : Tok) : Prop := t.o + t.x.length ≤ l.length ∧ (l.drop t.o).take t.x.length = t.x ∧
 ((t.k = 0 ∧ t.x = [] ∧ t.o = l.length) ∨ (t.k = 1 ∧ t.x ≠ [] ∧ ∀ c ∈ t.x, isDg c = true) ∨ (t.k = 2 ∧ t.x ≠ [] ∧ (∀ c ∈ t.x, isWd c = true) ∧ ∃ c, t.x.head? = some c ∧ isSm c = true) ∨ (t.k = 3 ∧ ∃ c ∈ sgnL, t.x = [c]) ∨ (t.k = 4 ∧ ∃ c, t.x = [c]))
theorem tw_all (p : UInt8 → Bool) : ∀ (r : List UInt8), ∀ c ∈ r.takeWhile p, p c = true
 | [], c, h => by cases h
 | x :: r, c, h => by
  rw [List.takeWhile_cons] at h
  split at h
  ·rcases List.mem_cons.1 h with rfl | h
   ·assumption
   ·exact tw_all p r c h
  ·cases h
theorem isSm_wd {c : UInt8} (h : isSm c = true) : isWd c = true := by unfold isWd; rw [h]; simp
theorem take_tw (p : UInt8 → Bool) (r : List UInt8) : r.take (r.takeWhile p).length = r.takeWhile p := by
 have h := List.takeWhile_append_dropWhile (p := p) (l := r)
 have : (r.takeWhile p ++ r.dropWhile p).take (r.takeWhile p).length = r.takeWhile p := List.take_left
 rwa [h] at this
theorem tokF_head (l : List UInt8) : ∀ (n o : Nat), l.length - o = n → o ≤ l.length → ∃ t T, tokF (l.drop o) o = t :: T ∧ o ≤ t.o ∧ tkOk l t ∧ ((t.k = 0 ∨ t.k = 4) ∧ T = [] ∨ (t.k = 1 ∨ t.k = 2 ∨ t.k = 3) ∧ T = tokF (l.drop (t.o + t.x.length)) (t.o + t.x.length))
 | n, o, hn, ho => by
  by_cases he : o = l.length
  ·subst he
   rw [List.drop_length, tokF_nil]
   exact ⟨_, _, rfl, Nat.le_refl _, ⟨by simp, by simp, .inl ⟨rfl, rfl, rfl⟩⟩, .inl ⟨.inl rfl, rfl⟩⟩
  ·have hlt : o < l.length := by omega
   have hd : l.drop o = l[o] :: l.drop (o + 1) := List.drop_eq_getElem_cons hlt
   have hd2 : ∀ k, (l.drop (o + 1)).drop k = l.drop (o + 1 + k) := fun k => by rw [List.drop_drop]
   have hl2 : (l.drop (o + 1)).length = l.length - (o + 1) := List.length_drop
   rw [hd, tokF_cons]
   generalize l[o] = c at *
   have h1 := (List.takeWhile_sublist isDg (l := l.drop (o + 1))).length_le
   have h2 := (List.takeWhile_sublist isWd (l := l.drop (o + 1))).length_le
   split
   ·obtain ⟨t, T, g1, g2, g3, g4⟩ := tokF_head l (n - 1) (o + 1) oMg oMg
    exact ⟨t, T, g1, by omega, g3, g4⟩
   ·split
    ·rename_i hdg
     refine ⟨_, _, rfl, Nat.le_refl _, ⟨?_, ?_, .inr (.inl ⟨rfl, by simp, fun d hd => ?_⟩)⟩, .inr ⟨.inl rfl, ?_⟩⟩
     ·show o + (List.length (c :: _)) ≤ _
      rw [List.length_cons]; omega
     ·show (l.drop o).take (List.length (c :: _)) = _
      rw [hd, List.length_cons, List.take_succ_cons, take_tw]
     ·rcases List.mem_cons.1 hd with rfl | hd
      ·exact hdg
      ·exact tw_all _ _ _ hd
     ·show tokF _ _ = tokF (l.drop (o + List.length (c :: _))) (o + List.length (c :: _))
      rw [drop_tw, hd2, List.length_cons, show o + 1 + ((l.drop (o + 1)).takeWhile isDg).length = o + (((l.drop (o + 1)).takeWhile isDg).length + 1) by omega]
    ·split
     ·rename_i hsm
      refine ⟨_, _, rfl, Nat.le_refl _, ⟨?_, ?_, .inr (.inr (.inl ⟨rfl, by simp, fun d hd => ?_, c, rfl, hsm⟩))⟩, .inr ⟨.inr (.inl rfl), ?_⟩⟩
      ·show o + (List.length (c :: _)) ≤ _
       rw [List.length_cons]; omega
      ·show (l.drop o).take (List.length (c :: _)) = _
       rw [hd, List.length_cons, List.take_succ_cons, take_tw]
      ·rcases List.mem_cons.1 hd with rfl | hd
       ·exact isSm_wd hsm
       ·exact tw_all _ _ _ hd
      ·show tokF _ _ = tokF (l.drop (o + List.length (c :: _))) (o + List.length (c :: _))
       rw [drop_tw, hd2, List.length_cons, show o + 1 + ((l.drop (o + 1)).takeWhile isWd).length = o + (((l.drop (o + 1)).takeWhile isWd).length + 1) by omega]
     ·split
      ·rename_i hsg
       refine ⟨_, _, rfl, Nat.le_refl _, ⟨by show o + 1 ≤ _; omega, ?_, .inr (.inr (.inr (.inl ⟨rfl, c, hsg, rfl⟩)))⟩, .inr ⟨.inr (.inr rfl), rfl⟩⟩
       show (l.drop o).take 1 = _
       rw [hd]; rfl
      ·refine ⟨_, _, rfl, Nat.le_refl _, ⟨by show o + 1 ≤ _; omega, ?_, .inr (.inr (.inr (.inr ⟨rfl, c, rfl⟩)))⟩, .inl ⟨.inr rfl, rfl⟩⟩
       show (l.drop o).take 1 = _
       rw [hd]; rfl
theorem Tl.head {l : List UInt8} {T : List Tok} (h : Tl l T) : ∃ t T1, T = t :: T1 ∧ tkOk l t ∧ ((t.k = 0 ∨ t.k = 4) ∧ T1 = [] ∨ (t.k = 1 ∨ t.k = 2 ∨ t.k = 3) ∧ T1 = tokF (l.drop (t.o + t.x.length)) (t.o + t.x.length) ∧ Tl l T1) := by
 obtain ⟨o, h1, h2⟩ := h
 obtain ⟨t, T1, g1, _, g2, g3⟩ := tokF_head l _ o rfl h1
 refine ⟨t, T1, h2.symm.trans g1, g2, ?_⟩
 rcases g3 with g3 | ⟨g3, g4⟩
 ·exact .inl g3
 ·exact .inr ⟨g3, g4, ⟨_, g2.1, g4.symm⟩⟩
theorem Tl.top (l : List UInt8) : Tl l (tokF l 0) := ⟨0, Nat.zero_le _, by rw [List.drop_zero]⟩
/-! ### what is read -/
inductive Ex where
 | num (n : Int)
 | tag (x : List UInt8) (s : Option Int)
 | neg (a : Ex)
 | bin (c : UInt8) (a b : Ex)
 | f1 (f : List UInt8) (a : Ex)
 | f2 (f : List UInt8) (a b : Ex)
 | f3 (f : List UInt8) (a b c : Ex)
abbrev PR (α : Type) := Except Nat (α × List Tok × Int)
def sgT (t : Tok) (ops : List UInt8) : Option UInt8 := if t.k = 3 then (match t.x with | [c] => if c ∈ ops then some c else none | _ => none) else none
def deepF (d dp : Int) (t : Tok) : Int := if dp < 0 ∧ 20 < d then t.o else dp
def rowF (ops : List UInt8) (rd : List Tok → Int → PR Ex) (d : Int) : Nat → Ex → List Tok → Int → PR Ex
 | 0, x, T, dp => .ok (x, T, dp)
 | m + 1, x, T, dp => match T with
  | [] => .ok (x, [], dp)
  | t :: T1 => match sgT t ops with
   | none => .ok (x, t :: T1, dp)
   | some c => match rd T1 (deepF d dp t) with
    | .error e => .error e
    | .ok (y, T2, dp2) => rowF ops rd d m (.bin c x y) T2 dp2
def joinF (ops : List UInt8) (many : Bool) (rd : List Tok → Int → PR Ex) (d : Int) (T : List Tok) (dp : Int) : PR Ex := match rd T dp with
 | .error e => .error e
 | .ok (x, T1, dp1) => rowF ops rd d (if many = true then T1.length else 1) x T1 dp1
def prodG (fc : Int → List Tok → Int → PR Ex) (d : Int) (T : List Tok) (dp : Int) : PR Ex := joinF [42, 47] true (fc d) d T dp
def sumG (fc : Int → List Tok → Int → PR Ex) (d : Int) (T : List Tok) (dp : Int) : PR Ex := joinF [43, 45] true (prodG fc d) d T dp
def compG (fc : Int → List Tok → Int → PR Ex) (d : Int) (T : List Tok) (dp : Int) : PR Ex := joinF [60, 61] false (sumG fc d) d T dp
def argF (cmp : List Tok → Int → PR Ex) (d : Int) : Nat → List Ex → List Tok → Int → PR (List Ex)
 | 0, acc, T, dp => .ok (acc, T, dp)
 | m + 1, acc, T, dp =>
  match (if acc = [] then .ok (T, dp) else match T with
   | [] => .error 0
   | t :: T1 => if (sgT t [44]).isSome = true then .ok (T1, deepF d dp t) else .error t.o : Except Nat (List Tok × Int)) with
  | .error e => .error e
  | .ok (T1, dp1) => match cmp T1 dp1 with
   | .error e => .error e
   | .ok (x, T2, dp2) => argF cmp d m (acc ++ [x]) T2 dp2
def encF (cmp : List Tok → Int → PR Ex) (d : Int) (many : Nat) : List Tok → Int → PR (List Ex)
 | [], _ => .error 0
 | t :: T1, dp => if (sgT t [40]).isSome = true then (match argF cmp (d + 1) many [] T1 (deepF d dp t) with
  | .error e => .error e
  | .ok (l, T2, dp2) => match T2 with
   | [] => .error 0
   | u :: T3 => if (sgT u [41]).isSome = true then .ok (l, T3, deepF (d + 1) dp2 u) else .error u.o) else .error t.o
def wAbs : List UInt8 := [97, 98, 115]
def wGd : List UInt8 := [103, 111, 111, 100]
def wMin : List UInt8 := [109, 105, 110]
def wMax : List UInt8 := [109, 97, 120]
def wIf : List UInt8 := [105, 102]
def fnN (x : List UInt8) : Nat := if x = wAbs ∨ x = wGd then 1 else if x = wMin ∨ x = wMax then 2 else if x = wIf then 3 else 0
def mkFn (f : List UInt8) : List Ex → Ex
 | [a] => .f1 f a
 | [a, b] => .f2 f a b
 | [a, b, c] => .f3 f a b c
 | _ => .num 0
def shfF (x : List UInt8) (d : Int) : List Tok → Int → PR Ex
 | [], _ => .error 0
 | u :: T2, dp => if (sgT u [64]).isSome = true then (match T2 with
  | [] => .error 0
  | v :: T3 => if v.k = 1 then (match numF v.x 9 with
   | some n => if n ≤ 86400000 then .ok (.tag x (some n), T3, deepF d (deepF d dp u) v) else .error v.o
   | none => .error v.o) else .error v.o) else .ok (.tag x none, u :: T2, dp)
def factF : Nat → Int → List Tok → Int → PR Ex
 | 0, _, _, _ => .error 0
 | _ + 1, _, [], _ => .error 0
 | n + 1, d, t :: T1, dp =>
  if (sgT t [45]).isSome = true then (match factF n (d + 1) T1 (deepF d dp t) with
   | .error e => .error e
   | .ok (x, T2, dp2) => .ok (.neg x, T2, dp2))
  else if t.k = 1 then (match numF t.x 9 with
   | some v => .ok (.num v, T1, deepF d dp t)
   | none => .error t.o)
  else if (sgT t [40]).isSome = true then (match encF (compG (factF n) (d + 1)) d 1 (t :: T1) dp with
   | .error e => .error e
   | .ok (l, T2, dp2) => .ok (l.headD (.num 0), T2, dp2))
  else if t.k = 2 then (if 0 < fnN t.x then (match encF (compG (factF n) (d + 1)) d (fnN t.x) T1 (deepF d dp t) with
    | .error e => .error e
    | .ok (l, T2, dp2) => .ok (mkFn t.x l, T2, dp2))
   else if 40 < t.x.length then .error t.o
   else shfF t.x d T1 (deepF d dp t))
  else .error t.o
def parF (l : List UInt8) : Except (Int × Int) Ex :=
 if 500 < l.length then .error (0, 2)
 else match compG (factF (tokF l 0).length) 0 (tokF l 0) (-1) with
  | .error e => .error (e, 9)
  | .ok (x, T, dp) => match T with
   | [] => .error (0, 9)
   | t :: _ => if t.k ≠ 0 then .error (t.o, 9) else if 0 ≤ dp then .error (dp, 2) else .ok x
end Go.Proofs.YtagoolooikpabaaGreatDoor
namespace Go.Proofs.YtagoolooikpabaaGreatDoor
open Go Go.RowKit
set_option maxRecDepth 100000
set_option maxHeartbeats 1000000
structure Vl where
 n : Int
 q : Int
def badV : Vl := ⟨0, 2⟩
def bdV (n q most : Int) : Vl := if q = 2 ∨ n < -most ∨ most < n then badV else ⟨n, q⟩
def mulV (a b : Int) : Int := if a ≠ 0 ∧ Int.tdiv 1000000000000 (max a (-a)) < max b (-b) then 1000000000001 else a * b
def oneV (p : Prop) [Decidable p] : Int := if p then 1 else 0
def twoV (c : UInt8) (a b : Vl) : Vl :=
 if c = 43 then bdV (a.n + b.n) (max a.q b.q) 1000000000000
 else if c = 45 then bdV (a.n - b.n) (max a.q b.q) 1000000000000
 else if c = 42 then bdV (mulV a.n b.n) (max a.q b.q) 1000000000000
 else if c = 47 then (if b.n = 0 then badV else bdV (a.n.tdiv b.n) (max a.q b.q) 1000000000000)
 else if c = 60 then bdV (oneV (a.n < b.n)) (max a.q b.q) 1
 else bdV (oneV (a.n = b.n)) (max a.q b.q) 1
def evP (look : List UInt8 → Int → Vl) (m : Int) : Ex → Vl
 | .num n => ⟨n, 0⟩
 | .tag x s => if m < s.getD 0 then badV else look x (m - s.getD 0)
 | .neg a => bdV (-(evP look m a).n) (evP look m a).q 1000000000000
 | .bin c a b => twoV c (evP look m a) (evP look m b)
 | .f1 f a => if f = wAbs then bdV (max (evP look m a).n (-(evP look m a).n)) (evP look m a).q 1000000000000 else bdV (oneV ((evP look m a).q = 0)) 0 1
 | .f2 f a b => bdV (if f = wMin then min (evP look m a).n (evP look m b).n else max (evP look m a).n (evP look m b).n) (max (evP look m a).q (evP look m b).q) 1000000000000
 | .f3 _ c a b => if (evP look m c).q = 2 then badV else bdV (if (evP look m c).n = 0 then (evP look m b).n else (evP look m a).n) (max (if (evP look m c).n = 0 then (evP look m b).q else (evP look m a).q) (evP look m c).q) 1000000000000
def VlOk (v : Vl) : Prop := (-1000000000000 ≤ v.n ∧ v.n ≤ 1000000000000) ∧ (0 ≤ v.q ∧ v.q ≤ 2) ∧ (v.q = 2 → v.n = 0)
theorem badV_ok : VlOk badV := ⟨⟨by decide, by decide⟩, ⟨by decide, by decide⟩, fun _ => rfl⟩
theorem bdV_ok {n q most : Int} (h : 0 ≤ q ∧ q ≤ 2) (hm : most ≤ 1000000000000) : VlOk (bdV n q most) := by
 unfold bdV
 split
 ·exact badV_ok
 ·refine ⟨⟨?_, ?_⟩, h, fun e => ?_⟩
  ·dsimp only; omega
  ·dsimp only; omega
  ·dsimp only at e; omega
def ExOk : Ex → Prop
 | .num n => 0 ≤ n ∧ n ≤ 999999999
 | .tag x s => (x ≠ [] ∧ x.length ≤ 40 ∧ fnN x = 0) ∧ ∀ n, s = some n → 0 ≤ n ∧ n ≤ 86400000
 | .neg a => ExOk a
 | .bin c a b => c ∈ ([43, 45, 42, 47, 60, 61] : List UInt8) ∧ ExOk a ∧ ExOk b
 | .f1 f a => fnN f = 1 ∧ ExOk a
 | .f2 f a b => fnN f = 2 ∧ ExOk a ∧ ExOk b
 | .f3 f a b c => fnN f = 3 ∧ ExOk a ∧ ExOk b ∧ ExOk c
theorem max3 {a b : Int} (ha : 0 ≤ a ∧ a ≤ 2) (hb : 0 ≤ b ∧ b ≤ 2) : 0 ≤ max a b ∧ max a b ≤ 2 := by omega
theorem twoV_ok (c : UInt8) {a b : Vl} (ha : VlOk a) (hb : VlOk b) : VlOk (twoV c a b) := by
 have h := max3 ha.2.1 hb.2.1
 unfold twoV
 repeat' split
 all_goals first | exact badV_ok | exact bdV_ok h (by decide)
theorem evP_ok {look : List UInt8 → Int → Vl} (hl : ∀ x m, VlOk (look x m)) (m : Int) : ∀ e : Ex, ExOk e → VlOk (evP look m e)
 | .num n, h => by
  obtain ⟨h1, h2⟩ := h
  exact ⟨⟨by show _ ≤ n; omega, by show n ≤ _; omega⟩, ⟨Int.le_refl 0, by show (0 : Int) ≤ 2; omega⟩, fun e => by cases e⟩
 | .tag x s, _ => by
  unfold evP
  split
  ·exact badV_ok
  ·exact hl _ _
 | .neg a, h => by
  have ha := evP_ok hl m a h
  unfold evP
  exact bdV_ok ha.2.1 (by decide)
 | .bin c a b, h => by
  unfold evP
  exact twoV_ok c (evP_ok hl m a h.2.1) (evP_ok hl m b h.2.2)
 | .f1 f a, h => by
  have ha := evP_ok hl m a h.2
  unfold evP
  split
  ·exact bdV_ok ha.2.1 (by decide)
  ·exact bdV_ok ⟨by decide, by decide⟩ (by decide)
 | .f2 f a b, h => by
  have ha := evP_ok hl m a h.2.1
  have hb := evP_ok hl m b h.2.2
  unfold evP
  exact bdV_ok (max3 ha.2.1 hb.2.1) (by decide)
 | .f3 f a b c, h => by
  have ha := evP_ok hl m a h.2.1
  have hb := evP_ok hl m b h.2.2.1
  have hc := evP_ok hl m c h.2.2.2
  unfold evP
  split
  ·exact badV_ok
  ·refine bdV_ok ?_ (by decide)
   have h1 := ha.2.1
   have h2 := hb.2.1
   have h3 := hc.2.1
   split <;> omega
theorem mulV_eq {a b : Int} (q : Int) :
  bdV (mulV a b) q 1000000000000 = if b ≠ 0 ∧ Int.tdiv 2000000000000 (max b (-b)) < max a (-a) then badV else bdV (a * b) q 1000000000000 := by
 have hA : max (a * b) (-(a * b)) = max b (-b) * max a (-a) := by
  rcases Int.le_total 0 a with h | h <;> rcases Int.le_total 0 b with g | g
  ·have := Int.mul_nonneg h g
   rw [show max a (-a) = a by omega, show max b (-b) = b by omega, Int.mul_comm b a]; omega
  ·have := Int.mul_nonneg h (show 0 ≤ -b by omega)
   rw [show max a (-a) = a by omega, show max b (-b) = -b by omega, Int.neg_mul, Int.mul_comm b a]
   rw [Int.mul_neg] at this
   omega
  ·have := Int.mul_nonneg (show 0 ≤ -a by omega) g
   rw [show max a (-a) = -a by omega, show max b (-b) = b by omega, Int.mul_neg, Int.mul_comm b a]
   rw [Int.neg_mul] at this
   omega
  ·have := Int.mul_nonneg (show 0 ≤ -a by omega) (show 0 ≤ -b by omega)
   rw [Int.neg_mul_neg] at this
   rw [show max a (-a) = -a by omega, show max b (-b) = -b by omega, Int.neg_mul_neg, Int.mul_comm b a]
   omega
 have hb0 : b ≠ 0 → 0 < max b (-b) := by omega
 have ha0 : a ≠ 0 → 0 < max a (-a) := by omega
 have big : 1000000000000 < max (a * b) (-(a * b)) → bdV (a * b) q 1000000000000 = badV := fun h => by
  unfold bdV
  rw [if_pos oMg]
 have hov : bdV 1000000000001 q 1000000000000 = badV := by
  unfold bdV
  rw [if_pos oMg]
 unfold mulV
 rw [Int.tdiv_eq_ediv_of_nonneg (by decide), Int.tdiv_eq_ediv_of_nonneg (by decide)]
 by_cases h1 : a ≠ 0 ∧ 1000000000000 / (max a (-a)) < max b (-b)
 ·rw [if_pos h1, hov]
  have h2 := (Int.ediv_lt_iff_lt_mul (ha0 h1.1)).1 h1.2
  have := big oMg
  split
  ·rfl
  ·exact this.symm
 ·rw [if_neg h1]
  have hle : max (a * b) (-(a * b)) ≤ 1000000000000 := by
   by_cases h0 : a = 0
   ·subst h0; simp
   ·have h3 : ¬ 1000000000000 / (max a (-a)) < max b (-b) := fun h => h1 ⟨h0, h⟩
    rw [Int.ediv_lt_iff_lt_mul (ha0 h0)] at h3
    omega
  rw [if_neg]
  rintro ⟨h4, h5⟩
  rw [Int.ediv_lt_iff_lt_mul (hb0 h4), Int.mul_comm] at h5
  omega
def evR (look : List UInt8 → Int → Vl) (m : Int) : Ex → Vl
 | .num n => ⟨n, 0⟩
 | .tag x s => look x (m - max 0 (s.getD (-1)))
 | .neg a => if (evR look m a).q = 2 then badV else bdV (-(evR look m a).n) (evR look m a).q 1000000000000
 | .bin c a b => if max (evR look m a).q (evR look m b).q = 2 then badV else
   if c = 43 then bdV ((evR look m a).n + (evR look m b).n) (max (evR look m a).q (evR look m b).q) 1000000000000
   else if c = 45 then bdV ((evR look m a).n - (evR look m b).n) (max (evR look m a).q (evR look m b).q) 1000000000000
   else if c = 42 then (if (evR look m b).n ≠ 0 ∧ Int.tdiv 2000000000000 (max (evR look m b).n (-(evR look m b).n)) < max (evR look m a).n (-(evR look m a).n) then badV else bdV ((evR look m a).n * (evR look m b).n) (max (evR look m a).q (evR look m b).q) 1000000000000)
   else if c = 47 then (if (evR look m b).n = 0 then badV else bdV ((evR look m a).n.tdiv (evR look m b).n) (max (evR look m a).q (evR look m b).q) 1000000000000)
   else if c = 60 then bdV (oneV ((evR look m a).n < (evR look m b).n)) (max (evR look m a).q (evR look m b).q) 1000000000000
   else bdV (oneV ((evR look m a).n = (evR look m b).n)) (max (evR look m a).q (evR look m b).q) 1000000000000
 | .f1 f a => if f = wGd then ⟨oneV ((evR look m a).q = 0), 0⟩ else if (evR look m a).q = 2 then badV else bdV (if (evR look m a).n < 0 then -(evR look m a).n else (evR look m a).n) (evR look m a).q 1000000000000
 | .f2 f a b => if max (evR look m a).q (evR look m b).q = 2 then badV else bdV (if f = wMin then min (evR look m a).n (evR look m b).n else max (evR look m a).n (evR look m b).n) (max (evR look m a).q (evR look m b).q) 1000000000000
 | .f3 _ c a b => bdV (if (evR look m c).n = 0 then (evR look m b).n else (evR look m a).n) (max (if (evR look m c).n = 0 then (evR look m b).q else (evR look m a).q) (evR look m c).q) 1000000000000
theorem bdV_bad (n most : Int) : bdV n 2 most = badV := by unfold bdV; rw [if_pos (.inl rfl)]
theorem evR_eq {look lookR : List UInt8 → Int → Vl} (hl : ∀ x m, VlOk (look x m)) (m : Int) (h1 : ∀ x k, 0 ≤ k → lookR x k = look x k) (h2 : ∀ x k, k < 0 → lookR x k = badV) : ∀ e : Ex, ExOk e → evR lookR m e = evP look m e
 | .num n, _ => rfl
 | .tag x s, h => by
  unfold evR evP
  cases s with
  | none =>
   show lookR x (m - max 0 (-1)) = if m < 0 then badV else look x (m - 0)
   rw [show max (0 : Int) (-1) = 0 by decide, Int.sub_zero]
   split
   ·exact h2 x m oMg
   ·exact h1 x m oMg
  | some n =>
   have hn := h.2 n rfl
   show lookR x (m - max 0 n) = if m < n then badV else look x (m - n)
   rw [show max 0 n = n by omega]
   split
   ·exact h2 x _ oMg
   ·exact h1 x _ oMg
 | .neg a, h => by
  have ha := evR_eq hl m h1 h2 a h
  unfold evR evP
  rw [ha]
  split
  ·rename_i e; rw [e, bdV_bad]
  ·rfl
 | .bin c a b, h => by
  have ha := evR_eq hl m h1 h2 a h.2.1
  have hb := evR_eq hl m h1 h2 b h.2.2
  have oa := evP_ok hl m a h.2.1
  have ob := evP_ok hl m b h.2.2
  unfold evR evP
  rw [ha, hb]
  generalize evP look m a = A at *
  generalize evP look m b = B at *
  unfold twoV
  rw [← mulV_eq]
  have key : ∀ (p : Prop) [Decidable p] (q : Int), q ≠ 2 → bdV (oneV p) q 1000000000000 = bdV (oneV p) q 1 := fun p _ q hq => by
   unfold bdV oneV
   split <;> (split <;> (split <;> first | rfl | omega))
  split
  ·rename_i e
   rw [e]
   simp only [bdV_bad, ite_self]
  ·rename_i e
   rw [key _ _ e, key _ _ e]
 | .f1 f a, h => by
  have ha := evR_eq hl m h1 h2 a h.2
  have oa := evP_ok hl m a h.2
  unfold evR evP
  rw [ha]
  generalize evP look m a = A at *
  have hf : f = wAbs ∨ f = wGd := by
   have := h.1
   unfold fnN at this
   split at this
   ·assumption
   ·split at this
    ·cases this
    ·split at this <;> cases this
  rcases hf with rfl | rfl
  ·rw [if_neg (by decide), if_pos rfl]
   have e : (if A.n < 0 then -A.n else A.n) = max A.n (-A.n) := by split <;> omega
   rw [e]
   split
   ·rename_i e; rw [e, bdV_bad]
   ·rfl
  ·rw [if_pos rfl, if_neg (by decide)]
   unfold bdV oneV
   split <;> (rw [if_neg (by decide)])
 | .f2 f a b, h => by
  have ha := evR_eq hl m h1 h2 a h.2.1
  have hb := evR_eq hl m h1 h2 b h.2.2
  unfold evR evP
  rw [ha, hb]
  split
  ·rename_i e; rw [e, bdV_bad]
  ·rfl
 | .f3 f a b c, h => by
  have ha := evR_eq hl m h1 h2 a h.2.1
  have hb := evR_eq hl m h1 h2 b h.2.2.1
  have hc := evR_eq hl m h1 h2 c h.2.2.2
  have oa := evP_ok hl m a h.2.1
  have ob := evP_ok hl m b h.2.2.1
  have oc := evP_ok hl m c h.2.2.2
  unfold evR evP
  rw [ha, hb, hc]
  have h5 := ob.2.1
  have h6 := oc.2.1
  by_cases e : (evP look m a).q = 2
  ·have : max (if (evP look m a).n = 0 then (evP look m c).q else (evP look m b).q) (evP look m a).q = 2 := by split <;> omega
   rw [if_pos e, this, bdV_bad]
  ·rw [if_neg e]
end Go.Proofs.YtagoolooikpabaaGreatDoor
namespace Go.Proofs.YtagoolooikpabaaGreatDoor
open Go Go.RowKit
set_option maxRecDepth 100000
set_option maxHeartbeats 1000000
theorem isDg_val {c : UInt8} (h : isDg c = true) : ∃ d, Lib.digitVal c = some d := by
 unfold isDg at h
 rw [decide_eq_true_eq] at h
 unfold Lib.digitVal
 rw [if_pos h]
 exact ⟨_, rfl⟩
theorem digs_all {x : List UInt8} (h : ∀ c ∈ x, isDg c = true) : digB x = true := by
 unfold digB
 rw [List.all_eq_true]
 intro c hc
 obtain ⟨d, hd⟩ := isDg_val (h c hc)
 rw [hd]; rfl
theorem num_tok {x : List UInt8} {v : Int} (hd : ∀ c ∈ x, isDg c = true) (h : numF x 9 = some v) : 0 ≤ v ∧ v ≤ 999999999 := by
 have hb := digs_all hd
 have hh : x.head? ≠ some 45 := (dig_head hb).1
 have hs := strip_pos hh
 rw [numF_eq, hs] at h
 split at h
 ·cases h
 ·rename_i h1
  split at h
  ·cases h
  ·(first | rw [if_pos hb] at h | skip)
   obtain ⟨u, g1, g2⟩ := atoi_dig (l := x) (by rw [hs]; exact hb) (by rw [hs]; exact fun e => h1 (.inl e))
   rw [hs] at g1
   rw [if_neg hh, h] at g2
   injection g2 with g2
   have h3 := decFrom_lt _ _ _ g1
   have h4 : 10 ^ x.length ≤ 10 ^ 9 := Nat.pow_le_pow_right oMg oMg
   omega
theorem sgT_some {t : Tok} {ops : List UInt8} {c : UInt8} (h : sgT t ops = some c) : t.k = 3 ∧ t.x = [c] ∧ c ∈ ops := by
 unfold sgT at h
 split at h
 ·rename_i hk
  split at h
  ·rename_i d hd
   split at h
   ·rename_i hc
    injection h with h
    subst h
    exact ⟨hk, hd, hc⟩
   ·cases h
  ·cases h
 ·cases h
theorem sgT_is {t : Tok} {ops : List UInt8} (h : (sgT t ops).isSome = true) : t.k = 3 := by
 obtain ⟨c, hc⟩ := Option.isSome_iff_exists.1 h
 exact (sgT_some hc).1
def RdG (l : List UInt8) (rd : List Tok → Int → PR Ex) : Prop := ∀ T dp x T' dp', Tl l T → rd T dp = .ok (x, T', dp') → ExOk x ∧ Tl l T' ∧ T'.length < T.length
theorem Tl.next {l : List UInt8} {t : Tok} {T : List Tok} (h : Tl l (t :: T)) (hk : t.k ≠ 0 ∧ t.k ≠ 4) : Tl l T ∧ tkOk l t := by
 obtain ⟨t', T1, e, h1, h2⟩ := h.head
 injection e with e1 e2
 subst e1 e2
 rcases h2 with ⟨h2, _⟩ | ⟨_, _, h2⟩
 ·omega
 ·exact ⟨h2, h1⟩
theorem Tl.ok {l : List UInt8} {t : Tok} {T : List Tok} (h : Tl l (t :: T)) : tkOk l t := by
 obtain ⟨t', T1, e, h1, h2⟩ := h.head
 injection e with e1 e2
 subst e1
 exact h1
def ops6 : List UInt8 := [43, 45, 42, 47, 60, 61]
theorem row_good {l : List UInt8} {rd : List Tok → Int → PR Ex} (hr : RdG l rd) {ops : List UInt8} (ho : ∀ c ∈ ops, c ∈ ops6) (d : Int) : ∀ (m : Nat) (x : Ex) (T : List Tok) (dp : Int) (x' : Ex) (T' : List Tok) (dp' : Int), ExOk x → Tl l T → rowF ops rd d m x T dp = .ok (x', T', dp') → ExOk x' ∧ Tl l T' ∧ T'.length ≤ T.length
 | 0, x, T, dp, x', T', dp', hx, hT, h => by
  unfold rowF at h
  injection h with h
  injection h with h1 h2
  injection h2 with h2 h3
  subst h1 h2
  exact ⟨hx, hT, Nat.le_refl _⟩
 | m + 1, x, T, dp, x', T', dp', hx, hT, h => by
  unfold rowF at h
  split at h
  ·injection h with h
   injection h with h1 h2
   injection h2 with h2 h3
   subst h1 h2
   exact ⟨hx, hT, Nat.le_refl _⟩
  ·rename_i t T1
   split at h
   ·injection h with h
    injection h with h1 h2
    injection h2 with h2 h3
    subst h1 h2
    exact ⟨hx, hT, Nat.le_refl _⟩
   ·rename_i c hc
    obtain ⟨s1, s2, s3⟩ := sgT_some hc
    split at h
    ·cases h
    ·rename_i y T2 dp2 hy
     obtain ⟨g1, g2, g3⟩ := hr _ _ _ _ _ (hT.next oMg).1 hy
     obtain ⟨g4, g5, g6⟩ := row_good hr ho d m (.bin c x y) T2 dp2 x' T' dp' ⟨ho c s3, hx, g1⟩ g2 h
     exact ⟨g4, g5, by rw [List.length_cons]; omega⟩
theorem join_good {l : List UInt8} {rd : List Tok → Int → PR Ex} (hr : RdG l rd) {ops : List UInt8} (ho : ∀ c ∈ ops, c ∈ ops6) (many : Bool) (d : Int) : RdG l (joinF ops many rd d) := by
 intro T dp x' T' dp' hT h
 unfold joinF at h
 split at h
 ·cases h
 ·rename_i x T1 dp1 h1
  obtain ⟨g1, g2, g3⟩ := hr _ _ _ _ _ hT h1
  obtain ⟨g4, g5, g6⟩ := row_good hr ho d _ x T1 dp1 x' T' dp' g1 g2 h
  exact ⟨g4, g5, by omega⟩
theorem prod_good {l : List UInt8} {fc : Int → List Tok → Int → PR Ex} (d : Int) (hr : RdG l (fc d)) : RdG l (prodG fc d) := fun T dp x T' dp' hT h => join_good hr (by decide) true d T dp x T' dp' hT h
theorem sum_good {l : List UInt8} {fc : Int → List Tok → Int → PR Ex} (d : Int) (hr : RdG l (fc d)) : RdG l (sumG fc d) := fun T dp x T' dp' hT h => join_good (prod_good d hr) (by decide) true d T dp x T' dp' hT h
theorem comp_good {l : List UInt8} {fc : Int → List Tok → Int → PR Ex} (d : Int) (hr : RdG l (fc d)) : RdG l (compG fc d) := fun T dp x T' dp' hT h => join_good (sum_good d hr) (by decide) false d T dp x T' dp' hT h
theorem arg_good {l : List UInt8} {rd : List Tok → Int → PR Ex} (hr : RdG l rd) (d : Int) : ∀ (m : Nat) (acc : List Ex) (T : List Tok) (dp : Int) (acc' : List Ex) (T' : List Tok) (dp' : Int), (∀ x ∈ acc, ExOk x) → Tl l T → argF rd d m acc T dp = .ok (acc', T', dp') → (∀ x ∈ acc', ExOk x) ∧ acc'.length = acc.length + m ∧ Tl l T' ∧ T'.length ≤ T.length
 | 0, acc, T, dp, acc', T', dp', ha, hT, h => by
  unfold argF at h
  injection h with h
  injection h with h1 h2
  injection h2 with h2 h3
  subst h1 h2
  exact ⟨ha, rfl, hT, Nat.le_refl _⟩
 | m + 1, acc, T, dp, acc', T', dp', ha, hT, h => by
  unfold argF at h
  split at h
  ·cases h
  ·rename_i T1 dp1 h1
   have hT1 : Tl l T1 ∧ T1.length ≤ T.length := by
    split at h1
    ·injection h1 with h1
     injection h1 with h1 h2
     subst h1
     exact ⟨hT, Nat.le_refl _⟩
    ·split at h1
     ·cases h1
     ·rename_i t T3
      split at h1
      ·rename_i hs
       have hk := sgT_is hs
       injection h1 with h1
       injection h1 with h1 h2
       subst h1
       exact ⟨(hT.next oMg).1, by rw [List.length_cons]; omega⟩
      ·cases h1
   split at h
   ·cases h
   ·rename_i x T2 dp2 h2
    obtain ⟨g1, g2, g3⟩ := hr _ _ _ _ _ hT1.1 h2
    obtain ⟨g4, g5, g6, g7⟩ := arg_good hr d m (acc ++ [x]) T2 dp2 acc' T' dp' (fun y hy => by
     rcases List.mem_append.1 hy with hy | hy
     ·exact ha y hy
     ·rw [List.mem_singleton.1 hy]; exact g1) g2 h
    exact ⟨g4, by rw [g5, List.length_append, List.length_singleton]; omega, g6, by omega⟩
theorem enc_good {l : List UInt8} {rd : List Tok → Int → PR Ex} (hr : RdG l rd) (d : Int) (many : Nat) (T : List Tok) (dp : Int) (acc : List Ex) (T' : List Tok) (dp' : Int) (hT : Tl l T) (h : encF rd d many T dp = .ok (acc, T', dp')) : (∀ x ∈ acc, ExOk x) ∧ acc.length = many ∧ Tl l T' ∧ T'.length < T.length := by
 unfold encF at h
 split at h
 ·cases h
 ·rename_i t T1
  split at h
  ·rename_i hs
   have hk := sgT_is hs
   split at h
   ·cases h
   ·rename_i a T2 dp2 h2
    obtain ⟨g1, g2, g3, g4⟩ := arg_good hr (d + 1) many [] T1 _ a T2 dp2 sMp (hT.next oMg).1 h2
    split at h
    ·cases h
    ·rename_i u T3
     split at h
     ·rename_i hs2
      have hk2 := sgT_is hs2
      injection h with h
      injection h with h1 h2
      injection h2 with h2 h3
      subst h1 h2
      rw [List.length_cons] at g4
      refine ⟨g1, by rw [g2]; simp, (g3.next oMg).1, by rw [List.length_cons]; omega⟩
     ·cases h
  ·cases h
theorem mkFn_ok {f : List UInt8} {L : List Ex} (h : ∀ x ∈ L, ExOk x) (hl : L.length = fnN f) (h0 : 0 < fnN f) : ExOk (mkFn f L) := by
 have h3 : fnN f ≤ 3 := by
  unfold fnN
  repeat' split
  all_goals omega
 match L, hl, h with
 | [], hl, _ => rw [List.length_nil] at hl; omega
 | [a], hl, h => exact ⟨hl.symm, h a sMp⟩
 | [a, b], hl, h => exact ⟨hl.symm, h a sMp, h b sMp⟩
 | [a, b, c], hl, h => exact ⟨hl.symm, h a sMp, h b sMp, h c sMp⟩
 | _ :: _ :: _ :: _ :: _, hl, _ => simp only [List.length_cons] at hl; omega
theorem fact_good (l : List UInt8) : ∀ (n : Nat) (d : Int), RdG l (factF n d)
 | 0, d => fun T dp x T' dp' hT h => by unfold factF at h; cases h
 | n + 1, d => fun T dp x T' dp' hT h => by
  obtain ⟨t, T1, rfl, ht, hT2⟩ := hT.head
  unfold factF at h
  have hnx : t.k ≠ 0 ∧ t.k ≠ 4 → Tl l T1 := fun hk => (hT.next hk).1
  split at h
  ·rename_i hs
   have hk := sgT_is hs
   split at h
   ·cases h
   ·rename_i y T2 dp2 h2
    obtain ⟨g1, g2, g3⟩ := fact_good l n (d + 1) _ _ _ _ _ (hnx oMg) h2
    injection h with h
    injection h with h1 h2
    injection h2 with h2 h3
    subst h1 h2
    exact ⟨g1, g2, by rw [List.length_cons]; omega⟩
  ·split at h
   ·rename_i hk
    split at h
    ·rename_i v hv
     injection h with h
     injection h with h1 h2
     injection h2 with h2 h3
     subst h1 h2
     have hd : ∀ c ∈ t.x, isDg c = true := by
      rcases ht.2.2 with h | h | h | h | h
      ·omega
      ·exact h.2.2
      ·omega
      ·omega
      ·omega
     exact ⟨num_tok hd hv, hnx oMg, by rw [List.length_cons]; omega⟩
    ·cases h
   ·split at h
    ·rename_i hs
     split at h
     ·cases h
     ·rename_i L T2 dp2 h2
      obtain ⟨g1, g2, g3, g4⟩ := enc_good (comp_good (d + 1) (fact_good l n (d + 1))) d 1 _ _ _ _ _ hT h2
      injection h with h
      injection h with h1 h2
      injection h2 with h2 h3
      subst h1 h2
      match L, g2 with
      | [a], _ => exact ⟨g1 a sMp, g3, g4⟩
    ·split at h
     ·rename_i hk
      have hT1 := hnx oMg
      split at h
      ·rename_i hf
       split at h
       ·cases h
       ·rename_i L T2 dp2 h2
        obtain ⟨g1, g2, g3, g4⟩ := enc_good (comp_good (d + 1) (fact_good l n (d + 1))) d _ _ _ _ _ _ hT1 h2
        injection h with h
        injection h with h1 h2
        injection h2 with h2 h3
        subst h1 h2
        exact ⟨mkFn_ok g1 g2 hf, g3, by rw [List.length_cons]; omega⟩
      ·rename_i hf
       split at h
       ·cases h
       ·rename_i h40
        have hx : t.x ≠ [] := by
         rcases ht.2.2 with h | h | h | h | h
         ·omega
         ·omega
         ·exact h.2.1
         ·omega
         ·omega
        unfold shfF at h
        split at h
        ·cases h
        ·rename_i u T2 _
         split at h
         ·rename_i hs
          have hku := sgT_is hs
          have hT2 := (hT1.next oMg).1
          split at h
          ·cases h
          ·rename_i v T3 _
           split at h
           ·rename_i hkv
            split at h
            ·rename_i q hq
             split at h
             ·rename_i hq2
              injection h with h
              injection h with h1 h2
              injection h2 with h2 h3
              subst h1 h2
              have hd : ∀ c ∈ v.x, isDg c = true := by
               rcases hT2.ok.2.2 with h | h | h | h | h
               ·omega
               ·exact h.2.2
               ·omega
               ·omega
               ·omega
              have hv := num_tok hd hq
              refine ⟨⟨⟨hx, by omega, by omega⟩, fun n hn => ?_⟩, (hT2.next oMg).1, by simp only [List.length_cons]; omega⟩
              injection hn with hn
              omega
             ·cases h
            ·cases h
           ·cases h
         ·injection h with h
          injection h with h1 h2
          injection h2 with h2 h3
          subst h1 h2
          refine ⟨⟨⟨hx, by omega, by omega⟩, fun n hn => by cases hn⟩, hT1, by simp⟩
     ·cases h
theorem par_good {l : List UInt8} {e : Ex} (h : parF l = .ok e) : ExOk e := by
 unfold parF at h
 split at h
 ·cases h
 ·split at h
  ·cases h
  ·rename_i x T dp h1
   have := (comp_good 0 (fact_good l _ 0) _ _ _ _ _ (Tl.top l) h1).1
   split at h
   ·cases h
   ·split at h
    ·cases h
    ·split at h
     ·cases h
     ·injection h with h
      subst h
      exact this
end Go.Proofs.YtagoolooikpabaaGreatDoor
namespace Go.Proofs.YtagoolooikpabaaGreatDoor
open Go Go.RowKit
set_option maxRecDepth 100000
set_option maxHeartbeats 1000000
def szE : Ex → Nat
 | .num _ => 1
 | .tag _ _ => 1
 | .neg a => szE a + 1
 | .bin _ a b => szE a + szE b + 1
 | .f1 _ a => szE a + 1
 | .f2 _ a b => szE a + szE b + 1
 | .f3 _ a b c => szE a + szE b + szE c + 1
def hgt : Ex → Nat
 | .num _ => 1
 | .tag _ _ => 1
 | .neg a => hgt a + 1
 | .bin _ a b => max (hgt a) (hgt b) + 1
 | .f1 _ a => hgt a + 1
 | .f2 _ a b => max (hgt a) (hgt b) + 1
 | .f3 _ a b c => max (max (hgt a) (hgt b)) (hgt c) + 1
theorem hgt_sz : ∀ e : Ex, 1 ≤ hgt e ∧ hgt e ≤ szE e
 | .num _ => by simp [hgt, szE]
 | .tag _ _ => by simp [hgt, szE]
 | .neg a => by have := hgt_sz a; simp only [hgt, szE]; omega
 | .bin _ a b => by have := hgt_sz a; have := hgt_sz b; simp only [hgt, szE]; omega
 | .f1 _ a => by have := hgt_sz a; simp only [hgt, szE]; omega
 | .f2 _ a b => by have := hgt_sz a; have := hgt_sz b; simp only [hgt, szE]; omega
 | .f3 _ a b c => by have := hgt_sz a; have := hgt_sz b; have := hgt_sz c; simp only [hgt, szE]; omega
def leafE : Ex → List (List UInt8 × Int)
 | .num _ => []
 | .tag x s => [(x, s.getD 0)]
 | .neg a => leafE a
 | .bin _ a b => leafE a ++ leafE b
 | .f1 _ a => leafE a
 | .f2 _ a b => leafE a ++ leafE b
 | .f3 _ a b c => leafE a ++ leafE b ++ leafE c
theorem leaf_sz : ∀ e : Ex, (leafE e).length ≤ szE e
 | .num _ => by simp [leafE]
 | .tag _ _ => by simp [leafE, szE]
 | .neg a => by have := leaf_sz a; simp only [leafE, szE]; omega
 | .bin _ a b => by have := leaf_sz a; have := leaf_sz b; simp only [leafE, szE, List.length_append]; omega
 | .f1 _ a => by have := leaf_sz a; simp only [leafE, szE]; omega
 | .f2 _ a b => by have := leaf_sz a; have := leaf_sz b; simp only [leafE, szE, List.length_append]; omega
 | .f3 _ a b c => by have := leaf_sz a; have := leaf_sz b; have := leaf_sz c; simp only [leafE, szE, List.length_append]; omega
def RdS (rd : List Tok → Int → PR Ex) : Prop := ∀ T dp x T' dp', rd T dp = .ok (x, T', dp') → szE x + T'.length ≤ T.length
theorem row_s {rd : List Tok → Int → PR Ex} (hr : RdS rd) (ops : List UInt8) (d : Int) : ∀ (m : Nat) (x : Ex) (T : List Tok) (dp : Int) (x' : Ex) (T' : List Tok) (dp' : Int), rowF ops rd d m x T dp = .ok (x', T', dp') → szE x' + T'.length ≤ szE x + T.length
 | 0, x, T, dp, x', T', dp', h => by
  unfold rowF at h
  injection h with h
  injection h with h1 h2
  injection h2 with h2 h3
  subst h1 h2
  exact Nat.le_refl _
 | m + 1, x, T, dp, x', T', dp', h => by
  unfold rowF at h
  split at h
  ·injection h with h
   injection h with h1 h2
   injection h2 with h2 h3
   subst h1 h2
   exact Nat.le_refl _
  ·rename_i t T1
   split at h
   ·injection h with h
    injection h with h1 h2
    injection h2 with h2 h3
    subst h1 h2
    exact Nat.le_refl _
   ·rename_i c hc
    split at h
    ·cases h
    ·rename_i y T2 dp2 hy
     have g1 := hr _ _ _ _ _ hy
     have g2 := row_s hr ops d m (.bin c x y) T2 dp2 x' T' dp' h
     simp only [szE] at g2
     rw [List.length_cons]
     omega
theorem join_s {rd : List Tok → Int → PR Ex} (hr : RdS rd) (ops : List UInt8) (many : Bool) (d : Int) : RdS (joinF ops many rd d) := by
 intro T dp x' T' dp' h
 unfold joinF at h
 split at h
 ·cases h
 ·rename_i x T1 dp1 h1
  have g1 := hr _ _ _ _ _ h1
  have g2 := row_s hr ops d _ x T1 dp1 x' T' dp' h
  omega
theorem comp_s {fc : Int → List Tok → Int → PR Ex} (d : Int) (hr : RdS (fc d)) : RdS (compG fc d) := join_s (join_s (join_s hr _ _ _) _ _ _) _ _ _
def szL (l : List Ex) : Nat := (l.map szE).sum
theorem arg_s {rd : List Tok → Int → PR Ex} (hr : RdS rd) (d : Int) : ∀ (m : Nat) (acc : List Ex) (T : List Tok) (dp : Int) (acc' : List Ex) (T' : List Tok) (dp' : Int), argF rd d m acc T dp = .ok (acc', T', dp') → szL acc' + T'.length ≤ szL acc + T.length
 | 0, acc, T, dp, acc', T', dp', h => by
  unfold argF at h
  injection h with h
  injection h with h1 h2
  injection h2 with h2 h3
  subst h1 h2
  exact Nat.le_refl _
 | m + 1, acc, T, dp, acc', T', dp', h => by
  unfold argF at h
  split at h
  ·cases h
  ·rename_i T1 dp1 h1
   have hT1 : T1.length ≤ T.length := by
    split at h1
    ·injection h1 with h1
     injection h1 with h1 h2
     subst h1
     exact Nat.le_refl _
    ·split at h1
     ·cases h1
     ·split at h1
      ·injection h1 with h1
       injection h1 with h1 h2
       subst h1
       rw [List.length_cons]; omega
      ·cases h1
   split at h
   ·cases h
   ·rename_i x T2 dp2 h2
    have g1 := hr _ _ _ _ _ h2
    have g2 := arg_s hr d m (acc ++ [x]) T2 dp2 acc' T' dp' h
    unfold szL at g2 ⊢
    rw [List.map_append, List.sum_append] at g2
    simp only [List.map_cons, List.map_nil, List.sum_cons, List.sum_nil] at g2
    omega
theorem enc_s {rd : List Tok → Int → PR Ex} (hr : RdS rd) (d : Int) (many : Nat) (T : List Tok) (dp : Int) (acc : List Ex) (T' : List Tok) (dp' : Int) (h : encF rd d many T dp = .ok (acc, T', dp')) : szL acc + T'.length + 2 ≤ T.length := by
 unfold encF at h
 split at h
 ·cases h
 ·split at h
  ·split at h
   ·cases h
   ·rename_i a T2 dp2 h2
    have g := arg_s hr (d + 1) many [] _ _ a T2 dp2 h2
    split at h
    ·cases h
    ·split at h
     ·injection h with h
      injection h with h1 h2
      injection h2 with h2 h3
      subst h1 h2
      rw [List.length_cons] at g ⊢
      simp only [szL, List.map_nil, List.sum_nil] at g ⊢
      omega
     ·cases h
  ·cases h
theorem mkFn_sz (f : List UInt8) (L : List Ex) : szE (mkFn f L) ≤ szL L + 1 := by
 match L with
 | [] => simp [mkFn, szE, szL]
 | [a] => simp [mkFn, szE, szL]
 | [a, b] => simp [mkFn, szE, szL]
 | [a, b, c] => simp [mkFn, szE, szL]; omega
 | _ :: _ :: _ :: _ :: _ => simp [mkFn, szE]
theorem fact_s : ∀ (n : Nat) (d : Int), RdS (factF n d)
 | 0, d => fun T dp x T' dp' h => by unfold factF at h; cases h
 | n + 1, d => fun T dp x T' dp' h => by
  cases T with
  | nil => unfold factF at h; cases h
  | cons t T1 =>
   unfold factF at h
   rw [List.length_cons]
   split at h
   ·split at h
    ·cases h
    ·rename_i y T2 dp2 h2
     have g := fact_s n (d + 1) _ _ _ _ _ h2
     injection h with h
     injection h with h1 h2
     injection h2 with h2 h3
     subst h1 h2
     simp only [szE]
     omega
   ·split at h
    ·split at h
     ·injection h with h
      injection h with h1 h2
      injection h2 with h2 h3
      subst h1 h2
      simp only [szE]
      omega
     ·cases h
    ·split at h
     ·split at h
      ·cases h
      ·rename_i L T2 dp2 h2
       have g := enc_s (comp_s (d + 1) (fact_s n (d + 1))) d 1 _ _ _ _ _ h2
       injection h with h
       injection h with h1 h2
       injection h2 with h2 h3
       subst h1 h2
       rw [List.length_cons] at g
       have : szE (L.headD (.num 0)) ≤ szL L + 1 := by
        cases L with
        | nil => simp [szE, szL]
        | cons a r => simp only [List.headD_cons, szL, List.map_cons, List.sum_cons]; omega
       omega
     ·split at h
      ·split at h
       ·split at h
        ·cases h
        ·rename_i L T2 dp2 h2
         have g := enc_s (comp_s (d + 1) (fact_s n (d + 1))) d _ _ _ _ _ _ h2
         injection h with h
         injection h with h1 h2
         injection h2 with h2 h3
         subst h1 h2
         have := mkFn_sz t.x L
         omega
       ·split at h
        ·cases h
        ·unfold shfF at h
         split at h
         ·cases h
         ·split at h
          ·split at h
           ·cases h
           ·split at h
            ·split at h
             ·split at h
              ·injection h with h
               injection h with h1 h2
               injection h2 with h2 h3
               subst h1 h2
               simp only [szE, List.length_cons]
               omega
              ·cases h
             ·cases h
            ·cases h
          ·injection h with h
           injection h with h1 h2
           injection h2 with h2 h3
           subst h1 h2
           simp only [szE, List.length_cons]
           omega
      ·cases h
theorem par_sz {l : List UInt8} {e : Ex} (h : parF l = .ok e) : szE e ≤ 501 := by
 unfold parF at h
 have hl := (tokF_len l 0).2
 split at h
 ·cases h
 ·split at h
  ·cases h
  ·rename_i x T dp h1
   have := comp_s 0 (fact_s _ 0) _ _ _ _ _ h1
   split at h
   ·cases h
   ·split at h
    ·cases h
    ·split at h
     ·cases h
     ·injection h with h
      subst h
      omega
end Go.Proofs.YtagoolooikpabaaGreatDoor
