/- The program's scanner. Condition: the text is not long. -/
import Derived.Test.YtagoolooikpabaaGreatDoorHVExpP
import Derived.Test.YtagoolooikpabaaGreatDoorHVTxtS
set_option linter.all false
namespace Go.Proofs.YtagoolooikpabaaGreatDoor
open Go Go.RowKit
set_option maxRecDepth 100000
set_option maxHeartbeats 2000000
variable {H : Hp} {K : AV → Hp → Prop}
theorem digitP_a (c : UInt8) (hk : K (.c (.bool (isDg c))) H) : ACalls Tryz.prog 191 [.c (.int .u8 c.toNat)] H K := by
 have hc := c.toNat_lt
 have e : isDg c = decide ((48 : Int) ≤ c.toNat ∧ (c.toNat : Int) ≤ 57) := by unfold isDg; congr 1; rw [eq_iff_iff]; omega
 rw [e] at hk
 refine acalls Tryz.func191 rfl (by kernel_rfl) (by simp (disch := first | omega | (simp only [go_sem]; try omega)) only [go_sem]) (fun hH => ?_)
 simp (disch := first | omega | (simp only [go_sem]; try omega)) only [go_sem]
 repeat' (first | ((first | refine acond_d ?_ ?_ | refine acond_b ?_ ?_ | refine ag_d ?_ ?_ | refine ag_n ?_ ?_ | refine ag_bt ?_ ?_ | refine ag_bf ?_ ?_) <;> intro c <;> try simp (disch := first | omega | (simp only [go_sem]; try omega)) only [go_sem, c]) | ((first | refine w_draw (by kernel_rfl) (by decide +kernel) ?_) <;> try simp (disch := first | omega | (simp only [go_sem]; try omega)) only [go_sem]))
 all_goals (first | refine Ret.sameE (Nat.le_refl _) (by assumption) ?_ | refine Ret.dropE (by assumption) (Nat.le_refl _) (by assumption) (by simp [AV.ok, AV.ok1, AC.ok]) ?_) <;> grind
theorem smallP_a (c : UInt8) (hk : K (.c (.bool (isSm c))) H) : ACalls Tryz.prog 192 [.c (.int .u8 c.toNat)] H K := by
 have hc := c.toNat_lt
 have e : isSm c = decide ((97 : Int) ≤ c.toNat ∧ (c.toNat : Int) ≤ 122) := by unfold isSm; congr 1; rw [eq_iff_iff]; omega
 rw [e] at hk
 refine acalls Tryz.func192 rfl (by kernel_rfl) (by simp (disch := first | omega | (simp only [go_sem]; try omega)) only [go_sem]) (fun hH => ?_)
 simp (disch := first | omega | (simp only [go_sem]; try omega)) only [go_sem]
 repeat' (first | ((first | refine acond_d ?_ ?_ | refine acond_b ?_ ?_ | refine ag_d ?_ ?_ | refine ag_n ?_ ?_ | refine ag_bt ?_ ?_ | refine ag_bf ?_ ?_) <;> intro c <;> try simp (disch := first | omega | (simp only [go_sem]; try omega)) only [go_sem, c]) | ((first | refine w_draw (by kernel_rfl) (by decide +kernel) ?_) <;> try simp (disch := first | omega | (simp only [go_sem]; try omega)) only [go_sem]))
 all_goals (first | refine Ret.sameE (Nat.le_refl _) (by assumption) ?_ | refine Ret.dropE (by assumption) (Nat.le_refl _) (by assumption) (by simp [AV.ok, AV.ok1, AC.ok]) ?_) <;> grind
def prK (t : Tok) : Int := if t.k = 1 then (if 9 < t.x.length ∨ (1 < t.x.length ∧ t.x.head? = some 48) then 4 else 1) else if t.k = 2 then (if 40 < t.x.length then 4 else 2) else t.k
def prT (t : Tok) : List AC := [.int .i64 (prK t), .int .i64 t.o, .str (tB t.x)]
theorem tw_at (p : UInt8 → Bool) : ∀ (r : List UInt8) (m : Nat), (∀ i (h : i < r.length), i < m → p r[i] = true) → m ≤ r.length → (∀ h : m < r.length, p r[m] = false) → r.takeWhile p = r.take m
 | [], m, _, _, _ => by simp
 | x :: r, 0, _, _, h3 => by
  have := h3 (by simp)
  rw [List.takeWhile_cons, if_neg (by simpa using this)]
  rfl
 | x :: r, m + 1, h1, h2, h3 => by
  have hx : p x = true := h1 0 (by simp) (by omega)
  rw [List.takeWhile_cons, if_pos hx, List.take_succ_cons, tw_at p r m (fun i h hi => by
   have := h1 (i + 1) (by simpa using h) (by omega)
   simpa using this) (by simpa using h2) (fun h => by
   have := h3 (by simpa using h)
   simpa using this)]
theorem byte_at {l : List UInt8} {i : Nat} (h : i < l.length) : byteAt (tB l) i = (l[i].toNat : Int) := by rw [byteAt_tB, getD_in h]
theorem sgn_ix (c : UInt8) : decide (0 ≤ Lib.indexByte sgnL c) = decide (c ∈ sgnL) := by
 have key : ∀ c : Fin 256, decide (0 ≤ Lib.indexByte sgnL c.val.toUInt8) = decide (c.val.toUInt8 ∈ sgnL) := by decide +kernel
 have := key ⟨c.toNat, c.toNat_lt⟩
 simpa using this
theorem toNat_32 (c : UInt8) : (c.toNat : Int) = 32 ↔ c = 32 := by
 constructor
 ·intro h
  apply UInt8.toNat_inj.1
  have : (32 : UInt8).toNat = 32 := rfl
  omega
 ·intro h; rw [h]; rfl
theorem toNat_48 (c : UInt8) : (c.toNat : Int) = 48 ↔ c = 48 := by
 constructor
 ·intro h
  apply UInt8.toNat_inj.1
  have : (48 : UInt8).toNat = 48 := rfl
  omega
 ·intro h; rw [h]; rfl
theorem scan_a (l : List UInt8) (o : Nat) (ho : o ≤ l.length) (hl : l.length ≤ 1000) (hk : ∀ t T, tokF (l.drop o) o = t :: T → K (.agg (prT t)) H) : ACalls Tryz.prog 152 [(.c (.str (tB l))), (.c (.int .i64 o))] H K := by
 have hsz := tB_size l
 refine acalls Tryz.func152 rfl (by kernel_rfl) (by simp (disch := first | omega | (simp only [go_sem]; try omega)) only [go_sem]) (fun hH => ?_)
 simp (disch := first | omega | (simp only [go_sem]; try omega)) only [go_sem]
 refine AWp.loop (H.length + 1) [0, 4] [1] (fun (k : Nat) => o ≤ k ∧ k ≤ l.length ∧ tokF (l.drop k) k = tokF (l.drop o) o) (fun (k : Nat) => [(1, (.c (.int .i64 k)))]) (fun (k : Nat) => H ++ [.row 214 3 [[.int .i64 0, .int .i64 0, .str ⟨#[]⟩]] true]) (fun (k : Nat) => l.length - k) (by kernel_rfl) (fun _ => rfl) (by kernel_rfl) (by first | (simp; done) | omega) (by first | (simp; done) | (simp; omega) | omega) kl ?_ (fun k q _ _ => ?_)
 ·exact Next.mk o ⟨by omega, by omega, rfl⟩ wk
 obtain ⟨q1, q2, q3⟩ := q
 by_cases hlt : k < l.length
 ·have hd : l.drop k = l[k] :: l.drop (k + 1) := List.drop_eq_getElem_cons hlt
  have hb := byte_at hlt
  have hq := tokF_cons l[k] (l.drop (k + 1)) k
  rw [← hd, q3] at hq
  obtain ⟨c, hc⟩ : ∃ c, c = l[k] := ⟨_, rfl⟩
  rw [← hc] at hb hq hd
  have hcb := c.toNat_lt
  by_cases h32 : c = 32
  ·have h32' : (c.toNat : Int) = 32 := (toNat_32 c).2 h32
   rw [if_pos h32] at hq
   simp (disch := first | omega | (simp only [go_sem]; try omega)) only [go_sem, hsz, hlt, hb, h32']
   exact Next.mk (k + 1) ⟨⟨by omega, by omega, hq.symm⟩, by omega⟩ wk
  ·have h32' : ¬ (c.toNat : Int) = 32 := fun h => h32 ((toNat_32 c).1 h)
   have hkl : ¬ (k : Int) = (l.length : Int) := by omega
   rw [if_neg h32] at hq
   simp (disch := first | omega | (simp only [go_sem]; try omega)) only [go_sem, hsz, hlt, hb, h32', hkl]
   refine digitP_a c ?_
   by_cases hdg : isDg c = true
   ·rw [if_pos hdg] at hq
    simp (disch := first | omega | (simp only [go_sem]; try omega)) only [go_sem, hdg]
    refine AWp.loop (H.length + 1) [0, 1, 4, 6] [5] (fun (e : Nat) => k + 1 ≤ e ∧ e ≤ l.length ∧ ∀ i (h : i < l.length), k < i → i < e → isDg l[i] = true) (fun (e : Nat) => [(5, (.c (.int .i64 e)))]) (fun (e : Nat) => H ++ [.row 214 3 [[.int .i64 0, .int .i64 0, .str ⟨#[]⟩]] true]) (fun (e : Nat) => l.length - e) (by kernel_rfl) (fun _ => rfl) (by kernel_rfl) (by first | (simp; done) | omega) (by first | (simp; done) | (simp; omega) | omega) kl ?_ (fun e q _ _ => ?_)
    ·refine Next.mk (k + 1) ⟨by omega, by omega, fun i h h1 h2 => by omega⟩ ?_
     exact wk
    obtain ⟨e1, e2, e3⟩ := q
    by_cases hgo : ∃ h : e < l.length, isDg l[e] = true
    ·obtain ⟨hle, hde⟩ := hgo
     have hbe := byte_at hle
     simp (disch := first | omega | (simp only [go_sem]; try omega)) only [go_sem, hsz, hle, hbe]
     refine digitP_a l[e] ?_
     simp (disch := first | omega | (simp only [go_sem]; try omega)) only [go_sem, hde]
     refine Next.mk (e + 1) ⟨⟨by omega, by omega, fun i h h1 h2 => ?_⟩, by omega⟩ wk
     rcases Nat.lt_or_ge i e with h3 | h3
     ·exact e3 i h h1 h3
     ·obtain rfl : i = e := by omega
      exact hde
    ·have htw : (l.drop (k + 1)).takeWhile isDg = (l.drop (k + 1)).take (e - (k + 1)) := tw_at isDg _ _ (fun i h h1 => by
      rw [List.getElem_drop]
      exact e3 _ _ (by omega) (by omega)) (by rw [List.length_drop]; omega) (fun h => by
      rw [List.length_drop] at h
      rw [List.getElem_drop]
      have h5 : e < l.length := by omega
      have h6 : isDg l[e] = false := by
       cases h7 : isDg l[e] with
       | false => rfl
       | true => exact absurd ⟨h5, h7⟩ hgo
      rw [← h6]
      congr 2
      omega)
     have hx : (l.drop k).take (e - k) = c :: (l.drop (k + 1)).takeWhile isDg := by
      rw [htw, hd, show e - k = (e - (k + 1)) + 1 by omega, List.take_succ_cons]
     have hsl : (tB l).extract k e = tB (c :: (l.drop (k + 1)).takeWhile isDg) := by rw [ext_tB, hx]
     have hkk := hk _ _ hq
     have hXs := tB_size (c :: (l.drop (k + 1)).takeWhile isDg)
     have hXh : (c :: (l.drop (k + 1)).takeWhile isDg).head? = some c := rfl
     generalize c :: (l.drop (k + 1)).takeWhile isDg = X at *
     have hke : (k : Int) ≤ (e : Int) := by omega
     have hel : (e : Int) ≤ (l.length : Int) := by omega
     have hfin : ∀ (v : Int) (G : Hp), prK ⟨1, X, k⟩ = v → Ret H.length (.agg [.int .i64 v, .int .i64 k, .str (tB X)]) (H ++ G) K := fun v G hv => by
      unfold prT at hkk
      rw [hv] at hkk
      exact Ret.drop hH (Nat.le_refl _) (by simp [AV.ok, AV.ok1, AC.ok]) hkk
     rcases Nat.lt_or_ge e l.length with hle | hle
     case' inl =>
      have hbe := byte_at hle
      have hde : isDg l[e] = false := by
       cases h7 : isDg l[e] with
       | false => rfl
       | true => exact absurd ⟨hle, h7⟩ hgo
      simp (disch := first | omega | (simp only [go_sem]; try omega)) only [go_sem, hsz, hle, hbe]
      refine digitP_a l[e] ?_
     case' inr =>
      have hde : True := trivial
      have hle2 : ¬ e < l.length := by omega
      simp (disch := first | omega | (simp only [go_sem]; try omega)) only [go_sem, hsz, hle2]
     all_goals
      by_cases h9 : 9 < X.length
      ·simp (disch := first | omega | (simp only [go_sem]; try omega)) only [go_sem, hde, hsz, hsl, hke, hel, hXs, h9]
       exact hfin 4 _ (by unfold prK; rw [if_pos rfl, if_pos (.inl h9)])
      by_cases h1 : 1 < X.length
      ·by_cases h48 : c = 48
       ·have h48' : (c.toNat : Int) = 48 := (toNat_48 c).2 h48
        simp (disch := first | omega | (simp only [go_sem]; try omega)) only [go_sem, hde, hsz, hsl, hke, hel, hXs, h9, h1, h48']
        exact hfin 4 _ (by unfold prK; rw [if_pos rfl, if_pos (.inr ⟨h1, by rw [hXh, h48]⟩)])
       ·have h48' : ¬ (c.toNat : Int) = 48 := fun h => h48 ((toNat_48 c).1 h)
        simp (disch := first | omega | (simp only [go_sem]; try omega)) only [go_sem, hde, hsz, hsl, hke, hel, hXs, h9, h1, h48']
        refine hfin 1 _ ?_
        unfold prK
        rw [if_pos rfl, if_neg]
        rintro (h | ⟨_, h⟩)
        ·exact h9 h
        ·rw [hXh] at h
         exact h48 (Option.some.inj h)
      ·simp (disch := first | omega | (simp only [go_sem]; try omega)) only [go_sem, hde, hsz, hsl, hke, hel, hXs, h9, h1]
       refine hfin 1 _ ?_
       unfold prK
       rw [if_pos rfl, if_neg]
       rintro (h | ⟨h, _⟩)
       ·exact h9 h
       ·exact h1 h
   ·have hdg' : isDg c = false := by simpa using hdg
    rw [if_neg hdg] at hq
    simp (disch := first | omega | (simp only [go_sem]; try omega)) only [go_sem, hdg']
    refine smallP_a c ?_
    by_cases hsm : isSm c = true
    ·rw [if_pos hsm] at hq
     simp (disch := first | omega | (simp only [go_sem]; try omega)) only [go_sem, hsm]
     refine AWp.loop (H.length + 1) [0, 1, 4] [5] (fun (e : Nat) => k + 1 ≤ e ∧ e ≤ l.length ∧ ∀ i (h : i < l.length), k < i → i < e → isWd l[i] = true) (fun (e : Nat) => [(5, (.c (.int .i64 e)))]) (fun (e : Nat) => H ++ [.row 214 3 [[.int .i64 0, .int .i64 0, .str ⟨#[]⟩]] true]) (fun (e : Nat) => l.length - e) (by kernel_rfl) (fun _ => rfl) (by kernel_rfl) (by first | (simp; done) | omega) (by first | (simp; done) | (simp; omega) | omega) kl ?_ (fun e q _ _ => ?_)
     ·refine Next.mk (k + 1) ⟨by omega, by omega, fun i h h1 h2 => by omega⟩ ?_
      exact wk
     obtain ⟨e1, e2, e3⟩ := q
     by_cases hgo : ∃ h : e < l.length, isWd l[e] = true
     ·obtain ⟨hle, hde⟩ := hgo
      have hbe := byte_at hle
      have hnx : (k + 1 ≤ e + 1 ∧ e + 1 ≤ l.length ∧ ∀ i (h : i < l.length), k < i → i < e + 1 → isWd l[i] = true) ∧ l.length - (e + 1) < l.length - e := by
       refine ⟨⟨by omega, by omega, fun i h h1 h2 => ?_⟩, by omega⟩
       rcases Nat.lt_or_ge i e with h3 | h3
       ·exact e3 i h h1 h3
       ·obtain rfl : i = e := by omega
        exact hde
      simp (disch := first | omega | (simp only [go_sem]; try omega)) only [go_sem, hsz, hle, hbe]
      refine digitP_a l[e] ?_
      unfold isWd at hde
      generalize l[e] = b at *
      cases h1 : isDg b with
      | true =>
       simp (disch := first | omega | (simp only [go_sem]; try omega)) only [go_sem, hbe]
       exact Next.mk (e + 1) hnx wk
      | false =>
       simp (disch := first | omega | (simp only [go_sem]; try omega)) only [go_sem, hbe]
       refine smallP_a b ?_
       cases h2 : isSm b with
       | true =>
        simp (disch := first | omega | (simp only [go_sem]; try omega)) only [go_sem, hbe]
        exact Next.mk (e + 1) hnx wk
       | false =>
        rw [h1, h2] at hde
        have h95 : (b.toNat : Int) = 95 := by
         have : b.toNat = 95 := by simpa using hde
         omega
        simp (disch := first | omega | (simp only [go_sem]; try omega)) only [go_sem, h95, hbe]
        exact Next.mk (e + 1) hnx wk
     ·have htw : (l.drop (k + 1)).takeWhile isWd = (l.drop (k + 1)).take (e - (k + 1)) := tw_at isWd _ _ (fun i h h1 => by
       rw [List.getElem_drop]
       exact e3 _ _ (by omega) (by omega)) (by rw [List.length_drop]; omega) (fun h => by
       rw [List.length_drop] at h
       rw [List.getElem_drop]
       have h5 : e < l.length := by omega
       have h6 : isWd l[e] = false := by
        cases h7 : isWd l[e] with
        | false => rfl
        | true => exact absurd ⟨h5, h7⟩ hgo
       rw [← h6]
       congr 2
       omega)
      have hx : (l.drop k).take (e - k) = c :: (l.drop (k + 1)).takeWhile isWd := by
       rw [htw, hd, show e - k = (e - (k + 1)) + 1 by omega, List.take_succ_cons]
      have hsl : (tB l).extract k e = tB (c :: (l.drop (k + 1)).takeWhile isWd) := by rw [ext_tB, hx]
      have hkk := hk _ _ hq
      have hXl : (c :: (l.drop (k + 1)).takeWhile isWd).length = e - k := by rw [← hx, List.length_take, List.length_drop]; omega
      generalize c :: (l.drop (k + 1)).takeWhile isWd = X at *
      have hke : (k : Int) ≤ (e : Int) := by omega
      have hel : (e : Int) ≤ (l.length : Int) := by omega
      have hfin : ∀ (v : Int) (G : Hp), prK ⟨2, X, k⟩ = v → Ret H.length (.agg [.int .i64 v, .int .i64 k, .str (tB X)]) (H ++ G) K := fun v G hv => by
       unfold prT at hkk
       rw [hv] at hkk
       exact Ret.drop hH (Nat.le_refl _) (by simp [AV.ok, AV.ok1, AC.ok]) hkk
      have hend : ∀ G : Hp, (40 < X.length → Ret H.length (.agg [.int .i64 4, .int .i64 k, .str (tB X)]) (H ++ G) K) ∧ (¬ 40 < X.length → Ret H.length (.agg [.int .i64 2, .int .i64 k, .str (tB X)]) (H ++ G) K) := fun G =>
       ⟨fun h => hfin 4 G (by unfold prK; rw [if_neg (show ¬ (2 : Nat) = 1 by decide), if_pos rfl, if_pos h]), fun h => hfin 2 G (by unfold prK; rw [if_neg (show ¬ (2 : Nat) = 1 by decide), if_pos rfl, if_neg h])⟩
      by_cases h40 : 40 < X.length
      ·have h40' : (40 : Int) < (e : Int) - (k : Int) := by omega
       have hend := fun G => (hend G).1 h40
       rcases Nat.lt_or_ge e l.length with hle | hle
       ·have hbe := byte_at hle
        have hde : isWd l[e] = false := by
         cases h7 : isWd l[e] with
         | false => rfl
         | true => exact absurd ⟨hle, h7⟩ hgo
        simp (disch := first | omega | (simp only [go_sem]; try omega)) only [go_sem, hsz, hle, hbe]
        refine digitP_a l[e] ?_
        unfold isWd at hde
        generalize l[e] = b at *
        rw [Bool.or_eq_false_iff, Bool.or_eq_false_iff, decide_eq_false_iff_not] at hde
        have h95 : ¬ (b.toNat : Int) = 95 := by omega
        simp (disch := first | omega | (simp only [go_sem]; try omega)) only [go_sem, hde.1.1, hbe]
        refine smallP_a b ?_
        simp (disch := first | omega | (simp only [go_sem]; try omega)) only [go_sem, hde.1.2, hbe, h95, hsz, hsl, hke, hel, h40']
        exact hend _
       ·have hle2 : ¬ e < l.length := by omega
        simp (disch := first | omega | (simp only [go_sem]; try omega)) only [go_sem, hsz, hle2, hsl, hke, hel, h40']
        exact hend _
      ·have h40' : ¬ (40 : Int) < (e : Int) - (k : Int) := by omega
       have hend := fun G => (hend G).2 h40
       rcases Nat.lt_or_ge e l.length with hle | hle
       ·have hbe := byte_at hle
        have hde : isWd l[e] = false := by
         cases h7 : isWd l[e] with
         | false => rfl
         | true => exact absurd ⟨hle, h7⟩ hgo
        simp (disch := first | omega | (simp only [go_sem]; try omega)) only [go_sem, hsz, hle, hbe]
        refine digitP_a l[e] ?_
        unfold isWd at hde
        generalize l[e] = b at *
        rw [Bool.or_eq_false_iff, Bool.or_eq_false_iff, decide_eq_false_iff_not] at hde
        have h95 : ¬ (b.toNat : Int) = 95 := by omega
        simp (disch := first | omega | (simp only [go_sem]; try omega)) only [go_sem, hde.1.1, hbe]
        refine smallP_a b ?_
        simp (disch := first | omega | (simp only [go_sem]; try omega)) only [go_sem, hde.1.2, hbe, h95, hsz, hsl, hke, hel, h40']
        exact hend _
       ·have hle2 : ¬ e < l.length := by omega
        simp (disch := first | omega | (simp only [go_sem]; try omega)) only [go_sem, hsz, hle2, hsl, hke, hel, h40']
        exact hend _
    ·have hsm' : isSm c = false := by simpa using hsm
     rw [if_neg hsm] at hq
     simp (disch := first | omega | (simp only [go_sem]; try omega)) only [go_sem, hsm']
     refine indexByte_a _ _ ?_
     simp (disch := first | omega | (simp only [go_sem]; try omega)) only [go_sem]
     rw [show ([40, 41, 44, 64, 43, 45, 42, 47, 60, 61] : List UInt8) = sgnL from rfl, show c.toNat.toUInt8 = c by simp, sgn_ix c]
     have hsl : (tB l).extract k (k + 1) = tB [c] := by
      rw [ext_tB, hd, show k + 1 - k = 1 by omega]
      rfl
     have e1 : ((k : Int) + 1).toNat = k + 1 := by omega
     have hke : (k : Int) ≤ (k : Int) + 1 := by omega
     have hel : (k : Int) + 1 ≤ (l.length : Int) := by omega
     by_cases hsg : c ∈ sgnL
     ·rw [if_pos hsg] at hq
      rw [decide_eq_true hsg]
      have hkk := hk _ _ hq
      simp (disch := first | omega | (simp only [go_sem]; try omega)) only [go_sem, hsz, e1, hsl, hke, hel]
      exact Ret.drop hH (Nat.le_refl _) (by simp [AV.ok, AV.ok1, AC.ok]) hkk
     ·rw [if_neg hsg] at hq
      rw [decide_eq_false hsg]
      have hkk := hk _ _ hq
      simp (disch := first | omega | (simp only [go_sem]; try omega)) only [go_sem, hsz, e1, hsl, hke, hel]
      exact Ret.drop hH (Nat.le_refl _) (by simp [AV.ok, AV.ok1, AC.ok]) hkk
 ·have hkl : k = l.length := by omega
  subst hkl
  rw [List.drop_length, tokF_nil] at q3
  have := hk _ _ q3.symm
  simp (disch := first | omega | (simp only [go_sem]; try omega)) only [go_sem, hsz]
  exact Ret.drop hH (Nat.le_refl _) (by simp [AV.ok, AV.ok1, AC.ok]) this
end Go.Proofs.YtagoolooikpabaaGreatDoor
