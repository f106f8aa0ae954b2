/- Several texts in one: The document's values: bad, one, bound, and what follows. No condition. -/
import Derived.Test.YtagoolooikpabaaGreatDoorHVEvl
set_option linter.all false
namespace Go.Proofs.YtagoolooikpabaaGreatDoor
open Go Go.RowKit
set_option maxRecDepth 100000
set_option maxHeartbeats 4000000
variable {H : Hp} {K : AV → Hp → Prop}
theorem badD_a (hk : K (.agg (encV badV)) H) : ACalls Tryz.prog 138 [] H K := by
 refine acalls Tryz.func138 rfl kRf gT (fun hH => ?_)
 refine gO ?_
 exact Ret.drop hH lRf oKs hk
theorem oneD_a (p : Prop) [Decidable p] (hk : K (.c (.int .i64 (oneV p))) H) : ACalls Tryz.prog 183 [(.c (.bool (decide p)))] H K := by
 by_cases h : p
 ·rw [show oneV p = 1 from if_pos h] at hk
  rw [decide_eq_true h]
  refine acalls Tryz.func183 rfl kRf gT (fun hH => ?_)
  refine gO ?_
  exact Ret.same lRf hk
 ·rw [show oneV p = 0 from if_neg h] at hk
  rw [decide_eq_false h]
  refine acalls Tryz.func183 rfl kRf gT (fun hH => ?_)
  refine gO ?_
  exact Ret.same lRf hk
theorem inD_a (n lo hi : Int) (hk : K (.c (.bool (decide (lo ≤ n ∧ n ≤ hi)))) H) : ACalls Tryz.prog 111 [(.c (.int .i64 n)), (.c (.int .i64 lo)), (.c (.int .i64 hi))] H K := by
 by_cases h1 : lo ≤ n
 ·by_cases h2 : n ≤ hi
  ·rw [decide_eq_true ⟨h1, h2⟩] at hk
   refine acalls Tryz.func111 rfl kRf gT (fun hH => ?_)
   refine gO2 h1 h2 ?_
   exact Ret.same lRf hk
  ·rw [decide_eq_false (fun e => h2 e.2)] at hk
   refine acalls Tryz.func111 rfl kRf gT (fun hH => ?_)
   refine gO2 h1 h2 ?_
   exact Ret.same lRf hk
 ·rw [decide_eq_false (fun e => h1 e.1)] at hk
  refine acalls Tryz.func111 rfl kRf gT (fun hH => ?_)
  refine gO1 h1 ?_
  exact Ret.same lRf hk
theorem boundD_a (n q most : Int) (hm : 0 ≤ most ∧ most ≤ 1000000000000) (hk : K (.agg (encV (bdV n q most))) H) : ACalls Tryz.prog 140 [.agg [.int .i64 n, .int .i64 q], (.c (.int .i64 most))] H K := by
 unfold bdV at hk
 by_cases h1 : q = 2
 ·rw [if_pos (.inl h1)] at hk
  refine acalls Tryz.func140 rfl kRf gT (fun hH => ?_)
  refine gO1 h1 ?_
  refine badD_a ?_
  refine gO ?_
  exact Ret.drop hH lRf oKs hk
 ·refine acalls Tryz.func140 rfl kRf gT (fun hH => ?_)
  refine gO1 h1 ?_
  refine inD_a _ _ _ ?_
  by_cases h2 : n < -most ∨ most < n
  ·rw [if_pos (.inr h2)] at hk
   rw [decide_eq_false (show ¬ (0 - most ≤ n ∧ n ≤ most) by omega)]
   refine gO ?_
   refine badD_a ?_
   refine gO ?_
   exact Ret.drop hH lRf oKs hk
  ·rw [if_neg (fun e => e.elim h1 h2)] at hk
   rw [decide_eq_true (show 0 - most ≤ n ∧ n ≤ most by omega)]
   refine gO ?_
   exact Ret.drop hH lRf oKs hk
end Go.Proofs.YtagoolooikpabaaGreatDoor
namespace Go.Proofs.YtagoolooikpabaaGreatDoor
open Go Go.RowKit
set_option maxRecDepth 100000
set_option maxHeartbeats 4000000
variable {H : Hp} {K : AV → Hp → Prop}
def rkB (c : UInt8) (a b : Int) : Int × Bool :=
 if c = 43 then (a + b, true) else if c = 45 then (a - b, true)
 else if c = 42 then (if b ≠ 0 ∧ Int.tdiv 2000000000000 (max b (-b)) < max a (-a) then (0, false) else (a * b, true))
 else if c = 47 then (if b = 0 then (0, false) else (a.tdiv b, true))
 else if c = 60 then (oneV (a < b), true) else (oneV (a = b), true)
theorem evR_bin (look : List UInt8 → Int → Vl) (m : Int) (c : UInt8) (a b : Ex) : evR look m (.bin c a b) = if max (evR look m a).q (evR look m b).q = 2 then badV else if (rkB c (evR look m a).n (evR look m b).n).2 = true then bdV (rkB c (evR look m a).n (evR look m b).n).1 (max (evR look m a).q (evR look m b).q) 1000000000000 else badV := by
 conv => lhs; unfold evR
 generalize evR look m a = A
 generalize evR look m b = B
 unfold rkB
 by_cases h0 : max A.q B.q = 2
 ·rw [if_pos h0, if_pos h0]
 rw [if_neg h0, if_neg h0]
 by_cases h1 : c = 43
 ·simp only [if_pos h1]; rfl
 simp only [if_neg h1]
 by_cases h2 : c = 45
 ·simp only [if_pos h2]; rfl
 simp only [if_neg h2]
 by_cases h3 : c = 42
 ·simp only [if_pos h3]
  split <;> rfl
 simp only [if_neg h3]
 by_cases h4 : c = 47
 ·simp only [if_pos h4]
  split <;> rfl
 simp only [if_neg h4]
 by_cases h5 : c = 60
 ·simp only [if_pos h5]; rfl
 simp only [if_neg h5]
 rfl
theorem evR_ok {look : List UInt8 → Int → Vl} (hl : ∀ x m, VlOk (look x m)) (m : Int) : ∀ e : Ex, ExOk e → VlOk (evR look m e)
 | .num n, h => by
  obtain ⟨h1, h2⟩ := h
  exact ⟨⟨by show _ ≤ n; omega, by show n ≤ _; omega⟩, ⟨Int.le_refl 0, by show (0 : Int) ≤ 2; omega⟩, fun e => by cases e⟩
 | .tag x s, _ => by
  unfold evR
  exact hl _ _
 | .neg a, h => by
  have ha := evR_ok hl m a h
  unfold evR
  split
  ·exact badV_ok
  ·exact bdV_ok ha.2.1 (by decide)
 | .bin c a b, h => by
  have ha := evR_ok hl m a h.2.1
  have hb := evR_ok hl m b h.2.2
  rw [evR_bin]
  repeat' split
  all_goals first | exact badV_ok | exact bdV_ok (max3 ha.2.1 hb.2.1) (by decide)
 | .f1 f a, h => by
  have ha := evR_ok hl m a h.2
  unfold evR
  split
  ·refine ⟨?_, ⟨Int.le_refl 0, by show (0 : Int) ≤ 2; omega⟩, fun e => by cases e⟩
   unfold oneV
   dsimp only
   split <;> exact ⟨by omega, by omega⟩
  ·split
   ·exact badV_ok
   ·exact bdV_ok ha.2.1 (by decide)
 | .f2 f a b, h => by
  have ha := evR_ok hl m a h.2.1
  have hb := evR_ok hl m b h.2.2
  unfold evR
  split
  ·exact badV_ok
  ·exact bdV_ok (max3 ha.2.1 hb.2.1) (by decide)
 | .f3 f a b c, h => by
  have ha := evR_ok hl m a h.2.1
  have hb := evR_ok hl m b h.2.2.1
  have hc := evR_ok hl m c h.2.2.2
  unfold evR
  refine bdV_ok ?_ (by decide)
  have h1 := ha.2.1
  have h2 := hb.2.1
  have h3 := hc.2.1
  split <;> omega
theorem mul_bd {a b : Int} (h : ¬ (b ≠ 0 ∧ 2000000000000 / (max b (0 - b)) < max a (0 - a))) : -2000000000000 ≤ a * b ∧ a * b ≤ 2000000000000 := by
 by_cases h0 : b = 0
 ·subst h0; simp
 ·have h2 : max a (0 - a) * max b (0 - b) ≤ 2000000000000 := Int.mul_le_of_le_ediv oMg (by
   rcases Classical.em (2000000000000 / (max b (0 - b)) < max a (0 - a)) with g | g
   ·exact absurd ⟨h0, g⟩ h
   ·omega)
  rcases Int.le_total 0 a with ha0 | ha0 <;> rcases Int.le_total 0 b with hb0 | hb0
  ·rw [show max b (0 - b) = b by omega, show max a (0 - a) = a by omega] at h2
   have := Int.mul_nonneg ha0 hb0
   omega
  ·rw [show max b (0 - b) = -b by omega, show max a (0 - a) = a by omega] at h2
   have := Int.mul_nonneg ha0 (show 0 ≤ -b by omega)
   rw [Int.mul_neg] at this h2
   omega
  ·rw [show max b (0 - b) = b by omega, show max a (0 - a) = -a by omega] at h2
   have := Int.mul_nonneg (show 0 ≤ -a by omega) hb0
   rw [Int.neg_mul] at this h2
   omega
  ·rw [show max b (0 - b) = -b by omega, show max a (0 - a) = -a by omega] at h2
   have := Int.mul_nonneg (show 0 ≤ -a by omega) (show 0 ≤ -b by omega)
   rw [Int.neg_mul_neg] at this h2
   omega
def trC (c : UInt8) (x : ByteArray) (ks : List (List AC)) : List AC := [.int .u8 c.toNat, .str x, .int .i64 0, .lst 5 ks, .int .i64 0]
attribute [go_sem] trC
theorem reckonB_a (c : UInt8) (hc : c ∈ ops6) (ks : List (List AC)) (hks : ∀ k ∈ ks, k.all AC.pure = true ∧ k.length = 5) (a b : Vl) (ha : VlOk a) (hb : VlOk b) (hk : K (.tup [(.c (.int .i64 ((rkB c a.n b.n).1))), (.c (.bool ((rkB c a.n b.n).2)))]) H) : ACalls Tryz.prog 184 [.agg (trC c ⟨#[]⟩ ks), .c (.lst 2 [encV a, encV b])] H K := by
 obtain ⟨a1, a2, _⟩ := ha
 obtain ⟨b1, b2, _⟩ := hb
 simp only [ops6, List.mem_cons, List.not_mem_nil, or_false] at hc
 rcases hc with rfl | rfl | rfl | rfl | rfl | rfl
 ·have e : (UInt8.toNat 43 : Nat) = 43 := by decide
  refine acalls Tryz.func184 rfl kRf gT (fun hH => ?_)
  refine gO1 e ?_
  exact Ret.drop hH lRf oKs hk
 ·have e : (UInt8.toNat 45 : Nat) = 45 := by decide
  refine acalls Tryz.func184 rfl kRf gT (fun hH => ?_)
  refine gO1 e ?_
  exact Ret.drop hH lRf oKs hk
 ·have e : (UInt8.toNat 42 : Nat) = 42 := by decide
  have hk : K (.tup [(.c (.int .i64 ((if b.n ≠ 0 ∧ Int.tdiv 2000000000000 (max b.n (-b.n)) < max a.n (-a.n) then ((0 : Int), false) else (a.n * b.n, true)).1))), (.c (.bool ((if b.n ≠ 0 ∧ Int.tdiv 2000000000000 (max b.n (-b.n)) < max a.n (-a.n) then ((0 : Int), false) else (a.n * b.n, true)).2)))]) H := hk
  have hd : Int.tdiv 2000000000000 (max b.n (-b.n)) = 2000000000000 / max b.n (0 - b.n) := by
   rw [show (0 : Int) - b.n = -b.n by omega]
   exact Int.tdiv_eq_ediv_of_nonneg (by decide)
  rw [hd, show -a.n = 0 - a.n by omega] at hk
  by_cases h : b.n ≠ 0 ∧ 2000000000000 / (max b.n (0 - b.n)) < max a.n (0 - a.n)
  ·rw [if_pos h] at hk
   obtain ⟨h0, h1⟩ := h
   refine acalls Tryz.func184 rfl kRf gT (fun hH => ?_)
   refine gO3 e h0 h1 ?_
   exact Ret.drop hH lRf oKs hk
  ·rw [if_neg h] at hk
   have hm := mul_bd h
   have hw : IntKind.i64.wrap (a.n * b.n) = a.n * b.n := by rw [IntKind.wrap_i64]; omega
   by_cases h0 : b.n = 0
   ·rw [h0] at hk
    refine acalls Tryz.func184 rfl kRf gT (fun hH => ?_)
    refine gO3 e h0 hw ?_
    exact Ret.drop hH lRf oKs hk
   ·have h1 : ¬ (2000000000000 / (max b.n (0 - b.n)) < max a.n (0 - a.n)) := fun g => h ⟨h0, g⟩
    refine acalls Tryz.func184 rfl kRf gT (fun hH => ?_)
    refine gO4 e h0 h1 hw ?_
    exact Ret.drop hH lRf oKs hk
 ·have e : (UInt8.toNat 47 : Nat) = 47 := by decide
  have hk : K (.tup [(.c (.int .i64 ((if b.n = 0 then ((0 : Int), false) else (a.n.tdiv b.n, true)).1))), (.c (.bool ((if b.n = 0 then ((0 : Int), false) else (a.n.tdiv b.n, true)).2)))]) H := hk
  by_cases h0 : b.n = 0
  ·rw [if_pos h0] at hk
   refine acalls Tryz.func184 rfl kRf gT (fun hH => ?_)
   refine gO2 e h0 ?_
   exact Ret.drop hH lRf oKs hk
  ·rw [if_neg h0] at hk
   have hdv : (a.n.tdiv b.n).natAbs ≤ a.n.natAbs := by rw [Int.natAbs_tdiv]; exact Nat.div_le_self _ _
   have hw : IntKind.i64.wrap (a.n.tdiv b.n) = a.n.tdiv b.n := by rw [IntKind.wrap_i64]; omega
   refine acalls Tryz.func184 rfl kRf gT (fun hH => ?_)
   refine gO3 e h0 hw ?_
   exact Ret.drop hH lRf oKs hk
 ·have e : (UInt8.toNat 60 : Nat) = 60 := by decide
  refine acalls Tryz.func184 rfl kRf gT (fun hH => ?_)
  refine gO1 e ?_
  refine oneD_a (a.n < b.n) ?_
  refine gO ?_
  exact Ret.drop hH lRf oKs hk
 ·have e : (UInt8.toNat 61 : Nat) = 61 := by decide
  refine acalls Tryz.func184 rfl kRf gT (fun hH => ?_)
  refine gO1 e ?_
  refine oneD_a (a.n = b.n) ?_
  refine gO ?_
  exact Ret.drop hH lRf oKs hk
theorem reckonM_a (ks : List (List AC)) (a : Vl) (ha : VlOk a) (hk : K (.tup [(.c (.int .i64 (-a.n))), (.c (.bool true))]) H) : ACalls Tryz.prog 184 [.agg (trC 109 ⟨#[]⟩ ks), .c (.lst 2 [encV a])] H K := by
 obtain ⟨a1, a2, _⟩ := ha
 have e : (UInt8.toNat 109 : Nat) = 109 := by decide
 have hneg : (0 : Int) - a.n = -a.n := by omega
 refine acalls Tryz.func184 rfl kRf gT (fun hH => ?_)
 refine gO2 e hneg ?_
 exact Ret.drop hH lRf oKs hk
theorem reckonA_a (ks : List (List AC)) (a : Vl) (ha : VlOk a) (hk : K (.tup [(.c (.int .i64 (if a.n < 0 then -a.n else a.n))), (.c (.bool true))]) H) : ACalls Tryz.prog 184 [.agg (trC 102 (tB wAbs) ks), .c (.lst 2 [encV a])] H K := by
 obtain ⟨a1, a2, _⟩ := ha
 have e : (UInt8.toNat 102 : Nat) = 102 := by decide
 have hneg : (0 : Int) - a.n = -a.n := by omega
 by_cases h : a.n < 0
 ·rw [if_pos h] at hk
  refine acalls Tryz.func184 rfl kRf gT (fun hH => ?_)
  refine gO3 e h hneg ?_
  exact Ret.drop hH lRf oKs hk
 ·rw [if_neg h] at hk
  refine acalls Tryz.func184 rfl kRf gT (fun hH => ?_)
  refine gO2 e h ?_
  exact Ret.drop hH lRf oKs hk
theorem reckonN_a (ks : List (List AC)) (a b : Vl) (hk : K (.tup [(.c (.int .i64 (min a.n b.n))), (.c (.bool true))]) H) : ACalls Tryz.prog 184 [.agg (trC 102 (tB wMin) ks), .c (.lst 2 [encV a, encV b])] H K := by
 have e : (UInt8.toNat 102 : Nat) = 102 := by decide
 refine acalls Tryz.func184 rfl kRf gT (fun hH => ?_)
 refine gO1 e ?_
 exact Ret.drop hH lRf oKs hk
theorem reckonX_a (ks : List (List AC)) (a b : Vl) (hk : K (.tup [(.c (.int .i64 (max a.n b.n))), (.c (.bool true))]) H) : ACalls Tryz.prog 184 [.agg (trC 102 (tB wMax) ks), .c (.lst 2 [encV a, encV b])] H K := by
 have e : (UInt8.toNat 102 : Nat) = 102 := by decide
 refine acalls Tryz.func184 rfl kRf gT (fun hH => ?_)
 refine gO1 e ?_
 exact Ret.drop hH lRf oKs hk
end Go.Proofs.YtagoolooikpabaaGreatDoor
