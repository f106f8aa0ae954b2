/- Several texts in one: What two values come to: expr, and what follows. No condition. -/
import Derived.Test.YtagoolooikpabaaGreatDoorHVEncT
set_option linter.all false
namespace Go.Proofs.YtagoolooikpabaaGreatDoor
open Go Go.RowKit
set_option maxRecDepth 100000
set_option maxHeartbeats 4000000
variable {H : Hp} {K : AV → Hp → Prop}
@[go_sem] def encV (v : Vl) : List AC := [.int .i64 v.n, .int .i64 v.q]
theorem badE_a (hk : K (.agg (encV badV)) H) : ACalls Tryz.prog 131 [] H K := by
 refine acalls Tryz.func131 rfl kRf gT (fun hH => ?_)
 refine gO ?_
 exact Ret.drop hH lRf oKs hk
theorem boundedE_a (n q most : Int) (hm : 0 ≤ most ∧ most ≤ 1000000000000) (hk : K (.agg (encV (bdV n q most))) H) : ACalls Tryz.prog 174 [(.c (.int .i64 n)), (.c (.int .i64 q)), (.c (.int .i64 most))] H K := by
 unfold bdV at hk
 by_cases h1 : q = 2
 ·rw [if_pos (.inl h1)] at hk
  refine acalls Tryz.func174 rfl kRf gT (fun hH => ?_)
  refine gO1 h1 ?_
  refine badE_a ?_
  refine gO ?_
  exact Ret.drop hH lRf oKs hk
 ·refine acalls Tryz.func174 rfl kRf gT (fun hH => ?_)
  refine gO1 h1 ?_
  refine out_a _ _ _ _ _ ?_
  by_cases h2 : n < -most ∨ most < n
  ·rw [if_pos (.inr h2)] at hk
   rw [decide_eq_true (show n < 0 - most ∨ most < n by omega)]
   refine gO ?_
   refine badE_a ?_
   refine gO ?_
   exact Ret.drop hH lRf oKs hk
  ·rw [if_neg (fun e => e.elim h1 h2)] at hk
   rw [decide_eq_false (show ¬ (n < 0 - most ∨ most < n) by omega)]
   refine gO ?_
   exact Ret.drop hH lRf oKs hk
theorem ofE_a (p : Prop) [Decidable p] (q : Int) (hk : K (.agg (encV (bdV (oneV p) q 1))) H) : ACalls Tryz.prog 175 [(.c (.bool (decide p))), (.c (.int .i64 q))] H K := by
 by_cases h : p
 ·rw [show oneV p = 1 from if_pos h] at hk
  rw [decide_eq_true h]
  refine acalls Tryz.func175 rfl kRf gT (fun hH => ?_)
  refine gO ?_
  refine boundedE_a 1 q 1 (by decide) ?_
  refine gO ?_
  exact Ret.drop hH lRf oKs hk
 ·rw [show oneV p = 0 from if_neg h] at hk
  rw [decide_eq_false h]
  refine acalls Tryz.func175 rfl kRf gT (fun hH => ?_)
  refine gO ?_
  refine boundedE_a 0 q 1 (by decide) ?_
  refine gO ?_
  exact Ret.drop hH lRf oKs hk
theorem prodE_a (a b : Int) (ha : -1000000000000 ≤ a ∧ a ≤ 1000000000000) (hb : -1000000000000 ≤ b ∧ b ≤ 1000000000000) (hk : K (.c (.int .i64 (mulV a b))) H) : ACalls Tryz.prog 226 [(.c (.int .i64 a)), (.c (.int .i64 b))] H K := by
 unfold mulV at hk
 by_cases h0 : a = 0
 ·rw [if_neg (fun e => e.1 h0)] at hk
  subst h0
  refine acalls Tryz.func226 rfl kRf gT (fun hH => ?_)
  refine gO ?_
  exact Ret.same lRf hk
 ·have hd : Int.tdiv 1000000000000 (max a (-a)) = 1000000000000 / max a (0 - a) := by
   rw [show (0 : Int) - a = -a by omega]
   exact Int.tdiv_eq_ediv_of_nonneg (by decide)
  rw [hd, show -b = 0 - b by omega] at hk
  by_cases h1 : 1000000000000 / max a (0 - a) < max b (0 - b)
  ·rw [if_pos ⟨h0, h1⟩] at hk
   refine acalls Tryz.func226 rfl kRf gT (fun hH => ?_)
   refine gO2 h0 h1 ?_
   exact Ret.same lRf hk
  ·rw [if_neg (fun e => h1 e.2)] at hk
   have hab : -1000000000000 ≤ a * b ∧ a * b ≤ 1000000000000 := by
    have h2 : max b (0 - b) * max a (0 - a) ≤ 1000000000000 := Int.mul_le_of_le_ediv oMg oMg
    have h3 : a * b ≤ max b (0 - b) * max a (0 - a) ∧ -(a * b) ≤ max b (0 - b) * max a (0 - a) := by
     rcases Int.le_total 0 a with ha0 | ha0 <;> rcases Int.le_total 0 b with hb0 | hb0
     ·rw [show max b (0 - b) = b by omega, show max a (0 - a) = a by omega, Int.mul_comm b a]
      have := Int.mul_nonneg ha0 hb0
      omega
     ·rw [show max b (0 - b) = -b by omega, show max a (0 - a) = a by omega, Int.neg_mul, Int.mul_comm b a]
      have := Int.mul_nonneg ha0 (show 0 ≤ -b by omega)
      rw [Int.mul_neg] at this
      omega
     ·rw [show max b (0 - b) = b by omega, show max a (0 - a) = -a by omega, Int.mul_neg, Int.mul_comm b a]
      have := Int.mul_nonneg (show 0 ≤ -a by omega) hb0
      rw [Int.neg_mul] at this
      omega
     ·rw [show max b (0 - b) = -b by omega, show max a (0 - a) = -a by omega, Int.neg_mul_neg, Int.mul_comm b a]
      have := Int.mul_nonneg (show 0 ≤ -a by omega) (show 0 ≤ -b by omega)
      rw [Int.neg_mul_neg] at this
      omega
    omega
   have hw : IntKind.i64.wrap (a * b) = a * b := by rw [IntKind.wrap_i64]; omega
   refine acalls Tryz.func226 rfl kRf gT (fun hH => ?_)
   refine gO3 h0 h1 hw ?_
   exact Ret.same lRf hk
@[go_sem] theorem kdm_wMin : decide ((tB wMin : ByteArray) = ⟨#[109, 105, 110]⟩) = true := (by decide)
@[go_sem] theorem kdm_wMax : decide ((tB wMax : ByteArray) = ⟨#[109, 105, 110]⟩) = false := (by decide)
theorem twoE_a (c : UInt8) (hc : c ∈ ops6) (a b : Vl) (ha : VlOk a) (hb : VlOk b) (hk : K (.agg (encV (twoV c a b))) H) : ACalls Tryz.prog 176 [(.c (.str (tB [c]))), .agg (encV a), .agg (encV b)] H K := by
 obtain ⟨a1, a2, _⟩ := ha
 obtain ⟨b1, b2, _⟩ := hb
 simp only [ops6, List.mem_cons, List.not_mem_nil, or_false] at hc
 rcases hc with rfl | rfl | rfl | rfl | rfl | rfl
 ·refine acalls Tryz.func176 rfl kRf gT (fun hH => ?_)
  refine gO ?_
  refine boundedE_a _ _ _ (by decide) ?_
  refine gO ?_
  exact Ret.drop hH lRf oKs hk
 ·refine acalls Tryz.func176 rfl kRf gT (fun hH => ?_)
  refine gO ?_
  refine boundedE_a _ _ _ (by decide) ?_
  refine gO ?_
  exact Ret.drop hH lRf oKs hk
 ·refine acalls Tryz.func176 rfl kRf gT (fun hH => ?_)
  refine gO ?_
  refine prodE_a a.n b.n a1 b1 ?_
  refine gO ?_
  refine boundedE_a _ _ _ (by decide) ?_
  refine gO ?_
  exact Ret.drop hH lRf oKs hk
 ·have hk : K (.agg (encV (if b.n = 0 then badV else bdV (a.n.tdiv b.n) (max a.q b.q) 1000000000000))) H := hk
  by_cases h0 : b.n = 0
  ·rw [if_pos h0] at hk
   refine acalls Tryz.func176 rfl kRf gT (fun hH => ?_)
   refine gO1 h0 ?_
   refine badE_a ?_
   refine gO ?_
   exact Ret.drop hH lRf oKs hk
  ·rw [if_neg h0] at hk
   have hdv : (a.n.tdiv b.n).natAbs ≤ a.n.natAbs := by rw [Int.natAbs_tdiv]; exact Nat.div_le_self _ _
   have hw : IntKind.i64.wrap (a.n.tdiv b.n) = a.n.tdiv b.n := by rw [IntKind.wrap_i64]; omega
   refine acalls Tryz.func176 rfl kRf gT (fun hH => ?_)
   refine gO2 h0 hw ?_
   refine boundedE_a _ _ _ (by decide) ?_
   refine gO ?_
   exact Ret.drop hH lRf oKs hk
 ·refine acalls Tryz.func176 rfl kRf gT (fun hH => ?_)
  refine gO ?_
  refine ofE_a (a.n < b.n) _ ?_
  refine gO ?_
  exact Ret.drop hH lRf oKs hk
 ·refine acalls Tryz.func176 rfl kRf gT (fun hH => ?_)
  refine gO ?_
  refine ofE_a (a.n = b.n) _ ?_
  refine gO ?_
  exact Ret.drop hH lRf oKs hk
theorem minE_a (a b : Vl) (hk : K (.agg (encV (bdV (min a.n b.n) (max a.q b.q) 1000000000000))) H) : ACalls Tryz.prog 176 [(.c (.str (tB wMin))), .agg (encV a), .agg (encV b)] H K := by
 refine acalls Tryz.func176 rfl kRf gT (fun hH => ?_)
 refine gO ?_
 refine boundedE_a _ _ _ (by decide) ?_
 refine gO ?_
 exact Ret.drop hH lRf oKs hk
theorem maxE_a (a b : Vl) (hk : K (.agg (encV (bdV (max a.n b.n) (max a.q b.q) 1000000000000))) H) : ACalls Tryz.prog 176 [(.c (.str (tB wMax))), .agg (encV a), .agg (encV b)] H K := by
 refine acalls Tryz.func176 rfl kRf gT (fun hH => ?_)
 refine gO ?_
 refine boundedE_a _ _ _ (by decide) ?_
 refine gO ?_
 exact Ret.drop hH lRf oKs hk
end Go.Proofs.YtagoolooikpabaaGreatDoor
namespace Go.Proofs.YtagoolooikpabaaGreatDoor
open Go Go.RowKit
set_option maxRecDepth 100000
set_option maxHeartbeats 4000000
variable {H : Hp} {K : AV → Hp → Prop}
def finV (v : Vl) (at' : Int) : Smp := ⟨at', (bdV v.n v.q 1000000).n, (bdV v.n v.q 1000000).q⟩
theorem finalE_a (v : Vl) (m : Int) (hk : K (.agg (encS (finV v m))) H) : ACalls Tryz.prog 120 [.agg (encV v), (.c (.int .i64 m))] H K := by
 unfold finV at hk
 refine acalls Tryz.func120 rfl kRf gT (fun hH => ?_)
 refine gO ?_
 refine boundedE_a _ _ _ (by decide) ?_
 generalize bdV v.n v.q 1000000 = u at *
 refine gO ?_
 exact Ret.drop hH lRf oKs hk
end Go.Proofs.YtagoolooikpabaaGreatDoor
