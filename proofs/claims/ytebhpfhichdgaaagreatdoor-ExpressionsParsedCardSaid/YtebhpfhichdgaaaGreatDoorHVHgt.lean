/- Heights of expressions, on both sides. Condition: no more nodes than a hundred thousand. -/
import Derived.Test.YtebhpfhichdgaaaGreatDoorHVExpS
import Derived.Test.YtebhpfhichdgaaaGreatDoorHVQrsG
namespace Go.Proofs.YtebhpfhichdgaaaGreatDoor
open Go Go.RowKit
set_option maxRecDepth 100000
set_option linter.all false
set_option maxHeartbeats 4000000
theorem encT_l (x : Ex) : (encT x).length = 5 := (encT_ok x).1
theorem encT_t (x : Ex) : (encT x).take 5 = encT x := List.take_of_length_le (by rw [encT_l]; exact Nat.le_refl _)
theorem heightP_a : ∀ (e : Ex) {H : Hp} {K : AV → Hp → Prop}, szE e ≤ 100000 → K (.c (.int .i64 (hgt e))) H → ACalls Tryz.prog 125 [.c (.fp (encNd e))] H K
  | .num n, H, K, hs, hk => by
    unfold encNd
    refine acalls Tryz.func125 rfl (by kernel_rfl) (by simp (disch := first | omega | (simp only [go_sem]; first | done | omega)) only [go_sem]) (fun hH => ?_)
    simp (disch := first | omega | (simp only [go_sem]; first | done | omega)) only [go_sem]
    refine AWp.rounds 0 (by kernel_rfl) ?_
    simp (disch := first | omega | (simp only [go_sem]; first | done | omega)) only [go_sem]
    exact Ret.same (Nat.le_refl _) hk
  | .tag x none, H, K, hs, hk => by
    unfold encNd
    refine acalls Tryz.func125 rfl (by kernel_rfl) (by simp (disch := first | omega | (simp only [go_sem]; first | done | omega)) only [go_sem]) (fun hH => ?_)
    simp (disch := first | omega | (simp only [go_sem]; first | done | omega)) only [go_sem]
    refine AWp.rounds 0 (by kernel_rfl) ?_
    simp (disch := first | omega | (simp only [go_sem]; first | done | omega)) only [go_sem]
    exact Ret.same (Nat.le_refl _) hk
  | .tag x (some n), H, K, hs, hk => by
    unfold encNd
    refine acalls Tryz.func125 rfl (by kernel_rfl) (by simp (disch := first | omega | (simp only [go_sem]; first | done | omega)) only [go_sem]) (fun hH => ?_)
    simp (disch := first | omega | (simp only [go_sem]; first | done | omega)) only [go_sem]
    refine AWp.rounds 0 (by kernel_rfl) ?_
    simp (disch := first | omega | (simp only [go_sem]; first | done | omega)) only [go_sem]
    exact Ret.same (Nat.le_refl _) hk
  | .neg a, H, K, hs, hk => by
    have g1 := hgt_sz a
    simp only [szE] at hs
    simp only [hgt] at hk
    unfold encNd
    refine acalls Tryz.func125 rfl (by kernel_rfl) (by simp (disch := first | omega | (simp only [go_sem]; first | done | omega)) only [go_sem]) (fun hH => ?_)
    simp (disch := first | omega | (simp only [go_sem]; first | done | omega)) only [go_sem]
    refine AWp.rounds 1 (by kernel_rfl) ?_
    simp (disch := first | omega | (simp only [go_sem]; first | done | omega)) only [go_sem]
    refine heightP_a a (by omega) ?_
    simp (disch := first | omega | (simp only [go_sem]; first | done | omega)) only [go_sem]
    rw [show max (0 : Int) (hgt a : Int) + 1 = ((hgt a + 1 : Nat) : Int) by omega]
    exact Ret.same (Nat.le_refl _) hk
  | .bin c a b, H, K, hs, hk => by
    have ga := hgt_sz a
    have gb := hgt_sz b
    simp only [szE] at hs
    simp only [hgt] at hk
    unfold encNd
    refine acalls Tryz.func125 rfl (by kernel_rfl) (by simp (disch := first | omega | (simp only [go_sem]; first | done | omega)) only [go_sem]) (fun hH => ?_)
    simp (disch := first | omega | (simp only [go_sem]; first | done | omega)) only [go_sem]
    refine AWp.rounds 2 (by kernel_rfl) ?_
    simp (disch := first | omega | (simp only [go_sem]; first | done | omega)) only [go_sem]
    refine heightP_a a (by omega) ?_
    simp (disch := first | omega | (simp only [go_sem]; first | done | omega)) only [go_sem]
    refine heightP_a b (by omega) ?_
    simp (disch := first | omega | (simp only [go_sem]; first | done | omega)) only [go_sem]
    rw [show max (max (0 : Int) (hgt a : Int)) (hgt b : Int) + 1 = ((max (hgt a) (hgt b) + 1 : Nat) : Int) by omega]
    exact Ret.same (Nat.le_refl _) hk
  | .f1 f a, H, K, hs, hk => by
    have ga := hgt_sz a
    simp only [szE] at hs
    simp only [hgt] at hk
    unfold encNd
    refine acalls Tryz.func125 rfl (by kernel_rfl) (by simp (disch := first | omega | (simp only [go_sem]; first | done | omega)) only [go_sem]) (fun hH => ?_)
    simp (disch := first | omega | (simp only [go_sem]; first | done | omega)) only [go_sem]
    refine AWp.rounds 1 (by kernel_rfl) ?_
    simp (disch := first | omega | (simp only [go_sem]; first | done | omega)) only [go_sem]
    refine heightP_a a (by omega) ?_
    simp (disch := first | omega | (simp only [go_sem]; first | done | omega)) only [go_sem]
    rw [show max (0 : Int) (hgt a : Int) + 1 = ((hgt a + 1 : Nat) : Int) by omega]
    exact Ret.same (Nat.le_refl _) hk
  | .f2 f a b, H, K, hs, hk => by
    have ga := hgt_sz a
    have gb := hgt_sz b
    simp only [szE] at hs
    simp only [hgt] at hk
    unfold encNd
    refine acalls Tryz.func125 rfl (by kernel_rfl) (by simp (disch := first | omega | (simp only [go_sem]; first | done | omega)) only [go_sem]) (fun hH => ?_)
    simp (disch := first | omega | (simp only [go_sem]; first | done | omega)) only [go_sem]
    refine AWp.rounds 2 (by kernel_rfl) ?_
    simp (disch := first | omega | (simp only [go_sem]; first | done | omega)) only [go_sem]
    refine heightP_a a (by omega) ?_
    simp (disch := first | omega | (simp only [go_sem]; first | done | omega)) only [go_sem]
    refine heightP_a b (by omega) ?_
    simp (disch := first | omega | (simp only [go_sem]; first | done | omega)) only [go_sem]
    rw [show max (max (0 : Int) (hgt a : Int)) (hgt b : Int) + 1 = ((max (hgt a) (hgt b) + 1 : Nat) : Int) by omega]
    exact Ret.same (Nat.le_refl _) hk
  | .f3 f a b c, H, K, hs, hk => by
    have ga := hgt_sz a
    have gb := hgt_sz b
    have gc := hgt_sz c
    simp only [szE] at hs
    simp only [hgt] at hk
    unfold encNd
    refine acalls Tryz.func125 rfl (by kernel_rfl) (by simp (disch := first | omega | (simp only [go_sem]; first | done | omega)) only [go_sem]) (fun hH => ?_)
    simp (disch := first | omega | (simp only [go_sem]; first | done | omega)) only [go_sem]
    refine AWp.rounds 3 (by kernel_rfl) ?_
    simp (disch := first | omega | (simp only [go_sem]; first | done | omega)) only [go_sem]
    refine heightP_a a (by omega) ?_
    simp (disch := first | omega | (simp only [go_sem]; first | done | omega)) only [go_sem]
    refine heightP_a b (by omega) ?_
    simp (disch := first | omega | (simp only [go_sem]; first | done | omega)) only [go_sem]
    refine heightP_a c (by omega) ?_
    simp (disch := first | omega | (simp only [go_sem]; first | done | omega)) only [go_sem]
    rw [show max (max (max (0 : Int) (hgt a : Int)) (hgt b : Int)) (hgt c : Int) + 1 = ((max (max (hgt a) (hgt b)) (hgt c) + 1 : Nat) : Int) by omega]
    exact Ret.same (Nat.le_refl _) hk
theorem heightQ_a : ∀ (e : Ex) {H : Hp} {K : AV → Hp → Prop}, szE e ≤ 100000 → K (.c (.int .i64 (hgt e))) H → ACalls Tryz.prog 128 [.agg (encT e)] H K
  | .num n, H, K, hs, hk => by
    unfold encT
    refine acalls Tryz.func128 rfl (by kernel_rfl) (by simp (disch := first | omega | (simp only [go_sem]; first | done | omega)) only [go_sem]) (fun hH => ?_)
    simp (disch := first | omega | (simp only [go_sem]; first | done | omega)) only [go_sem]
    refine AWp.rounds 0 (by kernel_rfl) ?_
    simp (disch := first | omega | (simp only [go_sem]; first | done | omega)) only [go_sem]
    exact Ret.drop hH (Nat.le_refl _) trivial hk
  | .tag x s, H, K, hs, hk => by
    unfold encT
    refine acalls Tryz.func128 rfl (by kernel_rfl) (by simp (disch := first | omega | (simp only [go_sem]; first | done | omega)) only [go_sem]) (fun hH => ?_)
    simp (disch := first | omega | (simp only [go_sem]; first | done | omega)) only [go_sem]
    refine AWp.rounds 0 (by kernel_rfl) ?_
    simp (disch := first | omega | (simp only [go_sem]; first | done | omega)) only [go_sem]
    exact Ret.drop hH (Nat.le_refl _) trivial hk
  | .neg a, H, K, hs, hk => by
    have ga := hgt_sz a
    simp only [szE] at hs
    simp only [hgt] at hk
    unfold encT
    refine acalls Tryz.func128 rfl (by kernel_rfl) (by simp (disch := first | omega | (simp only [go_sem]; first | done | omega)) only [go_sem]) (fun hH => ?_)
    simp (disch := first | omega | (simp only [go_sem]; first | done | omega)) only [go_sem]
    refine AWp.rounds 1 (by kernel_rfl) ?_
    simp (disch := first | omega | (simp only [go_sem]; first | done | omega)) only [go_sem, encT_l, encT_t]
    refine heightQ_a a (by omega) ?_
    simp (disch := first | omega | (simp only [go_sem]; first | done | omega)) only [go_sem, encT_l, encT_t]
    rw [show max (0 : Int) (hgt a : Int) + 1 = ((hgt a + 1 : Nat) : Int) by omega]
    exact Ret.drop hH (Nat.le_refl _) trivial hk
  | .bin c a b, H, K, hs, hk => by
    have ga := hgt_sz a
    have gb := hgt_sz b
    simp only [szE] at hs
    simp only [hgt] at hk
    unfold encT
    refine acalls Tryz.func128 rfl (by kernel_rfl) (by simp (disch := first | omega | (simp only [go_sem]; first | done | omega)) only [go_sem]) (fun hH => ?_)
    simp (disch := first | omega | (simp only [go_sem]; first | done | omega)) only [go_sem]
    refine AWp.rounds 2 (by kernel_rfl) ?_
    simp (disch := first | omega | (simp only [go_sem]; first | done | omega)) only [go_sem, encT_l, encT_t]
    refine heightQ_a a (by omega) ?_
    simp (disch := first | omega | (simp only [go_sem]; first | done | omega)) only [go_sem, encT_l, encT_t]
    refine heightQ_a b (by omega) ?_
    simp (disch := first | omega | (simp only [go_sem]; first | done | omega)) only [go_sem, encT_l, encT_t]
    rw [show max (max (0 : Int) (hgt a : Int)) (hgt b : Int) + 1 = ((max (hgt a) (hgt b) + 1 : Nat) : Int) by omega]
    exact Ret.drop hH (Nat.le_refl _) trivial hk
  | .f1 f a, H, K, hs, hk => by
    have ga := hgt_sz a
    simp only [szE] at hs
    simp only [hgt] at hk
    unfold encT
    refine acalls Tryz.func128 rfl (by kernel_rfl) (by simp (disch := first | omega | (simp only [go_sem]; first | done | omega)) only [go_sem]) (fun hH => ?_)
    simp (disch := first | omega | (simp only [go_sem]; first | done | omega)) only [go_sem]
    refine AWp.rounds 1 (by kernel_rfl) ?_
    simp (disch := first | omega | (simp only [go_sem]; first | done | omega)) only [go_sem, encT_l, encT_t]
    refine heightQ_a a (by omega) ?_
    simp (disch := first | omega | (simp only [go_sem]; first | done | omega)) only [go_sem, encT_l, encT_t]
    rw [show max (0 : Int) (hgt a : Int) + 1 = ((hgt a + 1 : Nat) : Int) by omega]
    exact Ret.drop hH (Nat.le_refl _) trivial hk
  | .f2 f a b, H, K, hs, hk => by
    have ga := hgt_sz a
    have gb := hgt_sz b
    simp only [szE] at hs
    simp only [hgt] at hk
    unfold encT
    refine acalls Tryz.func128 rfl (by kernel_rfl) (by simp (disch := first | omega | (simp only [go_sem]; first | done | omega)) only [go_sem]) (fun hH => ?_)
    simp (disch := first | omega | (simp only [go_sem]; first | done | omega)) only [go_sem]
    refine AWp.rounds 2 (by kernel_rfl) ?_
    simp (disch := first | omega | (simp only [go_sem]; first | done | omega)) only [go_sem, encT_l, encT_t]
    refine heightQ_a a (by omega) ?_
    simp (disch := first | omega | (simp only [go_sem]; first | done | omega)) only [go_sem, encT_l, encT_t]
    refine heightQ_a b (by omega) ?_
    simp (disch := first | omega | (simp only [go_sem]; first | done | omega)) only [go_sem, encT_l, encT_t]
    rw [show max (max (0 : Int) (hgt a : Int)) (hgt b : Int) + 1 = ((max (hgt a) (hgt b) + 1 : Nat) : Int) by omega]
    exact Ret.drop hH (Nat.le_refl _) trivial hk
  | .f3 f a b c, H, K, hs, hk => by
    have ga := hgt_sz a
    have gb := hgt_sz b
    have gc := hgt_sz c
    simp only [szE] at hs
    simp only [hgt] at hk
    unfold encT
    refine acalls Tryz.func128 rfl (by kernel_rfl) (by simp (disch := first | omega | (simp only [go_sem]; first | done | omega)) only [go_sem]) (fun hH => ?_)
    simp (disch := first | omega | (simp only [go_sem]; first | done | omega)) only [go_sem]
    refine AWp.rounds 3 (by kernel_rfl) ?_
    simp (disch := first | omega | (simp only [go_sem]; first | done | omega)) only [go_sem, encT_l, encT_t]
    refine heightQ_a a (by omega) ?_
    simp (disch := first | omega | (simp only [go_sem]; first | done | omega)) only [go_sem, encT_l, encT_t]
    refine heightQ_a b (by omega) ?_
    simp (disch := first | omega | (simp only [go_sem]; first | done | omega)) only [go_sem, encT_l, encT_t]
    refine heightQ_a c (by omega) ?_
    simp (disch := first | omega | (simp only [go_sem]; first | done | omega)) only [go_sem, encT_l, encT_t]
    rw [show max (max (max (0 : Int) (hgt a : Int)) (hgt b : Int)) (hgt c : Int) + 1 = ((max (max (hgt a) (hgt b)) (hgt c) + 1 : Nat) : Int) by omega]
    exact Ret.drop hH (Nat.le_refl _) trivial hk
theorem depth_a {H : Hp} {K : AV → Hp → Prop} (l : List UInt8) (hl : l.length ≤ 1000000) (hk1 : ∀ e, parF l = .ok e → K (.tup [(.c (.int .i64 (hgt e))), (.c (.int .i64 0)), (.c (.int .i64 0))]) H) (hk2 : ∀ a c, parF l = .error (a, c) → K (.tup [(.c (.int .i64 0)), (.c (.int .i64 a)), (.c (.int .i64 c))]) H) (hne : ∀ a c, parF l = .error (a, c) → c ≠ 0) : ACalls Tryz.prog 40 [(.c (.str (tB l)))] H K := by
  refine acalls Tryz.func40 rfl (by kernel_rfl) (by simp (disch := first | omega | (simp only [go_sem]; first | done | omega)) only [go_sem]) (fun hH => ?_)
  simp (disch := first | omega | (simp only [go_sem]; first | done | omega)) only [go_sem]
  refine parse_a l hl (fun e h => ?_) (fun a c h => ?_)
  · have hk := hk1 e h
    have hs := par_sz h
    simp (disch := first | omega | (simp only [go_sem]; first | done | omega)) only [go_sem]
    refine heightP_a e (by omega) ?_
    simp (disch := first | omega | (simp only [go_sem]; first | done | omega)) only [go_sem]
    exact Ret.same (Nat.le_refl _) hk
  · have hk := hk2 a c h
    have hc := hne a c h
    simp (disch := first | omega | (simp only [go_sem]; first | done | omega)) only [go_sem, hc]
    exact Ret.same (Nat.le_refl _) hk
theorem heightOf_a {H : Hp} {K : AV → Hp → Prop} (l : List UInt8) (hl : l.length ≤ 1000000) (e : Ex) (h : parF l = .ok e) (hk : K (.c (.int .i64 (hgt e))) H) : ACalls Tryz.prog 45 [(.c (.str (tB l)))] H K := by
  refine acalls Tryz.func45 rfl (by kernel_rfl) (by simp (disch := first | omega | (simp only [go_sem]; first | done | omega)) only [go_sem]) (fun hH => ?_)
  simp (disch := first | omega | (simp only [go_sem]; first | done | omega)) only [go_sem]
  refine parsedQ_a l hl (fun e' h' => ?_) (fun a c h' => ?_)
  · rw [h] at h'
    injection h' with h'
    subst h'
    have hs := par_sz h
    simp (disch := first | omega | (simp only [go_sem]; first | done | omega)) only [go_sem, encT_l, encT_t]
    refine heightQ_a e (by omega) ?_
    simp (disch := first | omega | (simp only [go_sem]; first | done | omega)) only [go_sem]
    exact Ret.drop hH (Nat.le_refl _) trivial hk
  · rw [h] at h'; cases h'
end Go.Proofs.YtebhpfhichdgaaaGreatDoor
