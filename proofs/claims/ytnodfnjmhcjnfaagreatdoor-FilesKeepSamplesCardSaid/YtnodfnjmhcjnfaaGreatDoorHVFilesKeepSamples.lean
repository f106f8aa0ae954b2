/- FilesKeepSamples: what the law's function answers for all numbers it is given. No condition. -/
import Derived.Test.YtnodfnjmhcjnfaaGreatDoorHVKeepA
import Derived.Test.YtnodfnjmhcjnfaaGreatDoorHVBlkP
import Derived.Test.YtnodfnjmhcjnfaaGreatDoorHVBlkR
namespace Go.Proofs.YtnodfnjmhcjnfaaGreatDoor
open Go Go.RowKit
set_option maxRecDepth 100000
set_option linter.all false
set_option maxHeartbeats 2000000
variable {H : Hp} {K : AV → Hp → Prop}
theorem hasPrefixK_a (l m : List UInt8) (hl : l.length ≤ 1000000) (hm : m.length ≤ 1000000) (h : m.length ≤ l.length ∧ l.take m.length = m) (hk : K (.c (.bool true)) H) : ACalls Tryz.prog 61 [.c (.lst 1 (l.map encU)), .c (.lst 1 (m.map encU))] H K := by
  obtain ⟨h1, h2⟩ := h
  have e1 : ((m.length : Int) ≤ l.length) := by omega
  refine acalls Tryz.func61 rfl (by kernel_rfl) (by simp (disch := first | omega | (simp only [go_sem]; first | done | omega)) only [go_sem]) (fun hH => ?_)
  simp (disch := first | omega | (simp only [go_sem]; first | done | omega)) only [go_sem]
  rw [Nat.sub_zero, ← List.map_take, h2]
  refine bytesEq_a m m (by omega) (by omega) ?_
  rw [decide_eq_true rfl]
  simp (disch := first | omega | (simp only [go_sem]; first | done | omega)) only [go_sem]
  exact Ret.same (Nat.le_refl _) hk
theorem aVS_ok (n : Nat) (a : List Smp) : AV.ok n (.c (aVS a)) := by cases a <;> trivial
def tA : ByteArray := ⟨#[116, 97]⟩
def tB : ByteArray := ⟨#[116, 98]⟩
theorem keyA : isKey tA := by decide +kernel
theorem keyB : isKey tB := by decide +kernel
theorem FGood.q {k : Nat} {f : List UInt8} (h : FGood k f) (hk : k ≤ 6) {t : ByteArray} (ht : isKey t) : qRes f t ⟨0, 345686400000⟩ = (qryF (par f).1 t 0 345686400000, 0) := by
  have h1 := h.few t 0 345686400000
  unfold qRes
  rw [show tgE f t = 0 by unfold tgE; rw [if_neg (by simpa using h.1), if_pos ht], show winE ⟨0, 345686400000⟩ = 0 by decide, if_neg (by decide), if_neg (by decide), if_neg (by dsimp only; omega)]
theorem wkS {o : AObj} {ty : Nat} (B : List (List AC)) (l : List Smp) (hA : HOk (H ++ [o])) : WkL (H.length + 1) [.c (.lst 1 B), .c (grV (H.length + 1) l)] (H ++ [o, grO ty 3 (l.map encS)]) [.c (.lst 1 B), .c (aVS l)] (H ++ [o]) := by
  have e0 : ∀ x : AObj, H ++ [o, x] = (H ++ [o]) ++ [x] := fun x => by simp
  cases l with
  | nil =>
    rw [e0]
    exact WkL.drop hA (by simp) (by simp [grV, AV.ok, AV.ok1, AC.ok])
  | cons x xs =>
    rw [show grO ty 3 ((x :: xs).map encS) = .row ty 3 ((x :: xs).map encS) true from rfl]
    have hi2 : (H ++ [o, .row ty 3 ((x :: xs).map encS) true])[H.length + 1]? = some (.row ty 3 ((x :: xs).map encS) true) := by
      rw [e0, List.getElem?_append_right (by simp)]
      simp
    refine WkL.trans (WkL.frz (i := H.length + 1) (ty := ty) (sz := 3) (els := (x :: xs).map encS) (own := true) hi2 (pureL_map _ (fun x => by simp [go_sem, AC.pure])) (by simp)) ?_
    have e1 : [AV.c (AC.lst 1 B), AV.c (grV (H.length + 1) (x :: xs))].map (AV.frz (H.length + 1) 3 ((x :: xs).map encS)) = [.c (.lst 1 B), .c (aVS (x :: xs))] := by
      simp [AV.frz, AV.frz1, AC.frz, aVS, grV, List.take_of_length_le]
    have e2 : (H ++ [o, .row ty 3 ((x :: xs).map encS) true]).set (H.length + 1) (.row ty 3 ((x :: xs).map encS) false) = (H ++ [o]) ++ [.row ty 3 ((x :: xs).map encS) false] := by
      rw [e0, List.set_append_right _ _ (by simp)]
      simp
    rw [e1, e2]
    exact WkL.drop hA (by simp) (by simp [aVS, AV.ok, AV.ok1, AC.ok])
theorem hokS (hH : HOk H) (zs : List Int) (k : Int) : HOk (H ++ [strO zs k]) := HOk.app hH (okN_pure (by simp [pureL, AC.pure]) (by simp) _)
def oldF (a B : List Smp) : List Smp := B.filter fun y => !a.any fun z => decide (z.t = y.t)
theorem oldF_next (a : List Smp) {B : List Smp} {k : Nat} (h : k < B.length) : oldF a (B.take (k + 1)) = oldF a (B.take k) ++ (if (a.any fun z => decide (z.t = B[k].t)) = true then [] else [B[k]]) := by
  unfold oldF
  rw [List.take_succ_eq_append_getElem h, List.filter_append, List.filter_cons]
  congr 1
  by_cases e : (a.any fun z => decide (z.t = B[k].t)) = true
  · rw [if_pos e, if_neg (by rw [e]; decide)]; rfl
  · rw [if_neg e, if_pos (by simpa using e)]; rfl
theorem oldF_len (a B : List Smp) : (oldF a B).length ≤ B.length := List.length_filter_le _ _
theorem filesKeepSamples_a (zs : List Int) (hz : zs.length ≤ 9223372036854775807) (hk : K (.c (.bool true)) H) : ACalls Tryz.prog 8 [.c (.lst 1 (zs.map encI))] H K := by
  have st : ∀ (k : Int) (L : Hp), 0 ≤ k → k ≤ 1000000000 → Str (H ++ strO zs k :: L) H.length zs k := fun k L h1 h2 => ⟨hz, h1, by omega, by simp⟩
  refine acallsS Tryz.func8 rfl (by simp (disch := first | omega | (simp only [go_sem]; first | done | omega)) only [go_sem]) (fun hH => ?_)
  (refine SWp.go (by kernel_rfl) ?_; simp (disch := first | omega | (simp only [go_sem]; first | done | omega)) only [go_sem])
  (refine SWp.go (by kernel_rfl) ?_; simp (disch := first | omega | (simp only [go_sem]; first | done | omega)) only [go_sem])
  refine SWp.cut (H.length + 1) [3] [4, 5] (fun (u : List UInt8 × List Smp × Int) => FGood 4 u.1 ∧ drawnS 6 u.2.1) (fun (u : List UInt8 × List Smp × Int) => [(4, .c (.lst 1 (u.1.map encU))), (5, .c (aVS u.2.1))]) (fun (u : List UInt8 × List Smp × Int) => H ++ [strO zs u.2.2]) (fun _ => rfl) (by kernel_rfl) (by first | (simp; done) | omega) (by first | (simp; done) | (simp; omega) | omega) kl ?_ (fun u hu _ _ => ?_)
  · refine SWp.of (by kernel_rfl) ?_
    simp (disch := first | omega | (simp only [go_sem]; first | done | omega)) only [go_sem]
    refine aFile_gf H.length zs 0 (st _ _ (by omega) (by omega)) (by omega) (fun b j1 g1 g2 g3 => ?_)
    simp (disch := first | omega | (simp only [go_sem]; first | done | omega)) only [go_sem]
    refine rightSamples_o H.length zs j1 6 (st _ _ (by omega) (by omega)) (by omega) (by omega) (by omega) (fun a j2 g4 g5 g6 => ?_)
    simp (disch := first | omega | (simp only [go_sem]; first | done | omega)) only [go_sem]
    refine Next.mk (b, a, j2) ⟨g3, g6⟩ ?_
    simp (disch := first | omega | (simp only [go_sem]; first | done | omega)) only [go_sem]
    exact wkS _ a (hokS hH _ _)
  obtain ⟨b, a, j⟩ := u
  obtain ⟨hG, hS0, hal, _⟩ := hu
  dsimp only at hG hS0 hal ⊢
  have hal : a.length ≤ 6 := by omega
  have hres := hG.res (tag := tA) (by omega) keyA hS0 (by omega)
  have hae : (appRes b tA a).2 = 0 := by rw [hres]
  have hcG := hG.app (by omega) hae
  have hks := keep_same hae
  have hko := keep_other hae (t := tB) (by decide +kernel) 0 345686400000
  rw [hres] at hcG hks hko
  have hpre : b.length ≤ (appB b tA a).length ∧ (appB b tA a).take b.length = b := by
    unfold appB
    exact ⟨by rw [List.length_append]; omega, by rw [List.take_append_of_le_length (Nat.le_refl _), List.take_length]⟩
  dsimp only at hcG hks hko
  generalize appB b tA a = c at *
  have hq1 := hG.q (by omega) keyA
  have hq2 := hcG.q (by omega) keyA
  have hq3 := hcG.q (by omega) keyB
  have hq4 := hG.q (by omega) keyB
  rw [hko] at hq3
  have hf1 := hG.few tA 0 345686400000
  have hf2 := hcG.few tA 0 345686400000
  have hf3 := hG.few tB 0 345686400000
  have hbl : b.length ≤ 64000 := by have := hG.2.1; omega
  have hcl : c.length ≤ 80000 := by have := hcG.2.1; omega
  have hch := chain_sum (par_good hcG.1).1
  have hix : idxB c = (par c).1.map (·.b) := by unfold idxB; rw [if_neg (by rw [hcG.1]; decide)]
  have hpl := par_len c
  (refine SWp.go (by kernel_rfl) ?_; simp (disch := first | omega | (simp only [go_sem]; first | done | omega)) only [go_sem])
  (refine SWp.go (by kernel_rfl) ?_; simp (disch := first | omega | (simp only [go_sem]; first | done | omega)) only [go_sem])
  refine queryTop_a b tA ⟨0, 345686400000⟩ (by omega) (by decide +kernel) ?_
  rw [hq1]
  simp (disch := first | omega | (simp only [go_sem]; first | done | omega)) only [go_sem]
  (refine SWp.go (by kernel_rfl) ?_; simp (disch := first | omega | (simp only [go_sem]; first | done | omega)) only [go_sem])
  refine appendV_a b tA a (by omega) (by decide +kernel) (by omega) ?_
  rw [hres]
  simp (disch := first | omega | (simp only [go_sem]; first | done | omega)) only [go_sem]
  (refine SWp.go (by kernel_rfl) ?_; simp (disch := first | omega | (simp only [go_sem]; first | done | omega)) only [go_sem])
  refine queryTop_a c tA ⟨0, 345686400000⟩ (by omega) (by decide +kernel) ?_
  rw [hq2]
  simp (disch := first | omega | (simp only [go_sem]; first | done | omega)) only [go_sem]
  (refine SWp.go (by kernel_rfl) ?_; simp (disch := first | omega | (simp only [go_sem]; first | done | omega)) only [go_sem])
  refine queryTop_a c tB ⟨0, 345686400000⟩ (by omega) (by decide +kernel) ?_
  rw [hq3]
  simp (disch := first | omega | (simp only [go_sem]; first | done | omega)) only [go_sem]
  (refine SWp.go (by kernel_rfl) ?_; simp (disch := first | omega | (simp only [go_sem]; first | done | omega)) only [go_sem])
  refine queryTop_a b tB ⟨0, 345686400000⟩ (by omega) (by decide +kernel) ?_
  rw [hq4]
  simp (disch := first | omega | (simp only [go_sem]; first | done | omega)) only [go_sem]
  (refine SWp.go (by kernel_rfl) ?_; simp (disch := first | omega | (simp only [go_sem]; first | done | omega)) only [go_sem])
  refine indexB_a c (by omega) ?_
  rw [hcG.1]
  simp (disch := first | omega | (simp only [go_sem]; first | done | omega)) only [go_sem]
  obtain ⟨B, hB⟩ : ∃ B, B = qryF (par b).1 tA 0 345686400000 := ⟨_, rfl⟩
  obtain ⟨A, hA⟩ : ∃ A, A = qryF (par c).1 tA 0 345686400000 := ⟨_, rfl⟩
  obtain ⟨O, hO⟩ : ∃ O, O = qryF (par b).1 tB 0 345686400000 := ⟨_, rfl⟩
  have hBs : ∀ y ∈ B, smOk y := by
    intro y hy
    rw [hB] at hy
    obtain ⟨x, hx, hq⟩ := qryF_mem hy
    exact par_smOk hG.1 x hx y (flatQ_sub.subset hq)
  have has : ∀ y ∈ a, smOk y := fun y hy => by
    have := serF_sml hS0 y hy
    unfold smlS at this
    unfold smOk
    omega
  have hwant : ∀ w : List Smp, w.Perm (a ++ oldF a B) → w.Pairwise (fun x y => ¬ y.t < x.t) → w = A := by
    intro w h1 h2
    rw [hA]
    unfold qryF
    rw [hks]
    refine want_after (List.pairwise_map.2 (((serP_iff a).1 hS0).2.2.imp fun h e => by omega)) ?_ h2
    rw [hB] at h1
    exact h1
  obtain ⟨X, hX⟩ : ∃ X, X = idxB c := ⟨_, rfl⟩
  have hXl : X.length ≤ 80000 := by rw [hX, hix, List.length_map]; omega
  have hca := (chainP_all _ _ _ (par_good hcG.1).1).2
  have hX0 : X = (par c).1.map (fun x => x.b) := by rw [hX, hix]
  have hXs : ∀ k, ((X.take k).map fun x => x.long) = (((par c).1.take k).map fun x => x.b.long) := fun k => by
    rw [hX0, ← List.map_take, List.map_map]
    rfl
  have hX2 : (c.length : Int) = (X.map fun x => x.long).sum := by
    have := hXs X.length
    rw [List.take_length, hX0, List.length_map, List.take_length, ← hX0] at this
    rw [this, hch.2]
    simp
  have hX1 : ∀ k (h : k < X.length), X[k].at_ = ((X.take k).map fun x => x.long).sum ∧ 1 ≤ X[k].long ∧ 0 ≤ X[k].at_ ∧ X[k].at_ + X[k].long ≤ c.length := by
    intro k h
    have hk2 : k < (par c).1.length := by rw [hX0, List.length_map] at h; exact h
    have h1 := hch.1 k hk2
    have h2 := hca _ (List.getElem_mem hk2)
    have e : X[k] = ((par c).1[k]).b := by simp [hX0]
    rw [e, hXs]
    omega
  have hX3 : ∀ k, k ≤ X.length → 0 ≤ ((X.take k).map fun x => x.long).sum ∧ ((X.take k).map fun x => x.long).sum ≤ 80000 := by
    intro k h
    by_cases hk2 : k < X.length
    · have := hX1 k hk2
      omega
    · rw [List.take_of_length_le (by omega), ← hX2]
      omega
  have hXn : ∀ k (h : k < X.length), ((X.take (k + 1)).map fun x => x.long).sum = ((X.take k).map fun x => x.long).sum + X[k].long := fun k h => by
    rw [List.take_succ_eq_append_getElem h, List.map_append, List.sum_append]
    simp
  clear hca hX0 hXs
  have hv2 := aVS_ok (H.length + 2) a
  rw [← hB] at hf1 ⊢
  rw [← hA] at hf2 ⊢
  rw [← hO] at hf3 ⊢
  rw [← hX]
  clear hres hae hks hko hq1 hq2 hq3 hq4 hch hix hpl hB hA hO hX hG hcG
  (refine SWp.go (by kernel_rfl) ?_; simp (disch := first | omega | (simp only [go_sem]; first | done | omega)) only [go_sem])
  refine errsK_lit [0, 0, 0, 0, 0, 0] (by first | ((repeat first | exact at0 (by simp) | refine atS ?_); done) | assumption) rfl rfl (by simp) ?_
  rw [show firstE ([0, 0, 0, 0, 0, 0] : List Int) = 0 from rfl]
  simp (disch := first | omega | (simp only [go_sem]; first | done | omega)) only [go_sem]
  refine equalKq_a O O (by omega) (by omega) ?_
  rw [decide_eq_true (rfl : O = O)]
  simp (disch := first | omega | (simp only [go_sem]; first | done | omega)) only [go_sem]
  refine hasPrefixK_a c b (by omega) (by omega) hpre ?_
  simp (disch := first | omega | (simp only [go_sem]; first | done | omega)) only [go_sem]
  refine SWp.of (by kernel_rfl) ?_
  simp (disch := first | omega | (simp only [go_sem]; first | done | omega)) only [go_sem]
  refine AWp.loop (H.length + 2) [5, 7, 9, 11, 89, 90] [19, 91] (fun (k : Nat) => k ≤ X.length) (fun (k : Nat) => [(19, (.c (.int .i64 (((X.take k).map fun x => x.long).sum)))), (91, (.c (.int .i64 k)))]) (fun (k : Nat) => H ++ [strO zs j, .row 45 2 [encW ⟨0, 345686400000⟩] true]) (fun (k : Nat) => X.length - k) (by kernel_rfl) (fun _ => rfl) (by kernel_rfl) (by first | (simp; done) | omega) (by first | (simp; done) | (simp; omega) | omega) kl ?_ (fun k hkl _ _ => ?_)
  · exact Next.mk 0 (Nat.zero_le _) wk
  have h3 := hX3 k hkl
  by_cases hlt : k < X.length
  · have h1 := hX1 k hlt
    have hn := hXn k hlt
    obtain ⟨y, hy⟩ : ∃ y, y = X[k] := ⟨_, rfl⟩
    rw [← hy] at h1 hn
    generalize ((X.take k).map fun x => x.long).sum = q at *
    have e1 : y.at_ = q := h1.1
    have e2 : ¬ y.long < 1 := by omega
    simp (disch := first | omega | (simp only [go_sem]; first | done | omega)) only [go_sem, hlt, ← hy, e1, e2]
    refine Next.mk (k + 1) ⟨by omega, by omega⟩ ?_
    (try dsimp only)
    rw [hn]
    exact wk
  have hkx : k = X.length := by omega
  subst hkx
  rw [List.take_length, ← hX2]
  simp (disch := first | omega | (simp only [go_sem]; first | done | omega)) only [go_sem]
  refine cloneV_a a (by omega) ?_
  simp (disch := first | omega | (simp only [go_sem]; first | done | omega)) only [go_sem]
  refine AWp.loop (H.length + 2) [5, 9, 11, 19, 111, 112] [22, 113] (fun (k : Nat) => k ≤ B.length) (fun (k : Nat) => [(22, .c (grV (H.length + 2) (a ++ oldF a (B.take k)))), (113, (.c (.int .i64 k)))]) (fun (k : Nat) => H ++ [strO zs j, .row 45 2 [encW ⟨0, 345686400000⟩] true, grO 38 3 ((a ++ oldF a (B.take k)).map encS)]) (fun (k : Nat) => B.length - k) (by kernel_rfl) (fun _ => rfl) (by kernel_rfl) (by first | (simp; done) | omega) (by first | (simp; done) | (simp; omega) | omega) kl ?_ (fun k hkl _ _ => ?_)
  · refine Next.mk 0 (Nat.zero_le _) ?_
    rw [List.take_zero, show oldF a [] = [] from rfl, List.append_nil]
    exact wk
  by_cases hlt : k < B.length
  · obtain ⟨y, hy⟩ : ∃ y, y = B[k] := ⟨_, rfl⟩
    have hn := oldF_next a hlt
    rw [← hy] at hn
    have hol := oldF_len a (B.take k)
    rw [List.length_take] at hol
    obtain ⟨T, hT⟩ : ∃ T, T = a ++ oldF a (B.take k) := ⟨_, rfl⟩
    have hTl : T.length ≤ 10000 := by rw [hT, List.length_append]; omega
    rw [← hT]
    simp (disch := first | omega | (simp only [go_sem]; first | done | omega)) only [go_sem, hlt, ← hy]
    refine containsV_a 64 [(H.length + 3, 0, 0)] (fun z => decide (z.t = y.t)) (by kernel_rfl) (by intro a b c hm; simp at hm; simp; omega) a (fun x K _ hK => fks1_a x y (atG 3 (by simp) rfl) hK) (by omega) ?_
    by_cases e : (a.any fun z => decide (z.t = y.t)) = true
    · rw [if_pos e, List.append_nil] at hn
      rw [e]
      simp (disch := first | omega | (simp only [go_sem]; first | done | omega)) only [go_sem]
      refine Next.mk (k + 1) ⟨by omega, by omega⟩ ?_
      (try dsimp only)
      rw [hn, ← hT]
      ((try simp (disch := first | omega | (simp only [go_sem]; first | done | omega)) only [go_sem]); (first | refine WkL.pickAt [_, _] [0] ?_ ?_ ?_ rfl ?_ ?_ ?_ ?_ | refine WkL.pickAt [_, _] [1] ?_ ?_ ?_ rfl ?_ ?_ ?_ ?_ | refine WkL.pickAt [_, _] [2] ?_ ?_ ?_ rfl ?_ ?_ ?_ ?_ | refine WkL.pickAt [_, _] [3] ?_ ?_ ?_ rfl ?_ ?_ ?_ ?_ | refine WkL.pickAt [_, _] [4] ?_ ?_ ?_ rfl ?_ ?_ ?_ ?_ | refine WkL.pickAt [_, _] [5] ?_ ?_ ?_ rfl ?_ ?_ ?_ ?_ | refine WkL.pickAt [_, _] [6] ?_ ?_ ?_ rfl ?_ ?_ ?_ ?_ | refine WkL.pickAt [_, _] [7] ?_ ?_ ?_ rfl ?_ ?_ ?_ ?_ | refine WkL.pickAt [_, _] [8] ?_ ?_ ?_ rfl ?_ ?_ ?_ ?_ | refine WkL.pickAt [_, _] [9] ?_ ?_ ?_ rfl ?_ ?_ ?_ ?_ | refine WkL.pickAt [_, _] [10] ?_ ?_ ?_ rfl ?_ ?_ ?_ ?_ | refine WkL.pickAt [_, _] [11] ?_ ?_ ?_ rfl ?_ ?_ ?_ ?_ | refine WkL.pickAt [_, _] [12] ?_ ?_ ?_ rfl ?_ ?_ ?_ ?_ | refine WkL.pickAt [_, _] [13] ?_ ?_ ?_ rfl ?_ ?_ ?_ ?_ | refine WkL.pickAt [_, _] [14] ?_ ?_ ?_ rfl ?_ ?_ ?_ ?_ | refine WkL.pickAt [_, _] [15] ?_ ?_ ?_ rfl ?_ ?_ ?_ ?_ | refine WkL.pickAt [_, _] [16] ?_ ?_ ?_ rfl ?_ ?_ ?_ ?_ | refine WkL.pickAt [_, _] [17] ?_ ?_ ?_ rfl ?_ ?_ ?_ ?_) <;> first | assumption | exact HOk.str (by assumption) | (simp; done) | (simp; omega) | (simp [pureO_gr, AObj.pureO, pureL, go_sem, AC.pure]; done) | (simp only [List.all_cons, List.all_nil, Bool.and_true]; exact pureO_gr (pureL_map _ (fun x => by simp [go_sem, AC.pure]))) | ((try simp only [List.map_cons, List.map_nil, av_ren_gr]); simp [AV.ren, AV.ren1, AC.ren, renP, pickS]; first | done | omega) | (simp only [List.forall_mem_cons, List.not_mem_nil, false_implies, implies_true, and_true]; (repeat' apply And.intro) <;> first | trivial | exact grV_ok (by simp) _ | exact okN_grO (fun x => by simp [go_sem, AC.pure]) | exact okN_map (fun x => by simp [go_sem, AC.pure]) | (simp [AV.ok, AV.ok1, AC.ok]; done) | (simp [AV.ok, AV.ok1, AC.ok]; omega) | (simp [AObj.okN, AC.ok]; done)) | (simp [AObj.okN]; done))
    · rw [if_neg e] at hn
      rw [Bool.eq_false_iff.2 e]
      obtain ⟨T2, hT2⟩ : ∃ T2, T2 = T ++ [y] := ⟨_, rfl⟩
      have hT3 : T2 = a ++ oldF a (B.take (k + 1)) := by rw [hT2, hT, hn, List.append_assoc]
      simp (disch := first | omega | (simp only [go_sem]; first | done | omega)) only [go_sem]
      refine appSm T y T2 hT2 (by first | exact at2 (by simp) | exact at2 (by omega)) (by first | exact atG 4 (by simp) rfl | exact at4 (by simp)) (by omega) ?_
      simp (disch := first | omega | (simp only [go_sem]; first | done | omega)) only [go_sem]
      refine Next.mk (k + 1) ⟨by omega, by omega⟩ ?_
      (try dsimp only)
      rw [← hT3]
      ((try simp (disch := first | omega | (simp only [go_sem]; first | done | omega)) only [go_sem]); (first | refine WkL.pickAt [_, _] [0] ?_ ?_ ?_ rfl ?_ ?_ ?_ ?_ | refine WkL.pickAt [_, _] [1] ?_ ?_ ?_ rfl ?_ ?_ ?_ ?_ | refine WkL.pickAt [_, _] [2] ?_ ?_ ?_ rfl ?_ ?_ ?_ ?_ | refine WkL.pickAt [_, _] [3] ?_ ?_ ?_ rfl ?_ ?_ ?_ ?_ | refine WkL.pickAt [_, _] [4] ?_ ?_ ?_ rfl ?_ ?_ ?_ ?_ | refine WkL.pickAt [_, _] [5] ?_ ?_ ?_ rfl ?_ ?_ ?_ ?_ | refine WkL.pickAt [_, _] [6] ?_ ?_ ?_ rfl ?_ ?_ ?_ ?_ | refine WkL.pickAt [_, _] [7] ?_ ?_ ?_ rfl ?_ ?_ ?_ ?_ | refine WkL.pickAt [_, _] [8] ?_ ?_ ?_ rfl ?_ ?_ ?_ ?_ | refine WkL.pickAt [_, _] [9] ?_ ?_ ?_ rfl ?_ ?_ ?_ ?_ | refine WkL.pickAt [_, _] [10] ?_ ?_ ?_ rfl ?_ ?_ ?_ ?_ | refine WkL.pickAt [_, _] [11] ?_ ?_ ?_ rfl ?_ ?_ ?_ ?_ | refine WkL.pickAt [_, _] [12] ?_ ?_ ?_ rfl ?_ ?_ ?_ ?_ | refine WkL.pickAt [_, _] [13] ?_ ?_ ?_ rfl ?_ ?_ ?_ ?_ | refine WkL.pickAt [_, _] [14] ?_ ?_ ?_ rfl ?_ ?_ ?_ ?_ | refine WkL.pickAt [_, _] [15] ?_ ?_ ?_ rfl ?_ ?_ ?_ ?_ | refine WkL.pickAt [_, _] [16] ?_ ?_ ?_ rfl ?_ ?_ ?_ ?_ | refine WkL.pickAt [_, _] [17] ?_ ?_ ?_ rfl ?_ ?_ ?_ ?_) <;> first | assumption | exact HOk.str (by assumption) | (simp; done) | (simp; omega) | (simp [pureO_gr, AObj.pureO, pureL, go_sem, AC.pure]; done) | (simp only [List.all_cons, List.all_nil, Bool.and_true]; exact pureO_gr (pureL_map _ (fun x => by simp [go_sem, AC.pure]))) | ((try simp only [List.map_cons, List.map_nil, av_ren_gr]); simp [AV.ren, AV.ren1, AC.ren, renP, pickS]; first | done | omega) | (simp only [List.forall_mem_cons, List.not_mem_nil, false_implies, implies_true, and_true]; (repeat' apply And.intro) <;> first | trivial | exact grV_ok (by simp) _ | exact okN_grO (fun x => by simp [go_sem, AC.pure]) | exact okN_map (fun x => by simp [go_sem, AC.pure]) | (simp [AV.ok, AV.ok1, AC.ok]; done) | (simp [AV.ok, AV.ok1, AC.ok]; omega) | (simp [AObj.okN, AC.ok]; done)) | (simp [AObj.okN]; done))
  have hkx : k = B.length := by omega
  subst hkx
  rw [List.take_length]
  have hol := oldF_len a B
  obtain ⟨T, hT⟩ : ∃ T, T = a ++ oldF a B := ⟨_, rfl⟩
  have hTl : T.length ≤ 10000 := by rw [hT, List.length_append]; omega
  have hTs : ∀ y ∈ T, smOk y := by
    intro y hy
    rw [hT] at hy
    rcases List.mem_append.1 hy with h | h
    · exact has y h
    · exact hBs y (List.mem_filter.1 h).1
  rw [← hT] at hwant ⊢
  simp (disch := first | omega | (simp only [go_sem]; first | done | omega)) only [go_sem]
  refine sortT_a fksByT T (by first | exact at2 (by simp) | exact at2 (by omega)) hTs (by omega) (fun w w1 w2 => ?_)
  have hwA := hwant w w1 w2
  have hwl := w1.length_eq
  subst hwA
  simp (disch := first | omega | (simp only [go_sem]; first | done | omega)) only [go_sem]
  refine equalG_a w T w (by first | exact at2 (by simp) | exact at2 (by omega)) hwl.symm (by omega) (by omega) ?_
  rw [decide_eq_true (rfl : w = w)]
  simp (disch := first | omega | (simp only [go_sem]; first | done | omega)) only [go_sem]
  refine ready_a ?_
  simp (disch := first | omega | (simp only [go_sem]; first | done | omega)) only [go_sem]
  exact Ret.drop hH (Nat.le_refl _) trivial hk
end Go.Proofs.YtnodfnjmhcjnfaaGreatDoor
