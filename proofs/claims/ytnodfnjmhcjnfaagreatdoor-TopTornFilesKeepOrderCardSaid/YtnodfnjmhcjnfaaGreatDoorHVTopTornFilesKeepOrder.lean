/- TopTornFilesKeepOrder: what the law's function answers for all numbers it is given. No condition. -/
import Derived.Test.YtnodfnjmhcjnfaaGreatDoorHVTornM
import Derived.Test.YtnodfnjmhcjnfaaGreatDoorHVFacts
import Derived.Test.YtnodfnjmhcjnfaaGreatDoorHVMrgK
import Derived.Test.YtnodfnjmhcjnfaaGreatDoorHVRecR
import Derived.Test.YtnodfnjmhcjnfaaGreatDoorHVBlkP
import Derived.Test.YtnodfnjmhcjnfaaGreatDoorHVBlkA
namespace Go.Proofs.YtnodfnjmhcjnfaaGreatDoor
open Go Go.RowKit
set_option maxRecDepth 100000
set_option linter.all false
set_option maxHeartbeats 2000000
variable {H : Hp} {K : AV → Hp → Prop}
theorem equalT_a (l m : List Smp) (hl : l.length ≤ 1099511627776) (hm : m.length ≤ 1099511627776) (hk : K (.c (.bool (decide (l = m)))) H) : ACalls Tryz.prog 18 [.c (.lst 3 (l.map encS)), .c (.lst 3 (m.map encS))] H K := by
  by_cases hlen : l.length = m.length
  · refine acalls Tryz.func18 rfl (by kernel_rfl) (by simp (disch := first | omega | (simp only [go_sem]; first | done | omega)) only [go_sem]) (fun hH => ?_)
    simp (disch := first | omega | (simp only [go_sem]; first | done | omega)) only [go_sem]
    refine AWp.loop (H.length) [0, 1, 12] [13] (fun (k : Nat) => k ≤ l.length ∧ ∀ (j : Nat) (x y : Smp), j < k → l[j]? = some x → m[j]? = some y → x = y) (fun (k : Nat) => [(13, (.c (.int .i64 k)))]) (fun (k : Nat) => H) (fun (k : Nat) => l.length - k) (by kernel_rfl) (fun _ => rfl) (by kernel_rfl) (by first | (simp; done) | omega) (by first | (simp; done) | (simp; omega) | omega) kl ?_ (fun k hk1 _ _ => ?_)
    · exact Next.mk 0 (by simp) wk
    obtain ⟨hk1, hk2⟩ := hk1
    by_cases hlt : k < l.length
    · simp (disch := first | omega | (simp only [go_sem]; first | done | omega)) only [go_sem]
      refine w_draw (by kernel_rfl) (by decide +kernel) ?_
      simp (disch := first | omega | (simp only [go_sem]; first | done | omega)) only [go_sem]
      refine acond_b (fun c => ?_) (fun c => ?_)
      · simp (disch := first | omega | (simp only [go_sem]; first | done | omega)) only [go_sem]
        exact Next.mk (k + 1) ⟨⟨by omega, fun j x y hj hx hy => by
          rcases Nat.lt_or_ge j k with h | h
          · exact hk2 j x y h hx hy
          · obtain rfl : j = k := by omega
            rw [List.getElem?_eq_getElem hlt] at hx
            rw [List.getElem?_eq_getElem (by omega)] at hy
            injection hx with hx; injection hy with hy; rw [← hx, ← hy]; revert c; generalize l[j] = u; generalize m[j] = v; first | (simp; done) | (cases u; cases v; simp)⟩, by omega⟩ wk
      · simp (disch := first | omega | (simp only [go_sem]; first | done | omega)) only [go_sem]
        have : l ≠ m := by rintro rfl; simp at c
        (first | refine Ret.sameE (Nat.le_refl _) (by assumption) ?_ | refine Ret.dropE (by assumption) (Nat.le_refl _) (by assumption) (by simp [AV.ok, AV.ok1, AC.ok]) ?_) <;> simp [this]
    · simp (disch := first | omega | (simp only [go_sem]; first | done | omega)) only [go_sem]
      have : l = m := by
        apply List.ext_getElem hlen
        intro j h1 h2
        exact hk2 j _ _ (by omega) (List.getElem?_eq_getElem h1) (List.getElem?_eq_getElem h2)
      (first | refine Ret.sameE (Nat.le_refl _) (by assumption) ?_ | refine Ret.dropE (by assumption) (Nat.le_refl _) (by assumption) (by simp [AV.ok, AV.ok1, AC.ok]) ?_) <;> simp [this]
  · have : l ≠ m := by rintro rfl; exact hlen rfl
    refine acalls Tryz.func18 rfl (by kernel_rfl) (by simp (disch := first | omega | (simp only [go_sem]; first | done | omega)) only [go_sem]) (fun hH => ?_)
    simp (disch := first | omega | (simp only [go_sem]; first | done | omega)) only [go_sem]
    (first | refine Ret.sameE (Nat.le_refl _) (by assumption) ?_ | refine Ret.dropE (by assumption) (Nat.le_refl _) (by assumption) (by simp [AV.ok, AV.ok1, AC.ok]) ?_) <;> simp [this]
theorem topTornFilesKeepOrder_a (zs : List Int) (hz : zs.length ≤ 9223372036854775807) (hk : K (.c (.bool true)) H) : ACalls Tryz.prog 5 [.c (.lst 1 (zs.map encI))] H K := by
  have st : ∀ (k : Int) (L : Hp), 0 ≤ k → k ≤ 1000000000 → Str (H ++ strO zs k :: L) H.length zs k := fun k L h1 h2 => ⟨hz, h1, by omega, by simp⟩
  refine acalls Tryz.func5 rfl (by kernel_rfl) (by simp (disch := first | omega | (simp only [go_sem]; first | done | omega)) only [go_sem]) (fun hH => ?_)
  simp (disch := first | omega | (simp only [go_sem]; first | done | omega)) only [go_sem]
  refine manyR_a H.length zs 0 (st _ _ (by omega) (by omega)) (by omega) (fun a j1 g1 g2 g3 g4 g5 => ?_)
  simp (disch := first | omega | (simp only [go_sem]; first | done | omega)) only [go_sem]
  refine ACalls.nilz [1, 0, 0] (by simp) ?_
  have hres := FGood.nil.res (by omega) key_tgA g5 g4
  refine appendTop_a [] tgA a (by simp) (by decide) (by omega) ?_
  rw [hres]
  have hbl := appB_len (f := []) (tag := tgA) (l := a) key_tgA.2.1 (serF_sml g5) g4
  obtain ⟨b, hb⟩ : ∃ b, b = appB [] tgA a := ⟨_, rfl⟩
  have hpos : 0 < b.length := by
    rcases Nat.eq_zero_or_pos b.length with h | h
    · exfalso
      obtain ⟨R, n, X, Y, _, _, _, _, _, t6, t7⟩ := torn_law g5 g4 hb 0 (Nat.zero_le _)
      have he : (appRes [] tgA a).2 = 0 := by rw [hres]
      have h1 := (append_par he).1
      rw [hres] at h1
      dsimp only at h1
      rw [← hb, List.length_eq_zero_iff.1 h] at h1
      have h2 : (par ([] : List UInt8)).1.flatMap (fun x => x.ss) = a := by
        rw [h1]
        dsimp only
        rw [List.flatMap_append, newP_flat ((serP_iff a).1 g5).2.2]
        rfl
      have : a = [] := h2.symm
      rw [this] at g3
      simp at g3
    · exact h
  rw [← hb, List.length_nil] at hbl
  rw [← hb]
  simp (disch := first | omega | (simp only [go_sem]; first | done | omega)) only [go_sem, hpos]
  refine range_a H.length zs j1 0 b.length (st _ _ (by omega) (by omega)) (by omega) (by omega) (by omega) (fun cut c1 c2 => ?_)
  obtain ⟨c, rfl⟩ : ∃ c : Nat, cut = c := ⟨cut.toNat, by omega⟩
  have hc : c ≤ b.length := by omega
  obtain ⟨R, n, X, Y, t1, t2, t3, t4, t5, t6, t7⟩ := torn_law g5 g4 hb c hc
  have htl : (b.take c).length = c := by rw [List.length_take]; omega
  simp (disch := first | omega | (simp only [go_sem]; first | done | omega)) only [go_sem]
  rw [Nat.sub_zero, ← List.map_take]
  refine recoverB_a (b.take c) (by omega) ?_
  rw [t1]
  have hal : X.length + Y.length = a.length := by rw [t6, List.length_append]
  have hq : qRes R tgA ⟨0, 345686400000⟩ = (X, 0) := by
    unfold qRes
    rw [show tgE R tgA = 0 by unfold tgE; rw [if_neg (by simpa using t5), if_pos key_tgA], show winE ⟨0, 345686400000⟩ = 0 by decide, if_neg (by decide), if_neg (by decide), t7, if_neg (by omega)]
  have ha : a = X ++ Y := t6
  subst ha
  obtain ⟨w1, w2⟩ := again_law g5
  have hfr : 0 ≤ fromF X ∧ fromF X ≤ 345686400000 := by
    unfold winE at w2
    dsimp only at w2
    split at w2
    · cases w2
    · omega
  clear t1 t6 t7 hres hb
  simp (disch := first | omega | (simp only [go_sem]; first | done | omega)) only [go_sem]
  refine queryTop_a R tgA ⟨0, 345686400000⟩ (by omega) (by decide) ?_
  rw [hq]
  have e0 : firstE [serF (X ++ Y), winE ⟨fromF X, 345686400000⟩] = 0 := by rw [g5, w2]; rfl
  have e1 : firstE [serF X, serF Y] = 0 := by
    rw [serP_sub g5 (List.sublist_append_left X Y), serP_sub g5 (List.sublist_append_right X Y)]
    rfl
  have e2 : mrgF X Y = X ++ Y := mrgF_ris ((serP_iff _).1 g5).2.2
  simp (disch := first | omega | (simp only [go_sem]; first | done | omega)) only [go_sem]
  by_cases hX : X.length = 0
  · have hX' : ¬ (0 : Int) < X.length := by omega
    have e3 : fromF X = 0 := by unfold fromF; rw [if_pos hX]
    rw [e3] at e0 w1
    simp (disch := first | omega | (simp only [go_sem]; first | done | omega)) only [go_sem, hX']
    refine slice_a (X ++ Y) ⟨0, 345686400000⟩ (by omega) (fun h => absurd e0 h) (fun _ => ?_)
    rw [w1]
    simp (disch := first | omega | (simp only [go_sem]; first | done | omega)) only [go_sem]
    refine mergeK_a X Y (by omega) (fun h => absurd e1 h) (fun _ => ?_)
    rw [e2, if_neg (by omega)]
    simp (disch := first | omega | (simp only [go_sem]; first | done | omega)) only [go_sem]
    refine equalT_a (X ++ Y) (X ++ Y) (by omega) (by omega) ?_
    rw [decide_eq_true rfl]
    simp (disch := first | omega | (simp only [go_sem]; first | done | omega)) only [go_sem]
    refine facts_a ?_
    simp (disch := first | omega | (simp only [go_sem]; first | done | omega)) only [go_sem]
    exact Ret.drop hH (Nat.le_refl _) trivial hk
  · have hX' : (0 : Int) < X.length := by omega
    have hix : ((X.length : Int) - 1).toNat = X.length - 1 := by omega
    obtain ⟨y, hy⟩ : ∃ y, y = X[X.length - 1]'(by omega) := ⟨_, rfl⟩
    have e3 : fromF X = y.t + 1 := by
      unfold fromF
      rw [if_neg hX, hy, List.getLastD_eq_getLast?, List.getLast?_eq_getElem?, List.getElem?_eq_getElem (by omega)]
      rfl
    rw [e3] at e0 w1 hfr
    simp (disch := first | omega | (simp only [go_sem]; first | done | omega)) only [go_sem, hX', hix, ← hy]
    refine slice_a (X ++ Y) ⟨y.t + 1, 345686400000⟩ (by omega) (fun h => absurd e0 h) (fun _ => ?_)
    rw [w1]
    simp (disch := first | omega | (simp only [go_sem]; first | done | omega)) only [go_sem]
    refine mergeK_a X Y (by omega) (fun h => absurd e1 h) (fun _ => ?_)
    rw [e2, if_neg (by omega)]
    simp (disch := first | omega | (simp only [go_sem]; first | done | omega)) only [go_sem]
    refine equalT_a (X ++ Y) (X ++ Y) (by omega) (by omega) ?_
    rw [decide_eq_true rfl]
    simp (disch := first | omega | (simp only [go_sem]; first | done | omega)) only [go_sem]
    refine facts_a ?_
    simp (disch := first | omega | (simp only [go_sem]; first | done | omega)) only [go_sem]
    exact Ret.drop hH (Nat.le_refl _) trivial hk
end Go.Proofs.YtnodfnjmhcjnfaaGreatDoor
