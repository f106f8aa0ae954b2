/- SeriesAreOne: what the law's function answers for all numbers it is given. No condition. -/
import Derived.Test.YtebhpfhichdgaaaGreatDoorHVOneM
import Derived.Test.YtebhpfhichdgaaaGreatDoorHVTxtL
import Derived.Test.YtebhpfhichdgaaaGreatDoorHVSlc
import Derived.Test.YtebhpfhichdgaaaGreatDoorHVReady
import Derived.Test.YtebhpfhichdgaaaGreatDoorHVGC
namespace Go.Proofs.YtebhpfhichdgaaaGreatDoor
open Go Go.RowKit
set_option maxRecDepth 100000
set_option linter.all false
set_option maxHeartbeats 2000000
variable {H : Hp} {K : AV → Hp → Prop}
theorem equalSo_a (l m : List Smp) (hl : l.length ≤ 1099511627776) (hm : m.length ≤ 1099511627776) (hk : K (.c (.bool (decide (l = m)))) H) : ACalls Tryz.prog 62 [.c (.lst 3 (l.map encS)), .c (.lst 3 (m.map encS))] H K := by
  by_cases hlen : l.length = m.length
  · refine acalls Tryz.func62 rfl (by kernel_rfl) (by simp (disch := first | omega | (simp only [go_sem]; first | done | omega)) only [go_sem]) (fun hH => ?_)
    simp (disch := first | omega | (simp only [go_sem]; first | done | omega)) only [go_sem]
    refine AWp.loop (H.length) [0, 1, 12] [13] (fun (k : Nat) => k ≤ l.length ∧ ∀ (j : Nat) (x y : Smp), j < k → l[j]? = some x → m[j]? = some y → x = y) (fun (k : Nat) => [(13, (.c (.int .i64 k)))]) (fun (k : Nat) => H) (fun (k : Nat) => l.length - k) (by kernel_rfl) (fun _ => rfl) (by kernel_rfl) (by first | (simp; done) | omega) (by first | (simp; done) | (simp; omega) | omega) kl ?_ (fun k hk1 _ _ => ?_)
    · exact Next.mk 0 (by simp) wk
    obtain ⟨hk1, hk2⟩ := hk1
    by_cases hlt : k < l.length
    · simp (disch := first | omega | (simp only [go_sem]; first | done | omega)) only [go_sem]
      refine w_draw (by kernel_rfl) (by decide +kernel) ?_
      simp (disch := first | omega | (simp only [go_sem]; first | done | omega)) only [go_sem]
      refine acond_b (fun c => ?_) (fun c => ?_)
      · simp (disch := first | omega | (simp only [go_sem]; first | done | omega)) only [go_sem]
        exact Next.mk (k + 1) ⟨⟨by omega, fun j x y hj hx hy => by
          rcases Nat.lt_or_ge j k with h | h
          · exact hk2 j x y h hx hy
          · obtain rfl : j = k := by omega
            rw [List.getElem?_eq_getElem hlt] at hx
            rw [List.getElem?_eq_getElem (by omega)] at hy
            injection hx with hx; injection hy with hy; rw [← hx, ← hy]; revert c; generalize l[j] = u; generalize m[j] = v; first | (simp; done) | (cases u; cases v; simp)⟩, by omega⟩ wk
      · simp (disch := first | omega | (simp only [go_sem]; first | done | omega)) only [go_sem]
        have : l ≠ m := by rintro rfl; simp at c
        (first | refine Ret.sameE (Nat.le_refl _) (by assumption) ?_ | refine Ret.dropE (by assumption) (Nat.le_refl _) (by assumption) (by simp [AV.ok, AV.ok1, AC.ok]) ?_) <;> simp [this]
    · simp (disch := first | omega | (simp only [go_sem]; first | done | omega)) only [go_sem]
      have : l = m := by
        apply List.ext_getElem hlen
        intro j h1 h2
        exact hk2 j _ _ (by omega) (List.getElem?_eq_getElem h1) (List.getElem?_eq_getElem h2)
      (first | refine Ret.sameE (Nat.le_refl _) (by assumption) ?_ | refine Ret.dropE (by assumption) (Nat.le_refl _) (by assumption) (by simp [AV.ok, AV.ok1, AC.ok]) ?_) <;> simp [this]
  · have : l ≠ m := by rintro rfl; exact hlen rfl
    refine acalls Tryz.func62 rfl (by kernel_rfl) (by simp (disch := first | omega | (simp only [go_sem]; first | done | omega)) only [go_sem]) (fun hH => ?_)
    simp (disch := first | omega | (simp only [go_sem]; first | done | omega)) only [go_sem]
    (first | refine Ret.sameE (Nat.le_refl _) (by assumption) ?_ | refine Ret.dropE (by assumption) (Nat.le_refl _) (by assumption) (by simp [AV.ok, AV.ok1, AC.ok]) ?_) <;> simp [this]
theorem seriesAreOne_a (zs : List Int) (hz : zs.length ≤ 9223372036854775807) (hk : K (.c (.bool true)) H) : ACalls Tryz.prog 7 [.c (.lst 1 (zs.map encI))] H K := by
  have st : ∀ (k : Int) (L : Hp), 0 ≤ k → k ≤ 1000000000 → Str (H ++ strO zs k :: L) H.length zs k := fun k L h1 h2 => ⟨hz, h1, by omega, by simp⟩
  refine acalls Tryz.func7 rfl (by kernel_rfl) (by simp (disch := first | omega | (simp only [go_sem]; first | done | omega)) only [go_sem]) (fun hH => ?_)
  simp (disch := first | omega | (simp only [go_sem]; first | done | omega)) only [go_sem]
  refine rightSamplesT_a H.length zs 0 8 (st _ _ (by omega) (by omega)) (by omega) (by omega) (by omega) (fun a j1 g1 g2 g3 => ?_)
  simp (disch := first | omega | (simp only [go_sem]; first | done | omega)) only [go_sem]
  refine rightSamplesT_a H.length zs j1 8 (st _ _ (by omega) (by omega)) (by omega) (by omega) (by omega) (fun b j2 g4 g5 g6 => ?_)
  obtain ⟨ha, hal, _⟩ := g3
  obtain ⟨hb, hbl, _⟩ := g6
  have hxs := mrg_ser ha hb (by omega)
  have hxl := mrgF_le a b
  have hxr := mrg_ris a b
  have hab : firstE [serF a, serF b] = 0 := by rw [ha, hb]; rfl
  have hba : firstE [serF b, serF a] = 0 := by rw [ha, hb]; rfl
  have hxa : firstE [serF (mrgF a b), serF a] = 0 := by rw [ha, hxs]; rfl
  simp (disch := first | omega | (simp only [go_sem]; first | done | omega)) only [go_sem]
  refine mergeK_a a b (by omega) (fun h => absurd hab h) (fun _ => ?_)
  rw [if_neg (by omega)]
  simp (disch := first | omega | (simp only [go_sem]; first | done | omega)) only [go_sem]
  refine mergeK_a b a (by omega) (fun h => absurd hba h) (fun _ => ?_)
  rw [mrg_comm a b, if_neg (by omega)]
  simp (disch := first | omega | (simp only [go_sem]; first | done | omega)) only [go_sem]
  refine mergeK_a (mrgF a b) a (by omega) (fun h => absurd hxa h) (fun _ => ?_)
  rw [mrg_again a b, if_neg (by omega)]
  have hxl : (mrgF a b).length ≤ 16 := by omega
  clear hab hba hxa
  generalize mrgF a b = X at *
  obtain ⟨ht1, ht2⟩ := txtR_text hxs (by omega)
  simp (disch := first | omega | (simp only [go_sem]; first | done | omega)) only [go_sem]
  refine text_a X (by omega) ?_
  rw [show textR X = (textT X, 0) by unfold textR; rw [if_neg (by simp [hxs]), if_neg (by omega)]]
  simp (disch := first | omega | (simp only [go_sem]; first | done | omega)) only [go_sem]
  refine readT_a (textT X) (by omega) ?_
  rw [ht1]
  simp (disch := first | omega | (simp only [go_sem]; first | done | omega)) only [go_sem]
  refine range_a H.length zs j2 0 300 (st _ _ (by omega) (by omega)) (by omega) (by omega) (by omega) (fun c c0 c1 => ?_)
  have hw1 : firstE [serF X, winE ⟨0, c⟩] = 0 := by
    rw [hxs, show winE ⟨0, c⟩ = 0 by unfold winE; dsimp only; rw [if_neg (by omega)]]; rfl
  have hw2 : firstE [serF X, winE ⟨c, 345686400000⟩] = 0 := by
    rw [hxs, show winE ⟨c, 345686400000⟩ = 0 by unfold winE; dsimp only; rw [if_neg (by omega)]]; rfl
  have htwo := within_two c 345686400000 X hxr (fun x hx => by have := smp_ok' ((serF_ok' hxs).2 x hx); omega)
  have hp1 : (withinF X ⟨0, c⟩).length ≤ 16 := Nat.le_trans (List.length_filter_le _ _) hxl
  have hp2 : (withinF X ⟨c, 345686400000⟩).length ≤ 16 := Nat.le_trans (List.length_filter_le _ _) hxl
  simp (disch := first | omega | (simp only [go_sem]; first | done | omega)) only [go_sem]
  refine slice_a X ⟨0, c⟩ (by omega) (fun h => absurd hw1 h) (fun _ => ?_)
  simp (disch := first | omega | (simp only [go_sem]; first | done | omega)) only [go_sem]
  refine slice_a X ⟨c, 345686400000⟩ (by omega) (fun h => absurd hw2 h) (fun _ => ?_)
  clear hw1 hw2
  generalize withinF X ⟨0, c⟩ = P at *
  generalize withinF X ⟨c, 345686400000⟩ = Q at *
  simp (disch := first | omega | (simp only [go_sem]; first | done | omega)) only [go_sem]
  refine errsK_lit [0, 0, 0, 0, 0, 0, 0] (by first | ((repeat first | exact at0 (by simp) | refine atS ?_); done) | assumption) rfl rfl (by simp) ?_
  rw [show firstE ([0, 0, 0, 0, 0, 0, 0] : List Int) = 0 from rfl]
  simp (disch := first | omega | (simp only [go_sem]; first | done | omega)) only [go_sem]
  refine equalSo_a X X (by omega) (by omega) ?_
  rw [decide_eq_true rfl]
  simp (disch := first | omega | (simp only [go_sem]; first | done | omega)) only [go_sem]
  refine equalSo_a X X (by omega) (by omega) ?_
  rw [decide_eq_true rfl]
  simp (disch := first | omega | (simp only [go_sem]; first | done | omega)) only [go_sem]
  refine equalSo_a X X (by omega) (by omega) ?_
  rw [decide_eq_true rfl]
  simp (disch := first | omega | (simp only [go_sem]; first | done | omega)) only [go_sem]
  refine ACalls.lit (i := H.length + 2) (at2 rfl) (by simp [pureL, AC.pure]) (args' := [.c (.lst 1 [[.lst 3 (P.map encS)], [.lst 3 (Q.map encS)]])]) (by simp [AV.frz1, AC.frz]) (concatS_a P Q (by omega) (by omega) ?_)
  rw [htwo]
  simp (disch := first | omega | (simp only [go_sem]; first | done | omega)) only [go_sem]
  refine ACalls.frzGr (els := X.map encS) (at3 (by simp)) (by simp) (encS_pure X) (by simp [AV.frz1, AC.frz]) ?_
  refine equalSo_a X X (by omega) (by omega) ?_
  rw [decide_eq_true rfl]
  simp (disch := first | omega | (simp only [go_sem]; first | done | omega)) only [go_sem]
  refine checkSeries_a X (by omega) ?_
  rw [hxs]
  simp (disch := first | omega | (simp only [go_sem]; first | done | omega)) only [go_sem]
  refine ready_a ?_
  simp (disch := first | omega | (simp only [go_sem]; first | done | omega)) only [go_sem]
  exact Ret.drop hH (Nat.le_refl _) trivial hk
end Go.Proofs.YtebhpfhichdgaaaGreatDoor
