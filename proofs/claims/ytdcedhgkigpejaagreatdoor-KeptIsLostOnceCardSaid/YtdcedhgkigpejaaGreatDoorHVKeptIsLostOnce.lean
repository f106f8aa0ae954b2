/- KeptIsLostOnce: what the law's function answers for all numbers it is given. No condition. -/
import Derived.Test.YtdcedhgkigpejaaGreatDoorHVGE
import Derived.Test.YtdcedhgkigpejaaGreatDoorHVGC
import Derived.Test.YtdcedhgkigpejaaGreatDoorHVReady
namespace Go.Proofs.YtdcedhgkigpejaaGreatDoor
open Go Go.RowKit
set_option maxRecDepth 100000
set_option linter.all false
set_option maxHeartbeats 1000000
variable {H : Hp} {K : AV → Hp → Prop}
theorem kilo1_a {i ty : Nat} {o : Bool} (l : List Int) (n : Int) (hlen : l.length ≤ 1000000) (hi : H[i]? = some (.row ty 1 [[.lst 1 (l.map encI)]] o)) (hk : K (.c (.bool (!decide (n ∈ l)))) H) : ACalls Tryz.prog 45 [(.c (.int .i64 n)), .c (.ptr (some (i, 0, 0)))] H K := by
  have hi1 := getElem?_lt hi
  refine acalls Tryz.func45 rfl (by kernel_rfl) (by simp (disch := first | omega | (simp only [go_sem]; first | done | omega)) only [go_sem]) (fun hH => ?_)
  simp (disch := first | omega | (simp only [go_sem]; first | done | omega)) only [go_sem, hi]
  refine hasI_a l n (by omega) ?_
  simp (disch := first | omega | (simp only [go_sem]; first | done | omega)) only [go_sem]
  exact Ret.same (Nat.le_refl _) hk
theorem keptIsLostOnce_a (zs : List Int) (hz : zs.length ≤ 9223372036854775807) (hk : K (.c (.bool true)) H) : ACalls Tryz.prog 7 [.c (.lst 1 (zs.map encI))] H K := by
  have st : ∀ (k : Int) (L : Hp), 0 ≤ k → k ≤ 1000000000 → Str (H ++ strO zs k :: L) H.length zs k := fun k L h1 h2 => ⟨hz, h1, by omega, by simp⟩
  refine acalls Tryz.func7 rfl (by kernel_rfl) (by simp (disch := first | omega | (simp only [go_sem]; first | done | omega)) only [go_sem]) (fun hH => ?_)
  simp (disch := first | omega | (simp only [go_sem]; first | done | omega)) only [go_sem]
  refine rightLv_a H.length zs 0 (st _ _ (by omega) (by omega)) (by omega) (fun lv j1 g1 g2 c1 g4 => ?_)
  simp (disch := first | omega | (simp only [go_sem]; first | done | omega)) only [go_sem]
  refine holds_a H.length zs j1 (st _ _ (by omega) (by omega)) (by omega) (fun h j2 g5 g6 g7 g8 => ?_)
  have hsh : ∀ x ∈ h, x.short := fun x hx => (g8 x hx).1
  have hnr : ∀ x ∈ h, x.near := fun x hx => (g8 x hx).2
  simp (disch := first | omega | (simp only [go_sem]; first | done | omega)) only [go_sem]
  refine range_a H.length zs j2 0 120 (st _ _ (by omega) (by omega)) (by omega) (by omega) (by omega) (fun m m1 m2 => ?_)
  simp (disch := first | omega | (simp only [go_sem]; first | done | omega)) only [go_sem]
  refine holdsFault_a h (by omega) hsh ?_
  simp (disch := first | omega | (simp only [go_sem]; first | done | omega)) only [go_sem]
  refine acond_d (fun c2 => ?_) (fun c2 => ?_)
  rotate_left
  · simp (disch := first | omega | (simp only [go_sem]; first | done | omega)) only [go_sem]
    refine ready_a ?_
    simp (disch := first | omega | (simp only [go_sem]; first | done | omega)) only [go_sem]
    exact Ret.drop hH (Nat.le_refl _) trivial hk
  simp (disch := first | omega | (simp only [go_sem]; first | done | omega)) only [go_sem]
  refine range_a H.length zs (j2 + 1) 0 600 (st _ _ (by omega) (by omega)) (by omega) (by omega) (by omega) (fun r r1 r2 => ?_)
  have hol := ofF_len h taB
  have hon : ∀ y ∈ ofF h taB, y.near := fun y hy => hnr y (List.mem_filter.1 hy).1
  have hki := kept_iff (l := lv) (h := ofF h taB) (m := m) c1 m1 (by omega) hon
  obtain ⟨_, _, e3, e4⟩ := ends_is (l := lv) (h := ofF h taB) (m := m) c1 m1 (by omega) hon
  have hll := fun u => idxG_len (fun x => keepB x (ofF h taB) m u) lv 0
  simp (disch := first | omega | (simp only [go_sem]; first | done | omega)) only [go_sem]
  refine levelsTop_a lv h taB m (m + r) (by omega) (by omega) hsh hnr (by decide) ?_
  rw [levels_ok c1 c2 taB_ok (momE_of (by omega) (by omega) (by omega))]
  simp (disch := first | omega | (simp only [go_sem]; first | done | omega)) only [go_sem]
  refine range_a H.length zs (j2 + 1 + 1) 0 300 (by first | exact st _ _ (by omega) (by omega) | skip) (by omega) (by omega) (by omega) (fun q q1 q2 => ?_)
  simp (disch := first | omega | (simp only [go_sem]; first | done | omega)) only [go_sem]
  refine levelsTop_a lv h taB m (m + r + q) (by omega) (by omega) hsh hnr (by decide) ?_
  rw [levels_ok c1 c2 taB_ok (momE_of (by omega) (by omega) (by omega))]
  have hsub := kept_sub (l := lv) (h := ofF h taB) (m := m) (show m + r ≤ m + r + q by omega)
  have hnow := hki (m + r)
  have hl1 := hll (m + r)
  have hl2 := hll (m + r + q)
  generalize hthen : idxG (fun x => keepB x (ofF h taB) m (m + r + q)) 0 lv = then1 at *
  generalize hnw : idxG (fun x => keepB x (ofF h taB) m (m + r)) 0 lv = now at *
  simp (disch := first | omega | (simp only [go_sem]; first | done | omega)) only [go_sem]
  refine ends_a lv h taB m (by omega) (by omega) hsh hnr (by decide) ?_
  have hr0 : firstE [lvF lv, hdF h, tagE taB] = 0 := by rw [c1, c2, taB_ok]; rfl
  by_cases hE : 345686399999 ≤ endsLast lv (ofF h taB) m
  · rw [show endsRes lv h taB m = (0, false, 0) by unfold endsRes; rw [if_neg (by rw [hr0]; decide), if_neg (by omega), if_pos hE]]
    have hpos : 0 < now.length := hnow.2 (by omega)
    simp (disch := first | omega | (simp only [go_sem]; first | done | omega)) only [go_sem]
    refine errsK_lit [0, 0, 0] (by first | exact at0 (by simp) | exact at1 (by simp) | exact at2 (by simp) | exact at3 (by simp) | exact at4 (by simp) | exact at5 (by simp) | exact atG 6 (by simp) rfl | exact atG 7 (by simp) rfl | exact atG 8 (by simp) rfl | exact atG 9 (by simp) rfl | exact atG 10 (by simp) rfl | assumption) rfl rfl (by simp) ?_
    rw [show firstE ([0, 0, 0] : List Int) = 0 from rfl]
    simp (disch := first | omega | (simp only [go_sem]; first | done | omega)) only [go_sem]
    refine containsI_a 45 [(H.length + 1, 0, 0)] (fun n => !decide (n ∈ now)) (by kernel_rfl) (by simp; omega) then1 (fun x K _ hK => kilo1_a now x (by omega) (by first | exact at0 (by simp) | exact at1 (by simp) | exact at2 (by simp) | exact at3 (by simp) | exact at4 (by simp) | exact at5 (by simp) | exact atG 6 (by simp) rfl | exact atG 7 (by simp) rfl | exact atG 8 (by simp) rfl | exact atG 9 (by simp) rfl | exact atG 10 (by simp) rfl | assumption) hK) (by omega) ?_
    rw [hsub]
    simp (disch := first | omega | (simp only [go_sem]; first | done | omega)) only [go_sem]
    refine ready_a ?_
    simp (disch := first | omega | (simp only [go_sem]; first | done | omega)) only [go_sem]
    exact Ret.drop hH (Nat.le_refl _) trivial hk
  · rw [show endsRes lv h taB m = (endsLast lv (ofF h taB) m + 1, true, 0) by unfold endsRes; rw [if_neg (by rw [hr0]; decide), if_neg (by omega), if_neg hE]]
    have hgone := hki (endsLast lv (ofF h taB) m + 1)
    have hlast := hki (endsLast lv (ofF h taB) m)
    have hl3 := hll (endsLast lv (ofF h taB) m + 1)
    have hl4 := hll (endsLast lv (ofF h taB) m)
    generalize endsLast lv (ofF h taB) m = E at *
    simp (disch := first | omega | (simp only [go_sem]; first | done | omega)) only [go_sem]
    refine errsK_lit [0, 0, 0] (by first | exact at0 (by simp) | exact at1 (by simp) | exact at2 (by simp) | exact at3 (by simp) | exact at4 (by simp) | exact at5 (by simp) | exact atG 6 (by simp) rfl | exact atG 7 (by simp) rfl | exact atG 8 (by simp) rfl | exact atG 9 (by simp) rfl | exact atG 10 (by simp) rfl | assumption) rfl rfl (by simp) ?_
    rw [show firstE ([0, 0, 0] : List Int) = 0 from rfl]
    simp (disch := first | omega | (simp only [go_sem]; first | done | omega)) only [go_sem]
    refine containsI_a 45 [(H.length + 1, 0, 0)] (fun n => !decide (n ∈ now)) (by kernel_rfl) (by simp; omega) then1 (fun x K _ hK => kilo1_a now x (by omega) (by first | exact at0 (by simp) | exact at1 (by simp) | exact at2 (by simp) | exact at3 (by simp) | exact at4 (by simp) | exact at5 (by simp) | exact atG 6 (by simp) rfl | exact atG 7 (by simp) rfl | exact atG 8 (by simp) rfl | exact atG 9 (by simp) rfl | exact atG 10 (by simp) rfl | assumption) hK) (by omega) ?_
    rw [hsub]
    simp (disch := first | omega | (simp only [go_sem]; first | done | omega)) only [go_sem]
    refine levelsTop_a lv h taB m (E + 1) (by omega) (by omega) hsh hnr (by decide) ?_
    rw [levels_ok c1 c2 taB_ok (momE_of (by omega) (by omega) (by omega))]
    generalize idxG (fun x => keepB x (ofF h taB) m (E + 1)) 0 lv = gone at *
    simp (disch := first | omega | (simp only [go_sem]; first | done | omega)) only [go_sem]
    refine levelsTop_a lv h taB m E (by omega) (by omega) hsh hnr (by decide) ?_
    rw [levels_ok c1 c2 taB_ok (momE_of (by omega) (by omega) (by omega))]
    generalize idxG (fun x => keepB x (ofF h taB) m E) 0 lv = last at *
    have g1 : gone.length = 0 := by omega
    have g2 : 0 < last.length := by omega
    simp (disch := first | omega | (simp only [go_sem]; first | done | omega)) only [go_sem]
    refine errsK_lit [0, 0] (by first | exact at0 (by simp) | exact at1 (by simp) | exact at2 (by simp) | exact at3 (by simp) | exact at4 (by simp) | exact at5 (by simp) | exact atG 6 (by simp) rfl | exact atG 7 (by simp) rfl | exact atG 8 (by simp) rfl | exact atG 9 (by simp) rfl | exact atG 10 (by simp) rfl | assumption) rfl rfl (by simp) ?_
    rw [show firstE ([0, 0] : List Int) = 0 from rfl]
    simp (disch := first | omega | (simp only [go_sem]; first | done | omega)) only [go_sem, g1]
    rw [show (decide (0 < (now.length : Int)) == decide (m + r < E + 1)) = true by rw [beq_iff_eq, decide_eq_decide]; omega]
    simp (disch := first | omega | (simp only [go_sem]; first | done | omega)) only [go_sem]
    refine ready_a ?_
    simp (disch := first | omega | (simp only [go_sem]; first | done | omega)) only [go_sem]
    exact Ret.drop hH (Nat.le_refl _) trivial hk
end Go.Proofs.YtdcedhgkigpejaaGreatDoor
