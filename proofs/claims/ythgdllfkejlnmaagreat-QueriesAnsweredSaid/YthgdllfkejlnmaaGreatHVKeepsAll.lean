/- Whether a level keeps the data of all moments of a window: the program. Condition: few holds, numbers as those of levels. -/
import Derived.Test.YthgdllfkejlnmaaGreatHVAnswerM
import Derived.Test.YthgdllfkejlnmaaGreatHVGE
import Derived.Test.YthgdllfkejlnmaaGreatHVGF
namespace Go.Proofs.YthgdllfkejlnmaaGreat
open Go Go.RowKit
set_option maxRecDepth 100000
set_option linter.all false
set_option maxHeartbeats 2000000
variable {H : Hp} {K : AV → Hp → Prop}
theorem appI2 {i j ty : Nat} {own : Bool} {J : AV → Hp → Prop} (l : List Int) (a b : Int) (hi : H[i]? = some (grO 3 1 (l.map encI))) (hj : H[j]? = some (.row ty 1 [[.int .i64 a], [.int .i64 b]] own)) (hb : l.length ≤ 1000000000)
    (h : J (.c (grV H.length (l ++ [a, b]))) (H.set i .dead ++ [grO 3 1 ((l ++ [a, b]).map encI)])) : aBuiltin Tryz.prog .append #[22, 22] [.c (grV i l), .c (.sl (some (j, 0)) 2)] H J :=
  app_grR (enc := encI) (e := 3) (sz := 1) (bs := 8) (z := [.int .i64 0]) l [a, b] (by kernel_rfl) (by kernel_rfl) (by kernel_rfl) (by kernel_rfl) hi (by rw [hj]; rfl) (by simp) rfl (by decide) (by simp; omega) (by simp; omega) h
theorem appI2e {i j ty : Nat} {own : Bool} {J : AV → Hp → Prop} (l l2 : List Int) (a b : Int) (e : l2 = l ++ [a, b]) (hi : H[i]? = some (grO 3 1 (l.map encI))) (hj : H[j]? = some (.row ty 1 [[.int .i64 a], [.int .i64 b]] own)) (hb : l.length ≤ 1000000000)
    (h : J (.c (grV H.length l2)) (H.set i .dead ++ [grO 3 1 (l2.map encI)])) : aBuiltin Tryz.prog .append #[22, 22] [.c (grV i l), .c (.sl (some (j, 0)) 2)] H J := by
  subst e
  exact appI2 l a b hi hj hb h
theorem kaP_a {i j k q ty ty2 ty3 ty4 : Nat} {o o2 o3 o4 : Bool} (x : Level) (h : List Hold) (w : Win) (m t : Int) (hi : H[i]? = some (.row ty 2 [encW w] o)) (hj : H[j]? = some (.row ty2 2 [encL x] o2)) (hq : H[k]? = some (.row ty3 1 [[.lst 6 (h.map encH)]] o3)) (hr : H[q]? = some (.row ty4 1 [[.int .i64 t]] o4)) (hx : x.ok) (hlen : h.length ≤ 12) (hn : ∀ y ∈ h, y.near) (hw0 : 0 ≤ w.a) (hw1 : w.b ≤ 400000000000) (hk : K (.c (.bool (inW w m && !keepB x h m t))) H) : ACalls Tryz.prog 159 [(.c (.int .i64 m)), .c (.ptr (some (i, 0, 0))), .c (.ptr (some (j, 0, 0))), .c (.ptr (some (k, 0, 0))), .c (.ptr (some (q, 0, 0)))] H K := by
  have hi1 := getElem?_lt hi
  have hj1 := getElem?_lt hj
  have hq1 := getElem?_lt hq
  have hr1 := getElem?_lt hr
  refine acalls Tryz.func159 rfl (by kernel_rfl) (by simp (disch := first | omega | (simp only [go_sem]; first | done | omega)) only [go_sem]) (fun hH => ?_)
  simp (disch := first | omega | (simp only [go_sem]; first | done | omega)) only [go_sem, hi, hj, hq, hr]
  refine inW2_a _ _ _ ?_
  unfold inW at hk
  by_cases c : w.a ≤ m ∧ m < w.b
  · rw [decide_eq_true c, Bool.true_and] at hk
    simp (disch := first | omega | (simp only [go_sem]; first | done | omega)) only [go_sem, c, hi, hj, hq, hr]
    refine keeps_a x h m t hx hlen hn (by omega) (by omega) ?_
    simp (disch := first | omega | (simp only [go_sem]; first | done | omega)) only [go_sem]
    exact Ret.same (Nat.le_refl _) hk
  · rw [decide_eq_false c, Bool.false_and] at hk
    simp (disch := first | omega | (simp only [go_sem]; first | done | omega)) only [go_sem, c, hi, hj, hq, hr]
    exact Ret.same (Nat.le_refl _) hk
theorem momsP_next (x : Level) {h : List Hold} (w : Win) {k : Nat} (hk : k < h.length) : momsP x (h.take (k + 1)) w = momsP x (h.take k) w ++ [(ivl x h[k].t0).1, (ivl x h[k].t0).2] ++ [(ivl x h[k].t1).1, (ivl x h[k].t1).2] := by
  unfold momsP
  rw [List.take_succ_eq_append_getElem hk, List.flatMap_append]
  simp
theorem momsP_len (x : Level) (h : List Hold) (w : Win) : (momsP x h w).length = 1 + 4 * h.length := by
  unfold momsP
  rw [List.length_append, List.length_flatMap]
  have : ∀ l : List Hold, (l.map fun _ => 4).sum = 4 * l.length := by
    intro l
    induction l with
    | nil => rfl
    | cons a l ih => simp [ih]; omega
  simp [this]
theorem keepsAll_a (x : Level) (h : List Hold) (w : Win) (t : Int) (hx : x.ok) (hlen : h.length ≤ 12) (hn : ∀ y ∈ h, y.near) (hv : ∀ y ∈ h, (0 ≤ y.t0 ∧ y.t0 ≤ 400000000000) ∧ 0 ≤ y.t1 ∧ y.t1 ≤ 400000000000) (hw0 : 0 ≤ w.a) (hw1 : w.b ≤ 400000000000)
    (hk : K (.c (.bool (!(momsP x h w).any (fun m => inW w m && !keepB x h m t)))) H) : ACalls Tryz.prog 88 [.agg (encL x), .c (.lst 6 (h.map encH)), .agg (encW w), (.c (.int .i64 t))] H K := by
  have hok := hx
  obtain ⟨x0, x1, x2, x3⟩ := hx
  refine acalls Tryz.func88 rfl (by kernel_rfl) (by simp (disch := first | omega | (simp only [go_sem]; first | done | omega)) only [go_sem]) (fun hH => ?_)
  simp (disch := first | omega | (simp only [go_sem]; first | done | omega)) only [go_sem]
  refine AWp.loop (H.length + 4) [4, 5, 6, 7, 17, 18] [19, 9] (fun (k : Nat) => k ≤ h.length) (fun (k : Nat) => [(19, (.c (.int .i64 k))), (9, .c (grV (H.length + 4) (momsP x (h.take k) w)))]) (fun (k : Nat) => H ++ [.row 127 2 [encL x] true, .row 28 1 [[.lst 6 (h.map encH)]] true, .row 35 2 [encW w] true, .row 3 1 [[.int .i64 t]] true, grO 3 1 ((momsP x (h.take k) w).map encI)]) (fun (k : Nat) => h.length - k) (by kernel_rfl) (fun _ => rfl) (by kernel_rfl) (by simp) (by first | (simp; done) | (simp; omega)) (by (try simp only [List.forall_mem_cons, List.not_mem_nil, false_implies, implies_true, and_true]); (try simp (disch := first | omega | (simp only [go_sem]; first | done | omega)) only [go_sem]); all_goals first | trivial | (simp [AV.ok, AV.ok1, AC.ok]; done) | (simp [AV.ok, AV.ok1, AC.ok]; omega) | (simp [AV.ok, AV.ok1, AC.ok]; assumption) | ((repeat' apply And.intro) <;> first | trivial | (simp [AV.ok, AV.ok1, AC.ok]; done) | (simp [AV.ok, AV.ok1, AC.ok]; omega) | (simp [AV.ok, AV.ok1, AC.ok]; assumption) | (refine grV_ok ?_ _; first | (simp; done) | (simp; omega) | omega))) ?_ (fun k hkb _ _ => ?_)
  · refine Next.mk 0 (by omega) ?_
    simp (disch := first | omega | (simp only [go_sem]; first | done | omega)) only [go_sem]
    rw [show momsP x [] w = [w.a] from rfl]
    simp (disch := first | omega | (simp only [go_sem]; first | done | omega)) only [go_sem]
    exact WkL.refl (by simp)
  have hml := momsP_len x (h.take k) w
  have htk : (h.take k).length ≤ h.length := by rw [List.length_take]; omega
  by_cases hlt : k < h.length
  · have hnx := momsP_next x w hlt
    have hnk := hn h[k] (List.getElem_mem hlt)
    have hvk := hv h[k] (List.getElem_mem hlt)
    simp only [Hold.near] at hnk
    obtain ⟨T, hT⟩ : ∃ T, T = momsP x (h.take k) w := ⟨_, rfl⟩
    rw [← hT] at hnx hml ⊢
    obtain ⟨T1, hT1⟩ : ∃ T1, T1 = T ++ [(ivl x h[k].t0).1, (ivl x h[k].t0).2] := ⟨_, rfl⟩
    obtain ⟨T2, hT2⟩ : ∃ T2, T2 = T1 ++ [(ivl x h[k].t1).1, (ivl x h[k].t1).2] := ⟨_, rfl⟩
    rw [← hT1, ← hT2] at hnx
    have l1 : T1.length ≤ 100 := by rw [hT1]; simp; omega
    simp (disch := first | omega | (simp only [go_sem]; first | done | omega)) only [go_sem]
    refine AWp.rounds 2 (by kernel_rfl) ?_
    simp (disch := first | omega | (simp only [go_sem]; first | done | omega)) only [go_sem]
    repeat' (first | ((first | refine acond_d ?_ ?_ | refine acond_b ?_ ?_ | refine ag_d ?_ ?_ | refine ag_n ?_ ?_ | refine ag_bt ?_ ?_ | refine ag_bf ?_ ?_ | refine agt_d ?_ ?_ | refine agt_n ?_ ?_ | refine agt_bt ?_ ?_ | refine agt_bf ?_ ?_) <;> intro c <;> try simp (disch := first | omega | (simp only [go_sem]; first | done | omega)) only [go_sem, c]) | ((first | refine w_draw (by kernel_rfl) (by decide +kernel) ?_ | refine interval_a x h[k].t0 x0 x1 (by omega) (by omega) (by omega) ?_ | refine interval_a x h[k].t1 x0 x1 (by omega) (by omega) (by omega) ?_ | refine appI2e T T1 _ _ hT1 (by first | exact at0 (by simp) | exact at1 (by simp) | exact at2 (by simp) | exact at3 (by simp) | exact at4 (by simp) | exact at5 (by simp) | exact atG 6 (by simp) rfl | exact atG 7 (by simp) rfl | exact atG 8 (by simp) rfl | exact atG 9 (by simp) rfl | exact atG 10 (by simp) rfl | assumption) (by first | exact at0 (by simp) | exact at1 (by simp) | exact at2 (by simp) | exact at3 (by simp) | exact at4 (by simp) | exact at5 (by simp) | exact atG 6 (by simp) rfl | exact atG 7 (by simp) rfl | exact atG 8 (by simp) rfl | exact atG 9 (by simp) rfl | exact atG 10 (by simp) rfl | assumption) (by omega) ?_ | refine appI2e T1 T2 _ _ hT2 (by first | exact at0 (by simp) | exact at1 (by simp) | exact at2 (by simp) | exact at3 (by simp) | exact at4 (by simp) | exact at5 (by simp) | exact atG 6 (by simp) rfl | exact atG 7 (by simp) rfl | exact atG 8 (by simp) rfl | exact atG 9 (by simp) rfl | exact atG 10 (by simp) rfl | assumption) (by first | exact at0 (by simp) | exact at1 (by simp) | exact at2 (by simp) | exact at3 (by simp) | exact at4 (by simp) | exact at5 (by simp) | exact atG 6 (by simp) rfl | exact atG 7 (by simp) rfl | exact atG 8 (by simp) rfl | exact atG 9 (by simp) rfl | exact atG 10 (by simp) rfl | assumption) (by omega) ?_ | refine w_tree (.one 0 (.one 1 (.one 2 (.one 6 (.two 3 (.one 4 (.one 5 (.one 7 (.one 8 (.one 9 (.one 10 (.one 11 .done))))))) 5 (.one 3 (.one 4 (.one 7 (.one 8 (.one 9 (.one 10 (.one 11 .done)))))))))))) (by kernel_rfl) (by decide +kernel) ?_) <;> try simp (disch := first | omega | (simp only [go_sem]; first | done | omega)) only [go_sem]) | (refine And.intro ?_ ?_ <;> try simp (disch := first | omega | (simp only [go_sem]; first | done | omega)) only [go_sem]))
    all_goals exact Next.mk (k + 1) ⟨by omega, by omega⟩ (by rw [hnx]; ((try simp (disch := first | omega | (simp only [go_sem]; first | done | omega)) only [go_sem]); (first | refine WkL.pickAt [_, _, _, _] [0] ?_ ?_ ?_ rfl ?_ ?_ ?_ ?_ | refine WkL.pickAt [_, _, _, _] [1] ?_ ?_ ?_ rfl ?_ ?_ ?_ ?_ | refine WkL.pickAt [_, _, _, _] [2] ?_ ?_ ?_ rfl ?_ ?_ ?_ ?_ | refine WkL.pickAt [_, _, _, _] [3] ?_ ?_ ?_ rfl ?_ ?_ ?_ ?_ | refine WkL.pickAt [_, _, _, _] [4] ?_ ?_ ?_ rfl ?_ ?_ ?_ ?_ | refine WkL.pickAt [_, _, _, _] [5] ?_ ?_ ?_ rfl ?_ ?_ ?_ ?_ | refine WkL.pickAt [_, _, _, _] [6] ?_ ?_ ?_ rfl ?_ ?_ ?_ ?_ | refine WkL.pickAt [_, _, _, _] [7] ?_ ?_ ?_ rfl ?_ ?_ ?_ ?_ | refine WkL.pickAt [_, _, _, _] [8] ?_ ?_ ?_ rfl ?_ ?_ ?_ ?_ | refine WkL.pickAt [_, _, _, _] [9] ?_ ?_ ?_ rfl ?_ ?_ ?_ ?_ | refine WkL.pickAt [_, _, _, _] [10] ?_ ?_ ?_ rfl ?_ ?_ ?_ ?_ | refine WkL.pickAt [_, _, _, _] [11] ?_ ?_ ?_ rfl ?_ ?_ ?_ ?_ | refine WkL.pickAt [_, _, _, _] [12] ?_ ?_ ?_ rfl ?_ ?_ ?_ ?_ | refine WkL.pickAt [_, _, _, _] [13] ?_ ?_ ?_ rfl ?_ ?_ ?_ ?_ | refine WkL.pickAt [_, _, _, _] [14] ?_ ?_ ?_ rfl ?_ ?_ ?_ ?_ | refine WkL.pickAt [_, _, _, _] [15] ?_ ?_ ?_ rfl ?_ ?_ ?_ ?_ | refine WkL.pickAt [_, _, _, _] [16] ?_ ?_ ?_ rfl ?_ ?_ ?_ ?_ | refine WkL.pickAt [_, _, _, _] [17] ?_ ?_ ?_ rfl ?_ ?_ ?_ ?_) <;> first | assumption | exact HOk.str (by assumption) | (simp; done) | (simp; omega) | (simp [pureO_gr, AObj.pureO, pureL, go_sem, AC.pure]; done) | (simp only [List.all_cons, List.all_nil, Bool.and_true]; exact pureO_gr (pureL_map _ (fun x => by simp [go_sem, AC.pure]))) | ((try simp only [List.map_cons, List.map_nil, av_ren_gr]); simp [AV.ren, AV.ren1, AC.ren, pickS]; first | done | omega) | (simp only [List.forall_mem_cons, List.not_mem_nil, false_implies, implies_true, and_true]; (repeat' apply And.intro) <;> first | trivial | exact grV_ok (by simp) _ | exact okN_grO (fun x => by simp [go_sem, AC.pure]) | exact okN_map (fun x => by simp [go_sem, AC.pure]) | (simp [AV.ok, AV.ok1, AC.ok]; done) | (simp [AV.ok, AV.ok1, AC.ok]; omega) | (simp [AObj.okN, AC.ok]; done)) | (simp [AObj.okN]; done)))
  · rw [List.take_of_length_le (by omega)] at hml ⊢
    simp (disch := first | omega | (simp only [go_sem]; first | done | omega)) only [go_sem]
    refine ACalls.litGr (by first | exact at0 (by simp) | exact at1 (by simp) | exact at2 (by simp) | exact at3 (by simp) | exact at4 (by simp) | exact at5 (by simp) | exact atG 6 (by simp) rfl | exact atG 7 (by simp) rfl | exact atG 8 (by simp) rfl | exact atG 9 (by simp) rfl | exact atG 10 (by simp) rfl | assumption) (by simp) (pureL_map _ (fun x => by simp [go_sem, AC.pure])) rfl ?_
    simp (disch := first | omega | (simp only [go_sem]; first | done | omega)) only [go_sem]
    refine containsI_a 159 [(H.length + 2, 0, 0), (H.length, 0, 0), (H.length + 1, 0, 0), (H.length + 3, 0, 0)] (fun m => inW w m && !keepB x h m t) (by kernel_rfl) (by simp; omega) (momsP x h w) (fun u K _ hK => kaP_a x h w u t (by first | exact at0 (by simp) | exact at1 (by simp) | exact at2 (by simp) | exact at3 (by simp) | exact at4 (by simp) | exact at5 (by simp) | exact atG 6 (by simp) rfl | exact atG 7 (by simp) rfl | exact atG 8 (by simp) rfl | exact atG 9 (by simp) rfl | exact atG 10 (by simp) rfl | assumption) (by first | exact at0 (by simp) | exact at1 (by simp) | exact at2 (by simp) | exact at3 (by simp) | exact at4 (by simp) | exact at5 (by simp) | exact atG 6 (by simp) rfl | exact atG 7 (by simp) rfl | exact atG 8 (by simp) rfl | exact atG 9 (by simp) rfl | exact atG 10 (by simp) rfl | assumption) (by first | exact at0 (by simp) | exact at1 (by simp) | exact at2 (by simp) | exact at3 (by simp) | exact at4 (by simp) | exact at5 (by simp) | exact atG 6 (by simp) rfl | exact atG 7 (by simp) rfl | exact atG 8 (by simp) rfl | exact atG 9 (by simp) rfl | exact atG 10 (by simp) rfl | assumption) (by first | exact at0 (by simp) | exact at1 (by simp) | exact at2 (by simp) | exact at3 (by simp) | exact at4 (by simp) | exact at5 (by simp) | exact atG 6 (by simp) rfl | exact atG 7 (by simp) rfl | exact atG 8 (by simp) rfl | exact atG 9 (by simp) rfl | exact atG 10 (by simp) rfl | assumption) hok hlen hn hw0 hw1 hK) (by omega) ?_
    simp (disch := first | omega | (simp only [go_sem]; first | done | omega)) only [go_sem]
    exact Ret.drop hH (Nat.le_refl _) trivial (by simpa using hk)
end Go.Proofs.YthgdllfkejlnmaaGreat
