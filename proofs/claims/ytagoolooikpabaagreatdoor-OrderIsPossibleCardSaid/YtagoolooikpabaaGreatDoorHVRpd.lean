/- Calculated tags that are drawn: names in expressions replaced. Condition: a few hundred bytes. -/
import Derived.Test.YtagoolooikpabaaGreatDoorHVExpD
set_option linter.all false
namespace Go.Proofs.YtagoolooikpabaaGreatDoor
open Go Go.RowKit
set_option maxRecDepth 100000
set_option maxHeartbeats 4000000
variable {H : Hp} {K : AV → Hp → Prop}
theorem unbyte_mapR : ∀ l : List UInt8, unbyte (l.map encU) = some l
 | [] => rfl
 | b :: l => by
  have ih := unbyte_mapR l
  have hb : UInt8.ofNat ((b.toNat : Int)).toNat = b := by simp
  simp only [List.map_cons, encU, unbyte] at ih ⊢
  simp [ih, hb]
  have := UInt8.toNat_lt b
  omega
theorem WkL.frzGr2 {A : Hp} {n ty sz : Nat} {l : List (List AC)} (hA : HOk A) (hn : n ≤ A.length) (hp : pureL l = true) : WkL n [.c (grV A.length l)] (A ++ [grO ty sz l]) [.c (.lst sz l)] A := by
 cases l with
 | nil =>
  have h1 : WkL n [.c (.sl none 0)] (A ++ [AObj.dead]) [(AV.c (.sl none 0)).nilz [sz]] (A ++ [AObj.dead]) := by
   intro B w0 ι w us hs hr ho
   match us, hr with
   | [u], hr =>
    obtain ⟨h1, h2⟩ := AV.nilz_rel [sz] hr.1 (ho (.c (.sl none 0)) (by simp))
    exact ⟨ι, Agree.refl _ _, by simp; omega, hs, ⟨h1, trivial⟩, by intro x hx; rw [List.mem_singleton] at hx; subst hx; exact h2⟩
  exact h1.trans (WkL.drop hA hn (by simp [AV.nilz, AC.nilz, AV.ok, AV.ok1, AC.ok]))
 | cons x xs => exact WkL.frzCl1 hA hn hp
theorem letter_a (e : ByteArray) (x : Int) {i : Nat} (hi : H[i]? = some (.row 9 1 [[.str e]] true)) (hsz : e.size ≤ 100000) (hx : -10 ≤ x ∧ x ≤ 1000000) (hk : ∀ b, K (.c (.bool b)) H) : ACalls Tryz.prog 98 [(.c (.int .i64 x)), .c (.ptr (some (i, 0, 0)))] H K := by
 by_cases h0 : 0 ≤ x
 ·by_cases h1 : x < (e.size : Int)
  ·by_cases h2 : 97 ≤ byteAt e x.toNat
   ·refine acalls Tryz.func98 rfl (by kernel_rfl) (by simp (disch := first | omega | (simp only [go_sem]; try omega)) only [go_sem]) (fun hH => ?_)
    simp (disch := first | omega | (simp only [go_sem]; try omega)) only [go_sem, hi, h0, h1, h2]
    exact Ret.same (Nat.le_refl _) (hk _)
   ·refine acalls Tryz.func98 rfl (by kernel_rfl) (by simp (disch := first | omega | (simp only [go_sem]; try omega)) only [go_sem]) (fun hH => ?_)
    simp (disch := first | omega | (simp only [go_sem]; try omega)) only [go_sem, hi, h0, h1, h2]
    exact Ret.same (Nat.le_refl _) (hk _)
  ·refine acalls Tryz.func98 rfl (by kernel_rfl) (by simp (disch := first | omega | (simp only [go_sem]; try omega)) only [go_sem]) (fun hH => ?_)
   simp (disch := first | omega | (simp only [go_sem]; try omega)) only [go_sem, hi, h0, h1]
   exact Ret.same (Nat.le_refl _) (hk _)
 ·refine acalls Tryz.func98 rfl (by kernel_rfl) (by simp (disch := first | omega | (simp only [go_sem]; try omega)) only [go_sem]) (fun hH => ?_)
  simp (disch := first | omega | (simp only [go_sem]; try omega)) only [go_sem, hi, h0]
  exact Ret.same (Nat.le_refl _) (hk _)
theorem replaced_a (e nm bY : ByteArray) (hsz : e.size ≤ 1000) (hn : nm.size = 1) (hb : bY.size = 1) (hk : ∀ t : ByteArray, t.size = e.size → K (.c (.str t)) H) : ACalls Tryz.prog 44 [(.c (.str e)), (.c (.str nm)), (.c (.str bY))] H K := by
 have hent : entersB Tryz.prog 98 = true := by kernel_rfl
 refine acallsS Tryz.func44 rfl (by simp (disch := first | omega | (simp only [go_sem]; try omega)) only [go_sem]) (fun hH => ?_)
 (refine SWp.go (by kernel_rfl) ?_; simp (disch := first | omega | (simp only [go_sem]; try omega)) only [go_sem])
 (refine SWp.go (by kernel_rfl) ?_; simp (disch := first | omega | (simp only [go_sem]; try omega)) only [go_sem])
 (refine SWp.go (by kernel_rfl) ?_; simp (disch := first | omega | (simp only [go_sem]; try omega)) only [go_sem])
 refine SWp.cut (H.length + 1) [3] [7] (fun (L : List UInt8) => L.length = e.size) (fun (L : List UInt8) => [(7, .c (.lst 1 (L.map encU)))]) (fun (L : List UInt8) => H ++ [.row 9 1 [[.str e]] true]) (fun _ => rfl) (by kernel_rfl) (by first | (simp; done) | omega) (by first | (simp; done) | (simp; omega) | omega) kl ?_ (fun L hL _ _ => ?_)
 ·refine SWp.of (by kernel_rfl) ?_
  simp (disch := first | omega | (simp only [go_sem]; try omega)) only [go_sem]
  refine AWp.loop (H.length + 1) [1, 2, 3, 8, 12] [7, 13] (fun (L : List UInt8) => L.length ≤ e.size) (fun (L : List UInt8) => [(7, .c (grV (H.length + 1) L)), (13, (.c (.int .i64 (L.length))))]) (fun (L : List UInt8) => H ++ [.row 9 1 [[.str e]] true, grO 5 1 (L.map encU)]) (fun (L : List UInt8) => e.size - L.length) (by kernel_rfl) (fun _ => rfl) (by kernel_rfl) (by first | (simp; done) | omega) (by first | (simp; done) | (simp; omega) | omega) kl ?_ (fun L hL _ hA => ?_)
  ·refine Next.mk [] (Nat.zero_le _) ?_
   simp (disch := first | omega | (simp only [go_sem]; try omega)) only [go_sem]
   exact WkL.padP [_] (by simp)
  by_cases hlt : L.length < e.size
  ·simp (disch := first | omega | (simp only [go_sem]; try omega)) only [go_sem, hlt]
   refine w_tree (.one 0 (.one 1 (.one 2 (.one 3 (.one 4 (.one 5 (.one 6 (.one 7 (.one 8 (.one 9 (.one 10 (.one 11 (.one 12 (.one 13 (.one 14 (.one 15 (.one 16 (.one 17 (.one 18 (.one 19 .done)))))))))))))))))))) (by kernel_rfl) (by decide +kernel) ?_
   have hA1 : HOk (H ++ [.row 9 1 [[.str e]] true]) := HOk.app hH (okN_pure rfl rfl _)
   have hfin : ∀ (x : List UInt8), x.length = 1 → (L ++ x).length ≤ e.size ∧ e.size - (L ++ x).length < e.size - L.length := fun x hx => by rw [List.length_append, hx]; omega
   by_cases hq : byteAt e L.length = byteAt nm 0
   ·simp (disch := first | omega | (simp only [go_sem]; try omega)) only [go_sem, hlt, hn, hent, hq]
    refine letter_a e _ (by first | ((repeat first | exact at0 (by simp) | refine atS ?_); done) | assumption) (by omega) (by omega) (fun b => ?_)
    cases b
    ·simp (disch := first | omega | (simp only [go_sem]; try omega)) only [go_sem, hent]
     refine letter_a e _ (by first | ((repeat first | exact at0 (by simp) | refine atS ?_); done) | assumption) (by omega) (by omega) (fun b => ?_)
     cases b
     ·simp (disch := first | omega | (simp only [go_sem]; try omega)) only [go_sem, hent]
      refine appUs L bY (by first | ((repeat first | exact at0 (by simp) | refine atS ?_); done) | assumption) (by omega) (by omega) ?_
      simp (disch := first | omega | (simp only [go_sem]; try omega)) only [go_sem]
      refine Next.mk (L ++ bY.data.toList) (hfin _ hb) ?_
      ((try simp (disch := first | omega | (simp only [go_sem]; try omega)) only [go_sem]); (first | refine WkL.pickAt [_] [0] ?_ ?_ ?_ rfl ?_ ?_ ?_ ?_ | refine WkL.pickAt [_] [1] ?_ ?_ ?_ rfl ?_ ?_ ?_ ?_ | refine WkL.pickAt [_] [2] ?_ ?_ ?_ rfl ?_ ?_ ?_ ?_ | refine WkL.pickAt [_] [3] ?_ ?_ ?_ rfl ?_ ?_ ?_ ?_ | refine WkL.pickAt [_] [4] ?_ ?_ ?_ rfl ?_ ?_ ?_ ?_ | refine WkL.pickAt [_] [5] ?_ ?_ ?_ rfl ?_ ?_ ?_ ?_ | refine WkL.pickAt [_] [6] ?_ ?_ ?_ rfl ?_ ?_ ?_ ?_ | refine WkL.pickAt [_] [7] ?_ ?_ ?_ rfl ?_ ?_ ?_ ?_ | refine WkL.pickAt [_] [8] ?_ ?_ ?_ rfl ?_ ?_ ?_ ?_) <;> first | assumption | exact HOk.str (by assumption) | (simp; done) | (simp; omega) | (simp [pureO_gr, AObj.pureO, pureL, go_sem, AC.pure]; done) | (simp only [List.all_cons, List.all_nil, Bool.and_true]; exact pureO_gr (pureL_map _ (fun x => by simp [go_sem, AC.pure]))) | ((try simp only [List.map_cons, List.map_nil, av_ren_gr]); simp [AV.ren, AV.ren1, AC.ren, renP, pickS]; first | done | omega) | (simp only [List.forall_mem_cons, List.not_mem_nil, false_implies, implies_true, and_true]; (repeat' apply And.intro) <;> first | trivial | exact grV_ok (by simp) _ | exact okN_grO (fun x => by simp [go_sem, AC.pure]) | exact okN_map (fun x => by simp [go_sem, AC.pure]) | (simp [AV.ok, AV.ok1, AC.ok]; done) | (simp [AV.ok, AV.ok1, AC.ok]; omega) | (simp [AObj.okN, AC.ok]; done)) | (simp [AObj.okN]; done))
     ·simp (disch := first | omega | (simp only [go_sem]; try omega)) only [go_sem, hent]
      refine appUr L [e.data.toList.getD L.length 0] (by first | ((repeat first | exact at0 (by simp) | refine atS ?_); done) | assumption) (by simp [srcO, encU, byteAt]) (by simp) (by simp; omega) ?_
      simp (disch := first | omega | (simp only [go_sem]; try omega)) only [go_sem]
      refine Next.mk (L ++ [e.data.toList.getD L.length 0]) (hfin _ rfl) ?_
      ((try simp (disch := first | omega | (simp only [go_sem]; try omega)) only [go_sem]); (first | refine WkL.pickAt [_] [0] ?_ ?_ ?_ rfl ?_ ?_ ?_ ?_ | refine WkL.pickAt [_] [1] ?_ ?_ ?_ rfl ?_ ?_ ?_ ?_ | refine WkL.pickAt [_] [2] ?_ ?_ ?_ rfl ?_ ?_ ?_ ?_ | refine WkL.pickAt [_] [3] ?_ ?_ ?_ rfl ?_ ?_ ?_ ?_ | refine WkL.pickAt [_] [4] ?_ ?_ ?_ rfl ?_ ?_ ?_ ?_ | refine WkL.pickAt [_] [5] ?_ ?_ ?_ rfl ?_ ?_ ?_ ?_ | refine WkL.pickAt [_] [6] ?_ ?_ ?_ rfl ?_ ?_ ?_ ?_ | refine WkL.pickAt [_] [7] ?_ ?_ ?_ rfl ?_ ?_ ?_ ?_ | refine WkL.pickAt [_] [8] ?_ ?_ ?_ rfl ?_ ?_ ?_ ?_) <;> first | assumption | exact HOk.str (by assumption) | (simp; done) | (simp; omega) | (simp [pureO_gr, AObj.pureO, pureL, go_sem, AC.pure]; done) | (simp only [List.all_cons, List.all_nil, Bool.and_true]; exact pureO_gr (pureL_map _ (fun x => by simp [go_sem, AC.pure]))) | ((try simp only [List.map_cons, List.map_nil, av_ren_gr]); simp [AV.ren, AV.ren1, AC.ren, renP, pickS]; first | done | omega) | (simp only [List.forall_mem_cons, List.not_mem_nil, false_implies, implies_true, and_true]; (repeat' apply And.intro) <;> first | trivial | exact grV_ok (by simp) _ | exact okN_grO (fun x => by simp [go_sem, AC.pure]) | exact okN_map (fun x => by simp [go_sem, AC.pure]) | (simp [AV.ok, AV.ok1, AC.ok]; done) | (simp [AV.ok, AV.ok1, AC.ok]; omega) | (simp [AObj.okN, AC.ok]; done)) | (simp [AObj.okN]; done))
    ·simp (disch := first | omega | (simp only [go_sem]; try omega)) only [go_sem, hent]
     refine appUr L [e.data.toList.getD L.length 0] (by first | ((repeat first | exact at0 (by simp) | refine atS ?_); done) | assumption) (by simp [srcO, encU, byteAt]) (by simp) (by simp; omega) ?_
     simp (disch := first | omega | (simp only [go_sem]; try omega)) only [go_sem]
     refine Next.mk (L ++ [e.data.toList.getD L.length 0]) (hfin _ rfl) ?_
     ((try simp (disch := first | omega | (simp only [go_sem]; try omega)) only [go_sem]); (first | refine WkL.pickAt [_] [0] ?_ ?_ ?_ rfl ?_ ?_ ?_ ?_ | refine WkL.pickAt [_] [1] ?_ ?_ ?_ rfl ?_ ?_ ?_ ?_ | refine WkL.pickAt [_] [2] ?_ ?_ ?_ rfl ?_ ?_ ?_ ?_ | refine WkL.pickAt [_] [3] ?_ ?_ ?_ rfl ?_ ?_ ?_ ?_ | refine WkL.pickAt [_] [4] ?_ ?_ ?_ rfl ?_ ?_ ?_ ?_ | refine WkL.pickAt [_] [5] ?_ ?_ ?_ rfl ?_ ?_ ?_ ?_ | refine WkL.pickAt [_] [6] ?_ ?_ ?_ rfl ?_ ?_ ?_ ?_ | refine WkL.pickAt [_] [7] ?_ ?_ ?_ rfl ?_ ?_ ?_ ?_ | refine WkL.pickAt [_] [8] ?_ ?_ ?_ rfl ?_ ?_ ?_ ?_) <;> first | assumption | exact HOk.str (by assumption) | (simp; done) | (simp; omega) | (simp [pureO_gr, AObj.pureO, pureL, go_sem, AC.pure]; done) | (simp only [List.all_cons, List.all_nil, Bool.and_true]; exact pureO_gr (pureL_map _ (fun x => by simp [go_sem, AC.pure]))) | ((try simp only [List.map_cons, List.map_nil, av_ren_gr]); simp [AV.ren, AV.ren1, AC.ren, renP, pickS]; first | done | omega) | (simp only [List.forall_mem_cons, List.not_mem_nil, false_implies, implies_true, and_true]; (repeat' apply And.intro) <;> first | trivial | exact grV_ok (by simp) _ | exact okN_grO (fun x => by simp [go_sem, AC.pure]) | exact okN_map (fun x => by simp [go_sem, AC.pure]) | (simp [AV.ok, AV.ok1, AC.ok]; done) | (simp [AV.ok, AV.ok1, AC.ok]; omega) | (simp [AObj.okN, AC.ok]; done)) | (simp [AObj.okN]; done))
   ·simp (disch := first | omega | (simp only [go_sem]; try omega)) only [go_sem, hlt, hn, hent, hq]
    refine appUr L [e.data.toList.getD L.length 0] (by first | ((repeat first | exact at0 (by simp) | refine atS ?_); done) | assumption) (by simp [srcO, encU, byteAt]) (by simp) (by simp; omega) ?_
    simp (disch := first | omega | (simp only [go_sem]; try omega)) only [go_sem]
    refine Next.mk (L ++ [e.data.toList.getD L.length 0]) (hfin _ rfl) ?_
    ((try simp (disch := first | omega | (simp only [go_sem]; try omega)) only [go_sem]); (first | refine WkL.pickAt [_] [0] ?_ ?_ ?_ rfl ?_ ?_ ?_ ?_ | refine WkL.pickAt [_] [1] ?_ ?_ ?_ rfl ?_ ?_ ?_ ?_ | refine WkL.pickAt [_] [2] ?_ ?_ ?_ rfl ?_ ?_ ?_ ?_ | refine WkL.pickAt [_] [3] ?_ ?_ ?_ rfl ?_ ?_ ?_ ?_ | refine WkL.pickAt [_] [4] ?_ ?_ ?_ rfl ?_ ?_ ?_ ?_ | refine WkL.pickAt [_] [5] ?_ ?_ ?_ rfl ?_ ?_ ?_ ?_ | refine WkL.pickAt [_] [6] ?_ ?_ ?_ rfl ?_ ?_ ?_ ?_ | refine WkL.pickAt [_] [7] ?_ ?_ ?_ rfl ?_ ?_ ?_ ?_ | refine WkL.pickAt [_] [8] ?_ ?_ ?_ rfl ?_ ?_ ?_ ?_) <;> first | assumption | exact HOk.str (by assumption) | (simp; done) | (simp; omega) | (simp [pureO_gr, AObj.pureO, pureL, go_sem, AC.pure]; done) | (simp only [List.all_cons, List.all_nil, Bool.and_true]; exact pureO_gr (pureL_map _ (fun x => by simp [go_sem, AC.pure]))) | ((try simp only [List.map_cons, List.map_nil, av_ren_gr]); simp [AV.ren, AV.ren1, AC.ren, renP, pickS]; first | done | omega) | (simp only [List.forall_mem_cons, List.not_mem_nil, false_implies, implies_true, and_true]; (repeat' apply And.intro) <;> first | trivial | exact grV_ok (by simp) _ | exact okN_grO (fun x => by simp [go_sem, AC.pure]) | exact okN_map (fun x => by simp [go_sem, AC.pure]) | (simp [AV.ok, AV.ok1, AC.ok]; done) | (simp [AV.ok, AV.ok1, AC.ok]; omega) | (simp [AObj.okN, AC.ok]; done)) | (simp [AObj.okN]; done))
  ·simp (disch := first | omega | (simp only [go_sem]; try omega)) only [go_sem, hlt]
   refine Next.mk L (by omega) ?_
   have e2 := WkL.frzGr2 (A := H ++ [.row 9 1 [[.str e]] true]) (n := H.length + 1) (ty := 5) (sz := 1) (l := L.map encU) (HOk.app hH (okN_pure rfl rfl _)) (by simp) (pureL_U L)
   rw [grV_map, List.length_append, List.append_assoc] at e2
   simp (disch := first | omega | (simp only [go_sem]; try omega)) only [go_sem]
   exact e2
 refine SWp.of (by kernel_rfl) ?_
 simp (disch := first | omega | (simp only [go_sem]; try omega)) only [go_sem]
 rw [unbyte_mapR]
 simp (disch := first | omega | (simp only [go_sem]; try omega)) only [go_sem]
 exact Ret.drop hH (Nat.le_refl _) trivial (hk _ (by show L.toArray.size = _; simpa using hL))
end Go.Proofs.YtagoolooikpabaaGreatDoor
