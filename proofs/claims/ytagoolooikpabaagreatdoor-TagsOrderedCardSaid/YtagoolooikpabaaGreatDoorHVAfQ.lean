/- The document's AffectsOf. Condition: the calculated tags are right. -/
import Derived.Test.YtagoolooikpabaaGreatDoorHVKiQ
import Derived.Test.YtagoolooikpabaaGreatDoorHVHaS
import Derived.Test.YtagoolooikpabaaGreatDoorHVTre
set_option linter.all false
namespace Go.Proofs.YtagoolooikpabaaGreatDoor
open Go Go.RowKit
set_option maxRecDepth 100000
set_option maxHeartbeats 4000000
variable {H : Hp} {K : AV → Hp → Prop}
theorem affQ1_a (t : ByteArray) (hl : List ByteArray) {b i d : Nat} (hb : H[b]? = some (.row 9 1 [[.str t]] true)) (hd : H[d]? = some (htO hl)) (hi : H[i]? = some (.row 82 1 [[.map (some d)]] true)) (k : ByteArray) (hk : K (.c (.bool (decide (k = t) || decide (k ∈ hl)))) H) : ACalls Tryz.prog 68 [(.c (.str k)), .c (.ptr (some (b, 0, 0))), .c (.ptr (some (i, 0, 0)))] H K := by
 have hg := get_ht k hl
 have hil := getElem?_lt hi
 have hdl := getElem?_lt hd
 have hie : H[i] = .row 82 1 [[.map (some d)]] true := by rw [List.getElem?_eq_getElem hil] at hi; exact Option.some.inj hi
 have hde : H[d] = htO hl := by rw [List.getElem?_eq_getElem hdl] at hd; exact Option.some.inj hd
 by_cases hm : k = t
 ·simp only [hm, decide_true, Bool.true_or] at hk
  refine acalls Tryz.func68 rfl (by kernel_rfl) (by simp (disch := first | omega | (simp only [go_sem]; try omega)) only [go_sem]) (fun hH => ?_)
  simp (disch := first | omega | (simp only [go_sem]; try omega)) only [go_sem, hb, hm]
  exact Ret.same (Nat.le_refl _) hk
 ·simp only [hm, decide_false, Bool.false_or] at hk
  refine acalls Tryz.func68 rfl (by kernel_rfl) (by simp (disch := first | omega | (simp only [go_sem]; try omega)) only [go_sem]) (fun hH => ?_)
  simp (disch := first | omega | (simp only [go_sem]; try omega)) only [go_sem, hb, hm, hie, hde, htO]
  refine look_mp (by kernel_rfl) hg rfl ?_
  simp (disch := first | omega | (simp only [go_sem]; try omega)) only [go_sem]
  exact Ret.same (Nat.le_refl _) hk
theorem af_okN {H : Hp} (t : ByteArray) (l : List ByteArray) : ∀ o ∈ [AObj.row 9 1 [[.str t]] true, htO l, .row 82 1 [[.map (some (H.length + 1))]] true], o.okN (H.length + [AObj.row 9 1 [[.str t]] true, htO l, .row 82 1 [[.map (some (H.length + 1))]] true].length) := by
 intro y hy
 simp only [List.mem_cons, List.not_mem_nil, or_false] at hy
 rcases hy with rfl | rfl | rfl
 ·simp [AObj.okN, AC.ok]
 ·exact htO_okN _ _
 ·simp [AObj.okN, AC.ok]
theorem af_wk {H : Hp} (hH : HOk H) (t : ByteArray) (l : List ByteArray) (G : Hp) {m : Nat} (hm : m ≤ H.length + 3) (vs : List AV) (hv : ∀ f, vs.map (AV.ren f) = vs) (ho : ∀ x ∈ vs, ∀ n, x.ok n) : WkL m vs (H ++ .row 9 1 [[.str t]] true :: htO l :: .row 82 1 [[.map (some (H.length + 1))]] true :: G) vs (H ++ [.row 9 1 [[.str t]] true, htO l, .row 82 1 [[.map (some (H.length + 1))]] true]) :=
 WkL.pickAt (G := G) (L := []) [.row 9 1 [[.str t]] true, htO l, .row 82 1 [[.map (some (H.length + 1))]] true] [] hH (af_okN t l) hm rfl List.nodup_nil rfl (hv _).symm (fun x hx => ho x hx _)
theorem affectsOf_a {cs : List Cal} (hF : clF cs = 0) (hs : ∀ x ∈ cs, x.fine) (t : ByteArray) (hk : K (.c (.lst 1 ((affR t cs).map encSs))) H) : ACalls Tryz.prog 16 [.c (.lst 2 (cs.map encCl)), (.c (.str t))] H K := by
 have hcl := (clF_ok hF).1
 have he : entersB Tryz.prog 68 = true := by kernel_rfl
 refine acalls Tryz.func16 rfl (by kernel_rfl) (by simp (disch := first | omega | (simp only [go_sem]; try omega)) only [go_sem]) (fun hH => ?_)
 simp (disch := first | omega | (simp only [go_sem]; try omega)) only [go_sem]
 refine AWp.loop (H.length + 3) [0, 3, 5] [6] (fun (s : Nat × List Nme × Bool) => AfAt t cs s.1 s.2.1 s.2.2) (fun (s : Nat × List Nme × Bool) => [(6, (.c (.bool (s.2.2))))]) (fun (s : Nat × List Nme × Bool) => H ++ [.row 9 1 [[.str t]] true, htO s.2.1, .row 82 1 [[.map (some (H.length + 1))]] true]) (fun (s : Nat × List Nme × Bool) => 2 * (cs.length - s.2.1.length) + (if s.2.2 = true then 1 else 0)) (by kernel_rfl) (fun _ => rfl) (by kernel_rfl) (by first | (simp; done) | omega) (by first | (simp; done) | (simp; omega) | omega) kl ?_ (fun s hs1 _ _ => ?_)
 ·exact Next.mk (cs.length + 1, [], true) (AfAt.zero t cs) wk
 obtain ⟨f, h, b⟩ := s
 dsimp only at hs1 ⊢
 cases b with
 | false =>
  have hh := hs1.2.2.2 rfl
  subst hh
  unfold affR at hk
  obtain ⟨h, hgh⟩ : ∃ h, h = affG t cs := ⟨_, rfl⟩
  rw [← hgh] at hk ⊢
  have hnl : (nmC cs).length = cs.length := by unfold nmC; rw [List.length_map]
  have hgl : ∀ k (h : k < (nmC cs).length) (h2 : k < cs.length), (nmC cs)[k] = cs[k].tg := fun k h h2 => by simp only [nmC, List.getElem_map]
  generalize nmC cs = N at *
  have hok := af_okN (H := H) t h
  simp (disch := first | omega | (simp only [go_sem]; try omega)) only [go_sem]
  refine AWp.loop (H.length + 3) [5, 36, 37] [38, 9] (fun (k : Nat) => k ≤ cs.length) (fun (k : Nat) => [(38, (.c (.int .i64 k))), (9, .c (grV (H.length + 3) ((N.take k).filter fun x => decide (x ∈ h))))]) (fun (k : Nat) => H ++ [.row 9 1 [[.str t]] true, htO h, .row 82 1 [[.map (some (H.length + 1))]] true, grO 9 1 (((N.take k).filter fun x => decide (x ∈ h)).map encSs)]) (fun (k : Nat) => cs.length - k) (by kernel_rfl) (fun _ => rfl) (by kernel_rfl) (by first | (simp; done) | omega) (by first | (simp; done) | (simp; omega) | omega) kl ?_ (fun k hk1 _ _ => ?_)
  ·refine Next.mk 0 (Nat.zero_le _) ?_
   exact WkL.padP [_, _, _] (by simp)
  by_cases hlt : k < cs.length
  ·obtain ⟨x, hx⟩ : ∃ x, x = cs[k] := ⟨_, rfl⟩
   have hxk : cs[k]'hlt = x := hx.symm
   have hnx : (N.take (k + 1)).filter (fun x => decide (x ∈ h)) = (N.take k).filter (fun x => decide (x ∈ h)) ++ (if decide (x.tg ∈ h) = true then [x.tg] else []) := by
    rw [List.take_succ_eq_append_getElem (by omega), List.filter_append, hgl k (by omega) hlt, hxk]
    congr 1
    by_cases c : x.tg ∈ h <;> simp [c]
   have hln : ((N.take k).filter fun x => decide (x ∈ h)).length ≤ 1000 := by
    have := List.length_filter_le (fun x => decide (x ∈ h)) (N.take k)
    rw [List.length_take] at this
    omega
   generalize (N.take k).filter (fun x => decide (x ∈ h)) = L at *
   have hg := get_ht x.tg h
   simp (disch := first | omega | (simp only [go_sem]; try omega)) only [go_sem, hlt, hxk]
   refine look_mp (by kernel_rfl) hg rfl ?_
   by_cases hm : x.tg ∈ h
   ·simp only [hm, decide_true, if_true] at hnx ⊢
    simp (disch := first | omega | (simp only [go_sem]; try omega)) only [go_sem]
    refine appSs L x.tg _ hnx (by first | ((repeat first | exact at0 (by simp) | refine atS ?_); done) | assumption) (by first | ((repeat first | exact at0 (by simp) | refine atS ?_); done) | assumption) (by omega) ?_
    simp (disch := first | omega | (simp only [go_sem]; try omega)) only [go_sem]
    refine Next.mk (k + 1) ⟨by omega, by omega⟩ ?_
    ((try simp (disch := first | omega | (simp only [go_sem]; try omega)) only [go_sem]); (first | refine WkL.pickAt [_, _, _] [0] ?_ ?_ ?_ rfl ?_ ?_ ?_ ?_ | refine WkL.pickAt [_, _, _] [1] ?_ ?_ ?_ rfl ?_ ?_ ?_ ?_ | refine WkL.pickAt [_, _, _] [2] ?_ ?_ ?_ rfl ?_ ?_ ?_ ?_ | refine WkL.pickAt [_, _, _] [3] ?_ ?_ ?_ rfl ?_ ?_ ?_ ?_ | refine WkL.pickAt [_, _, _] [4] ?_ ?_ ?_ rfl ?_ ?_ ?_ ?_ | refine WkL.pickAt [_, _, _] [5] ?_ ?_ ?_ rfl ?_ ?_ ?_ ?_ | refine WkL.pickAt [_, _, _] [6] ?_ ?_ ?_ rfl ?_ ?_ ?_ ?_ | refine WkL.pickAt [_, _, _] [7] ?_ ?_ ?_ rfl ?_ ?_ ?_ ?_ | refine WkL.pickAt [_, _, _] [8] ?_ ?_ ?_ rfl ?_ ?_ ?_ ?_) <;> first | assumption | exact HOk.str (by assumption) | (simp; done) | (simp; omega) | (simp [pureO_gr, AObj.pureO, pureL, go_sem, AC.pure]; done) | (simp only [List.all_cons, List.all_nil, Bool.and_true]; exact pureO_gr (pureL_map _ (fun x => by simp [go_sem, AC.pure]))) | ((try simp only [List.map_cons, List.map_nil, av_ren_gr]); simp [AV.ren, AV.ren1, AC.ren, renP, pickS]; first | done | omega) | (simp only [List.forall_mem_cons, List.not_mem_nil, false_implies, implies_true, and_true]; (repeat' apply And.intro) <;> first | trivial | exact grV_ok (by simp) _ | exact okN_grO (fun x => by simp [go_sem, AC.pure]) | exact okN_map (fun x => by simp [go_sem, AC.pure]) | (simp [AV.ok, AV.ok1, AC.ok]; done) | (simp [AV.ok, AV.ok1, AC.ok]; omega) | (simp [AObj.okN, AC.ok]; done)) | (simp [AObj.okN]; done))
   ·simp only [hm, decide_false, Bool.false_eq_true, if_false, List.append_nil] at hnx ⊢
    simp (disch := first | omega | (simp only [go_sem]; try omega)) only [go_sem]
    refine Next.mk (k + 1) ⟨by omega, by omega⟩ ?_
    rw [hnx]
    ((try simp (disch := first | omega | (simp only [go_sem]; try omega)) only [go_sem]); (first | refine WkL.pickAt [_, _, _] [0] ?_ ?_ ?_ rfl ?_ ?_ ?_ ?_ | refine WkL.pickAt [_, _, _] [1] ?_ ?_ ?_ rfl ?_ ?_ ?_ ?_ | refine WkL.pickAt [_, _, _] [2] ?_ ?_ ?_ rfl ?_ ?_ ?_ ?_ | refine WkL.pickAt [_, _, _] [3] ?_ ?_ ?_ rfl ?_ ?_ ?_ ?_ | refine WkL.pickAt [_, _, _] [4] ?_ ?_ ?_ rfl ?_ ?_ ?_ ?_ | refine WkL.pickAt [_, _, _] [5] ?_ ?_ ?_ rfl ?_ ?_ ?_ ?_ | refine WkL.pickAt [_, _, _] [6] ?_ ?_ ?_ rfl ?_ ?_ ?_ ?_ | refine WkL.pickAt [_, _, _] [7] ?_ ?_ ?_ rfl ?_ ?_ ?_ ?_ | refine WkL.pickAt [_, _, _] [8] ?_ ?_ ?_ rfl ?_ ?_ ?_ ?_) <;> first | assumption | exact HOk.str (by assumption) | (simp; done) | (simp; omega) | (simp [pureO_gr, AObj.pureO, pureL, go_sem, AC.pure]; done) | (simp only [List.all_cons, List.all_nil, Bool.and_true]; exact pureO_gr (pureL_map _ (fun x => by simp [go_sem, AC.pure]))) | ((try simp only [List.map_cons, List.map_nil, av_ren_gr]); simp [AV.ren, AV.ren1, AC.ren, renP, pickS]; first | done | omega) | (simp only [List.forall_mem_cons, List.not_mem_nil, false_implies, implies_true, and_true]; (repeat' apply And.intro) <;> first | trivial | exact grV_ok (by simp) _ | exact okN_grO (fun x => by simp [go_sem, AC.pure]) | exact okN_map (fun x => by simp [go_sem, AC.pure]) | (simp [AV.ok, AV.ok1, AC.ok]; done) | (simp [AV.ok, AV.ok1, AC.ok]; omega) | (simp [AObj.okN, AC.ok]; done)) | (simp [AObj.okN]; done))
  ·have hkl : k = N.length := by omega
   subst hkl
   rw [List.take_length]
   simp (disch := first | omega | (simp only [go_sem]; try omega)) only [go_sem]
   exact Ret.frzGr 3 hH (Nat.le_refl _) rfl (pureL_map _ (fun x => by simp [go_sem, AC.pure])) (map_grV _ _ _).symm hk
 | true =>
  simp (disch := first | omega | (simp only [go_sem]; try omega)) only [go_sem]
  refine AWp.loop (H.length + 3) [0, 3, 5, 14, 15] [6, 16] (fun (k : Nat) => k ≤ cs.length) (fun (k : Nat) => [(6, (.c (.bool (decide (h.length < (affP t (cs.take k) h).length))))), (16, (.c (.int .i64 k)))]) (fun (k : Nat) => H ++ [.row 9 1 [[.str t]] true, htO (affP t (cs.take k) h), .row 82 1 [[.map (some (H.length + 1))]] true]) (fun (k : Nat) => cs.length - k) (by kernel_rfl) (fun _ => rfl) (by kernel_rfl) (by first | (simp; done) | omega) (by first | (simp; done) | (simp; omega) | omega) kl ?_ (fun k hk1 _ _ => ?_)
  ·refine Next.mk 0 (by simp) ?_
   rw [show affP t (cs.take 0) h = h from rfl, show decide (h.length < h.length) = false by simp]
   exact wk
  by_cases hlt : k < cs.length
  ·obtain ⟨x, hx⟩ : ∃ x, x = cs[k] := ⟨_, rfl⟩
   have hxk : cs[k]'hlt = x := hx.symm
   have hnx := affP_next t h hlt
   rw [hxk] at hnx
   have hlen0 := affP_len t (cs.take k) h
   have hxc : x ∈ cs := by rw [hx]; exact List.getElem_mem hlt
   have hp := ((clF_ok hF).2.1 x hxc).2
   have hsz : (tL x.ex).length ≤ 1000000 := (hs x hxc).2
   have htl := tagsE_lenC (exC x)
   have hes := (exC_ok hF hxc).2
   generalize affP t (cs.take k) h = hk1 at *
   have hg := get_ht x.tg hk1
   simp (disch := first | omega | (simp only [go_sem]; try omega)) only [go_sem, hlt, hxk]
   refine look_mp (by kernel_rfl) hg rfl ?_
   by_cases hm : x.tg ∈ hk1
   ·have e : affS t hk1 x = hk1 := by unfold affS affB; simp [hm]
    rw [e] at hnx
    simp only [hm, decide_true]
    simp (disch := first | omega | (simp only [go_sem]; try omega)) only [go_sem]
    refine Next.mk (k + 1) ⟨by omega, by omega⟩ ?_
    rw [hnx]
    simp (disch := first | omega | (simp only [go_sem]; try omega)) only [go_sem]
    exact af_wk hH t hk1 [_] (by omega) _ (fun f => rfl) (by simp [AV.ok, AV.ok1, AC.ok])
   ·simp only [hm, decide_false]
    simp (disch := first | omega | (simp only [go_sem]; try omega)) only [go_sem]
    refine tagsIn_a (tL x.ex) hsz (exC x) hp ?_
    simp (disch := first | omega | (simp only [go_sem]; try omega)) only [go_sem]
    refine contLstSx_a _ [(H.length, 0, 0), (H.length + 2, 0, 0)] (fun s => decide (s = t) || decide (s ∈ hk1)) he (by intro p q r h; simp at h; simp; omega) (tagsE (exC x)) (fun s K hs1 hK => affQ1_a t hk1 (d := H.length + 1) (by first | ((repeat first | exact at0 (by simp) | refine atS ?_); done) | assumption) (by first | ((repeat first | exact at0 (by simp) | refine atS ?_); done) | assumption) (by first | ((repeat first | exact at0 (by simp) | refine atS ?_); done) | assumption) s hK) (by omega) ?_
    simp (disch := first | omega | (simp only [go_sem]; try omega)) only [go_sem]
    refine acond_b (fun c => ?_) (fun c => ?_)
    ·have e : affS t hk1 x = hk1 ++ [x.tg] := by unfold affS affB; rw [c]; simp [hm]
     rw [e] at hnx
     have hpt := put_ht hm
     simp (disch := first | omega | (simp only [go_sem]; try omega)) only [go_sem]
     refine mup_mp (by kernel_rfl) hpt ?_
     simp (disch := first | omega | (simp only [go_sem]; try omega)) only [go_sem]
     refine Next.mk (k + 1) ⟨by omega, by omega⟩ ?_
     rw [hnx, decide_eq_true (show h.length < (hk1 ++ [x.tg]).length by simp; omega)]
     simp (disch := first | omega | (simp only [go_sem]; try omega)) only [go_sem]
     exact af_wk hH t (hk1 ++ [x.tg]) [_] (by omega) _ (fun f => rfl) (by simp [AV.ok, AV.ok1, AC.ok])
    ·have e : affS t hk1 x = hk1 := by unfold affS affB; rw [c]; simp
     rw [e] at hnx
     simp (disch := first | omega | (simp only [go_sem]; try omega)) only [go_sem]
     refine Next.mk (k + 1) ⟨by omega, by omega⟩ ?_
     rw [hnx]
     simp (disch := first | omega | (simp only [go_sem]; try omega)) only [go_sem]
     exact af_wk hH t hk1 [_] (by omega) _ (fun f => rfl) (by simp [AV.ok, AV.ok1, AC.ok])
  ·have hkl : k = cs.length := by omega
   subst hkl
   rw [List.take_length]
   obtain ⟨f2, g2⟩ := hs1.step
   have hl2 := g2.1.len
   have hl3 := affP_len t cs h
   simp (disch := first | omega | (simp only [go_sem]; try omega)) only [go_sem]
   refine Next.mk (f2, affP t cs h, decide (h.length < (affP t cs h).length)) ⟨g2, ?_⟩ wk
   dsimp only
   split
   ·rename_i c
    rw [decide_eq_true_eq] at c
    omega
   ·rename_i c
    rw [decide_eq_true_eq] at c
    omega
end Go.Proofs.YtagoolooikpabaaGreatDoor
