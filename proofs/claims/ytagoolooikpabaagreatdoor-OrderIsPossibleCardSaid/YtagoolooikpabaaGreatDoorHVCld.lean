/- Calculated tags that are drawn: how many, how long. No condition. -/
import Derived.Test.YtagoolooikpabaaGreatDoorHVCal
import Derived.Test.YtagoolooikpabaaGreatDoorHVRpd
import Derived.Test.YtagoolooikpabaaGreatDoorHVRpq
set_option linter.all false
namespace Go.Proofs.YtagoolooikpabaaGreatDoor
open Go Go.RowKit
set_option maxRecDepth 100000
set_option maxHeartbeats 4000000
variable {H : Hp} {K : AV → Hp → Prop}
def nm5 : List ByteArray := [⟨#[117]⟩, ⟨#[118]⟩, ⟨#[119]⟩, ⟨#[120]⟩, ⟨#[121]⟩]
theorem nm5_1 : ∀ x ∈ nm5, x.size = 1 := by decide
theorem okN_nm (l : List ByteArray) (n : Nat) : (AObj.row 9 1 (l.map encSs) true).okN n := okN_pure (pureL_map _ (fun x => rfl)) (by simp [encSs]) _
theorem calcs_a (s : Nat) (zs : List Int) (j : Int) (hs : Str H s zs j) (hj : j ≤ 900000000)
  (hk : ∀ (l : List Cal) (j' : Int), j ≤ j' → j' ≤ j + 1000 → l.length ≤ 5 → (∀ x ∈ l, x.tg.size ≤ 10 ∧ x.ex.size ≤ 250) → K (.c (.lst 2 (l.map encCl))) (H.set s (strO zs j'))) :
  ACalls Tryz.prog 6 [.c (.ptr (some (s, 0, 0)))] H K := by
 have hlt := hs.lt
 have hpos := hs.pos
 have hne : H.length ≠ s := by omega
 refine acalls Tryz.func6 rfl (by kernel_rfl) (by simp (disch := first | omega | (simp only [go_sem]; try omega)) only [go_sem]) (fun hH => ?_)
 simp (disch := first | omega | (simp only [go_sem]; try omega)) only [go_sem]
 refine AWp.loop (H.length + 1) [0, 10, 11] [12, 3] (fun (q : Nat × List Cal × Int) => q.1 ≤ 5 ∧ q.2.1.length ≤ q.1 ∧ (∀ x ∈ q.2.1, x.tg.size ≤ 10 ∧ x.ex.size ≤ 250) ∧ j ≤ q.2.2 ∧ q.2.2 ≤ j + 120 * q.1) (fun (q : Nat × List Cal × Int) => [(12, (.c (.int .i64 (q.1)))), (3, .c (grV (H.length + 1) q.2.1))]) (fun (q : Nat × List Cal × Int) => H.set s (strO zs q.2.2) ++ [.row 9 1 (nm5.map encSs) true, grO 60 2 (q.2.1.map encCl)]) (fun (q : Nat × List Cal × Int) => 5 - q.1) (by kernel_rfl) (fun _ => rfl) (by kernel_rfl) (by first | (simp; done) | omega) (by first | (simp; done) | (simp; omega) | omega) kl ?_ (fun q hq _ _ => ?_)
 ·refine Next.mk (0, [], j) ⟨by dsimp only; omega, by simp, by simp, by dsimp only; omega, by dsimp only; omega⟩ ?_
  dsimp only
  rw [set_same hs.2.2.2]
  exact WkL.padP [_] (by simp)
 obtain ⟨k, l, j1⟩ := q
 obtain ⟨q1, q2, q3, q4, q5⟩ := hq
 dsimp only at q1 q2 q3 q4 q5 ⊢
 have hml : nm5.length = 5 := rfl
 have hP : ∀ o ∈ [AObj.row 9 1 (nm5.map encSs) true], o.okN (H.length + [AObj.row 9 1 (nm5.map encSs) true].length) := by
  intro o ho
  simp only [List.mem_singleton] at ho
  subst ho
  exact okN_nm _ _
 by_cases hk2 : k < 5
 ·have hm1 := nm5_1 nm5[k] (List.getElem_mem (by omega))
  simp (disch := first | omega | (simp only [go_sem]; try omega)) only [go_sem, hk2, hml]
  refine flip_a s zs j1 4 (by first | exact hs | exact hs.app _ | exact hs.set (by omega) (by omega) | exact (hs.set (by omega) (by omega)).app _) (by omega) (by omega) (fun b => ?_)
  simp (disch := first | omega | (simp only [go_sem]; try omega)) only [go_sem]
  refine acond_b (fun c => ?_) (fun c => ?_)
  ·simp (disch := first | omega | (simp only [go_sem]; try omega)) only [go_sem]
   refine Next.mk (k + 1, l, j1 + 1) ⟨⟨by dsimp only; omega, by dsimp only; omega, q3, by dsimp only; omega, by dsimp only; omega⟩, by dsimp only; omega⟩ ?_
   ((try simp (disch := first | omega | (simp only [go_sem]; try omega)) only [go_sem]); (first | refine WkL.pickAt [_] [0] ?_ ?_ ?_ rfl ?_ ?_ ?_ ?_ | refine WkL.pickAt [_] [1] ?_ ?_ ?_ rfl ?_ ?_ ?_ ?_ | refine WkL.pickAt [_] [2] ?_ ?_ ?_ rfl ?_ ?_ ?_ ?_ | refine WkL.pickAt [_] [3] ?_ ?_ ?_ rfl ?_ ?_ ?_ ?_ | refine WkL.pickAt [_] [4] ?_ ?_ ?_ rfl ?_ ?_ ?_ ?_ | refine WkL.pickAt [_] [5] ?_ ?_ ?_ rfl ?_ ?_ ?_ ?_ | refine WkL.pickAt [_] [6] ?_ ?_ ?_ rfl ?_ ?_ ?_ ?_ | refine WkL.pickAt [_] [7] ?_ ?_ ?_ rfl ?_ ?_ ?_ ?_ | refine WkL.pickAt [_] [8] ?_ ?_ ?_ rfl ?_ ?_ ?_ ?_) <;> first | assumption | exact HOk.str (by assumption) | (simp; done) | (simp; omega) | (simp [pureO_gr, AObj.pureO, pureL, go_sem, AC.pure]; done) | (simp only [List.all_cons, List.all_nil, Bool.and_true]; exact pureO_gr (pureL_map _ (fun x => by simp [go_sem, AC.pure]))) | ((try simp only [List.map_cons, List.map_nil, av_ren_gr]); simp [AV.ren, AV.ren1, AC.ren, renP, pickS]; first | done | omega) | (simp only [List.forall_mem_cons, List.not_mem_nil, false_implies, implies_true, and_true]; (repeat' apply And.intro) <;> first | trivial | exact grV_ok (by simp) _ | exact okN_grO (fun x => by simp [go_sem, AC.pure]) | exact okN_map (fun x => by simp [go_sem, AC.pure]) | (simp [AV.ok, AV.ok1, AC.ok]; done) | (simp [AV.ok, AV.ok1, AC.ok]; omega) | (simp [AObj.okN, AC.ok]; done)) | (simp [AObj.okN]; done))
  ·simp (disch := first | omega | (simp only [go_sem]; try omega)) only [go_sem]
   refine someS_lit s zs (j1 + 1) [⟨#[97]⟩, ⟨#[98]⟩, ⟨#[117]⟩] (by first | ((repeat first | exact at0 (by simp) | refine atS ?_); done) | assumption) rfl rfl (by first | exact hs | exact hs.app _ | exact hs.set (by omega) (by omega) | exact (hs.set (by omega) (by omega)).app _) (by omega) (by simp) (by simp) (fun r1 hr1 => ?_)
   simp (disch := first | omega | (simp only [go_sem]; try omega)) only [go_sem]
   refine someS_lit s zs (j1 + 1 + 1) [⟨#[98]⟩, ⟨#[99]⟩, ⟨#[118]⟩] (by first | ((repeat first | exact at0 (by simp) | refine atS ?_); done) | assumption) rfl rfl (by first | exact hs | exact hs.app _ | exact hs.set (by omega) (by omega) | exact (hs.set (by omega) (by omega)).app _) (by omega) (by simp) (by simp) (fun r2 hr2 => ?_)
   have hz : ∀ x ∈ ([⟨#[120]⟩, r1, ⟨#[121]⟩, r2] : List ByteArray), x.size = 1 := by
    have h1 : r1.size = 1 := (by decide : ∀ x ∈ ([⟨#[97]⟩, ⟨#[98]⟩, ⟨#[117]⟩] : List ByteArray), x.size = 1) r1 hr1
    have h2 : r2.size = 1 := (by decide : ∀ x ∈ ([⟨#[98]⟩, ⟨#[99]⟩, ⟨#[118]⟩] : List ByteArray), x.size = 1) r2 hr2
    intro x hx
    simp only [List.mem_cons, List.not_mem_nil, or_false] at hx
    rcases hx with rfl | rfl | rfl | rfl
    ·rfl
    ·exact h1
    ·rfl
    ·exact h2
   simp (disch := first | omega | (simp only [go_sem]; try omega)) only [go_sem]
   refine newRp_lit [⟨#[120]⟩, r1, ⟨#[121]⟩, r2] rfl (by first | ((repeat first | exact at0 (by simp) | refine atS ?_); done) | assumption) rfl rfl ?_
   simp (disch := first | omega | (simp only [go_sem]; try omega)) only [go_sem]
   rw [show H.length + 5 + 1 = H.length + 6 from rfl]
   refine range_a s zs (j1 + 1 + 1 + 1) 0 2 (by first | exact hs | exact hs.app _ | exact hs.set (by omega) (by omega) | exact (hs.set (by omega) (by omega)).app _) (by omega) (by omega) (by omega) (fun d d0 d1 => ?_)
   obtain ⟨e0, rfl⟩ : ∃ e : Nat, d = e := ⟨d.toNat, by omega⟩
   have he0 : e0 ≤ 2 := by omega
   have hJ := eJ_le (d := e0) (by omega)
   have hB : eB e0 ≤ 250 := by
    have : e0 = 0 ∨ e0 = 1 ∨ e0 = 2 := by omega
    rcases this with rfl | rfl | rfl <;> decide
   simp (disch := first | omega | (simp only [go_sem]; try omega)) only [go_sem]
   refine expr_a e0 (by omega) _ s zs (j1 + 1 + 1 + 1 + 1) (by first | exact hs | exact hs.app _ | exact hs.set (by omega) (by omega) | exact (hs.set (by omega) (by omega)).app _) (by omega) (fun r j2 g1 g2 g3 => ?_)
   simp (disch := first | omega | (simp only [go_sem]; try omega)) only [go_sem]
   refine replAll_a r (by omega) (fun t1 ht1 => ?_)
   simp (disch := first | omega | (simp only [go_sem]; try omega)) only [go_sem]
   refine replRp_a (i := H.length + 6) (j := H.length + 5) [⟨#[120]⟩, r1, ⟨#[121]⟩, r2] rfl hz (by first | ((repeat first | exact at0 (by simp) | refine atS ?_); done) | assumption) (by first | ((repeat first | exact at0 (by simp) | refine atS ?_); done) | assumption) t1 (by omega) (fun t ht => ?_)
   simp (disch := first | omega | (simp only [go_sem]; try omega)) only [go_sem]
   have hts : t.size ≤ 250 := by omega
   clear hz ht ht1 g3 hr1 hr2
   have hnx : ∀ (t2 : ByteArray) (j3 : Int), t2.size ≤ 250 → j2 ≤ j3 → j3 ≤ j2 + 1 → ((k + 1 ≤ 5 ∧ (l ++ [(⟨nm5[k], t2⟩ : Cal)]).length ≤ k + 1 ∧ (∀ x ∈ l ++ [(⟨nm5[k], t2⟩ : Cal)], x.tg.size ≤ 10 ∧ x.ex.size ≤ 250) ∧ j ≤ j3 ∧ j3 ≤ j + 120 * ((k + 1 : Nat) : Int)) ∧ 5 - (k + 1) < 5 - k) := fun t2 j3 h1 h2 h3 => by
    refine ⟨⟨by omega, by rw [List.length_append, List.length_singleton]; omega, fun x hx => ?_, by omega, by omega⟩, by omega⟩
    rcases List.mem_append.1 hx with h | h
    ·exact q3 x h
    ·rw [List.mem_singleton.1 h]
     exact ⟨by dsimp only; omega, h1⟩
   by_cases hk0 : k = 0
   ·subst hk0
    simp (disch := first | omega | (simp only [go_sem]; try omega)) only [go_sem]
    refine AWp.rounds 2 (by kernel_rfl) ?_
    simp (disch := first | omega | (simp only [go_sem]; try omega)) only [go_sem]
    refine replaced_a t _ _ (by omega) rfl rfl (fun t2 ht2 => ?_)
    simp (disch := first | omega | (simp only [go_sem]; try omega)) only [go_sem]
    refine replaced_a t2 _ _ (by omega) rfl rfl (fun t3 ht3 => ?_)
    simp (disch := first | omega | (simp only [go_sem]; try omega)) only [go_sem]
    (refine app_gr (enc := encCl) (e := 60) (sz := 2) (bs := 32) (z := [.str ⟨#[]⟩, .str ⟨#[]⟩]) (l) (⟨nm5[0], t3⟩) (by kernel_rfl) (by kernel_rfl) (by kernel_rfl) (by kernel_rfl) (by first | ((repeat first | exact at0 (by simp) | refine atS ?_); done) | assumption) (by first | (simp (disch := first | omega | (simp only [go_sem]; try omega)) only [go_sem]; done) | (simp (disch := first | omega | (simp only [go_sem]; try omega)) only [go_sem]; rfl) | (simp (disch := first | omega | (simp only [go_sem]; try omega)) only [go_sem]; simp [go_sem]; done) | (simp (disch := first | omega | (simp only [go_sem]; try omega)) only [go_sem]; simp [*]; done)) rfl (by decide) (by omega) (by omega) (by rfl) ?_)
    simp (disch := first | omega | (simp only [go_sem]; try omega)) only [go_sem]
    refine Next.mk (0 + 1, l ++ [⟨nm5[0], t3⟩], j2) (hnx t3 (j2) (by omega) (by omega) (by omega)) ?_
    ((try simp (disch := first | omega | (simp only [go_sem]; try omega)) only [go_sem]); (first | refine WkL.pickAt [_] [0] ?_ ?_ ?_ rfl ?_ ?_ ?_ ?_ | refine WkL.pickAt [_] [1] ?_ ?_ ?_ rfl ?_ ?_ ?_ ?_ | refine WkL.pickAt [_] [2] ?_ ?_ ?_ rfl ?_ ?_ ?_ ?_ | refine WkL.pickAt [_] [3] ?_ ?_ ?_ rfl ?_ ?_ ?_ ?_ | refine WkL.pickAt [_] [4] ?_ ?_ ?_ rfl ?_ ?_ ?_ ?_ | refine WkL.pickAt [_] [5] ?_ ?_ ?_ rfl ?_ ?_ ?_ ?_ | refine WkL.pickAt [_] [6] ?_ ?_ ?_ rfl ?_ ?_ ?_ ?_ | refine WkL.pickAt [_] [7] ?_ ?_ ?_ rfl ?_ ?_ ?_ ?_ | refine WkL.pickAt [_] [8] ?_ ?_ ?_ rfl ?_ ?_ ?_ ?_) <;> first | assumption | exact HOk.str (by assumption) | (simp; done) | (simp; omega) | (simp [pureO_gr, AObj.pureO, pureL, go_sem, AC.pure]; done) | (simp only [List.all_cons, List.all_nil, Bool.and_true]; exact pureO_gr (pureL_map _ (fun x => by simp [go_sem, AC.pure]))) | ((try simp only [List.map_cons, List.map_nil, av_ren_gr]); simp [AV.ren, AV.ren1, AC.ren, renP, pickS]; first | done | omega) | (simp only [List.forall_mem_cons, List.not_mem_nil, false_implies, implies_true, and_true]; (repeat' apply And.intro) <;> first | trivial | exact grV_ok (by simp) _ | exact okN_grO (fun x => by simp [go_sem, AC.pure]) | exact okN_map (fun x => by simp [go_sem, AC.pure]) | (simp [AV.ok, AV.ok1, AC.ok]; done) | (simp [AV.ok, AV.ok1, AC.ok]; omega) | (simp [AObj.okN, AC.ok]; done)) | (simp [AObj.okN]; done))
   ·simp (disch := first | omega | (simp only [go_sem]; try omega)) only [go_sem, hk0]
    refine flip_a s zs j2 8 (by first | exact hs | exact hs.app _ | exact hs.set (by omega) (by omega) | exact (hs.set (by omega) (by omega)).app _) (by omega) (by omega) (fun b => ?_)
    simp (disch := first | omega | (simp only [go_sem]; try omega)) only [go_sem]
    refine acond_b (fun c => ?_) (fun c => ?_)
    ·simp (disch := first | omega | (simp only [go_sem]; try omega)) only [go_sem]
     (refine app_gr (enc := encCl) (e := 60) (sz := 2) (bs := 32) (z := [.str ⟨#[]⟩, .str ⟨#[]⟩]) (l) (⟨nm5[k], t⟩) (by kernel_rfl) (by kernel_rfl) (by kernel_rfl) (by kernel_rfl) (by first | ((repeat first | exact at0 (by simp) | refine atS ?_); done) | assumption) (by first | (simp (disch := first | omega | (simp only [go_sem]; try omega)) only [go_sem]; done) | (simp (disch := first | omega | (simp only [go_sem]; try omega)) only [go_sem]; rfl) | (simp (disch := first | omega | (simp only [go_sem]; try omega)) only [go_sem]; simp [go_sem]; done) | (simp (disch := first | omega | (simp only [go_sem]; try omega)) only [go_sem]; simp [*]; done)) rfl (by decide) (by omega) (by omega) (by rfl) ?_)
     simp (disch := first | omega | (simp only [go_sem]; try omega)) only [go_sem]
     refine Next.mk (k + 1, l ++ [⟨nm5[k], t⟩], j2 + 1) (hnx t (j2 + 1) (by omega) (by omega) (by omega)) ?_
     ((try simp (disch := first | omega | (simp only [go_sem]; try omega)) only [go_sem]); (first | refine WkL.pickAt [_] [0] ?_ ?_ ?_ rfl ?_ ?_ ?_ ?_ | refine WkL.pickAt [_] [1] ?_ ?_ ?_ rfl ?_ ?_ ?_ ?_ | refine WkL.pickAt [_] [2] ?_ ?_ ?_ rfl ?_ ?_ ?_ ?_ | refine WkL.pickAt [_] [3] ?_ ?_ ?_ rfl ?_ ?_ ?_ ?_ | refine WkL.pickAt [_] [4] ?_ ?_ ?_ rfl ?_ ?_ ?_ ?_ | refine WkL.pickAt [_] [5] ?_ ?_ ?_ rfl ?_ ?_ ?_ ?_ | refine WkL.pickAt [_] [6] ?_ ?_ ?_ rfl ?_ ?_ ?_ ?_ | refine WkL.pickAt [_] [7] ?_ ?_ ?_ rfl ?_ ?_ ?_ ?_ | refine WkL.pickAt [_] [8] ?_ ?_ ?_ rfl ?_ ?_ ?_ ?_) <;> first | assumption | exact HOk.str (by assumption) | (simp; done) | (simp; omega) | (simp [pureO_gr, AObj.pureO, pureL, go_sem, AC.pure]; done) | (simp only [List.all_cons, List.all_nil, Bool.and_true]; exact pureO_gr (pureL_map _ (fun x => by simp [go_sem, AC.pure]))) | ((try simp only [List.map_cons, List.map_nil, av_ren_gr]); simp [AV.ren, AV.ren1, AC.ren, renP, pickS]; first | done | omega) | (simp only [List.forall_mem_cons, List.not_mem_nil, false_implies, implies_true, and_true]; (repeat' apply And.intro) <;> first | trivial | exact grV_ok (by simp) _ | exact okN_grO (fun x => by simp [go_sem, AC.pure]) | exact okN_map (fun x => by simp [go_sem, AC.pure]) | (simp [AV.ok, AV.ok1, AC.ok]; done) | (simp [AV.ok, AV.ok1, AC.ok]; omega) | (simp [AObj.okN, AC.ok]; done)) | (simp [AObj.okN]; done))
    ·by_cases hk1 : k = 1
     ·subst hk1
      simp (disch := first | omega | (simp only [go_sem]; try omega)) only [go_sem]
      refine AWp.rounds 1 (by kernel_rfl) ?_
      simp (disch := first | omega | (simp only [go_sem]; try omega)) only [go_sem]
      refine replaced_a t _ _ (by omega) rfl rfl (fun t2 ht2 => ?_)
      simp (disch := first | omega | (simp only [go_sem]; try omega)) only [go_sem]
      (refine app_gr (enc := encCl) (e := 60) (sz := 2) (bs := 32) (z := [.str ⟨#[]⟩, .str ⟨#[]⟩]) (l) (⟨nm5[1], t2⟩) (by kernel_rfl) (by kernel_rfl) (by kernel_rfl) (by kernel_rfl) (by first | ((repeat first | exact at0 (by simp) | refine atS ?_); done) | assumption) (by first | (simp (disch := first | omega | (simp only [go_sem]; try omega)) only [go_sem]; done) | (simp (disch := first | omega | (simp only [go_sem]; try omega)) only [go_sem]; rfl) | (simp (disch := first | omega | (simp only [go_sem]; try omega)) only [go_sem]; simp [go_sem]; done) | (simp (disch := first | omega | (simp only [go_sem]; try omega)) only [go_sem]; simp [*]; done)) rfl (by decide) (by omega) (by omega) (by rfl) ?_)
      simp (disch := first | omega | (simp only [go_sem]; try omega)) only [go_sem]
      refine Next.mk (1 + 1, l ++ [⟨nm5[1], t2⟩], j2 + 1) (hnx t2 (j2 + 1) (by omega) (by omega) (by omega)) ?_
      ((try simp (disch := first | omega | (simp only [go_sem]; try omega)) only [go_sem]); (first | refine WkL.pickAt [_] [0] ?_ ?_ ?_ rfl ?_ ?_ ?_ ?_ | refine WkL.pickAt [_] [1] ?_ ?_ ?_ rfl ?_ ?_ ?_ ?_ | refine WkL.pickAt [_] [2] ?_ ?_ ?_ rfl ?_ ?_ ?_ ?_ | refine WkL.pickAt [_] [3] ?_ ?_ ?_ rfl ?_ ?_ ?_ ?_ | refine WkL.pickAt [_] [4] ?_ ?_ ?_ rfl ?_ ?_ ?_ ?_ | refine WkL.pickAt [_] [5] ?_ ?_ ?_ rfl ?_ ?_ ?_ ?_ | refine WkL.pickAt [_] [6] ?_ ?_ ?_ rfl ?_ ?_ ?_ ?_ | refine WkL.pickAt [_] [7] ?_ ?_ ?_ rfl ?_ ?_ ?_ ?_ | refine WkL.pickAt [_] [8] ?_ ?_ ?_ rfl ?_ ?_ ?_ ?_) <;> first | assumption | exact HOk.str (by assumption) | (simp; done) | (simp; omega) | (simp [pureO_gr, AObj.pureO, pureL, go_sem, AC.pure]; done) | (simp only [List.all_cons, List.all_nil, Bool.and_true]; exact pureO_gr (pureL_map _ (fun x => by simp [go_sem, AC.pure]))) | ((try simp only [List.map_cons, List.map_nil, av_ren_gr]); simp [AV.ren, AV.ren1, AC.ren, renP, pickS]; first | done | omega) | (simp only [List.forall_mem_cons, List.not_mem_nil, false_implies, implies_true, and_true]; (repeat' apply And.intro) <;> first | trivial | exact grV_ok (by simp) _ | exact okN_grO (fun x => by simp [go_sem, AC.pure]) | exact okN_map (fun x => by simp [go_sem, AC.pure]) | (simp [AV.ok, AV.ok1, AC.ok]; done) | (simp [AV.ok, AV.ok1, AC.ok]; omega) | (simp [AObj.okN, AC.ok]; done)) | (simp [AObj.okN]; done))
     ·have hmx : max (0 : Int) (2 - (k : Int)) = 0 := by omega
      simp (disch := first | omega | (simp only [go_sem]; try omega)) only [go_sem, hmx]
      refine ⟨.inl trivial, ?_⟩
      simp (disch := first | omega | (simp only [go_sem]; try omega)) only [go_sem]
      refine AWp.rounds 0 (by kernel_rfl) ?_
      simp (disch := first | omega | (simp only [go_sem]; try omega)) only [go_sem]
      (refine app_gr (enc := encCl) (e := 60) (sz := 2) (bs := 32) (z := [.str ⟨#[]⟩, .str ⟨#[]⟩]) (l) (⟨nm5[k], t⟩) (by kernel_rfl) (by kernel_rfl) (by kernel_rfl) (by kernel_rfl) (by first | ((repeat first | exact at0 (by simp) | refine atS ?_); done) | assumption) (by first | (simp (disch := first | omega | (simp only [go_sem]; try omega)) only [go_sem]; done) | (simp (disch := first | omega | (simp only [go_sem]; try omega)) only [go_sem]; rfl) | (simp (disch := first | omega | (simp only [go_sem]; try omega)) only [go_sem]; simp [go_sem]; done) | (simp (disch := first | omega | (simp only [go_sem]; try omega)) only [go_sem]; simp [*]; done)) rfl (by decide) (by omega) (by omega) (by rfl) ?_)
      simp (disch := first | omega | (simp only [go_sem]; try omega)) only [go_sem]
      refine Next.mk (k + 1, l ++ [⟨nm5[k], t⟩], j2 + 1) (hnx t (j2 + 1) (by omega) (by omega) (by omega)) ?_
      ((try simp (disch := first | omega | (simp only [go_sem]; try omega)) only [go_sem]); (first | refine WkL.pickAt [_] [0] ?_ ?_ ?_ rfl ?_ ?_ ?_ ?_ | refine WkL.pickAt [_] [1] ?_ ?_ ?_ rfl ?_ ?_ ?_ ?_ | refine WkL.pickAt [_] [2] ?_ ?_ ?_ rfl ?_ ?_ ?_ ?_ | refine WkL.pickAt [_] [3] ?_ ?_ ?_ rfl ?_ ?_ ?_ ?_ | refine WkL.pickAt [_] [4] ?_ ?_ ?_ rfl ?_ ?_ ?_ ?_ | refine WkL.pickAt [_] [5] ?_ ?_ ?_ rfl ?_ ?_ ?_ ?_ | refine WkL.pickAt [_] [6] ?_ ?_ ?_ rfl ?_ ?_ ?_ ?_ | refine WkL.pickAt [_] [7] ?_ ?_ ?_ rfl ?_ ?_ ?_ ?_ | refine WkL.pickAt [_] [8] ?_ ?_ ?_ rfl ?_ ?_ ?_ ?_) <;> first | assumption | exact HOk.str (by assumption) | (simp; done) | (simp; omega) | (simp [pureO_gr, AObj.pureO, pureL, go_sem, AC.pure]; done) | (simp only [List.all_cons, List.all_nil, Bool.and_true]; exact pureO_gr (pureL_map _ (fun x => by simp [go_sem, AC.pure]))) | ((try simp only [List.map_cons, List.map_nil, av_ren_gr]); simp [AV.ren, AV.ren1, AC.ren, renP, pickS]; first | done | omega) | (simp only [List.forall_mem_cons, List.not_mem_nil, false_implies, implies_true, and_true]; (repeat' apply And.intro) <;> first | trivial | exact grV_ok (by simp) _ | exact okN_grO (fun x => by simp [go_sem, AC.pure]) | exact okN_map (fun x => by simp [go_sem, AC.pure]) | (simp [AV.ok, AV.ok1, AC.ok]; done) | (simp [AV.ok, AV.ok1, AC.ok]; omega) | (simp [AObj.okN, AC.ok]; done)) | (simp [AObj.okN]; done))
 ·have hfin : ∀ (l2 : List Cal) (j2 : Int) {G : Hp}, l2.length = l.length → (∀ x ∈ l2, x.tg.size ≤ 10 ∧ x.ex.size ≤ 250) → j1 ≤ j2 → j2 ≤ j1 + 10 → Ret H.length (.c (grV (H.length + 1) l2)) (H.set s (strO zs j2) ++ (.row 9 1 (nm5.map encSs) true :: grO 60 2 (l2.map encCl) :: G)) K := fun l2 j2 {G} h1 h2 h3 h4 => by
   refine Ret.frzGr (l := l2.map encCl) 1 (HOk.str hH) (by simp) rfl (pureL_map _ (fun x => by simp [go_sem, AC.pure])) ?_ (hk l2 j2 (by omega) (by omega) (by omega) h2)
   rw [map_grV, List.length_set]
  simp (disch := first | omega | (simp only [go_sem]; try omega)) only [go_sem, hk2, hml]
  by_cases hl0 : 0 < l.length
  ·simp (disch := first | omega | (simp only [go_sem]; try omega)) only [go_sem, hl0]
   refine flip_a s zs j1 12 (by first | exact hs | exact hs.app _ | exact hs.set (by omega) (by omega) | exact (hs.set (by omega) (by omega)).app _) (by omega) (by omega) (fun b => ?_)
   simp (disch := first | omega | (simp only [go_sem]; try omega)) only [go_sem]
   refine acond_b (fun c => ?_) (fun c => ?_)
   ·simp (disch := first | omega | (simp only [go_sem]; try omega)) only [go_sem]
    refine next_a s zs (j1 + 1) l.length (by first | exact hs | exact hs.app _ | exact hs.set (by omega) (by omega) | exact (hs.set (by omega) (by omega)).app _) (by omega) (by omega) (fun x x0 x1 => ?_)
    simp (disch := first | omega | (simp only [go_sem]; try omega)) only [go_sem]
    obtain ⟨n, rfl⟩ : ∃ n : Nat, x = n := ⟨x.toNat, by omega⟩
    have hn : n < l.length := by omega
    refine w_tree (.one 0 (.one 1 (.one 2 (.one 3 (.one 4 (.one 5 (.one 6 (.one 7 (.one 8 (.one 9 (.one 10 (.one 13 (.two 11 (.two 12 (.one 14 (.one 15 (.one 16 (.one 17 (.one 18 (.one 19 (.one 20 (.one 21 .done)))))))) 14 (.one 12 (.one 15 (.one 16 (.one 17 (.one 18 (.one 19 (.one 20 (.one 21 .done))))))))) 14 (.one 11 (.one 12 (.one 15 (.one 16 (.one 17 (.one 18 (.one 19 (.one 20 (.one 21 .done)))))))))))))))))))))) (by kernel_rfl) (by decide +kernel) ?_
    simp (disch := first | omega | (simp only [go_sem]; try omega)) only [go_sem, hn]
    have h7 : ∀ r ∈ ([l[n].tg, l[n].tg, ⟨#[97, 45, 98]⟩, ⟨#[109, 105, 110]⟩, ⟨#[]⟩, ⟨#[65]⟩, ⟨#[117]⟩] : List ByteArray), r.size ≤ 10 := by
     have h0 := (q3 l[n] (List.getElem_mem hn)).1
     have h1 : ∀ r ∈ ([⟨#[97, 45, 98]⟩, ⟨#[109, 105, 110]⟩, ⟨#[]⟩, ⟨#[65]⟩, ⟨#[117]⟩] : List ByteArray), r.size ≤ 10 := by decide
     intro r hr
     rcases List.mem_cons.1 hr with h | hr
     ·rw [h]; exact h0
     ·rcases List.mem_cons.1 hr with h | hr
      ·rw [h]; exact h0
      ·exact h1 r hr
    have h6 : ∀ r ∈ ([⟨#[119]⟩, ⟨#[121, 64, 49, 48]⟩, ⟨#[120, 32, 43, 32, 119]⟩, ⟨#[97, 32, 43]⟩, ⟨#[]⟩, ⟨#[117]⟩] : List ByteArray), r.size ≤ 10 := by decide
    repeat' first
     | (refine someS_lit s zs _ [l[n].tg, l[n].tg, ⟨#[97, 45, 98]⟩, ⟨#[109, 105, 110]⟩, ⟨#[]⟩, ⟨#[65]⟩, ⟨#[117]⟩] (by first | ((repeat first | exact at0 (by simp) | refine atS ?_); done) | assumption) rfl rfl (by first | exact hs | exact hs.app _ | exact hs.set (by omega) (by omega) | exact (hs.set (by omega) (by omega)).app _) (by omega) (by simp) (by simp) (fun r7 hr => ?_); have g7 := h7 r7 hr; clear hr; simp (disch := first | omega | (simp only [go_sem]; try omega)) only [go_sem, hn])
     | (refine someS_lit s zs _ [⟨#[119]⟩, ⟨#[121, 64, 49, 48]⟩, ⟨#[120, 32, 43, 32, 119]⟩, ⟨#[97, 32, 43]⟩, ⟨#[]⟩, ⟨#[117]⟩] (by first | ((repeat first | exact at0 (by simp) | refine atS ?_); done) | assumption) rfl rfl (by first | exact hs | exact hs.app _ | exact hs.set (by omega) (by omega) | exact (hs.set (by omega) (by omega)).app _) (by omega) (by simp) (by simp) (fun r6 hr => ?_); have g6 := h6 r6 hr; clear hr; simp (disch := first | omega | (simp only [go_sem]; try omega)) only [go_sem, hn])
     | apply And.intro
    all_goals
     have hq := hfin (l.set n ⟨r7, r6⟩) (j1 + 1 + 1 + 1 + 1) (G := [.dead, .dead]) (List.length_set ..) (fun x hx => by
      rcases List.mem_or_eq_of_mem_set hx with h | h
      ·exact q3 x h
      ·rw [h]; exact ⟨g7, by dsimp only; omega⟩) (by omega) (by omega)
     have hne0 : l ≠ [] := fun e => by rw [e] at hl0; exact absurd hl0 (by decide)
     rw [grO_pos _ _ (by simpa using hne0), List.map_set, grV_pos _ (by simpa using hne0), List.length_set] at hq
     rw [grV_pos _ hne0]
     exact hq
   ·simp (disch := first | omega | (simp only [go_sem]; try omega)) only [go_sem]
    exact hfin l (j1 + 1) rfl q3 (by omega) (by omega)
  ·simp (disch := first | omega | (simp only [go_sem]; try omega)) only [go_sem, hl0]
   exact hfin l j1 rfl q3 (by omega) (by omega)
end Go.Proofs.YtagoolooikpabaaGreatDoor
