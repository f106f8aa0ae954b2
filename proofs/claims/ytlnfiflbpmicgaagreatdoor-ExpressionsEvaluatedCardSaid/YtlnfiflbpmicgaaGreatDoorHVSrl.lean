/- Series that are drawn, with their tags. No condition. -/
import Derived.Test.YtlnfiflbpmicgaaGreatDoorHVGD
import Derived.Test.YtlnfiflbpmicgaaGreatDoorHVExpD
set_option linter.all false
namespace Go.Proofs.YtlnfiflbpmicgaaGreatDoor
open Go Go.RowKit
set_option maxRecDepth 100000
set_option maxHeartbeats 2000000
variable {H : Hp} {K : AV → Hp → Prop}
theorem rightSer_a (s : Nat) (zs : List Int) (j most : Int) (hs : Str H s zs j) (hj : j ≤ 1090000000000) (hm0 : 0 ≤ most) (hm1 : most ≤ 100)
    (hk : ∀ (l : List Smp) (j' : Int), j ≤ j' → j' ≤ j + 2 + 3 * most → drawnS most l → K (.c (.lst 3 (l.map encS))) (H.set s (strO zs j'))) :
    ACalls Tryz.prog 57 [.c (.ptr (some (s, 0, 0))), (.c (.int .i64 most))] H K := by
  refine ACalls.postR (rightSamples_o s zs j most hs hj hm0 hm1 (K := fun v G => ∃ l j', j ≤ j' ∧ j' ≤ j + 2 + 3 * most ∧ drawnS most l ∧ v = .c (grV H.length l) ∧ G = H.set s (strO zs j') ++ [grO 34 3 (l.map encS)]) (fun l j' h1 h2 h3 => ⟨l, j', h1, h2, h3, rfl, rfl⟩)) ?_
  rintro hH _ _ ⟨l, j', h1, h2, h3, rfl, rfl⟩
  exact Ret.frzGr 0 (HOk.str hH) (by simp) rfl (pureL_map l (fun x => by simp [AC.pure])) (by rw [map_grV]; simp) (hk l j' h1 h2 h3)
theorem pureL_encSr (l : List Ser) : pureL (l.map encSr) = true := pureL_map _ (fun x => by simp [go_sem, AC.pure])
theorem seriesList_a (s : Nat) (zs : List Int) (j : Int) (hs : Str H s zs j) (hj : j ≤ 900000000)
    (hk : ∀ (l : List Ser) (j' : Int), j ≤ j' → j' ≤ j + 100 → l.length ≤ 3 → (∀ x ∈ l, x.fine ∧ x.l.length ≤ 4) → K (.c (.lst 2 (l.map encSr))) (H.set s (strO zs j'))) :
    ACalls Tryz.prog 9 [.c (.ptr (some (s, 0, 0)))] H K := by
  have hlt := hs.lt
  have hpos := hs.pos
  have hne : H.length ≠ s := by omega
  refine acalls Tryz.func9 rfl (by kernel_rfl) (by simp (disch := first | omega | (simp only [go_sem]; try omega)) only [go_sem]) (fun hH => ?_)
  simp (disch := first | omega | (simp only [go_sem]; try omega)) only [go_sem]
  refine AWp.loop (H.length + 1) [0, 7, 8] [9, 3] (fun (q : Nat × List Ser × Int) => q.1 ≤ 3 ∧ q.2.1.length ≤ q.1 ∧ (∀ x ∈ q.2.1, x.fine ∧ x.l.length ≤ 4) ∧ j ≤ q.2.2 ∧ q.2.2 ≤ j + 16 * q.1) (fun (q : Nat × List Ser × Int) => [(9, (.c (.int .i64 (q.1)))), (3, .c (grV (H.length + 1) q.2.1))]) (fun (q : Nat × List Ser × Int) => H.set s (strO zs q.2.2) ++ [.row 9 1 [[.str ⟨#[97]⟩], [.str ⟨#[98]⟩], [.str ⟨#[99]⟩]] true, grO 92 2 (q.2.1.map encSr)]) (fun (q : Nat × List Ser × Int) => 3 - q.1) (by kernel_rfl) (fun _ => rfl) (by kernel_rfl) (by first | (simp; done) | omega) (by first | (simp; done) | (simp; omega) | omega) kl ?_ (fun q hq _ _ => ?_)
  · refine Next.mk (0, [], j) ⟨by dsimp only; omega, by simp, by simp, by dsimp only; omega, by dsimp only; omega⟩ ?_
    dsimp only
    rw [set_same hs.2.2.2]
    exact WkL.padP [_] (by simp)
  obtain ⟨k, l, j1⟩ := q
  obtain ⟨q1, q2, q3, q4, q5⟩ := hq
  dsimp only at q1 q2 q3 q4 q5 ⊢
  have hP : ∀ o ∈ [AObj.row 9 1 [[.str ⟨#[97]⟩], [.str ⟨#[98]⟩], [.str ⟨#[99]⟩]] true], o.okN (H.length + [AObj.row 9 1 [[.str ⟨#[97]⟩], [.str ⟨#[98]⟩], [.str ⟨#[99]⟩]] true].length) := by
    intro o ho
    simp only [List.mem_singleton] at ho
    subst ho
    exact okN_pure rfl rfl _
  by_cases hk2 : k < 3
  · obtain rfl | rfl | rfl : k = 0 ∨ k = 1 ∨ k = 2 := by omega
    · simp (disch := first | omega | (simp only [go_sem]; try omega)) only [go_sem]
      refine flip_a s zs j1 5 (by first | exact hs | exact hs.app _ | exact hs.set (by omega) (by omega) | exact (hs.set (by omega) (by omega)).app _) (by omega) (by omega) (fun b => ?_)
      simp (disch := first | omega | (simp only [go_sem]; try omega)) only [go_sem]
      refine acond_b (fun c => ?_) (fun c => ?_)
      · simp (disch := first | omega | (simp only [go_sem]; try omega)) only [go_sem]
        refine Next.mk (1, l, j1 + 1) ⟨⟨by dsimp only; omega, by dsimp only; omega, q3, by dsimp only; omega, by dsimp only; omega⟩, by dsimp only; omega⟩ ?_
        ((try simp (disch := first | omega | (simp only [go_sem]; try omega)) only [go_sem]); (first | refine WkL.pickAt [_] [0] ?_ ?_ ?_ rfl ?_ ?_ ?_ ?_ | refine WkL.pickAt [_] [1] ?_ ?_ ?_ rfl ?_ ?_ ?_ ?_ | refine WkL.pickAt [_] [2] ?_ ?_ ?_ rfl ?_ ?_ ?_ ?_ | refine WkL.pickAt [_] [3] ?_ ?_ ?_ rfl ?_ ?_ ?_ ?_ | refine WkL.pickAt [_] [4] ?_ ?_ ?_ rfl ?_ ?_ ?_ ?_ | refine WkL.pickAt [_] [5] ?_ ?_ ?_ rfl ?_ ?_ ?_ ?_ | refine WkL.pickAt [_] [6] ?_ ?_ ?_ rfl ?_ ?_ ?_ ?_ | refine WkL.pickAt [_] [7] ?_ ?_ ?_ rfl ?_ ?_ ?_ ?_ | refine WkL.pickAt [_] [8] ?_ ?_ ?_ rfl ?_ ?_ ?_ ?_) <;> first | assumption | exact HOk.str (by assumption) | (simp; done) | (simp; omega) | (simp [pureO_gr, AObj.pureO, pureL, go_sem, AC.pure]; done) | (simp only [List.all_cons, List.all_nil, Bool.and_true]; exact pureO_gr (pureL_map _ (fun x => by simp [go_sem, AC.pure]))) | ((try simp only [List.map_cons, List.map_nil, av_ren_gr]); simp [AV.ren, AV.ren1, AC.ren, renP, pickS]; first | done | omega) | (simp only [List.forall_mem_cons, List.not_mem_nil, false_implies, implies_true, and_true]; (repeat' apply And.intro) <;> first | trivial | exact grV_ok (by simp) _ | exact okN_grO (fun x => by simp [go_sem, AC.pure]) | exact okN_map (fun x => by simp [go_sem, AC.pure]) | (simp [AV.ok, AV.ok1, AC.ok]; done) | (simp [AV.ok, AV.ok1, AC.ok]; omega) | (simp [AObj.okN, AC.ok]; done)) | (simp [AObj.okN]; done))
      · simp (disch := first | omega | (simp only [go_sem]; try omega)) only [go_sem]
        refine rightSer_a s zs (j1 + 1) 4 (by first | exact hs | exact hs.app _ | exact hs.set (by omega) (by omega) | exact (hs.set (by omega) (by omega)).app _) (by omega) (by omega) (by omega) (fun cl j2 g1 g2 g3 => ?_)
        obtain ⟨_, g4, _⟩ := g3
        simp (disch := first | omega | (simp only [go_sem]; try omega)) only [go_sem]
        (refine app_gr (enc := encSr) (e := 92) (sz := 2) (bs := 40) (z := [.str ⟨#[]⟩, .sl none 0]) (l) (⟨⟨#[97]⟩, cl⟩) (by kernel_rfl) (by kernel_rfl) (by kernel_rfl) (by kernel_rfl) (by first | ((repeat first | exact at0 (by simp) | refine atS ?_); done) | assumption) (by first | (simp (disch := first | omega | (simp only [go_sem]; try omega)) only [go_sem]; done) | (simp (disch := first | omega | (simp only [go_sem]; try omega)) only [go_sem]; rfl) | (simp (disch := first | omega | (simp only [go_sem]; try omega)) only [go_sem]; simp [go_sem]; done) | (simp (disch := first | omega | (simp only [go_sem]; try omega)) only [go_sem]; simp [*]; done)) rfl (by decide) (by omega) (by omega) (by rfl) ?_)
        simp (disch := first | omega | (simp only [go_sem]; try omega)) only [go_sem]
        refine Next.mk (1, l ++ [⟨⟨#[97]⟩, cl⟩], j2) ⟨⟨by dsimp only; omega, by dsimp only; rw [List.length_append, List.length_singleton]; omega, fun x hx => ?_, by dsimp only; omega, by dsimp only; omega⟩, by dsimp only; omega⟩ ?_
        · rcases List.mem_append.1 hx with h | h
          · exact q3 x h
          · simp at h; subst h; exact ⟨⟨(by decide : (⟨#[97]⟩ : ByteArray).size ≤ 1000), by dsimp only; omega⟩, by dsimp only; omega⟩
        · ((try simp (disch := first | omega | (simp only [go_sem]; try omega)) only [go_sem]); (first | refine WkL.pickAt [_] [0] ?_ ?_ ?_ rfl ?_ ?_ ?_ ?_ | refine WkL.pickAt [_] [1] ?_ ?_ ?_ rfl ?_ ?_ ?_ ?_ | refine WkL.pickAt [_] [2] ?_ ?_ ?_ rfl ?_ ?_ ?_ ?_ | refine WkL.pickAt [_] [3] ?_ ?_ ?_ rfl ?_ ?_ ?_ ?_ | refine WkL.pickAt [_] [4] ?_ ?_ ?_ rfl ?_ ?_ ?_ ?_ | refine WkL.pickAt [_] [5] ?_ ?_ ?_ rfl ?_ ?_ ?_ ?_ | refine WkL.pickAt [_] [6] ?_ ?_ ?_ rfl ?_ ?_ ?_ ?_ | refine WkL.pickAt [_] [7] ?_ ?_ ?_ rfl ?_ ?_ ?_ ?_ | refine WkL.pickAt [_] [8] ?_ ?_ ?_ rfl ?_ ?_ ?_ ?_) <;> first | assumption | exact HOk.str (by assumption) | (simp; done) | (simp; omega) | (simp [pureO_gr, AObj.pureO, pureL, go_sem, AC.pure]; done) | (simp only [List.all_cons, List.all_nil, Bool.and_true]; exact pureO_gr (pureL_map _ (fun x => by simp [go_sem, AC.pure]))) | ((try simp only [List.map_cons, List.map_nil, av_ren_gr]); simp [AV.ren, AV.ren1, AC.ren, renP, pickS]; first | done | omega) | (simp only [List.forall_mem_cons, List.not_mem_nil, false_implies, implies_true, and_true]; (repeat' apply And.intro) <;> first | trivial | exact grV_ok (by simp) _ | exact okN_grO (fun x => by simp [go_sem, AC.pure]) | exact okN_map (fun x => by simp [go_sem, AC.pure]) | (simp [AV.ok, AV.ok1, AC.ok]; done) | (simp [AV.ok, AV.ok1, AC.ok]; omega) | (simp [AObj.okN, AC.ok]; done)) | (simp [AObj.okN]; done))
    · simp (disch := first | omega | (simp only [go_sem]; try omega)) only [go_sem]
      refine flip_a s zs j1 5 (by first | exact hs | exact hs.app _ | exact hs.set (by omega) (by omega) | exact (hs.set (by omega) (by omega)).app _) (by omega) (by omega) (fun b => ?_)
      simp (disch := first | omega | (simp only [go_sem]; try omega)) only [go_sem]
      refine acond_b (fun c => ?_) (fun c => ?_)
      · simp (disch := first | omega | (simp only [go_sem]; try omega)) only [go_sem]
        refine Next.mk (2, l, j1 + 1) ⟨⟨by dsimp only; omega, by dsimp only; omega, q3, by dsimp only; omega, by dsimp only; omega⟩, by dsimp only; omega⟩ ?_
        ((try simp (disch := first | omega | (simp only [go_sem]; try omega)) only [go_sem]); (first | refine WkL.pickAt [_] [0] ?_ ?_ ?_ rfl ?_ ?_ ?_ ?_ | refine WkL.pickAt [_] [1] ?_ ?_ ?_ rfl ?_ ?_ ?_ ?_ | refine WkL.pickAt [_] [2] ?_ ?_ ?_ rfl ?_ ?_ ?_ ?_ | refine WkL.pickAt [_] [3] ?_ ?_ ?_ rfl ?_ ?_ ?_ ?_ | refine WkL.pickAt [_] [4] ?_ ?_ ?_ rfl ?_ ?_ ?_ ?_ | refine WkL.pickAt [_] [5] ?_ ?_ ?_ rfl ?_ ?_ ?_ ?_ | refine WkL.pickAt [_] [6] ?_ ?_ ?_ rfl ?_ ?_ ?_ ?_ | refine WkL.pickAt [_] [7] ?_ ?_ ?_ rfl ?_ ?_ ?_ ?_ | refine WkL.pickAt [_] [8] ?_ ?_ ?_ rfl ?_ ?_ ?_ ?_) <;> first | assumption | exact HOk.str (by assumption) | (simp; done) | (simp; omega) | (simp [pureO_gr, AObj.pureO, pureL, go_sem, AC.pure]; done) | (simp only [List.all_cons, List.all_nil, Bool.and_true]; exact pureO_gr (pureL_map _ (fun x => by simp [go_sem, AC.pure]))) | ((try simp only [List.map_cons, List.map_nil, av_ren_gr]); simp [AV.ren, AV.ren1, AC.ren, renP, pickS]; first | done | omega) | (simp only [List.forall_mem_cons, List.not_mem_nil, false_implies, implies_true, and_true]; (repeat' apply And.intro) <;> first | trivial | exact grV_ok (by simp) _ | exact okN_grO (fun x => by simp [go_sem, AC.pure]) | exact okN_map (fun x => by simp [go_sem, AC.pure]) | (simp [AV.ok, AV.ok1, AC.ok]; done) | (simp [AV.ok, AV.ok1, AC.ok]; omega) | (simp [AObj.okN, AC.ok]; done)) | (simp [AObj.okN]; done))
      · simp (disch := first | omega | (simp only [go_sem]; try omega)) only [go_sem]
        refine rightSer_a s zs (j1 + 1) 4 (by first | exact hs | exact hs.app _ | exact hs.set (by omega) (by omega) | exact (hs.set (by omega) (by omega)).app _) (by omega) (by omega) (by omega) (fun cl j2 g1 g2 g3 => ?_)
        obtain ⟨_, g4, _⟩ := g3
        simp (disch := first | omega | (simp only [go_sem]; try omega)) only [go_sem]
        (refine app_gr (enc := encSr) (e := 92) (sz := 2) (bs := 40) (z := [.str ⟨#[]⟩, .sl none 0]) (l) (⟨⟨#[98]⟩, cl⟩) (by kernel_rfl) (by kernel_rfl) (by kernel_rfl) (by kernel_rfl) (by first | ((repeat first | exact at0 (by simp) | refine atS ?_); done) | assumption) (by first | (simp (disch := first | omega | (simp only [go_sem]; try omega)) only [go_sem]; done) | (simp (disch := first | omega | (simp only [go_sem]; try omega)) only [go_sem]; rfl) | (simp (disch := first | omega | (simp only [go_sem]; try omega)) only [go_sem]; simp [go_sem]; done) | (simp (disch := first | omega | (simp only [go_sem]; try omega)) only [go_sem]; simp [*]; done)) rfl (by decide) (by omega) (by omega) (by rfl) ?_)
        simp (disch := first | omega | (simp only [go_sem]; try omega)) only [go_sem]
        refine Next.mk (2, l ++ [⟨⟨#[98]⟩, cl⟩], j2) ⟨⟨by dsimp only; omega, by dsimp only; rw [List.length_append, List.length_singleton]; omega, fun x hx => ?_, by dsimp only; omega, by dsimp only; omega⟩, by dsimp only; omega⟩ ?_
        · rcases List.mem_append.1 hx with h | h
          · exact q3 x h
          · simp at h; subst h; exact ⟨⟨(by decide : (⟨#[98]⟩ : ByteArray).size ≤ 1000), by dsimp only; omega⟩, by dsimp only; omega⟩
        · ((try simp (disch := first | omega | (simp only [go_sem]; try omega)) only [go_sem]); (first | refine WkL.pickAt [_] [0] ?_ ?_ ?_ rfl ?_ ?_ ?_ ?_ | refine WkL.pickAt [_] [1] ?_ ?_ ?_ rfl ?_ ?_ ?_ ?_ | refine WkL.pickAt [_] [2] ?_ ?_ ?_ rfl ?_ ?_ ?_ ?_ | refine WkL.pickAt [_] [3] ?_ ?_ ?_ rfl ?_ ?_ ?_ ?_ | refine WkL.pickAt [_] [4] ?_ ?_ ?_ rfl ?_ ?_ ?_ ?_ | refine WkL.pickAt [_] [5] ?_ ?_ ?_ rfl ?_ ?_ ?_ ?_ | refine WkL.pickAt [_] [6] ?_ ?_ ?_ rfl ?_ ?_ ?_ ?_ | refine WkL.pickAt [_] [7] ?_ ?_ ?_ rfl ?_ ?_ ?_ ?_ | refine WkL.pickAt [_] [8] ?_ ?_ ?_ rfl ?_ ?_ ?_ ?_) <;> first | assumption | exact HOk.str (by assumption) | (simp; done) | (simp; omega) | (simp [pureO_gr, AObj.pureO, pureL, go_sem, AC.pure]; done) | (simp only [List.all_cons, List.all_nil, Bool.and_true]; exact pureO_gr (pureL_map _ (fun x => by simp [go_sem, AC.pure]))) | ((try simp only [List.map_cons, List.map_nil, av_ren_gr]); simp [AV.ren, AV.ren1, AC.ren, renP, pickS]; first | done | omega) | (simp only [List.forall_mem_cons, List.not_mem_nil, false_implies, implies_true, and_true]; (repeat' apply And.intro) <;> first | trivial | exact grV_ok (by simp) _ | exact okN_grO (fun x => by simp [go_sem, AC.pure]) | exact okN_map (fun x => by simp [go_sem, AC.pure]) | (simp [AV.ok, AV.ok1, AC.ok]; done) | (simp [AV.ok, AV.ok1, AC.ok]; omega) | (simp [AObj.okN, AC.ok]; done)) | (simp [AObj.okN]; done))
    · simp (disch := first | omega | (simp only [go_sem]; try omega)) only [go_sem]
      refine flip_a s zs j1 5 (by first | exact hs | exact hs.app _ | exact hs.set (by omega) (by omega) | exact (hs.set (by omega) (by omega)).app _) (by omega) (by omega) (fun b => ?_)
      simp (disch := first | omega | (simp only [go_sem]; try omega)) only [go_sem]
      refine acond_b (fun c => ?_) (fun c => ?_)
      · simp (disch := first | omega | (simp only [go_sem]; try omega)) only [go_sem]
        refine Next.mk (3, l, j1 + 1) ⟨⟨by dsimp only; omega, by dsimp only; omega, q3, by dsimp only; omega, by dsimp only; omega⟩, by dsimp only; omega⟩ ?_
        ((try simp (disch := first | omega | (simp only [go_sem]; try omega)) only [go_sem]); (first | refine WkL.pickAt [_] [0] ?_ ?_ ?_ rfl ?_ ?_ ?_ ?_ | refine WkL.pickAt [_] [1] ?_ ?_ ?_ rfl ?_ ?_ ?_ ?_ | refine WkL.pickAt [_] [2] ?_ ?_ ?_ rfl ?_ ?_ ?_ ?_ | refine WkL.pickAt [_] [3] ?_ ?_ ?_ rfl ?_ ?_ ?_ ?_ | refine WkL.pickAt [_] [4] ?_ ?_ ?_ rfl ?_ ?_ ?_ ?_ | refine WkL.pickAt [_] [5] ?_ ?_ ?_ rfl ?_ ?_ ?_ ?_ | refine WkL.pickAt [_] [6] ?_ ?_ ?_ rfl ?_ ?_ ?_ ?_ | refine WkL.pickAt [_] [7] ?_ ?_ ?_ rfl ?_ ?_ ?_ ?_ | refine WkL.pickAt [_] [8] ?_ ?_ ?_ rfl ?_ ?_ ?_ ?_) <;> first | assumption | exact HOk.str (by assumption) | (simp; done) | (simp; omega) | (simp [pureO_gr, AObj.pureO, pureL, go_sem, AC.pure]; done) | (simp only [List.all_cons, List.all_nil, Bool.and_true]; exact pureO_gr (pureL_map _ (fun x => by simp [go_sem, AC.pure]))) | ((try simp only [List.map_cons, List.map_nil, av_ren_gr]); simp [AV.ren, AV.ren1, AC.ren, renP, pickS]; first | done | omega) | (simp only [List.forall_mem_cons, List.not_mem_nil, false_implies, implies_true, and_true]; (repeat' apply And.intro) <;> first | trivial | exact grV_ok (by simp) _ | exact okN_grO (fun x => by simp [go_sem, AC.pure]) | exact okN_map (fun x => by simp [go_sem, AC.pure]) | (simp [AV.ok, AV.ok1, AC.ok]; done) | (simp [AV.ok, AV.ok1, AC.ok]; omega) | (simp [AObj.okN, AC.ok]; done)) | (simp [AObj.okN]; done))
      · simp (disch := first | omega | (simp only [go_sem]; try omega)) only [go_sem]
        refine rightSer_a s zs (j1 + 1) 4 (by first | exact hs | exact hs.app _ | exact hs.set (by omega) (by omega) | exact (hs.set (by omega) (by omega)).app _) (by omega) (by omega) (by omega) (fun cl j2 g1 g2 g3 => ?_)
        obtain ⟨_, g4, _⟩ := g3
        simp (disch := first | omega | (simp only [go_sem]; try omega)) only [go_sem]
        (refine app_gr (enc := encSr) (e := 92) (sz := 2) (bs := 40) (z := [.str ⟨#[]⟩, .sl none 0]) (l) (⟨⟨#[99]⟩, cl⟩) (by kernel_rfl) (by kernel_rfl) (by kernel_rfl) (by kernel_rfl) (by first | ((repeat first | exact at0 (by simp) | refine atS ?_); done) | assumption) (by first | (simp (disch := first | omega | (simp only [go_sem]; try omega)) only [go_sem]; done) | (simp (disch := first | omega | (simp only [go_sem]; try omega)) only [go_sem]; rfl) | (simp (disch := first | omega | (simp only [go_sem]; try omega)) only [go_sem]; simp [go_sem]; done) | (simp (disch := first | omega | (simp only [go_sem]; try omega)) only [go_sem]; simp [*]; done)) rfl (by decide) (by omega) (by omega) (by rfl) ?_)
        simp (disch := first | omega | (simp only [go_sem]; try omega)) only [go_sem]
        refine Next.mk (3, l ++ [⟨⟨#[99]⟩, cl⟩], j2) ⟨⟨by dsimp only; omega, by dsimp only; rw [List.length_append, List.length_singleton]; omega, fun x hx => ?_, by dsimp only; omega, by dsimp only; omega⟩, by dsimp only; omega⟩ ?_
        · rcases List.mem_append.1 hx with h | h
          · exact q3 x h
          · simp at h; subst h; exact ⟨⟨(by decide : (⟨#[99]⟩ : ByteArray).size ≤ 1000), by dsimp only; omega⟩, by dsimp only; omega⟩
        · ((try simp (disch := first | omega | (simp only [go_sem]; try omega)) only [go_sem]); (first | refine WkL.pickAt [_] [0] ?_ ?_ ?_ rfl ?_ ?_ ?_ ?_ | refine WkL.pickAt [_] [1] ?_ ?_ ?_ rfl ?_ ?_ ?_ ?_ | refine WkL.pickAt [_] [2] ?_ ?_ ?_ rfl ?_ ?_ ?_ ?_ | refine WkL.pickAt [_] [3] ?_ ?_ ?_ rfl ?_ ?_ ?_ ?_ | refine WkL.pickAt [_] [4] ?_ ?_ ?_ rfl ?_ ?_ ?_ ?_ | refine WkL.pickAt [_] [5] ?_ ?_ ?_ rfl ?_ ?_ ?_ ?_ | refine WkL.pickAt [_] [6] ?_ ?_ ?_ rfl ?_ ?_ ?_ ?_ | refine WkL.pickAt [_] [7] ?_ ?_ ?_ rfl ?_ ?_ ?_ ?_ | refine WkL.pickAt [_] [8] ?_ ?_ ?_ rfl ?_ ?_ ?_ ?_) <;> first | assumption | exact HOk.str (by assumption) | (simp; done) | (simp; omega) | (simp [pureO_gr, AObj.pureO, pureL, go_sem, AC.pure]; done) | (simp only [List.all_cons, List.all_nil, Bool.and_true]; exact pureO_gr (pureL_map _ (fun x => by simp [go_sem, AC.pure]))) | ((try simp only [List.map_cons, List.map_nil, av_ren_gr]); simp [AV.ren, AV.ren1, AC.ren, renP, pickS]; first | done | omega) | (simp only [List.forall_mem_cons, List.not_mem_nil, false_implies, implies_true, and_true]; (repeat' apply And.intro) <;> first | trivial | exact grV_ok (by simp) _ | exact okN_grO (fun x => by simp [go_sem, AC.pure]) | exact okN_map (fun x => by simp [go_sem, AC.pure]) | (simp [AV.ok, AV.ok1, AC.ok]; done) | (simp [AV.ok, AV.ok1, AC.ok]; omega) | (simp [AObj.okN, AC.ok]; done)) | (simp [AObj.okN]; done))
  · have hke : k = 3 := by omega
    subst hke
    cases l with
    | nil =>
      simp (disch := first | omega | (simp only [go_sem]; try omega)) only [go_sem]
      exact Ret.frzGr 1 (HOk.str hH) (by simp) rfl rfl (by simp [grV]) (hk [] _ (by omega) (by omega) (by simp) (by simp))
    | cons a t =>
      rw [grV_pos _ (by simp), grO_pos _ _ (by simp)]
      simp (disch := first | omega | (simp only [go_sem]; try omega)) only [go_sem]
      refine flip_a s zs j1 15 (by first | exact hs | exact hs.app _ | exact hs.set (by omega) (by omega) | exact (hs.set (by omega) (by omega)).app _) (by omega) (by omega) (fun b1 => ?_)
      simp (disch := first | omega | (simp only [go_sem]; try omega)) only [go_sem]
      refine acond_b (fun c1 => ?_) (fun c1 => ?_)
      · simp (disch := first | omega | (simp only [go_sem]; try omega)) only [go_sem]
        have hq2 := q2
        rw [List.length_cons] at hq2
        refine next_a s zs (j1 + 1) _ (by first | exact hs | exact hs.app _ | exact hs.set (by omega) (by omega) | exact (hs.set (by omega) (by omega)).app _) (by omega) (by omega) (fun i hi0 hi1 => ?_)
        obtain ⟨n, rfl⟩ : ∃ n : Nat, i = n := ⟨i.toNat, by omega⟩
        have hn : n < (a :: t).length := by rw [List.length_cons]; omega
        have e : ([.str a.tg, .lst 3 (a.l.map encS)] : List AC) :: t.map encSr = (a :: t).map encSr := rfl
        have e2 : t.length + 1 = (a :: t).length := rfl
        rw [e, e2]
        generalize a :: t = l at *
        simp (disch := first | omega | (simp only [go_sem]; try omega)) only [go_sem, hn]
        have hfn := q3 l[n] (List.getElem_mem hn)
        refine someS_lit s zs (j1 + 1 + 1) [l[n].tg, noS, ⟨#[97]⟩] (by first | ((repeat first | exact at0 (by simp) | refine atS ?_); done) | assumption) rfl rfl (by first | exact hs | exact hs.app _ | exact hs.set (by omega) (by omega) | exact (hs.set (by omega) (by omega)).app _) (by omega) (by simp) (by simp) (fun nm hnm => ?_)
        have hns : nm.size ≤ 1000 := by
          simp only [List.mem_cons, List.not_mem_nil, or_false] at hnm
          rcases hnm with rfl | rfl | rfl
          · exact hfn.1.1
          · decide
          · decide
        simp (disch := first | omega | (simp only [go_sem]; try omega)) only [go_sem, hn]
        refine samples_a s zs _ 3 (by first | exact hs | exact hs.app _ | exact hs.set (by omega) (by omega) | exact (hs.set (by omega) (by omega)).app _) (by omega) (by omega) (by omega) (fun sm j2 g1 g2 g3 => ?_)
        simp (disch := first | omega | (simp only [go_sem]; try omega)) only [go_sem, hn]
        have e3 : (l.map encSr).set n [.str nm, .lst 3 (sm.map encS)] = (l.set n ⟨nm, sm⟩).map encSr := by rw [List.map_set]; rfl
        rw [e3]
        exact Ret.frzRow 1 (HOk.str hH) (by simp) rfl (pureL_encSr _) (by simp) (by simp) (hk _ _ (by omega) (by omega) (by rw [List.length_set]; omega) (fun x hx => by
          rcases List.mem_or_eq_of_mem_set hx with hx | rfl
          · exact q3 x hx
          · exact ⟨⟨hns, by dsimp only; omega⟩, by dsimp only; omega⟩))
      · simp (disch := first | omega | (simp only [go_sem]; try omega)) only [go_sem]
        exact Ret.frzRow 1 (HOk.str hH) (by simp) rfl (pureL_encSr _) (by simp) (by simp) (hk (a :: t) _ (by omega) (by omega) q2 q3)
end Go.Proofs.YtlnfiflbpmicgaaGreatDoor
