/- Series that are drawn, with their tags. No condition. -/
import Derived.Test.YtagoolooikpabaaGreatDoorHVSer
import Derived.Test.YtagoolooikpabaaGreatDoorHVExpD
set_option linter.all false
namespace Go.Proofs.YtagoolooikpabaaGreatDoor
open Go Go.RowKit
set_option maxRecDepth 100000
set_option maxHeartbeats 2000000
variable {H : Hp} {K : AV → Hp → Prop}
theorem rightSer_a (s : Nat) (zs : List Int) (j most : Int) (hs : Str H s zs j) (hj : j ≤ 1090000000000) (hm0 : 0 ≤ most) (hm1 : most ≤ 100)
  (hk : ∀ (l : List Smp) (j' : Int), j ≤ j' → j' ≤ j + 2 + 3 * most → drawnS most l → K (.c (.lst 3 (l.map encS))) (H.set s (strO zs j'))) :
  ACalls Tryz.prog 72 [.c (.ptr (some (s, 0, 0))), (.c (.int .i64 most))] H K := by
 refine ACalls.postR (rightSamples_o s zs j most hs hj hm0 hm1 (K := fun v G => ∃ l j', j ≤ j' ∧ j' ≤ j + 2 + 3 * most ∧ drawnS most l ∧ v = .c (grV H.length l) ∧ G = H.set s (strO zs j') ++ [grO 99 3 (l.map encS)]) (fun l j' h1 h2 h3 => ⟨l, j', h1, h2, h3, rfl, rfl⟩)) ?_
 rintro hH _ _ ⟨l, j', h1, h2, h3, rfl, rfl⟩
 exact Ret.frzGr 0 (HOk.str hH) sMp rfl (pureL_map l (fun x => by simp [AC.pure])) (by rw [map_grV]; simp) (hk l j' h1 h2 h3)
theorem pureL_encSr (l : List Ser) : pureL (l.map encSr) = true := pureL_map _ pUr
theorem seriesList_a (s : Nat) (zs : List Int) (j : Int) (hs : Str H s zs j) (hj : j ≤ 900000000)
  (hk : ∀ (l : List Ser) (j' : Int), j ≤ j' → j' ≤ j + 100 → l.length ≤ 3 → (∀ x ∈ l, x.fine ∧ x.l.length ≤ 4) → K (.c (.lst 2 (l.map encSr))) (H.set s (strO zs j'))) :
  ACalls Tryz.prog 20 [.c (.ptr (some (s, 0, 0)))] H K := by
 have hlt := hs.lt
 have hpos := hs.pos
 have hne : H.length ≠ s := by omega
 refine acalls Tryz.func20 rfl kRf gT (fun hH => ?_)
 refine gO ?_
 refine AWp.loop (H.length + 1) [0, 7, 8] [9, 3] (fun (q : Nat × List Ser × Int) => q.1 ≤ 3 ∧ q.2.1.length ≤ q.1 ∧ (∀ x ∈ q.2.1, x.fine ∧ x.l.length ≤ 4) ∧ j ≤ q.2.2 ∧ q.2.2 ≤ j + 16 * q.1) (fun (q : Nat × List Ser × Int) => [(9, (.c (.int .i64 (q.1)))), (3, .c (grV (H.length + 1) q.2.1))]) (fun (q : Nat × List Ser × Int) => H.set s (strO zs q.2.2) ++ [.row 9 1 [[.str ⟨#[97]⟩], [.str ⟨#[98]⟩], [.str ⟨#[99]⟩]] true, grO 105 2 (q.2.1.map encSr)]) (fun (q : Nat × List Ser × Int) => 3 - q.1) kRf (fun _ => rfl) kRf sOo sOm kl ?_ (fun q hq _ _ => ?_)
 ·refine Next.mk (0, [], j) ⟨by dsimp only; omega, by simp, by simp, by dsimp only; omega, by dsimp only; omega⟩ ?_
  dsimp only
  rw [set_same hs.2.2.2]
  exact WkL.padP [_] sMp
 obtain ⟨k, l, j1⟩ := q
 obtain ⟨q1, q2, q3, q4, q5⟩ := hq
 dsimp only at q1 q2 q3 q4 q5 ⊢
 have hP : ∀ o ∈ [AObj.row 9 1 [[.str ⟨#[97]⟩], [.str ⟨#[98]⟩], [.str ⟨#[99]⟩]] true], o.okN (H.length + [AObj.row 9 1 [[.str ⟨#[97]⟩], [.str ⟨#[98]⟩], [.str ⟨#[99]⟩]] true].length) := by
  intro o ho
  simp only [List.mem_singleton] at ho
  subst ho
  exact okN_pure rfl rfl _
 by_cases hk2 : k < 3
 ·obtain rfl | rfl | rfl : k = 0 ∨ k = 1 ∨ k = 2 := by omega
  ·refine gO ?_
   refine flip_a s zs j1 5 (by first | exact hs | exact hs.app _ | exact hs.set oMg oMg | exact (hs.set oMg oMg).app _) oMg oMg (fun b => ?_)
   refine gO ?_
   refine acond_b (fun c => ?_) (fun c => ?_)
   ·refine gO ?_
    refine Next.mk (1, l, j1 + 1) ⟨⟨by dsimp only; omega, by dsimp only; omega, q3, by dsimp only; omega, by dsimp only; omega⟩, by dsimp only; omega⟩ ?_
    ((try refine gO ?_); (first | refine WkL.pickAt [_] [0] ?_ ?_ ?_ rfl ?_ ?_ ?_ ?_ | refine WkL.pickAt [_] [1] ?_ ?_ ?_ rfl ?_ ?_ ?_ ?_ | refine WkL.pickAt [_] [2] ?_ ?_ ?_ rfl ?_ ?_ ?_ ?_ | refine WkL.pickAt [_] [3] ?_ ?_ ?_ rfl ?_ ?_ ?_ ?_ | refine WkL.pickAt [_] [4] ?_ ?_ ?_ rfl ?_ ?_ ?_ ?_ | refine WkL.pickAt [_] [5] ?_ ?_ ?_ rfl ?_ ?_ ?_ ?_ | refine WkL.pickAt [_] [6] ?_ ?_ ?_ rfl ?_ ?_ ?_ ?_ | refine WkL.pickAt [_] [7] ?_ ?_ ?_ rfl ?_ ?_ ?_ ?_ | refine WkL.pickAt [_] [8] ?_ ?_ ?_ rfl ?_ ?_ ?_ ?_) <;> exact cLs)
   ·refine gO ?_
    refine rightSer_a s zs (j1 + 1) 4 (by first | exact hs | exact hs.app _ | exact hs.set oMg oMg | exact (hs.set oMg oMg).app _) oMg oMg oMg (fun cl j2 g1 g2 g3 => ?_)
    obtain ⟨_, g4, _⟩ := g3
    refine gO ?_
    (refine app_gr (enc := encSr) (e := 105) (sz := 2) (bs := 40) (z := [.str ⟨#[]⟩, .sl none 0]) (l) (⟨⟨#[97]⟩, cl⟩) kRf kRf kRf kRf aTT (by first | (refine gO ?_; done) | (refine gO ?_; rfl) | (refine gO ?_; simp [go_sem]; done) | (refine gO ?_; simp [*]; done)) rfl (by decide) oMg oMg (by rfl) ?_)
    refine gO ?_
    refine Next.mk (1, l ++ [⟨⟨#[97]⟩, cl⟩], j2) ⟨⟨by dsimp only; omega, by dsimp only; rw [List.length_append, List.length_singleton]; omega, fun x hx => ?_, by dsimp only; omega, by dsimp only; omega⟩, by dsimp only; omega⟩ ?_
    ·rcases List.mem_append.1 hx with h | h
     ·exact q3 x h
     ·simp at h; subst h; exact ⟨⟨(by decide : (⟨#[97]⟩ : ByteArray).size ≤ 1000), by dsimp only; omega⟩, by dsimp only; omega⟩
    ·((try refine gO ?_); (first | refine WkL.pickAt [_] [0] ?_ ?_ ?_ rfl ?_ ?_ ?_ ?_ | refine WkL.pickAt [_] [1] ?_ ?_ ?_ rfl ?_ ?_ ?_ ?_ | refine WkL.pickAt [_] [2] ?_ ?_ ?_ rfl ?_ ?_ ?_ ?_ | refine WkL.pickAt [_] [3] ?_ ?_ ?_ rfl ?_ ?_ ?_ ?_ | refine WkL.pickAt [_] [4] ?_ ?_ ?_ rfl ?_ ?_ ?_ ?_ | refine WkL.pickAt [_] [5] ?_ ?_ ?_ rfl ?_ ?_ ?_ ?_ | refine WkL.pickAt [_] [6] ?_ ?_ ?_ rfl ?_ ?_ ?_ ?_ | refine WkL.pickAt [_] [7] ?_ ?_ ?_ rfl ?_ ?_ ?_ ?_ | refine WkL.pickAt [_] [8] ?_ ?_ ?_ rfl ?_ ?_ ?_ ?_) <;> exact cLs)
  ·refine gO ?_
   refine flip_a s zs j1 5 (by first | exact hs | exact hs.app _ | exact hs.set oMg oMg | exact (hs.set oMg oMg).app _) oMg oMg (fun b => ?_)
   refine gO ?_
   refine acond_b (fun c => ?_) (fun c => ?_)
   ·refine gO ?_
    refine Next.mk (2, l, j1 + 1) ⟨⟨by dsimp only; omega, by dsimp only; omega, q3, by dsimp only; omega, by dsimp only; omega⟩, by dsimp only; omega⟩ ?_
    ((try refine gO ?_); (first | refine WkL.pickAt [_] [0] ?_ ?_ ?_ rfl ?_ ?_ ?_ ?_ | refine WkL.pickAt [_] [1] ?_ ?_ ?_ rfl ?_ ?_ ?_ ?_ | refine WkL.pickAt [_] [2] ?_ ?_ ?_ rfl ?_ ?_ ?_ ?_ | refine WkL.pickAt [_] [3] ?_ ?_ ?_ rfl ?_ ?_ ?_ ?_ | refine WkL.pickAt [_] [4] ?_ ?_ ?_ rfl ?_ ?_ ?_ ?_ | refine WkL.pickAt [_] [5] ?_ ?_ ?_ rfl ?_ ?_ ?_ ?_ | refine WkL.pickAt [_] [6] ?_ ?_ ?_ rfl ?_ ?_ ?_ ?_ | refine WkL.pickAt [_] [7] ?_ ?_ ?_ rfl ?_ ?_ ?_ ?_ | refine WkL.pickAt [_] [8] ?_ ?_ ?_ rfl ?_ ?_ ?_ ?_) <;> exact cLs)
   ·refine gO ?_
    refine rightSer_a s zs (j1 + 1) 4 (by first | exact hs | exact hs.app _ | exact hs.set oMg oMg | exact (hs.set oMg oMg).app _) oMg oMg oMg (fun cl j2 g1 g2 g3 => ?_)
    obtain ⟨_, g4, _⟩ := g3
    refine gO ?_
    (refine app_gr (enc := encSr) (e := 105) (sz := 2) (bs := 40) (z := [.str ⟨#[]⟩, .sl none 0]) (l) (⟨⟨#[98]⟩, cl⟩) kRf kRf kRf kRf aTT (by first | (refine gO ?_; done) | (refine gO ?_; rfl) | (refine gO ?_; simp [go_sem]; done) | (refine gO ?_; simp [*]; done)) rfl (by decide) oMg oMg (by rfl) ?_)
    refine gO ?_
    refine Next.mk (2, l ++ [⟨⟨#[98]⟩, cl⟩], j2) ⟨⟨by dsimp only; omega, by dsimp only; rw [List.length_append, List.length_singleton]; omega, fun x hx => ?_, by dsimp only; omega, by dsimp only; omega⟩, by dsimp only; omega⟩ ?_
    ·rcases List.mem_append.1 hx with h | h
     ·exact q3 x h
     ·simp at h; subst h; exact ⟨⟨(by decide : (⟨#[98]⟩ : ByteArray).size ≤ 1000), by dsimp only; omega⟩, by dsimp only; omega⟩
    ·((try refine gO ?_); (first | refine WkL.pickAt [_] [0] ?_ ?_ ?_ rfl ?_ ?_ ?_ ?_ | refine WkL.pickAt [_] [1] ?_ ?_ ?_ rfl ?_ ?_ ?_ ?_ | refine WkL.pickAt [_] [2] ?_ ?_ ?_ rfl ?_ ?_ ?_ ?_ | refine WkL.pickAt [_] [3] ?_ ?_ ?_ rfl ?_ ?_ ?_ ?_ | refine WkL.pickAt [_] [4] ?_ ?_ ?_ rfl ?_ ?_ ?_ ?_ | refine WkL.pickAt [_] [5] ?_ ?_ ?_ rfl ?_ ?_ ?_ ?_ | refine WkL.pickAt [_] [6] ?_ ?_ ?_ rfl ?_ ?_ ?_ ?_ | refine WkL.pickAt [_] [7] ?_ ?_ ?_ rfl ?_ ?_ ?_ ?_ | refine WkL.pickAt [_] [8] ?_ ?_ ?_ rfl ?_ ?_ ?_ ?_) <;> exact cLs)
  ·refine gO ?_
   refine flip_a s zs j1 5 (by first | exact hs | exact hs.app _ | exact hs.set oMg oMg | exact (hs.set oMg oMg).app _) oMg oMg (fun b => ?_)
   refine gO ?_
   refine acond_b (fun c => ?_) (fun c => ?_)
   ·refine gO ?_
    refine Next.mk (3, l, j1 + 1) ⟨⟨by dsimp only; omega, by dsimp only; omega, q3, by dsimp only; omega, by dsimp only; omega⟩, by dsimp only; omega⟩ ?_
    ((try refine gO ?_); (first | refine WkL.pickAt [_] [0] ?_ ?_ ?_ rfl ?_ ?_ ?_ ?_ | refine WkL.pickAt [_] [1] ?_ ?_ ?_ rfl ?_ ?_ ?_ ?_ | refine WkL.pickAt [_] [2] ?_ ?_ ?_ rfl ?_ ?_ ?_ ?_ | refine WkL.pickAt [_] [3] ?_ ?_ ?_ rfl ?_ ?_ ?_ ?_ | refine WkL.pickAt [_] [4] ?_ ?_ ?_ rfl ?_ ?_ ?_ ?_ | refine WkL.pickAt [_] [5] ?_ ?_ ?_ rfl ?_ ?_ ?_ ?_ | refine WkL.pickAt [_] [6] ?_ ?_ ?_ rfl ?_ ?_ ?_ ?_ | refine WkL.pickAt [_] [7] ?_ ?_ ?_ rfl ?_ ?_ ?_ ?_ | refine WkL.pickAt [_] [8] ?_ ?_ ?_ rfl ?_ ?_ ?_ ?_) <;> exact cLs)
   ·refine gO ?_
    refine rightSer_a s zs (j1 + 1) 4 (by first | exact hs | exact hs.app _ | exact hs.set oMg oMg | exact (hs.set oMg oMg).app _) oMg oMg oMg (fun cl j2 g1 g2 g3 => ?_)
    obtain ⟨_, g4, _⟩ := g3
    refine gO ?_
    (refine app_gr (enc := encSr) (e := 105) (sz := 2) (bs := 40) (z := [.str ⟨#[]⟩, .sl none 0]) (l) (⟨⟨#[99]⟩, cl⟩) kRf kRf kRf kRf aTT (by first | (refine gO ?_; done) | (refine gO ?_; rfl) | (refine gO ?_; simp [go_sem]; done) | (refine gO ?_; simp [*]; done)) rfl (by decide) oMg oMg (by rfl) ?_)
    refine gO ?_
    refine Next.mk (3, l ++ [⟨⟨#[99]⟩, cl⟩], j2) ⟨⟨by dsimp only; omega, by dsimp only; rw [List.length_append, List.length_singleton]; omega, fun x hx => ?_, by dsimp only; omega, by dsimp only; omega⟩, by dsimp only; omega⟩ ?_
    ·rcases List.mem_append.1 hx with h | h
     ·exact q3 x h
     ·simp at h; subst h; exact ⟨⟨(by decide : (⟨#[99]⟩ : ByteArray).size ≤ 1000), by dsimp only; omega⟩, by dsimp only; omega⟩
    ·((try refine gO ?_); (first | refine WkL.pickAt [_] [0] ?_ ?_ ?_ rfl ?_ ?_ ?_ ?_ | refine WkL.pickAt [_] [1] ?_ ?_ ?_ rfl ?_ ?_ ?_ ?_ | refine WkL.pickAt [_] [2] ?_ ?_ ?_ rfl ?_ ?_ ?_ ?_ | refine WkL.pickAt [_] [3] ?_ ?_ ?_ rfl ?_ ?_ ?_ ?_ | refine WkL.pickAt [_] [4] ?_ ?_ ?_ rfl ?_ ?_ ?_ ?_ | refine WkL.pickAt [_] [5] ?_ ?_ ?_ rfl ?_ ?_ ?_ ?_ | refine WkL.pickAt [_] [6] ?_ ?_ ?_ rfl ?_ ?_ ?_ ?_ | refine WkL.pickAt [_] [7] ?_ ?_ ?_ rfl ?_ ?_ ?_ ?_ | refine WkL.pickAt [_] [8] ?_ ?_ ?_ rfl ?_ ?_ ?_ ?_) <;> exact cLs)
 ·have hke : k = 3 := by omega
  subst hke
  cases l with
  | nil =>
   refine gO ?_
   exact Ret.frzGr 1 (HOk.str hH) sMp rfl rfl (by simp [grV]) (hk [] _ oMg oMg sMp sMp)
  | cons a t =>
   rw [grV_pos _ sMp, grO_pos _ _ sMp]
   refine gO ?_
   refine flip_a s zs j1 15 (by first | exact hs | exact hs.app _ | exact hs.set oMg oMg | exact (hs.set oMg oMg).app _) oMg oMg (fun b1 => ?_)
   refine gO ?_
   refine acond_b (fun c1 => ?_) (fun c1 => ?_)
   ·refine gO ?_
    have hq2 := q2
    rw [List.length_cons] at hq2
    refine next_a s zs (j1 + 1) _ (by first | exact hs | exact hs.app _ | exact hs.set oMg oMg | exact (hs.set oMg oMg).app _) oMg oMg (fun i hi0 hi1 => ?_)
    obtain ⟨n, rfl⟩ : ∃ n : Nat, i = n := ⟨i.toNat, by omega⟩
    have hn : n < (a :: t).length := by rw [List.length_cons]; omega
    have e : ([.str a.tg, .lst 3 (a.l.map encS)] : List AC) :: t.map encSr = (a :: t).map encSr := rfl
    have e2 : t.length + 1 = (a :: t).length := rfl
    rw [e, e2]
    generalize a :: t = l at *
    simp (disch := first | omega | (simp only [go_sem]; try omega)) only [go_sem, hn]
    have hfn := q3 l[n] (List.getElem_mem hn)
    refine someS_lit s zs (j1 + 1 + 1) [l[n].tg, noS, ⟨#[97]⟩] (by first | ((repeat first | exact at0 (by simp) | refine atS ?_); done) | assumption) rfl rfl (by first | exact hs | exact hs.app _ | exact hs.set (by omega) (by omega) | exact (hs.set (by omega) (by omega)).app _) (by omega) (by simp) (by simp) (fun nm hnm => ?_)
    have hns : nm.size ≤ 1000 := by
     simp only [List.mem_cons, List.not_mem_nil, or_false] at hnm
     rcases hnm with rfl | rfl | rfl
     ·exact hfn.1.1
     ·decide
     ·decide
    refine gO1 hn ?_
    refine samples_a s zs _ 3 (by first | exact hs | exact hs.app _ | exact hs.set oMg oMg | exact (hs.set oMg oMg).app _) oMg oMg oMg (fun sm j2 g1 g2 g3 => ?_)
    refine gO1 hn ?_
    have e3 : (l.map encSr).set n [.str nm, .lst 3 (sm.map encS)] = (l.set n ⟨nm, sm⟩).map encSr := by rw [List.map_set]; rfl
    rw [e3]
    exact Ret.frzRow 1 (HOk.str hH) sMp rfl (pureL_encSr _) sMp sMp (hk _ _ oMg oMg (by rw [List.length_set]; omega) (fun x hx => by
     rcases List.mem_or_eq_of_mem_set hx with hx | rfl
     ·exact q3 x hx
     ·exact ⟨⟨hns, by dsimp only; omega⟩, by dsimp only; omega⟩))
   ·refine gO ?_
    exact Ret.frzRow 1 (HOk.str hH) sMp rfl (pureL_encSr _) sMp sMp (hk (a :: t) _ oMg oMg q2 q3)
end Go.Proofs.YtagoolooikpabaaGreatDoor
