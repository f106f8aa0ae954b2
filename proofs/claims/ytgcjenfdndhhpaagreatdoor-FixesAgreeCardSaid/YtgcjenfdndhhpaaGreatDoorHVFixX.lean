/- Right fixes that are drawn, and parts of a list of fixes. No condition. -/
import Derived.Test.YtgcjenfdndhhpaaGreatDoorHVFixW
import Derived.Test.YtgcjenfdndhhpaaGreatDoorHVFixP
namespace Go.Proofs.YtgcjenfdndhhpaaGreatDoor
open Go Go.RowKit
set_option maxRecDepth 100000
set_option linter.all false
set_option maxHeartbeats 2000000
variable {H : Hp} {K : AV → Hp → Prop}
theorem Ret.frzGr2X {A G : Hp} {n ty1 s1 ty2 s2 : Nat} {l1 l2 : List (List AC)} {x y : AC} {ts : List AV} (j1 j2 : Nat) (hne : j1 ≠ j2) (hA : HOk A) (hn : n ≤ A.length) (h1 : G[j1]? = some (grO ty1 s1 l1)) (h2 : G[j2]? = some (grO ty2 s2 l2)) (hp1 : pureL l1 = true) (hp2 : pureL l2 = true) (ht : tailOk ts = true)
    (hx : x = grV (A.length + j1) l1) (hy : y = grV (A.length + j2) l2) (hk : K (.tup (.c (.lst s1 l1) :: .c (.lst s2 l2) :: ts)) A) : Ret n (.tup (.c x :: .c y :: ts)) (A ++ G) K := by
  subst hx hy
  have ho : (AV.tup (.c (.lst s1 l1) :: .c (.lst s2 l2) :: ts)).ok A.length := by
    intro y hy
    rcases List.mem_cons.1 hy with rfl | hy
    · trivial
    rcases List.mem_cons.1 hy with rfl | hy
    · trivial
    · exact tail_ok1 _ ht y hy
  cases l1 with
  | nil =>
    cases l2 with
    | nil =>
      refine Ret.nil [s1, s2] (by simp; omega) ?_
      have e : (AV.tup (.c (grV (A.length + j1) ([] : List (List AC))) :: .c (grV (A.length + j2) ([] : List (List AC))) :: ts)).nilz [s1, s2] = .tup (.c (.lst s1 []) :: .c (.lst s2 []) :: ts) := by simp [AV.nilz, AV.nilz.go, grV, AC.nilz]
      rw [e]
      exact Ret.drop hA hn ho hk
    | cons z zs =>
      refine Ret.nil [s1] (by simp; omega) ?_
      have e : (AV.tup (.c (grV (A.length + j1) ([] : List (List AC))) :: .c (grV (A.length + j2) (z :: zs)) :: ts)).nilz [s1] = .tup (.c (.lst s1 []) :: .c (grV (A.length + j2) (z :: zs)) :: ts) := by simp [AV.nilz, AV.nilz.go, grV, AC.nilz]
      rw [e]
      refine Ret.frzAt j2 hA hn hk h2 hp2 ho ?_
      simp only [AV.frz, List.map_cons, tail_frz ht]
      simp [AV.frz1, AC.frz, grV]
  | cons w ws =>
    cases l2 with
    | nil =>
      refine Ret.nil [0, s2] (by simp; omega) ?_
      have e : (AV.tup (.c (grV (A.length + j1) (w :: ws)) :: .c (grV (A.length + j2) ([] : List (List AC))) :: ts)).nilz [0, s2] = .tup (.c (grV (A.length + j1) (w :: ws)) :: .c (.lst s2 []) :: ts) := by simp [AV.nilz, AV.nilz.go, grV, AC.nilz]
      rw [e]
      refine Ret.frzAt j1 hA hn hk h1 hp1 ho ?_
      simp only [AV.frz, List.map_cons, tail_frz ht]
      simp [AV.frz1, AC.frz, grV]
    | cons z zs =>
      refine Ret.frzAt2 j1 j2 hA hn hk h1 h2 hne hp1 hp2 ho ?_
      simp only [AV.frz, List.map_cons, tail_frz ht]
      have hne' : j2 ≠ j1 := fun h => hne h.symm
      simp [AV.frz1, AC.frz, grV, hne']
theorem rightFixes_a (s : Nat) (zs : List Int) (j many : Int) (hs : Str H s zs j) (hj : j ≤ 900000000) (hm0 : 0 ≤ many) (hm1 : many ≤ 10)
    (hk : ∀ (l : List Fix) (j' : Int), j ≤ j' → j' ≤ j + 1600 → l.length ≤ 10 → (∀ x ∈ l, fxFine x) → fxF l = 0 → K (.c (.lst 11 (l.map encF))) (H.set s (strO zs j'))) :
    ACalls Tryz.prog 27 [.c (.ptr (some (s, 0, 0))), (.c (.int .i64 many))] H K := by
  have hlt := hs.lt
  have hpos := hs.pos
  refine acalls Tryz.func27 rfl (by kernel_rfl) (by simp (disch := first | omega | (simp only [go_sem]; first | done | omega)) only [go_sem]) (fun hH => ?_)
  simp (disch := first | omega | (simp only [go_sem]; first | done | omega)) only [go_sem]
  refine AWp.loop (H.length) [0, 1] [6] (fun (q : Nat × Int) => q.1 ≤ 5 ∧ j ≤ q.2 ∧ q.2 ≤ j + 300 * q.1) (fun (q : Nat × Int) => [(6, (.c (.int .i64 (q.1))))]) (fun (q : Nat × Int) => H.set s (strO zs q.2)) (fun (q : Nat × Int) => 5 - q.1) (by kernel_rfl) (fun _ => rfl) (by kernel_rfl) (by first | (simp; done) | omega) (by first | (simp; done) | (simp; omega) | omega) (by (try simp only [List.forall_mem_cons, List.not_mem_nil, false_implies, implies_true, and_true]); (try simp (disch := first | omega | (simp only [go_sem]; first | done | omega)) only [go_sem]); all_goals first | trivial | (simp [AV.ok, AV.ok1, AC.ok]; done) | (simp [AV.ok, AV.ok1, AC.ok]; omega) | (simp [AV.ok, AV.ok1, AC.ok]; assumption) | ((repeat' apply And.intro) <;> first | trivial | (simp [AV.ok, AV.ok1, AC.ok]; done) | (simp [AV.ok, AV.ok1, AC.ok]; omega) | (simp [AV.ok, AV.ok1, AC.ok]; assumption) | (refine grV_ok ?_ _; first | (simp; done) | (simp; omega) | omega))) ?_ (fun q hq _ _ => ?_)
  · refine Next.mk (0, j) ⟨by dsimp only; omega, by dsimp only; omega, by dsimp only; omega⟩ ?_
    dsimp only
    rw [set_same hs.2.2.2]
    (try simp (disch := first | omega | (simp only [go_sem]; first | done | omega)) only [go_sem]); (first | refine WkL.eq ?_ ?_ | refine WkL.rest (by assumption) ?_ ?_ ?_ | refine WkL.keepL (by assumption) rfl ?_ ?_ ?_ ?_) <;> first | rfl | (simp; done) | (simp; omega) | (simp only [List.cons.injEq, AV.c.injEq, AC.int.injEq, AC.bool.injEq, AC.str.injEq, and_true, true_and, Int.natCast_add, Int.natCast_one, Int.cast_ofNat_Int]; omega) | (simp [AV.ok, AV.ok1, AC.ok]; done) | (simp [AV.ok, AV.ok1, AC.ok]; omega) | (simp only [List.forall_mem_cons, List.not_mem_nil, false_implies, implies_true, and_true]; (repeat' apply And.intro) <;> first | exact okN_map (fun x => by simp [go_sem, AC.pure]) | exact okN_grO (fun x => by simp [go_sem, AC.pure]) | (simp [AObj.okN, AC.ok]; done) | (simp [AObj.okN, AC.ok]; omega)) | (simp [*]; done) | grind
  obtain ⟨k, j1⟩ := q
  obtain ⟨q1, q2, q3⟩ := hq
  dsimp only at q1 q2 q3 ⊢
  by_cases hkl : k < 5
  · have hkl' : (k : Int) < 5 := by omega
    simp (disch := first | omega | (simp only [go_sem]; first | done | omega)) only [go_sem, hkl']
    refine fixes_a s zs j1 many (by first | exact hs | exact hs.app _ | exact hs.set (by omega) (by omega) | exact (hs.set (by omega) (by omega)).app _) (by omega) hm0 hm1 (fun l j2 g1 g2 g3 g4 => ?_)
    have hsz : ∀ x ∈ l, x.by_.size ≤ 1099511627776 := fun x hx => by
      obtain ⟨h1, _⟩ := g4 x hx
      omega
    simp (disch := first | omega | (simp only [go_sem]; first | done | omega)) only [go_sem]
    refine fixesFault_a l hsz (by omega) ?_
    by_cases he : fxF l = 0
    · simp (disch := first | omega | (simp only [go_sem]; first | done | omega)) only [go_sem, he]
      exact Ret.same (by simp) (hk l j2 (by omega) (by omega) (by omega) g4 he)
    · simp (disch := first | omega | (simp only [go_sem]; first | done | omega)) only [go_sem, he]
      refine Next.mk (k + 1, j2) ⟨⟨by dsimp only; omega, by dsimp only; omega, by dsimp only; omega⟩, by dsimp only; omega⟩ ?_
      (try simp (disch := first | omega | (simp only [go_sem]; first | done | omega)) only [go_sem]); (first | refine WkL.eq ?_ ?_ | refine WkL.rest (by assumption) ?_ ?_ ?_ | refine WkL.keepL (by assumption) rfl ?_ ?_ ?_ ?_) <;> first | rfl | (simp; done) | (simp; omega) | (simp only [List.cons.injEq, AV.c.injEq, AC.int.injEq, AC.bool.injEq, AC.str.injEq, and_true, true_and, Int.natCast_add, Int.natCast_one, Int.cast_ofNat_Int]; omega) | (simp [AV.ok, AV.ok1, AC.ok]; done) | (simp [AV.ok, AV.ok1, AC.ok]; omega) | (simp only [List.forall_mem_cons, List.not_mem_nil, false_implies, implies_true, and_true]; (repeat' apply And.intro) <;> first | exact okN_map (fun x => by simp [go_sem, AC.pure]) | exact okN_grO (fun x => by simp [go_sem, AC.pure]) | (simp [AObj.okN, AC.ok]; done) | (simp [AObj.okN, AC.ok]; omega)) | (simp [*]; done) | grind
  · have hkl' : ¬ (k : Int) < 5 := by omega
    simp (disch := first | omega | (simp only [go_sem]; first | done | omega)) only [go_sem, hkl']
    have e0 : fxF [] = 0 := rfl
    exact Ret.nil [11] (by simp) (Ret.same (by simp) (hk [] j1 q2 (by omega) (by simp) (by simp) e0))
theorem partsX_a (s : Nat) (zs : List Int) (j : Int) (l : List Fix) (hs : Str H s zs j) (hj : j ≤ 900000000) (hl : l.length ≤ 10)
    (hk : ∀ (p q : List Fix) (j' : Int), j ≤ j' → j' ≤ j + 10 → p.Sublist l → q.Sublist l → (∀ x ∈ l, x ∈ p ∨ x ∈ q) → K (.tup [.c (.lst 11 (p.map encF)), .c (.lst 11 (q.map encF))]) (H.set s (strO zs j'))) :
    ACalls Tryz.prog 28 [.c (.ptr (some (s, 0, 0))), .c (.lst 11 (l.map encF))] H K := by
  have hlt := hs.lt
  have hpos := hs.pos
  have hne : H.length ≠ s := by omega
  refine acalls Tryz.func28 rfl (by kernel_rfl) (by simp (disch := first | omega | (simp only [go_sem]; first | done | omega)) only [go_sem]) (fun hH => ?_)
  simp (disch := first | omega | (simp only [go_sem]; first | done | omega)) only [go_sem]
  refine AWp.loop (H.length) [0, 10, 11] [12, 6, 7] (fun (u : Nat × List Fix × List Fix × Int) => u.1 ≤ l.length ∧ u.2.1.Sublist (l.take u.1) ∧ u.2.2.1.Sublist (l.take u.1) ∧ (∀ x ∈ l.take u.1, x ∈ u.2.1 ∨ x ∈ u.2.2.1) ∧ u.2.2.2 = j + u.1) (fun (u : Nat × List Fix × List Fix × Int) => [(12, (.c (.int .i64 (u.1)))), (6, .c (grV H.length u.2.1)), (7, .c (grV (H.length + 1) u.2.2.1))]) (fun (u : Nat × List Fix × List Fix × Int) => H.set s (strO zs u.2.2.2) ++ [grO 67 11 (u.2.1.map encF), grO 67 11 (u.2.2.1.map encF)]) (fun (u : Nat × List Fix × List Fix × Int) => l.length - u.1) (by kernel_rfl) (fun _ => rfl) (by kernel_rfl) (by first | (simp; done) | omega) (by first | (simp; done) | (simp; omega) | omega) (by (try simp only [List.forall_mem_cons, List.not_mem_nil, false_implies, implies_true, and_true]); (try simp (disch := first | omega | (simp only [go_sem]; first | done | omega)) only [go_sem]); all_goals first | trivial | (simp [AV.ok, AV.ok1, AC.ok]; done) | (simp [AV.ok, AV.ok1, AC.ok]; omega) | (simp [AV.ok, AV.ok1, AC.ok]; assumption) | ((repeat' apply And.intro) <;> first | trivial | (simp [AV.ok, AV.ok1, AC.ok]; done) | (simp [AV.ok, AV.ok1, AC.ok]; omega) | (simp [AV.ok, AV.ok1, AC.ok]; assumption) | (refine grV_ok ?_ _; first | (simp; done) | (simp; omega) | omega))) ?_ (fun u hu _ _ => ?_)
  · refine Next.mk (0, [], [], j) ⟨Nat.zero_le _, by simp, by simp, by simp, by simp⟩ ?_
    dsimp only
    rw [set_same hs.2.2.2]
    exact WkL.trans (WkL.pad (by omega)) (WkL.padP [_] (by simp))
  obtain ⟨k, p, q2, j1⟩ := u
  obtain ⟨w0, w1, w2, w3, w4⟩ := hu
  dsimp only at w0 w1 w2 w3 w4 ⊢
  have hpl : p.length ≤ 10 := Nat.le_trans w1.length_le (by rw [List.length_take]; omega)
  have hql : q2.length ≤ 10 := Nat.le_trans w2.length_le (by rw [List.length_take]; omega)
  by_cases hlt2 : k < l.length
  · obtain ⟨x, hx⟩ : ∃ x, x = l[k] := ⟨_, rfl⟩
    have htk : l.take (k + 1) = l.take k ++ [x] := by rw [List.take_succ_eq_append_getElem hlt2, ← hx]
    have hw1 : ∀ y ∈ l.take (k + 1), y ∈ p ++ [x] ∨ y ∈ q2 := fun y hy => by
      rw [htk] at hy
      rcases List.mem_append.1 hy with h | h
      · rcases w3 y h with h | h
        · exact Or.inl (List.mem_append_left _ h)
        · exact Or.inr h
      · exact Or.inl (List.mem_append_right _ h)
    have hw2 : ∀ y ∈ l.take (k + 1), y ∈ p ∨ y ∈ q2 ++ [x] := fun y hy => by
      rw [htk] at hy
      rcases List.mem_append.1 hy with h | h
      · rcases w3 y h with h | h
        · exact Or.inl h
        · exact Or.inr (List.mem_append_left _ h)
      · exact Or.inr (List.mem_append_right _ h)
    have hw3 : ∀ y ∈ l.take (k + 1), y ∈ p ++ [x] ∨ y ∈ q2 ++ [x] := fun y hy => by
      rcases hw1 y hy with h | h
      · exact Or.inl h
      · exact Or.inr (List.mem_append_left _ h)
    simp (disch := first | omega | (simp only [go_sem]; first | done | omega)) only [go_sem, hlt2, ← hx]
    refine next_a s zs j1 3 (by first | exact hs | exact hs.app _ | exact hs.set (by omega) (by omega) | exact (hs.set (by omega) (by omega)).app _) (by omega) (by omega) (fun r r0 r1 => ?_)
    simp (disch := first | omega | (simp only [go_sem]; first | done | omega)) only [go_sem]
    have hr : r = 0 ∨ r = 1 ∨ r = 2 := by omega
    clear r0 r1
    rcases hr with rfl | rfl | rfl
    · simp (disch := first | omega | (simp only [go_sem]; first | done | omega)) only [go_sem]
      (refine app_gr (enc := encF) (e := 67) (sz := 11) (bs := 96) (z := [.str ⟨#[]⟩, .int .i64 0, .int .i64 0, .int .i64 0, .int .i64 0, .int .i64 0, .int .i64 0, .int .i64 0, .int .i64 0, .int .i64 0, .int .i64 0]) (p) (x) (by kernel_rfl) (by kernel_rfl) (by kernel_rfl) (by kernel_rfl) (by first | ((repeat first | exact at0 (by simp) | refine atS ?_); done) | assumption) (by first | (simp (disch := first | omega | (simp only [go_sem]; first | done | omega)) only [go_sem]; done) | (simp (disch := first | omega | (simp only [go_sem]; first | done | omega)) only [go_sem]; rfl) | (simp (disch := first | omega | (simp only [go_sem]; first | done | omega)) only [go_sem]; simp [go_sem]; done) | (simp (disch := first | omega | (simp only [go_sem]; first | done | omega)) only [go_sem]; simp [*]; done)) rfl (by decide) (by omega) (by omega) (by rfl) ?_)
      simp (disch := first | omega | (simp only [go_sem]; first | done | omega)) only [go_sem]
      refine Next.mk (k + 1, p ++ [x], q2, j1 + 1) ⟨⟨by dsimp only; omega, by dsimp only; rw [htk]; exact w1.append (List.Sublist.refl _), by dsimp only; rw [htk]; exact w2.trans (List.sublist_append_left _ _), hw1, by dsimp only; omega⟩, by dsimp only; omega⟩ ?_
      ((try simp (disch := first | omega | (simp only [go_sem]; first | done | omega)) only [go_sem]); (refine WkL.pick [4, 1] ?_ ?_ rfl ?_ ?_ ?_ ?_) <;> first | (simp only [List.map_cons, List.map_nil, av_ren_gr]; (try simp only [AV.ren, AV.ren1, AC.ren, renP]); (try simp only [pickS_add, pickS_zero]); rfl) | (simp only [List.all_cons, List.all_nil, Bool.and_true, Bool.and_eq_true]; (repeat' apply And.intro) <;> first | exact pureO_gr (pureL_map _ (fun x => by simp [go_sem, AC.pure])) | (simp [AObj.pureO, pureL, go_sem, AC.pure]; done)) | assumption | exact HOk.str (by assumption) | (simp; done) | (simp; omega) | (simp [pureO_gr, AObj.pureO, pureL, go_sem, AC.pure]; done) | (simp only [List.all_cons, List.all_nil, Bool.and_true]; exact pureO_gr (pureL_map _ (fun x => by simp [go_sem, AC.pure]))) | ((try simp only [List.map_cons, List.map_nil, av_ren_gr]); simp [AV.ren, AV.ren1, AC.ren, renP, pickS]; first | done | omega) | (simp only [List.forall_mem_cons, List.not_mem_nil, false_implies, implies_true, and_true]; (repeat' apply And.intro) <;> first | trivial | exact grV_ok (by simp) _ | exact okN_grO (fun x => by simp [go_sem, AC.pure]) | exact okN_map (fun x => by simp [go_sem, AC.pure]) | (simp [AV.ok, AV.ok1, AC.ok]; done) | (simp [AV.ok, AV.ok1, AC.ok]; omega) | (simp [AObj.okN, AC.ok]; done)) | (simp [AObj.okN]; done))
    · simp (disch := first | omega | (simp only [go_sem]; first | done | omega)) only [go_sem]
      (refine app_gr (enc := encF) (e := 67) (sz := 11) (bs := 96) (z := [.str ⟨#[]⟩, .int .i64 0, .int .i64 0, .int .i64 0, .int .i64 0, .int .i64 0, .int .i64 0, .int .i64 0, .int .i64 0, .int .i64 0, .int .i64 0]) (q2) (x) (by kernel_rfl) (by kernel_rfl) (by kernel_rfl) (by kernel_rfl) (by first | ((repeat first | exact at0 (by simp) | refine atS ?_); done) | assumption) (by first | (simp (disch := first | omega | (simp only [go_sem]; first | done | omega)) only [go_sem]; done) | (simp (disch := first | omega | (simp only [go_sem]; first | done | omega)) only [go_sem]; rfl) | (simp (disch := first | omega | (simp only [go_sem]; first | done | omega)) only [go_sem]; simp [go_sem]; done) | (simp (disch := first | omega | (simp only [go_sem]; first | done | omega)) only [go_sem]; simp [*]; done)) rfl (by decide) (by omega) (by omega) (by rfl) ?_)
      simp (disch := first | omega | (simp only [go_sem]; first | done | omega)) only [go_sem]
      refine Next.mk (k + 1, p, q2 ++ [x], j1 + 1) ⟨⟨by dsimp only; omega, by dsimp only; rw [htk]; exact w1.trans (List.sublist_append_left _ _), by dsimp only; rw [htk]; exact w2.append (List.Sublist.refl _), hw2, by dsimp only; omega⟩, by dsimp only; omega⟩ ?_
      ((try simp (disch := first | omega | (simp only [go_sem]; first | done | omega)) only [go_sem]); (refine WkL.pick [0, 4] ?_ ?_ rfl ?_ ?_ ?_ ?_) <;> first | (simp only [List.map_cons, List.map_nil, av_ren_gr]; (try simp only [AV.ren, AV.ren1, AC.ren, renP]); (try simp only [pickS_add, pickS_zero]); rfl) | (simp only [List.all_cons, List.all_nil, Bool.and_true, Bool.and_eq_true]; (repeat' apply And.intro) <;> first | exact pureO_gr (pureL_map _ (fun x => by simp [go_sem, AC.pure])) | (simp [AObj.pureO, pureL, go_sem, AC.pure]; done)) | assumption | exact HOk.str (by assumption) | (simp; done) | (simp; omega) | (simp [pureO_gr, AObj.pureO, pureL, go_sem, AC.pure]; done) | (simp only [List.all_cons, List.all_nil, Bool.and_true]; exact pureO_gr (pureL_map _ (fun x => by simp [go_sem, AC.pure]))) | ((try simp only [List.map_cons, List.map_nil, av_ren_gr]); simp [AV.ren, AV.ren1, AC.ren, renP, pickS]; first | done | omega) | (simp only [List.forall_mem_cons, List.not_mem_nil, false_implies, implies_true, and_true]; (repeat' apply And.intro) <;> first | trivial | exact grV_ok (by simp) _ | exact okN_grO (fun x => by simp [go_sem, AC.pure]) | exact okN_map (fun x => by simp [go_sem, AC.pure]) | (simp [AV.ok, AV.ok1, AC.ok]; done) | (simp [AV.ok, AV.ok1, AC.ok]; omega) | (simp [AObj.okN, AC.ok]; done)) | (simp [AObj.okN]; done))
    · simp (disch := first | omega | (simp only [go_sem]; first | done | omega)) only [go_sem]
      have hsl : (H.set s (strO zs (j1 + 1))).length = H.length := List.length_set
      repeat' (first | ((first | refine acond_d ?_ ?_ | refine acond_b ?_ ?_ | refine ag_d ?_ ?_ | refine ag_n ?_ ?_ | refine ag_bt ?_ ?_ | refine ag_bf ?_ ?_ | refine agt_d ?_ ?_ | refine agt_n ?_ ?_ | refine agt_bt ?_ ?_ | refine agt_bf ?_ ?_) <;> intro c <;> try simp (disch := first | omega | (simp only [go_sem]; first | done | omega)) only [go_sem, c]) | ((first | refine w_draw (by kernel_rfl) (by decide +kernel) ?_ | refine appFx p x (p ++ [x]) rfl (by first | exact at0 (by omega) | exact at1 (by omega) | exact at2 (by omega) | exact at3 (by omega) | exact at4 (by omega) | exact at5 (by omega) | exact atG 6 (by omega) rfl | exact atG 7 (by omega) rfl) (by first | exact at0 (by omega) | exact at1 (by omega) | exact at2 (by omega) | exact at3 (by omega) | exact at4 (by omega) | exact at5 (by omega) | exact atG 6 (by omega) rfl | exact atG 7 (by omega) rfl) (by omega) ?_ | refine appFx q2 x (q2 ++ [x]) rfl (by first | exact at0 (by omega) | exact at1 (by omega) | exact at2 (by omega) | exact at3 (by omega) | exact at4 (by omega) | exact at5 (by omega) | exact atG 6 (by omega) rfl | exact atG 7 (by omega) rfl) (by first | exact at0 (by omega) | exact at1 (by omega) | exact at2 (by omega) | exact at3 (by omega) | exact at4 (by omega) | exact at5 (by omega) | exact atG 6 (by omega) rfl | exact atG 7 (by omega) rfl) (by omega) ?_ | refine w_tree (.one 0 (.one 1 (.one 4 (.two 2 (.two 3 (.one 5 (.one 6 (.one 7 (.one 8 (.one 9 .done))))) 5 (.two 3 (.one 6 (.one 7 (.one 8 (.one 9 .done)))) 6 (.one 3 (.one 7 (.one 8 (.one 9 .done)))))) 5 (.two 2 (.two 3 (.one 6 (.one 7 (.one 8 (.one 9 .done)))) 6 (.one 3 (.one 7 (.one 8 (.one 9 .done))))) 6 (.one 2 (.one 3 (.one 7 (.one 8 (.one 9 .done)))))))))) (by kernel_rfl) (by decide +kernel) ?_) <;> try simp (disch := first | omega | (simp only [go_sem]; first | done | omega)) only [go_sem]) | (refine And.intro ?_ ?_ <;> try simp (disch := first | omega | (simp only [go_sem]; first | done | omega)) only [go_sem]))
      all_goals first
            | (refine Next.mk (k + 1, p ++ [x], q2 ++ [x], j1 + 1) ?_ ?_
               · exact ⟨⟨by dsimp only; omega, by dsimp only; rw [htk]; exact w1.append (List.Sublist.refl _), by dsimp only; rw [htk]; exact w2.append (List.Sublist.refl _), hw3, by dsimp only; omega⟩, by dsimp only; omega⟩
               · ((try simp (disch := first | omega | (simp only [go_sem]; first | done | omega)) only [go_sem]); (refine WkL.pick [4, 6] ?_ ?_ rfl ?_ ?_ ?_ ?_) <;> first | (simp only [List.map_cons, List.map_nil, av_ren_gr]; (try simp only [AV.ren, AV.ren1, AC.ren, renP]); (try simp only [pickS_add, pickS_zero]); rfl) | (simp only [List.all_cons, List.all_nil, Bool.and_true, Bool.and_eq_true]; (repeat' apply And.intro) <;> first | exact pureO_gr (pureL_map _ (fun x => by simp [go_sem, AC.pure])) | (simp [AObj.pureO, pureL, go_sem, AC.pure]; done)) | assumption | exact HOk.str (by assumption) | (simp; done) | (simp; omega) | (simp [pureO_gr, AObj.pureO, pureL, go_sem, AC.pure]; done) | (simp only [List.all_cons, List.all_nil, Bool.and_true]; exact pureO_gr (pureL_map _ (fun x => by simp [go_sem, AC.pure]))) | ((try simp only [List.map_cons, List.map_nil, av_ren_gr]); simp [AV.ren, AV.ren1, AC.ren, renP, pickS]; first | done | omega) | (simp only [List.forall_mem_cons, List.not_mem_nil, false_implies, implies_true, and_true]; (repeat' apply And.intro) <;> first | trivial | exact grV_ok (by simp) _ | exact okN_grO (fun x => by simp [go_sem, AC.pure]) | exact okN_map (fun x => by simp [go_sem, AC.pure]) | (simp [AV.ok, AV.ok1, AC.ok]; done) | (simp [AV.ok, AV.ok1, AC.ok]; omega) | (simp [AObj.okN, AC.ok]; done)) | (simp [AObj.okN]; done)))
            | (refine Next.mk (k + 1, p ++ [x], q2 ++ [x], j1 + 1) ?_ ?_
               · exact ⟨⟨by dsimp only; omega, by dsimp only; rw [htk]; exact w1.append (List.Sublist.refl _), by dsimp only; rw [htk]; exact w2.append (List.Sublist.refl _), hw3, by dsimp only; omega⟩, by dsimp only; omega⟩
               · ((try simp (disch := first | omega | (simp only [go_sem]; first | done | omega)) only [go_sem]); (refine WkL.pick [5, 6] ?_ ?_ rfl ?_ ?_ ?_ ?_) <;> first | (simp only [List.map_cons, List.map_nil, av_ren_gr]; (try simp only [AV.ren, AV.ren1, AC.ren, renP]); (try simp only [pickS_add, pickS_zero]); rfl) | (simp only [List.all_cons, List.all_nil, Bool.and_true, Bool.and_eq_true]; (repeat' apply And.intro) <;> first | exact pureO_gr (pureL_map _ (fun x => by simp [go_sem, AC.pure])) | (simp [AObj.pureO, pureL, go_sem, AC.pure]; done)) | assumption | exact HOk.str (by assumption) | (simp; done) | (simp; omega) | (simp [pureO_gr, AObj.pureO, pureL, go_sem, AC.pure]; done) | (simp only [List.all_cons, List.all_nil, Bool.and_true]; exact pureO_gr (pureL_map _ (fun x => by simp [go_sem, AC.pure]))) | ((try simp only [List.map_cons, List.map_nil, av_ren_gr]); simp [AV.ren, AV.ren1, AC.ren, renP, pickS]; first | done | omega) | (simp only [List.forall_mem_cons, List.not_mem_nil, false_implies, implies_true, and_true]; (repeat' apply And.intro) <;> first | trivial | exact grV_ok (by simp) _ | exact okN_grO (fun x => by simp [go_sem, AC.pure]) | exact okN_map (fun x => by simp [go_sem, AC.pure]) | (simp [AV.ok, AV.ok1, AC.ok]; done) | (simp [AV.ok, AV.ok1, AC.ok]; omega) | (simp [AObj.okN, AC.ok]; done)) | (simp [AObj.okN]; done)))
  · have hkl : k = l.length := by omega
    subst hkl
    rw [List.take_length] at w1 w2 w3
    simp (disch := first | omega | (simp only [go_sem]; first | done | omega)) only [go_sem]
    exact Ret.frzGr2X 0 1 (by omega) (HOk.str hH) (by simp) rfl rfl (pureL_map _ (fun x => by simp [go_sem, AC.pure])) (pureL_map _ (fun x => by simp [go_sem, AC.pure])) rfl (by rw [map_grV]; simp) (by rw [map_grV]; simp) (hk p q2 j1 (by omega) (by omega) w1 w2 w3)
end Go.Proofs.YtgcjenfdndhhpaaGreatDoor
