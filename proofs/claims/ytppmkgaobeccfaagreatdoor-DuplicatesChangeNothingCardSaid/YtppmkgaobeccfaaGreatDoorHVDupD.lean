/- Arrivals that are drawn right, and parts of a list. No condition. -/
import Derived.Test.YtppmkgaobeccfaaGreatDoorHVArrU
import Derived.Test.YtppmkgaobeccfaaGreatDoorHVStoA
import Derived.Test.YtppmkgaobeccfaaGreatDoorHVDupM
namespace Go.Proofs.YtppmkgaobeccfaaGreatDoor
open Go Go.RowKit
set_option maxRecDepth 100000
set_option linter.all false
set_option maxHeartbeats 2000000
variable {H : Hp} {K : AV → Hp → Prop}
theorem rightArrivals_a (s : Nat) (zs : List Int) (j many : Int) (hs : Str H s zs j) (hj : j ≤ 900000000) (hm0 : 0 ≤ many) (hm1 : many ≤ 10)
    (hk : ∀ (l : List Arr) (j' : Int), j ≤ j' → j' ≤ j + 1600 → l.length ≤ 10 → (∀ x ∈ l, arFine x) → arF l = 0 → K (.c (.lst 7 (l.map encAr))) (H.set s (strO zs j'))) :
    ACalls Tryz.prog 5 [.c (.ptr (some (s, 0, 0))), (.c (.int .i64 many))] H K := by
  have hlt := hs.lt
  have hpos := hs.pos
  refine acalls Tryz.func5 rfl (by kernel_rfl) (by simp (disch := first | omega | (simp only [go_sem]; first | done | omega)) only [go_sem]) (fun hH => ?_)
  simp (disch := first | omega | (simp only [go_sem]; first | done | omega)) only [go_sem]
  refine AWp.loop (H.length) [0, 1] [6] (fun (q : Nat × Int) => q.1 ≤ 8 ∧ j ≤ q.2 ∧ q.2 ≤ j + 200 * q.1) (fun (q : Nat × Int) => [(6, (.c (.int .i64 (q.1))))]) (fun (q : Nat × Int) => H.set s (strO zs q.2)) (fun (q : Nat × Int) => 8 - q.1) (by kernel_rfl) (fun _ => rfl) (by kernel_rfl) (by first | (simp; done) | omega) (by first | (simp; done) | (simp; omega) | omega) (by (try simp only [List.forall_mem_cons, List.not_mem_nil, false_implies, implies_true, and_true]); (try simp (disch := first | omega | (simp only [go_sem]; first | done | omega)) only [go_sem]); all_goals first | trivial | (simp [AV.ok, AV.ok1, AC.ok]; done) | (simp [AV.ok, AV.ok1, AC.ok]; omega) | (simp [AV.ok, AV.ok1, AC.ok]; assumption) | ((repeat' apply And.intro) <;> first | trivial | (simp [AV.ok, AV.ok1, AC.ok]; done) | (simp [AV.ok, AV.ok1, AC.ok]; omega) | (simp [AV.ok, AV.ok1, AC.ok]; assumption) | (refine grV_ok ?_ _; first | (simp; done) | (simp; omega) | omega))) ?_ (fun q hq _ _ => ?_)
  · refine Next.mk (0, j) ⟨by dsimp only; omega, by dsimp only; omega, by dsimp only; omega⟩ ?_
    dsimp only
    rw [set_same hs.2.2.2]
    (try simp (disch := first | omega | (simp only [go_sem]; first | done | omega)) only [go_sem]); (first | refine WkL.eq ?_ ?_ | refine WkL.rest (by assumption) ?_ ?_ ?_ | refine WkL.keepL (by assumption) rfl ?_ ?_ ?_ ?_) <;> first | rfl | (simp; done) | (simp; omega) | (simp only [List.cons.injEq, AV.c.injEq, AC.int.injEq, AC.bool.injEq, AC.str.injEq, and_true, true_and, Int.natCast_add, Int.natCast_one, Int.cast_ofNat_Int]; omega) | (simp [AV.ok, AV.ok1, AC.ok]; done) | (simp [AV.ok, AV.ok1, AC.ok]; omega) | (simp only [List.forall_mem_cons, List.not_mem_nil, false_implies, implies_true, and_true]; (repeat' apply And.intro) <;> first | exact okN_map (fun x => by simp [go_sem, AC.pure]) | exact okN_grO (fun x => by simp [go_sem, AC.pure]) | (simp [AObj.okN, AC.ok]; done) | (simp [AObj.okN, AC.ok]; omega)) | (simp [*]; done) | grind
  obtain ⟨k, j1⟩ := q
  obtain ⟨q1, q2, q3⟩ := hq
  dsimp only at q1 q2 q3 ⊢
  by_cases hkl : k < 8
  · have hkl' : (k : Int) < 8 := by omega
    simp (disch := first | omega | (simp only [go_sem]; first | done | omega)) only [go_sem, hkl']
    refine arrivals_a s zs j1 many (by first | exact hs | exact hs.app _ | exact hs.set (by omega) (by omega) | exact (hs.set (by omega) (by omega)).app _) (by omega) hm0 hm1 (fun l j2 g1 g2 g3 g4 => ?_)
    have hsz : ∀ x ∈ l, x.nd.size ≤ 1099511627776 ∧ x.p.tag.size ≤ 1099511627776 := fun x hx => by
      obtain ⟨h1, h2, _⟩ := g4 x hx
      omega
    simp (disch := first | omega | (simp only [go_sem]; first | done | omega)) only [go_sem]
    refine arrivalsFault_a l hsz (by omega) ?_
    by_cases he : arF l = 0
    · simp (disch := first | omega | (simp only [go_sem]; first | done | omega)) only [go_sem, he]
      exact Ret.same (by simp) (hk l j2 (by omega) (by omega) (by omega) g4 he)
    · simp (disch := first | omega | (simp only [go_sem]; first | done | omega)) only [go_sem, he]
      refine Next.mk (k + 1, j2) ⟨⟨by dsimp only; omega, by dsimp only; omega, by dsimp only; omega⟩, by dsimp only; omega⟩ ?_
      (try simp (disch := first | omega | (simp only [go_sem]; first | done | omega)) only [go_sem]); (first | refine WkL.eq ?_ ?_ | refine WkL.rest (by assumption) ?_ ?_ ?_ | refine WkL.keepL (by assumption) rfl ?_ ?_ ?_ ?_) <;> first | rfl | (simp; done) | (simp; omega) | (simp only [List.cons.injEq, AV.c.injEq, AC.int.injEq, AC.bool.injEq, AC.str.injEq, and_true, true_and, Int.natCast_add, Int.natCast_one, Int.cast_ofNat_Int]; omega) | (simp [AV.ok, AV.ok1, AC.ok]; done) | (simp [AV.ok, AV.ok1, AC.ok]; omega) | (simp only [List.forall_mem_cons, List.not_mem_nil, false_implies, implies_true, and_true]; (repeat' apply And.intro) <;> first | exact okN_map (fun x => by simp [go_sem, AC.pure]) | exact okN_grO (fun x => by simp [go_sem, AC.pure]) | (simp [AObj.okN, AC.ok]; done) | (simp [AObj.okN, AC.ok]; omega)) | (simp [*]; done) | grind
  · have hkl' : ¬ (k : Int) < 8 := by omega
    simp (disch := first | omega | (simp only [go_sem]; first | done | omega)) only [go_sem, hkl']
    have e0 : arF [] = 0 := (arF_iff []).2 ⟨by simp, by simp, List.Pairwise.nil, by decide, rfl⟩
    exact Ret.nil [7] (by simp) (Ret.same (by simp) (hk [] j1 q2 (by omega) (by simp) (by simp) e0))
theorem appArr {i q ty : Nat} {own : Bool} {J : AV → Hp → Prop} (l : List Arr) (x : Arr) (l2 : List Arr) (e : l2 = l ++ [x]) (hi : H[i]? = some (grO 37 7 (l.map encAr))) (hj : H[q]? = some (.row ty 7 [encAr x] own)) (hb : l.length ≤ 1000000000)
    (h : J (.c (grV H.length l2)) (H.set i .dead ++ [grO 37 7 (l2.map encAr)])) : aBuiltin Tryz.prog .append #[26, 26] [.c (grV i l), .c (.sl (some (q, 0)) 1)] H J := by
  subst e
  exact app_grR (enc := encAr) (e := 37) (sz := 7) (bs := 72) (z := [.str ⟨#[]⟩, .int .i64 0, .int .i64 0, .str ⟨#[]⟩, .int .i64 0, .int .i64 0, .int .i64 0]) l [x] (by kernel_rfl) (by kernel_rfl) (by kernel_rfl) (by kernel_rfl) hi (by rw [hj]; rfl) (by simp) rfl (by decide) (by simp; omega) (by simp; omega) h
theorem parts_a (s : Nat) (zs : List Int) (j : Int) (l : List Arr) (hs : Str H s zs j) (hj : j ≤ 900000000) (hl : l.length ≤ 10)
    (hk : ∀ (p q : List Arr) (j' : Int), j ≤ j' → j' ≤ j + 10 → p.Sublist l → q.Sublist l → (∀ x ∈ l, x ∈ p ∨ x ∈ q) → K (.tup [.c (.lst 7 (p.map encAr)), .c (.lst 7 (q.map encAr))]) (H.set s (strO zs j'))) :
    ACalls Tryz.prog 9 [.c (.ptr (some (s, 0, 0))), .c (.lst 7 (l.map encAr))] H K := by
  have hlt := hs.lt
  have hpos := hs.pos
  have hne : H.length ≠ s := by omega
  refine acalls Tryz.func9 rfl (by kernel_rfl) (by simp (disch := first | omega | (simp only [go_sem]; first | done | omega)) only [go_sem]) (fun hH => ?_)
  simp (disch := first | omega | (simp only [go_sem]; first | done | omega)) only [go_sem]
  refine AWp.loop (H.length) [0, 10, 11] [12, 6, 7] (fun (u : Nat × List Arr × List Arr × Int) => u.1 ≤ l.length ∧ u.2.1.Sublist (l.take u.1) ∧ u.2.2.1.Sublist (l.take u.1) ∧ (∀ x ∈ l.take u.1, x ∈ u.2.1 ∨ x ∈ u.2.2.1) ∧ u.2.2.2 = j + u.1) (fun (u : Nat × List Arr × List Arr × Int) => [(12, (.c (.int .i64 (u.1)))), (6, .c (grV H.length u.2.1)), (7, .c (grV (H.length + 1) u.2.2.1))]) (fun (u : Nat × List Arr × List Arr × Int) => H.set s (strO zs u.2.2.2) ++ [grO 37 7 (u.2.1.map encAr), grO 37 7 (u.2.2.1.map encAr)]) (fun (u : Nat × List Arr × List Arr × Int) => l.length - u.1) (by kernel_rfl) (fun _ => rfl) (by kernel_rfl) (by first | (simp; done) | omega) (by first | (simp; done) | (simp; omega) | omega) (by (try simp only [List.forall_mem_cons, List.not_mem_nil, false_implies, implies_true, and_true]); (try simp (disch := first | omega | (simp only [go_sem]; first | done | omega)) only [go_sem]); all_goals first | trivial | (simp [AV.ok, AV.ok1, AC.ok]; done) | (simp [AV.ok, AV.ok1, AC.ok]; omega) | (simp [AV.ok, AV.ok1, AC.ok]; assumption) | ((repeat' apply And.intro) <;> first | trivial | (simp [AV.ok, AV.ok1, AC.ok]; done) | (simp [AV.ok, AV.ok1, AC.ok]; omega) | (simp [AV.ok, AV.ok1, AC.ok]; assumption) | (refine grV_ok ?_ _; first | (simp; done) | (simp; omega) | omega))) ?_ (fun u hu _ _ => ?_)
  · refine Next.mk (0, [], [], j) ⟨Nat.zero_le _, by simp, by simp, by simp, by simp⟩ ?_
    dsimp only
    rw [set_same hs.2.2.2]
    exact WkL.trans (WkL.pad (by omega)) (WkL.padP [_] (by simp))
  obtain ⟨k, p, q2, j1⟩ := u
  obtain ⟨w0, w1, w2, w3, w4⟩ := hu
  dsimp only at w0 w1 w2 w3 w4 ⊢
  have hpl : p.length ≤ 10 := Nat.le_trans w1.length_le (by rw [List.length_take]; omega)
  have hql : q2.length ≤ 10 := Nat.le_trans w2.length_le (by rw [List.length_take]; omega)
  by_cases hlt2 : k < l.length
  · obtain ⟨x, hx⟩ : ∃ x, x = l[k] := ⟨_, rfl⟩
    have htk : l.take (k + 1) = l.take k ++ [x] := by rw [List.take_succ_eq_append_getElem hlt2, ← hx]
    have hw1 : ∀ y ∈ l.take (k + 1), y ∈ p ++ [x] ∨ y ∈ q2 := fun y hy => by
      rw [htk] at hy
      rcases List.mem_append.1 hy with h | h
      · rcases w3 y h with h | h
        · exact Or.inl (List.mem_append_left _ h)
        · exact Or.inr h
      · exact Or.inl (List.mem_append_right _ h)
    have hw2 : ∀ y ∈ l.take (k + 1), y ∈ p ∨ y ∈ q2 ++ [x] := fun y hy => by
      rw [htk] at hy
      rcases List.mem_append.1 hy with h | h
      · rcases w3 y h with h | h
        · exact Or.inl h
        · exact Or.inr (List.mem_append_left _ h)
      · exact Or.inr (List.mem_append_right _ h)
    have hw3 : ∀ y ∈ l.take (k + 1), y ∈ p ++ [x] ∨ y ∈ q2 ++ [x] := fun y hy => by
      rcases hw1 y hy with h | h
      · exact Or.inl h
      · exact Or.inr (List.mem_append_left _ h)
    simp (disch := first | omega | (simp only [go_sem]; first | done | omega)) only [go_sem, hlt2, ← hx]
    refine next_a s zs j1 3 (by first | exact hs | exact hs.app _ | exact hs.set (by omega) (by omega) | exact (hs.set (by omega) (by omega)).app _) (by omega) (by omega) (fun r r0 r1 => ?_)
    simp (disch := first | omega | (simp only [go_sem]; first | done | omega)) only [go_sem]
    have hr : r = 0 ∨ r = 1 ∨ r = 2 := by omega
    clear r0 r1
    rcases hr with rfl | rfl | rfl
    · simp (disch := first | omega | (simp only [go_sem]; first | done | omega)) only [go_sem]
      (refine app_gr (enc := encAr) (e := 37) (sz := 7) (bs := 72) (z := [.str ⟨#[]⟩, .int .i64 0, .int .i64 0, .str ⟨#[]⟩, .int .i64 0, .int .i64 0, .int .i64 0]) (p) (x) (by kernel_rfl) (by kernel_rfl) (by kernel_rfl) (by kernel_rfl) (by first | exact at0 (by simp) | exact at1 (by simp) | exact at2 (by simp) | exact at3 (by simp) | exact at4 (by simp) | exact at5 (by simp) | exact atG 6 (by simp) rfl | exact atG 7 (by simp) rfl | exact atG 8 (by simp) rfl | exact atG 9 (by simp) rfl | exact atG 10 (by simp) rfl | exact atG 11 (by simp) rfl | exact atG 12 (by simp) rfl | exact atG 13 (by simp) rfl | exact atG 14 (by simp) rfl | exact atG 15 (by simp) rfl | assumption) (by first | (simp (disch := first | omega | (simp only [go_sem]; first | done | omega)) only [go_sem]; done) | (simp (disch := first | omega | (simp only [go_sem]; first | done | omega)) only [go_sem]; rfl) | (simp (disch := first | omega | (simp only [go_sem]; first | done | omega)) only [go_sem]; simp [go_sem]; done) | (simp (disch := first | omega | (simp only [go_sem]; first | done | omega)) only [go_sem]; simp [*]; done)) rfl (by decide) (by omega) (by omega) (by rfl) ?_)
      simp (disch := first | omega | (simp only [go_sem]; first | done | omega)) only [go_sem]
      refine Next.mk (k + 1, p ++ [x], q2, j1 + 1) ⟨⟨by dsimp only; omega, by dsimp only; rw [htk]; exact w1.append (List.Sublist.refl _), by dsimp only; rw [htk]; exact w2.trans (List.sublist_append_left _ _), hw1, by dsimp only; omega⟩, by dsimp only; omega⟩ ?_
      ((try simp (disch := first | omega | (simp only [go_sem]; first | done | omega)) only [go_sem]); (refine WkL.pick [4, 1] ?_ ?_ rfl ?_ ?_ ?_ ?_) <;> first | (simp only [List.map_cons, List.map_nil, av_ren_gr]; (try simp only [AV.ren, AV.ren1, AC.ren, renP]); (try simp only [pickS_add, pickS_zero]); rfl) | (simp only [List.all_cons, List.all_nil, Bool.and_true, Bool.and_eq_true]; (repeat' apply And.intro) <;> first | exact pureO_gr (pureL_map _ (fun x => by simp [go_sem, AC.pure])) | (simp [AObj.pureO, pureL, go_sem, AC.pure]; done)) | assumption | exact HOk.str (by assumption) | (simp; done) | (simp; omega) | (simp [pureO_gr, AObj.pureO, pureL, go_sem, AC.pure]; done) | (simp only [List.all_cons, List.all_nil, Bool.and_true]; exact pureO_gr (pureL_map _ (fun x => by simp [go_sem, AC.pure]))) | ((try simp only [List.map_cons, List.map_nil, av_ren_gr]); simp [AV.ren, AV.ren1, AC.ren, renP, pickS]; first | done | omega) | (simp only [List.forall_mem_cons, List.not_mem_nil, false_implies, implies_true, and_true]; (repeat' apply And.intro) <;> first | trivial | exact grV_ok (by simp) _ | exact okN_grO (fun x => by simp [go_sem, AC.pure]) | exact okN_map (fun x => by simp [go_sem, AC.pure]) | (simp [AV.ok, AV.ok1, AC.ok]; done) | (simp [AV.ok, AV.ok1, AC.ok]; omega) | (simp [AObj.okN, AC.ok]; done)) | (simp [AObj.okN]; done))
    · simp (disch := first | omega | (simp only [go_sem]; first | done | omega)) only [go_sem]
      (refine app_gr (enc := encAr) (e := 37) (sz := 7) (bs := 72) (z := [.str ⟨#[]⟩, .int .i64 0, .int .i64 0, .str ⟨#[]⟩, .int .i64 0, .int .i64 0, .int .i64 0]) (q2) (x) (by kernel_rfl) (by kernel_rfl) (by kernel_rfl) (by kernel_rfl) (by first | exact at0 (by simp) | exact at1 (by simp) | exact at2 (by simp) | exact at3 (by simp) | exact at4 (by simp) | exact at5 (by simp) | exact atG 6 (by simp) rfl | exact atG 7 (by simp) rfl | exact atG 8 (by simp) rfl | exact atG 9 (by simp) rfl | exact atG 10 (by simp) rfl | exact atG 11 (by simp) rfl | exact atG 12 (by simp) rfl | exact atG 13 (by simp) rfl | exact atG 14 (by simp) rfl | exact atG 15 (by simp) rfl | assumption) (by first | (simp (disch := first | omega | (simp only [go_sem]; first | done | omega)) only [go_sem]; done) | (simp (disch := first | omega | (simp only [go_sem]; first | done | omega)) only [go_sem]; rfl) | (simp (disch := first | omega | (simp only [go_sem]; first | done | omega)) only [go_sem]; simp [go_sem]; done) | (simp (disch := first | omega | (simp only [go_sem]; first | done | omega)) only [go_sem]; simp [*]; done)) rfl (by decide) (by omega) (by omega) (by rfl) ?_)
      simp (disch := first | omega | (simp only [go_sem]; first | done | omega)) only [go_sem]
      refine Next.mk (k + 1, p, q2 ++ [x], j1 + 1) ⟨⟨by dsimp only; omega, by dsimp only; rw [htk]; exact w1.trans (List.sublist_append_left _ _), by dsimp only; rw [htk]; exact w2.append (List.Sublist.refl _), hw2, by dsimp only; omega⟩, by dsimp only; omega⟩ ?_
      ((try simp (disch := first | omega | (simp only [go_sem]; first | done | omega)) only [go_sem]); (refine WkL.pick [0, 4] ?_ ?_ rfl ?_ ?_ ?_ ?_) <;> first | (simp only [List.map_cons, List.map_nil, av_ren_gr]; (try simp only [AV.ren, AV.ren1, AC.ren, renP]); (try simp only [pickS_add, pickS_zero]); rfl) | (simp only [List.all_cons, List.all_nil, Bool.and_true, Bool.and_eq_true]; (repeat' apply And.intro) <;> first | exact pureO_gr (pureL_map _ (fun x => by simp [go_sem, AC.pure])) | (simp [AObj.pureO, pureL, go_sem, AC.pure]; done)) | assumption | exact HOk.str (by assumption) | (simp; done) | (simp; omega) | (simp [pureO_gr, AObj.pureO, pureL, go_sem, AC.pure]; done) | (simp only [List.all_cons, List.all_nil, Bool.and_true]; exact pureO_gr (pureL_map _ (fun x => by simp [go_sem, AC.pure]))) | ((try simp only [List.map_cons, List.map_nil, av_ren_gr]); simp [AV.ren, AV.ren1, AC.ren, renP, pickS]; first | done | omega) | (simp only [List.forall_mem_cons, List.not_mem_nil, false_implies, implies_true, and_true]; (repeat' apply And.intro) <;> first | trivial | exact grV_ok (by simp) _ | exact okN_grO (fun x => by simp [go_sem, AC.pure]) | exact okN_map (fun x => by simp [go_sem, AC.pure]) | (simp [AV.ok, AV.ok1, AC.ok]; done) | (simp [AV.ok, AV.ok1, AC.ok]; omega) | (simp [AObj.okN, AC.ok]; done)) | (simp [AObj.okN]; done))
    · simp (disch := first | omega | (simp only [go_sem]; first | done | omega)) only [go_sem]
      have hsl : (H.set s (strO zs (j1 + 1))).length = H.length := List.length_set
      repeat' (first | ((first | refine acond_d ?_ ?_ | refine acond_b ?_ ?_ | refine ag_d ?_ ?_ | refine ag_n ?_ ?_ | refine ag_bt ?_ ?_ | refine ag_bf ?_ ?_ | refine agt_d ?_ ?_ | refine agt_n ?_ ?_ | refine agt_bt ?_ ?_ | refine agt_bf ?_ ?_) <;> intro c <;> try simp (disch := first | omega | (simp only [go_sem]; first | done | omega)) only [go_sem, c]) | ((first | refine w_draw (by kernel_rfl) (by decide +kernel) ?_ | refine appArr p x (p ++ [x]) rfl (by first | exact at0 (by omega) | exact at1 (by omega) | exact at2 (by omega) | exact at3 (by omega) | exact at4 (by omega) | exact at5 (by omega) | exact atG 6 (by omega) rfl | exact atG 7 (by omega) rfl) (by first | exact at0 (by omega) | exact at1 (by omega) | exact at2 (by omega) | exact at3 (by omega) | exact at4 (by omega) | exact at5 (by omega) | exact atG 6 (by omega) rfl | exact atG 7 (by omega) rfl) (by omega) ?_ | refine appArr q2 x (q2 ++ [x]) rfl (by first | exact at0 (by omega) | exact at1 (by omega) | exact at2 (by omega) | exact at3 (by omega) | exact at4 (by omega) | exact at5 (by omega) | exact atG 6 (by omega) rfl | exact atG 7 (by omega) rfl) (by first | exact at0 (by omega) | exact at1 (by omega) | exact at2 (by omega) | exact at3 (by omega) | exact at4 (by omega) | exact at5 (by omega) | exact atG 6 (by omega) rfl | exact atG 7 (by omega) rfl) (by omega) ?_ | refine w_tree (.one 0 (.one 1 (.one 4 (.two 2 (.two 3 (.one 5 (.one 6 (.one 7 (.one 8 (.one 9 .done))))) 5 (.two 3 (.one 6 (.one 7 (.one 8 (.one 9 .done)))) 6 (.one 3 (.one 7 (.one 8 (.one 9 .done)))))) 5 (.two 2 (.two 3 (.one 6 (.one 7 (.one 8 (.one 9 .done)))) 6 (.one 3 (.one 7 (.one 8 (.one 9 .done))))) 6 (.one 2 (.one 3 (.one 7 (.one 8 (.one 9 .done)))))))))) (by kernel_rfl) (by decide +kernel) ?_) <;> try simp (disch := first | omega | (simp only [go_sem]; first | done | omega)) only [go_sem]) | (refine And.intro ?_ ?_ <;> try simp (disch := first | omega | (simp only [go_sem]; first | done | omega)) only [go_sem]))
      all_goals first
            | (refine Next.mk (k + 1, p ++ [x], q2 ++ [x], j1 + 1) ?_ ?_
               · exact ⟨⟨by dsimp only; omega, by dsimp only; rw [htk]; exact w1.append (List.Sublist.refl _), by dsimp only; rw [htk]; exact w2.append (List.Sublist.refl _), hw3, by dsimp only; omega⟩, by dsimp only; omega⟩
               · ((try simp (disch := first | omega | (simp only [go_sem]; first | done | omega)) only [go_sem]); (refine WkL.pick [4, 6] ?_ ?_ rfl ?_ ?_ ?_ ?_) <;> first | (simp only [List.map_cons, List.map_nil, av_ren_gr]; (try simp only [AV.ren, AV.ren1, AC.ren, renP]); (try simp only [pickS_add, pickS_zero]); rfl) | (simp only [List.all_cons, List.all_nil, Bool.and_true, Bool.and_eq_true]; (repeat' apply And.intro) <;> first | exact pureO_gr (pureL_map _ (fun x => by simp [go_sem, AC.pure])) | (simp [AObj.pureO, pureL, go_sem, AC.pure]; done)) | assumption | exact HOk.str (by assumption) | (simp; done) | (simp; omega) | (simp [pureO_gr, AObj.pureO, pureL, go_sem, AC.pure]; done) | (simp only [List.all_cons, List.all_nil, Bool.and_true]; exact pureO_gr (pureL_map _ (fun x => by simp [go_sem, AC.pure]))) | ((try simp only [List.map_cons, List.map_nil, av_ren_gr]); simp [AV.ren, AV.ren1, AC.ren, renP, pickS]; first | done | omega) | (simp only [List.forall_mem_cons, List.not_mem_nil, false_implies, implies_true, and_true]; (repeat' apply And.intro) <;> first | trivial | exact grV_ok (by simp) _ | exact okN_grO (fun x => by simp [go_sem, AC.pure]) | exact okN_map (fun x => by simp [go_sem, AC.pure]) | (simp [AV.ok, AV.ok1, AC.ok]; done) | (simp [AV.ok, AV.ok1, AC.ok]; omega) | (simp [AObj.okN, AC.ok]; done)) | (simp [AObj.okN]; done)))
            | (refine Next.mk (k + 1, p ++ [x], q2 ++ [x], j1 + 1) ?_ ?_
               · exact ⟨⟨by dsimp only; omega, by dsimp only; rw [htk]; exact w1.append (List.Sublist.refl _), by dsimp only; rw [htk]; exact w2.append (List.Sublist.refl _), hw3, by dsimp only; omega⟩, by dsimp only; omega⟩
               · ((try simp (disch := first | omega | (simp only [go_sem]; first | done | omega)) only [go_sem]); (refine WkL.pick [5, 6] ?_ ?_ rfl ?_ ?_ ?_ ?_) <;> first | (simp only [List.map_cons, List.map_nil, av_ren_gr]; (try simp only [AV.ren, AV.ren1, AC.ren, renP]); (try simp only [pickS_add, pickS_zero]); rfl) | (simp only [List.all_cons, List.all_nil, Bool.and_true, Bool.and_eq_true]; (repeat' apply And.intro) <;> first | exact pureO_gr (pureL_map _ (fun x => by simp [go_sem, AC.pure])) | (simp [AObj.pureO, pureL, go_sem, AC.pure]; done)) | assumption | exact HOk.str (by assumption) | (simp; done) | (simp; omega) | (simp [pureO_gr, AObj.pureO, pureL, go_sem, AC.pure]; done) | (simp only [List.all_cons, List.all_nil, Bool.and_true]; exact pureO_gr (pureL_map _ (fun x => by simp [go_sem, AC.pure]))) | ((try simp only [List.map_cons, List.map_nil, av_ren_gr]); simp [AV.ren, AV.ren1, AC.ren, renP, pickS]; first | done | omega) | (simp only [List.forall_mem_cons, List.not_mem_nil, false_implies, implies_true, and_true]; (repeat' apply And.intro) <;> first | trivial | exact grV_ok (by simp) _ | exact okN_grO (fun x => by simp [go_sem, AC.pure]) | exact okN_map (fun x => by simp [go_sem, AC.pure]) | (simp [AV.ok, AV.ok1, AC.ok]; done) | (simp [AV.ok, AV.ok1, AC.ok]; omega) | (simp [AObj.okN, AC.ok]; done)) | (simp [AObj.okN]; done)))
  · have hkl : k = l.length := by omega
    subst hkl
    rw [List.take_length] at w1 w2 w3
    simp (disch := first | omega | (simp only [go_sem]; first | done | omega)) only [go_sem]
    exact Ret.frzGr2 0 1 (by omega) (HOk.str hH) (by simp) rfl rfl (pureL_map _ (fun x => by simp [go_sem, AC.pure])) (pureL_map _ (fun x => by simp [go_sem, AC.pure])) rfl (by rw [map_grV]; simp) (by rw [map_grV]; simp) (hk p q2 j1 (by omega) (by omega) w1 w2 w3)
end Go.Proofs.YtppmkgaobeccfaaGreatDoor
