/- Steps of a buffer, as they are drawn. No condition. -/
import Derived.Test.YtnpdbnkgipkgaaaGreatHVStp
import Derived.Test.YtnpdbnkgipkgaaaGreatHVGE
namespace Go.Proofs.YtnpdbnkgipkgaaaGreat
open Go Go.RowKit
set_option maxRecDepth 100000
set_option linter.all false
set_option maxHeartbeats 2000000
variable {H : Hp} {K : AV → Hp → Prop}
theorem SWp.thn {P : Program} {n N : Nat} {L : List Tmp} {x y : Code} {Q : AExit → Fr → Hp → Prop} {F : Fr} (h : SWp P n N L x (QS P n N L y Q) F H) : SWp P n N L (.seq x y) Q F H := SWp.seq h
theorem steps_a (s : Nat) (zs : List Int) (j many : Int) (hs : Str H s zs j) (hj : j ≤ 1000000000) (hm0 : 0 ≤ many) (hm1 : many ≤ 100)
    (hk : ∀ (l : List Stp) (j' : Int), j ≤ j' → j' ≤ j + 20 * many → (l.length : Int) = many → (∀ x ∈ l, x.tag.size ≤ 1000) → K (.c (.lst 7 (l.map encStp))) (H.set s (strO zs j'))) :
    ACalls Tryz.prog 8 [.c (.ptr (some (s, 0, 0))), (.c (.int .i64 many))] H K := by
  have hlt := hs.lt
  have hpos := hs.pos
  have hne : H.length ≠ s := by omega
  refine acallsS Tryz.func8 rfl (by simp (disch := first | omega | (simp only [go_sem]; first | done | omega)) only [go_sem]) (fun hH => ?_)
  (refine SWp.go (by kernel_rfl) ?_; simp (disch := first | omega | (simp only [go_sem]; first | done | omega)) only [go_sem])
  (refine SWp.go (by kernel_rfl) ?_; simp (disch := first | omega | (simp only [go_sem]; first | done | omega)) only [go_sem])
  (refine SWp.go (by kernel_rfl) ?_; simp (disch := first | omega | (simp only [go_sem]; first | done | omega)) only [go_sem])
  refine SWp.thn ?_
  (refine SWp.go (by kernel_rfl) ?_; simp (disch := first | omega | (simp only [go_sem]; first | done | omega)) only [go_sem])
  refine SWp.inB ?_
  refine SWp.loop (H.length) [0, 8] [9, 5, 6] (fun (q : Nat × List Stp × Int × Int) => (q.1 : Int) ≤ many ∧ q.2.1.length = q.1 ∧ (∀ x ∈ q.2.1, x.tag.size ≤ 1000) ∧ (0 ≤ q.2.2.1 ∧ q.2.2.1 ≤ q.1) ∧ j ≤ q.2.2.2 ∧ q.2.2.2 ≤ j + 20 * q.1) (fun (q : Nat × List Stp × Int × Int) => [(9, (.c (.int .i64 (q.1)))), (5, .c (grV H.length q.2.1)), (6, (.c (.int .i64 (q.2.2.1))))]) (fun (q : Nat × List Stp × Int × Int) => H.set s (strO zs q.2.2.2) ++ [grO 100 7 (q.2.1.map encStp)]) (fun (q : Nat × List Stp × Int × Int) => many.toNat - q.1) (fun _ => rfl) (by kernel_rfl) (by first | (simp; done) | omega) (by first | (simp; done) | (simp; omega) | omega) (by (try simp only [List.forall_mem_cons, List.not_mem_nil, false_implies, implies_true, and_true]); (try simp (disch := first | omega | (simp only [go_sem]; first | done | omega)) only [go_sem]); all_goals first | trivial | (simp [AV.ok, AV.ok1, AC.ok]; done) | (simp [AV.ok, AV.ok1, AC.ok]; omega) | (simp [AV.ok, AV.ok1, AC.ok]; assumption) | ((repeat' apply And.intro) <;> first | trivial | (simp [AV.ok, AV.ok1, AC.ok]; done) | (simp [AV.ok, AV.ok1, AC.ok]; omega) | (simp [AV.ok, AV.ok1, AC.ok]; assumption) | (refine grV_ok ?_ _; first | (simp; done) | (simp; omega) | omega))) ?_ (fun q hq _ _ => ?_)
  · refine Next.mk (0, [], 0, j) ⟨by simpa using hm0, rfl, by simp, by simp, by simp, by simp⟩ ?_
    dsimp only
    rw [set_same hs.2.2.2]
    exact WkL.pad (Nat.le_refl _)
  obtain ⟨k, l, p, j1⟩ := q
  obtain ⟨q1, q2, q3, ⟨q4, q5⟩, q6, q7⟩ := hq
  dsimp only at q1 q2 q3 q4 q5 q6 q7 ⊢
  by_cases hkl : (k : Int) < many
  · refine SWp.go (by kernel_rfl) ?_
    simp (disch := first | omega | (simp only [go_sem]; first | done | omega)) only [go_sem, hkl]
    refine SWp.go (by kernel_rfl) ?_
    simp (disch := first | omega | (simp only [go_sem]; first | done | omega)) only [go_sem]
    refine SWp.thn (SWp.inB ?_)
    refine SWp.go (by kernel_rfl) ?_
    simp (disch := first | omega | (simp only [go_sem]; first | done | omega)) only [go_sem]
    refine pick_lit s zs j1 [1, 1, 1, 1, 2, 2, 3, 4] (by first | exact at0 (by simp) | exact at1 (by simp) | exact at2 (by simp) | exact at3 (by simp) | exact at4 (by simp) | exact at5 (by simp) | exact atG 6 (by simp) rfl | exact atG 7 (by simp) rfl | exact atG 8 (by simp) rfl | exact atG 9 (by simp) rfl | exact atG 10 (by simp) rfl | exact atG 11 (by simp) rfl | exact atG 12 (by simp) rfl | exact atG 13 (by simp) rfl | exact atG 14 (by simp) rfl | exact atG 15 (by simp) rfl | assumption) rfl rfl (by first | exact hs | exact hs.app _ | exact hs.set (by omega) (by omega) | exact (hs.set (by omega) (by omega)).app _) (by omega) (by simp) (by simp) (fun a ha => ?_)
    simp only [List.mem_cons, List.not_mem_nil, or_false] at ha
    simp (disch := first | omega | (simp only [go_sem]; first | done | omega)) only [go_sem]
    refine SWp.cut (H.length + 3) [0, 8, 9, 5, 7] [6] (fun (u : Stp × Int × Int) => u.1.tag.size ≤ 1000 ∧ (0 ≤ u.2.1 ∧ u.2.1 ≤ (k : Int) + 1) ∧ j1 + 1 ≤ u.2.2 ∧ u.2.2 ≤ j1 + 2) (fun (u : Stp × Int × Int) => [(6, (.c (.int .i64 (u.2.1))))]) (fun (u : Stp × Int × Int) => H.set s (strO zs u.2.2) ++ [grO 100 7 (l.map encStp), .dead, .row 100 7 [encStp u.1] true, .dead]) (fun _ => rfl) (by kernel_rfl) (by first | (simp; done) | omega) (by first | (simp; done) | (simp; omega) | omega) (by (try simp only [List.forall_mem_cons, List.not_mem_nil, false_implies, implies_true, and_true]); (try simp (disch := first | omega | (simp only [go_sem]; first | done | omega)) only [go_sem]); all_goals first | trivial | (simp [AV.ok, AV.ok1, AC.ok]; done) | (simp [AV.ok, AV.ok1, AC.ok]; omega) | (simp [AV.ok, AV.ok1, AC.ok]; assumption) | ((repeat' apply And.intro) <;> first | trivial | (simp [AV.ok, AV.ok1, AC.ok]; done) | (simp [AV.ok, AV.ok1, AC.ok]; omega) | (simp [AV.ok, AV.ok1, AC.ok]; assumption) | (refine grV_ok ?_ _; first | (simp; done) | (simp; omega) | omega))) ?_ (fun u hu _ _ => ?_)
    · refine SWp.of (by kernel_rfl) ?_
      simp (disch := first | omega | (simp only [go_sem]; first | done | omega)) only [go_sem]
      have ha' : a = 1 ∨ a = 2 ∨ a = 3 ∨ a = 4 := by omega
      clear ha
      rcases ha' with rfl | rfl | rfl | rfl
      · simp (disch := first | omega | (simp only [go_sem]; first | done | omega)) only [go_sem]
        refine some_lit s zs (j1 + 1) [⟨#[116, 97]⟩, ⟨#[116, 98]⟩] (by first | exact at0 (by simp) | exact at1 (by simp) | exact at2 (by simp) | exact at3 (by simp) | exact at4 (by simp) | exact at5 (by simp) | exact atG 6 (by simp) rfl | exact atG 7 (by simp) rfl | exact atG 8 (by simp) rfl | exact atG 9 (by simp) rfl | exact atG 10 (by simp) rfl | exact atG 11 (by simp) rfl | exact atG 12 (by simp) rfl | exact atG 13 (by simp) rfl | exact atG 14 (by simp) rfl | exact atG 15 (by simp) rfl | assumption) rfl rfl (by first | exact hs | exact hs.app _ | exact hs.set (by omega) (by omega) | exact (hs.set (by omega) (by omega)).app _) (by omega) (by simp) (by simp) (fun t ht => ?_)
        have hts : t.size ≤ 1000 := by
          have : ∀ x ∈ [(⟨#[116, 97]⟩ : ByteArray), ⟨#[116, 98]⟩], x.size ≤ 1000 := by decide
          exact this t ht
        simp (disch := first | omega | (simp only [go_sem]; first | done | omega)) only [go_sem]
        exact Next.mk (⟨1, 0, 0, t, ⟨10 * (p + 1), p + 1, 0⟩⟩, p + 1, j1 + 1 + 1) ⟨hts, ⟨by dsimp only; omega, by dsimp only; omega⟩, by dsimp only; omega, by dsimp only; omega⟩ (WkL.eq (by simp) rfl)
      · simp (disch := first | omega | (simp only [go_sem]; first | done | omega)) only [go_sem]
        refine pick_lit s zs (j1 + 1) [1, 2, 3, 9] (by first | exact at0 (by simp) | exact at1 (by simp) | exact at2 (by simp) | exact at3 (by simp) | exact at4 (by simp) | exact at5 (by simp) | exact atG 6 (by simp) rfl | exact atG 7 (by simp) rfl | exact atG 8 (by simp) rfl | exact atG 9 (by simp) rfl | exact atG 10 (by simp) rfl | exact atG 11 (by simp) rfl | exact atG 12 (by simp) rfl | exact atG 13 (by simp) rfl | exact atG 14 (by simp) rfl | exact atG 15 (by simp) rfl | assumption) rfl rfl (by first | exact hs | exact hs.app _ | exact hs.set (by omega) (by omega) | exact (hs.set (by omega) (by omega)).app _) (by omega) (by simp) (by simp) (fun r hr => ?_)
        simp (disch := first | omega | (simp only [go_sem]; first | done | omega)) only [go_sem]
        exact Next.mk (⟨2, r, 0, noS, ⟨0, 0, 0⟩⟩, p, j1 + 1 + 1) ⟨show noS.size ≤ 1000 by decide, ⟨by dsimp only; omega, by dsimp only; omega⟩, by dsimp only; omega, by dsimp only; omega⟩ (WkL.eq (by simp) rfl)
      · simp (disch := first | omega | (simp only [go_sem]; first | done | omega)) only [go_sem]
        refine range_a s zs (j1 + 1) 0 p (by first | exact hs | exact hs.app _ | exact hs.set (by omega) (by omega) | exact (hs.set (by omega) (by omega)).app _) (by omega) (by omega) (by omega) (fun r h4 h5 => ?_)
        simp (disch := first | omega | (simp only [go_sem]; first | done | omega)) only [go_sem]
        exact Next.mk (⟨3, 0, r, noS, ⟨0, 0, 0⟩⟩, p, j1 + 1 + 1) ⟨show noS.size ≤ 1000 by decide, ⟨by dsimp only; omega, by dsimp only; omega⟩, by dsimp only; omega, by dsimp only; omega⟩ (WkL.padP [_, _, _] (by simp))
      · simp (disch := first | omega | (simp only [go_sem]; first | done | omega)) only [go_sem]
        exact Next.mk (⟨4, 0, 0, noS, ⟨0, 0, 0⟩⟩, p, j1 + 1) ⟨show noS.size ≤ 1000 by decide, ⟨by dsimp only; omega, by dsimp only; omega⟩, by dsimp only; omega, by dsimp only; omega⟩ (WkL.padP [_, _, _] (by simp))
    obtain ⟨x, p2, j2⟩ := u
    obtain ⟨u1, ⟨u2, u3⟩, u4, u5⟩ := hu
    dsimp only at u1 u2 u3 u4 u5 ⊢
    refine SWp.cut (H.length + 3) [0, 8, 9, 5, 7, 6] [] (fun (u : Stp × Int) => u.1.tag.size ≤ 1000 ∧ j2 ≤ u.2 ∧ u.2 ≤ j2 + 8) (fun (u : Stp × Int) => []) (fun (u : Stp × Int) => H.set s (strO zs u.2) ++ [grO 100 7 (l.map encStp), .dead, .row 100 7 [encStp u.1] true, .dead, .dead]) (fun _ => rfl) (by kernel_rfl) (by first | (simp; done) | omega) (by first | (simp; done) | (simp; omega) | omega) (by (try simp only [List.forall_mem_cons, List.not_mem_nil, false_implies, implies_true, and_true]); (try simp (disch := first | omega | (simp only [go_sem]; first | done | omega)) only [go_sem]); all_goals first | trivial | (simp [AV.ok, AV.ok1, AC.ok]; done) | (simp [AV.ok, AV.ok1, AC.ok]; omega) | (simp [AV.ok, AV.ok1, AC.ok]; assumption) | ((repeat' apply And.intro) <;> first | trivial | (simp [AV.ok, AV.ok1, AC.ok]; done) | (simp [AV.ok, AV.ok1, AC.ok]; omega) | (simp [AV.ok, AV.ok1, AC.ok]; assumption) | (refine grV_ok ?_ _; first | (simp; done) | (simp; omega) | omega))) ?_ (fun u hu _ _ => ?_)
    · refine SWp.of (by kernel_rfl) ?_
      simp (disch := first | omega | (simp only [go_sem]; first | done | omega)) only [go_sem]
      refine flip_a s zs j2 80 (by first | exact hs | exact hs.app _ | exact hs.set (by omega) (by omega) | exact (hs.set (by omega) (by omega)).app _) (by omega) (by omega) (fun b => ?_)
      simp (disch := first | omega | (simp only [go_sem]; first | done | omega)) only [go_sem]
      refine acond_b (fun c => ?_) (fun c => ?_)
      · simp (disch := first | omega | (simp only [go_sem]; first | done | omega)) only [go_sem]
        refine next_a s zs (j2 + 1) 3 (by first | exact hs | exact hs.app _ | exact hs.set (by omega) (by omega) | exact (hs.set (by omega) (by omega)).app _) (by omega) (by omega) (fun r hr0 hr1 => ?_)
        simp (disch := first | omega | (simp only [go_sem]; first | done | omega)) only [go_sem]
        have hr' : r = 0 ∨ r = 1 ∨ r = 2 := by omega
        clear hr0 hr1
        rcases hr' with rfl | rfl | rfl
        · simp (disch := first | omega | (simp only [go_sem]; first | done | omega)) only [go_sem]
          refine odd_a s zs (j2 + 1 + 1) 1 4 (by first | exact hs | exact hs.app _ | exact hs.set (by omega) (by omega) | exact (hs.set (by omega) (by omega)).app _) (by omega) (by omega) (by omega) (by omega) (fun r1 j4 g1 g2 g3 => ?_)
          simp (disch := first | omega | (simp only [go_sem]; first | done | omega)) only [go_sem]
          refine odd_a s zs j4 0 3 (by first | exact hs | exact hs.app _ | exact hs.set (by omega) (by omega) | exact (hs.set (by omega) (by omega)).app _) (by omega) (by omega) (by omega) (by omega) (fun r2 j5 g4 g5 g6 => ?_)
          simp (disch := first | omega | (simp only [go_sem]; first | done | omega)) only [go_sem]
          exact Next.mk (⟨r1, r2, x.seq, x.tag, x.s⟩, j5) ⟨u1, by dsimp only; omega, by dsimp only; omega⟩ (WkL.padP [_, _, _, _] (by simp))
        · simp (disch := first | omega | (simp only [go_sem]; first | done | omega)) only [go_sem]
          refine some_lit s zs (j2 + 1 + 1) [noS, ⟨#[65]⟩, x.tag] (by first | exact at0 (by simp) | exact at1 (by simp) | exact at2 (by simp) | exact at3 (by simp) | exact at4 (by simp) | exact at5 (by simp) | exact atG 6 (by simp) rfl | exact atG 7 (by simp) rfl | exact atG 8 (by simp) rfl | exact atG 9 (by simp) rfl | exact atG 10 (by simp) rfl | exact atG 11 (by simp) rfl | exact atG 12 (by simp) rfl | exact atG 13 (by simp) rfl | exact atG 14 (by simp) rfl | exact atG 15 (by simp) rfl | assumption) rfl rfl (by first | exact hs | exact hs.app _ | exact hs.set (by omega) (by omega) | exact (hs.set (by omega) (by omega)).app _) (by omega) (by simp) (by simp) (fun t ht => ?_)
          have hts : t.size ≤ 1000 := by
            simp only [List.mem_cons, List.not_mem_nil, or_false] at ht
            rcases ht with rfl | rfl | rfl
            · decide
            · decide
            · exact u1
          simp (disch := first | omega | (simp only [go_sem]; first | done | omega)) only [go_sem]
          refine oneSample_a s zs (j2 + 1 + 1 + 1) (by first | exact hs | exact hs.app _ | exact hs.set (by omega) (by omega) | exact (hs.set (by omega) (by omega)).app _) (by omega) (fun z _ _ _ => ?_)
          simp (disch := first | omega | (simp only [go_sem]; first | done | omega)) only [go_sem]
          exact Next.mk (⟨x.kind, x.count, x.seq, t, z⟩, j2 + 1 + 1 + 1 + 1 + 1 + 1) ⟨hts, by dsimp only; omega, by dsimp only; omega⟩ (WkL.eq (by simp) rfl)
        · simp (disch := first | omega | (simp only [go_sem]; first | done | omega)) only [go_sem]
          refine odd_a s zs (j2 + 1 + 1) 0 5 (by first | exact hs | exact hs.app _ | exact hs.set (by omega) (by omega) | exact (hs.set (by omega) (by omega)).app _) (by omega) (by omega) (by omega) (by omega) (fun r1 j4 g1 g2 g3 => ?_)
          simp (disch := first | omega | (simp only [go_sem]; first | done | omega)) only [go_sem]
          exact Next.mk (⟨x.kind, x.count, r1, x.tag, x.s⟩, j4) ⟨u1, by dsimp only; omega, by dsimp only; omega⟩ (WkL.padP [_, _, _, _] (by simp))
      · simp (disch := first | omega | (simp only [go_sem]; first | done | omega)) only [go_sem]
        exact Next.mk (x, j2 + 1) ⟨u1, by dsimp only; omega, by dsimp only; omega⟩ (WkL.padP [_, _, _, _] (by simp))
    obtain ⟨y, j3⟩ := u
    obtain ⟨v1, v2, v3⟩ := hu
    dsimp only at v1 v2 v3 ⊢
    refine SWp.of (by kernel_rfl) ?_
    simp (disch := first | omega | (simp only [go_sem]; first | done | omega)) only [go_sem]
    (refine app_gr (enc := encStp) (e := 100) (sz := 7) (bs := 64) (z := [.int .i64 0, .int .i64 0, .int .i64 0, .str ⟨#[]⟩, .int .i64 0, .int .i64 0, .int .i64 0]) (l) (y) (by kernel_rfl) (by kernel_rfl) (by kernel_rfl) (by kernel_rfl) (by first | exact at0 (by simp) | exact at1 (by simp) | exact at2 (by simp) | exact at3 (by simp) | exact at4 (by simp) | exact at5 (by simp) | exact atG 6 (by simp) rfl | exact atG 7 (by simp) rfl | exact atG 8 (by simp) rfl | exact atG 9 (by simp) rfl | exact atG 10 (by simp) rfl | exact atG 11 (by simp) rfl | exact atG 12 (by simp) rfl | exact atG 13 (by simp) rfl | exact atG 14 (by simp) rfl | exact atG 15 (by simp) rfl | assumption) (by first | (simp (disch := first | omega | (simp only [go_sem]; first | done | omega)) only [go_sem]; done) | (simp (disch := first | omega | (simp only [go_sem]; first | done | omega)) only [go_sem]; rfl) | (simp (disch := first | omega | (simp only [go_sem]; first | done | omega)) only [go_sem]; simp [go_sem]; done) | (simp (disch := first | omega | (simp only [go_sem]; first | done | omega)) only [go_sem]; simp [*]; done)) rfl (by decide) (by omega) (by omega) (by rfl) ?_)
    simp (disch := first | omega | (simp only [go_sem]; first | done | omega)) only [go_sem]
    refine SWp.of (by kernel_rfl) ?_
    simp (disch := first | omega | (simp only [go_sem]; first | done | omega)) only [go_sem]
    refine Next.mk (k + 1, l ++ [y], p2, j3) ?_ ?_
    · refine ⟨⟨by dsimp only; omega, by simp [q2], fun z hz => ?_, ⟨u2, by dsimp only; omega⟩, by dsimp only; omega, by dsimp only; omega⟩, by dsimp only; omega⟩
      rcases List.mem_append.1 hz with h | h
      · exact q3 z h
      · simp at h; subst h; exact v1
    · ((try simp (disch := first | omega | (simp only [go_sem]; first | done | omega)) only [go_sem]); (first | refine WkL.pick [0] ?_ ?_ rfl ?_ ?_ ?_ ?_ | refine WkL.pick [1] ?_ ?_ rfl ?_ ?_ ?_ ?_ | refine WkL.pick [2] ?_ ?_ rfl ?_ ?_ ?_ ?_ | refine WkL.pick [3] ?_ ?_ rfl ?_ ?_ ?_ ?_ | refine WkL.pick [4] ?_ ?_ rfl ?_ ?_ ?_ ?_ | refine WkL.pick [5] ?_ ?_ rfl ?_ ?_ ?_ ?_ | refine WkL.pick [6] ?_ ?_ rfl ?_ ?_ ?_ ?_ | refine WkL.pick [7] ?_ ?_ rfl ?_ ?_ ?_ ?_ | refine WkL.pick [8] ?_ ?_ rfl ?_ ?_ ?_ ?_ | refine WkL.pick [9] ?_ ?_ rfl ?_ ?_ ?_ ?_ | refine WkL.pick [10] ?_ ?_ rfl ?_ ?_ ?_ ?_ | refine WkL.pick [11] ?_ ?_ rfl ?_ ?_ ?_ ?_ | refine WkL.pick [12] ?_ ?_ rfl ?_ ?_ ?_ ?_ | refine WkL.pick [13] ?_ ?_ rfl ?_ ?_ ?_ ?_ | refine WkL.pick [14] ?_ ?_ rfl ?_ ?_ ?_ ?_ | refine WkL.pick [15] ?_ ?_ rfl ?_ ?_ ?_ ?_) <;> first | assumption | exact HOk.str (by assumption) | (simp; done) | (simp; omega) | (simp [pureO_gr, AObj.pureO, pureL, go_sem, AC.pure]; done) | (simp only [List.all_cons, List.all_nil, Bool.and_true]; exact pureO_gr (pureL_map _ (fun x => by simp [go_sem, AC.pure]))) | ((try simp only [List.map_cons, List.map_nil, av_ren_gr]); simp [AV.ren, AV.ren1, AC.ren, pickS]; first | done | omega) | (simp only [List.forall_mem_cons, List.not_mem_nil, false_implies, implies_true, and_true]; (repeat' apply And.intro) <;> first | trivial | exact grV_ok (by simp) _ | exact okN_grO (fun x => by simp [go_sem, AC.pure]) | exact okN_map (fun x => by simp [go_sem, AC.pure]) | (simp [AV.ok, AV.ok1, AC.ok]; done) | (simp [AV.ok, AV.ok1, AC.ok]; omega) | (simp [AObj.okN, AC.ok]; done)) | (simp [AObj.okN]; done))
  · refine SWp.go (by kernel_rfl) ?_
    simp (disch := first | omega | (simp only [go_sem]; first | done | omega)) only [go_sem, hkl]
    refine SWp.go (by kernel_rfl) ?_
    simp (disch := first | omega | (simp only [go_sem]; first | done | omega)) only [go_sem]
    refine SWp.of (by kernel_rfl) ?_
    simp (disch := first | omega | (simp only [go_sem]; first | done | omega)) only [go_sem]
    exact Ret.frzGr 0 (HOk.str hH) (by simp) rfl (pureL_map l (fun x => by simp [go_sem, AC.pure])) (by rw [map_grV]; simp) (hk l j1 q6 (by omega) (by omega) q3)
end Go.Proofs.YtnpdbnkgipkgaaaGreat
