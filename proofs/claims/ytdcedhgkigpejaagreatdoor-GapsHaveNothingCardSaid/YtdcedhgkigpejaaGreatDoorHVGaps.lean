/- Intervals without a sample that is not bad: the program. Condition: the list is not huge. -/
import Derived.Test.YtdcedhgkigpejaaGreatDoorHVGapsM
namespace Go.Proofs.YtdcedhgkigpejaaGreatDoor
open Go Go.RowKit
set_option maxRecDepth 100000
set_option linter.all false
set_option maxHeartbeats 1000000
variable {H : Hp} {K : AV → Hp → Prop}
/-- what the closure is told: where its cells lie -/
structure GapAt (H : Hp) (f m o j : Nat) (most fr : Int) (L : List Win) : Prop where
  hf : H[f]? = some (.row 3 1 [[.int .i64 fr]] true)
  hm : H[m]? = some (.row 3 1 [[.int .i64 most]] true)
  ho : H[o]? = some (.row 63 1 [[grV j L]] true)
  hj : H[j]? = some (grO 62 2 (L.map encW))
  ne : f ≠ m ∧ f ≠ o ∧ f ≠ j ∧ m ≠ o ∧ m ≠ j ∧ o ≠ j
theorem gap_a {f m o j : Nat} {most fr : Int} {L : List Win} (t : Int) (h : GapAt H f m o j most fr L) (hL : L.length ≤ 100000) (ht : 0 ≤ t ∧ t ≤ 345686400001) (hfr : 0 ≤ fr ∧ fr ≤ 345686400001) (hm1 : 1 ≤ most) (hm2 : most ≤ 345686400000)
    (hk : ∀ (j' : Nat) (G : Hp), (∀ i, i < H.length → i ≠ j → i ≠ o → G[i]? = H[i]?) → H.length ≤ G.length → GapAt G f m o j' most fr (gapTo most (fr, L) t).2 → H.length ≤ j' ∨ j' = j → K (.tup []) G) : ACalls Tryz.prog 112 [(.c (.int .i64 t)), .c (.ptr (some (f, 0, 0))), .c (.ptr (some (m, 0, 0))), .c (.ptr (some (o, 0, 0)))] H K := by
  obtain ⟨hf, hm, ho, hj, n1, n2, n3, n4, n5, n6⟩ := h
  have lf := getElem?_lt hf
  have lm := getElem?_lt hm
  have lo := getElem?_lt ho
  have lj := getElem?_lt hj
  by_cases c : most < t - fr
  · refine acalls Tryz.func112 rfl (by kernel_rfl) (by simp (disch := first | omega | (simp only [go_sem]; first | done | omega)) only [go_sem]) (fun hH => ?_)
    simp (disch := first | omega | (simp only [go_sem]; first | done | omega)) only [go_sem, hf, hm, ho, c]
    have hj' := get_old hj [.row 62 2 [[.int .i64 fr, .int .i64 t]] true]
    (refine app_gr (enc := encW) (e := 62) (sz := 2) (bs := 16) (z := [.int .i64 0, .int .i64 0]) (L) (⟨fr, t⟩) (by kernel_rfl) (by kernel_rfl) (by kernel_rfl) (by kernel_rfl) (by first | exact at0 (by simp) | exact at1 (by simp) | exact at2 (by simp) | exact at3 (by simp) | exact at4 (by simp) | exact at5 (by simp) | exact atG 6 (by simp) rfl | exact atG 7 (by simp) rfl | exact atG 8 (by simp) rfl | exact atG 9 (by simp) rfl | exact atG 10 (by simp) rfl | assumption) (by first | (simp (disch := first | omega | (simp only [go_sem]; first | done | omega)) only [go_sem]; done) | (simp (disch := first | omega | (simp only [go_sem]; first | done | omega)) only [go_sem]; rfl) | (simp (disch := first | omega | (simp only [go_sem]; first | done | omega)) only [go_sem]; simp [go_sem]; done) | (simp (disch := first | omega | (simp only [go_sem]; first | done | omega)) only [go_sem]; simp [*]; done)) rfl (by decide) (by omega) (by omega) (by rfl) ?_)
    simp (disch := first | omega | (simp only [go_sem]; first | done | omega)) only [go_sem, ho]
    have eg : (gapTo most (fr, L) t).2 = L ++ [⟨fr, t⟩] := by rw [gapTo, if_pos c]
    have ev : grV (H.length + 1) (L ++ [(⟨fr, t⟩ : Win)]) = .sl (some (H.length + 1, 0)) (L.length + 1) := by rw [grV_pos _ (by simp)]; simp
    have keep : ∀ i, i < H.length → i ≠ j → i ≠ o → (((H.set j AObj.dead).set o (AObj.row 63 1 [[AC.sl (some (H.length + 1, 0)) (L.length + 1)]] true)) ++ [AObj.row 62 2 [[AC.int IntKind.i64 fr, AC.int IntKind.i64 t]] true, grO 62 2 ((L ++ [(⟨fr, t⟩ : Win)]).map encW)])[i]? = H[i]? := fun i hi h1 h2 => by
      rw [List.getElem?_append_left (by simpa using hi), List.getElem?_set_ne (Ne.symm h2), List.getElem?_set_ne (Ne.symm h1)]
    refine Ret.same (by simp) (hk (H.length + 1) _ keep (by simp) ?_ (.inl (by omega)))
    rw [eg]
    refine ⟨(keep f lf n3 n2).trans hf, (keep m lm n5 n4).trans hm, ?_, ?_, n1, n2, by omega, n4, by omega, by omega⟩
    · rw [List.getElem?_append_left (by simpa using lo), List.getElem?_set_self (by simpa using lo), ev]
    · rw [List.getElem?_append_right (by simp)]
      simp
  · refine acalls Tryz.func112 rfl (by kernel_rfl) (by simp (disch := first | omega | (simp only [go_sem]; first | done | omega)) only [go_sem]) (fun hH => ?_)
    simp (disch := first | omega | (simp only [go_sem]; first | done | omega)) only [go_sem, hf, hm, c]
    refine Ret.same (Nat.le_refl _) (hk j H (fun _ _ _ _ => rfl) (Nat.le_refl _) ?_ (.inr rfl))
    rw [gapTo, if_neg c, List.append_nil]
    exact ⟨hf, hm, ho, hj, n1, n2, n3, n4, n5, n6⟩
def gapE (most : Int) : Int := if most < 1 ∨ 345686400000 < most then 1 else 0
def gapsRes (l : List Smp) (w : Win) (most : Int) : List Win × Int := if firstE [serF l, winE w] ≠ 0 then ([], firstE [serF l, winE w]) else if gapE most ≠ 0 then ([], gapE most) else (gapsF most w l, 0)
theorem gaps_a (l : List Smp) (w : Win) (most : Int) (hl : l.length ≤ 1099511627776) (hk : K (.tup [.c (.lst 2 ((gapsRes l w most).1.map encW)), (.c (.int .i64 ((gapsRes l w most).2)))]) H) : ACalls Tryz.prog 33 [.c (.lst 3 (l.map encS)), .agg (encW w), (.c (.int .i64 most))] H K := by
  by_cases h1 : firstE [serF l, winE w] = 0
  case neg =>
    rw [show gapsRes l w most = ([], firstE [serF l, winE w]) by unfold gapsRes; rw [if_pos h1]] at hk
    refine acalls Tryz.func33 rfl (by kernel_rfl) (by simp (disch := first | omega | (simp only [go_sem]; first | done | omega)) only [go_sem]) (fun hH => ?_)
    simp (disch := first | omega | (simp only [go_sem]; first | done | omega)) only [go_sem]
    refine windowFault_a l w hl ?_
    simp (disch := first | omega | (simp only [go_sem]; first | done | omega)) only [go_sem, h1]
    exact Ret.nilT hH (Nat.le_refl _) rfl hk
  by_cases h2 : most < 1 ∨ 345686400000 < most
  · rw [show gapsRes l w most = ([], 1) by unfold gapsRes gapE; rw [if_neg (by simp [h1]), if_pos h2]; rfl] at hk
    refine acalls Tryz.func33 rfl (by kernel_rfl) (by simp (disch := first | omega | (simp only [go_sem]; first | done | omega)) only [go_sem]) (fun hH => ?_)
    simp (disch := first | omega | (simp only [go_sem]; first | done | omega)) only [go_sem]
    refine windowFault_a l w hl ?_
    simp (disch := first | omega | (simp only [go_sem]; first | done | omega)) only [go_sem, h1]
    refine out_a _ _ _ _ _ ?_
    simp (disch := first | omega | (simp only [go_sem]; first | done | omega)) only [go_sem]
    exact Ret.nilT hH (Nat.le_refl _) rfl hk
  rw [show gapsRes l w most = (gapsF most w l, 0) by unfold gapsRes gapE; rw [if_neg (by simp [h1]), if_neg h2]; rfl] at hk
  obtain ⟨h3, h4⟩ := firstE_two h1
  obtain ⟨s1, s2⟩ := serF_ok' h3
  have hwb : 0 ≤ w.a ∧ w.a ≤ w.b ∧ w.b ≤ 345686400000 := by unfold winE at h4; split at h4 <;> omega
  obtain ⟨W, hW⟩ : ∃ W, W = withinF l w := ⟨_, rfl⟩
  have hWl : W.length ≤ 5000 := by rw [hW]; exact Nat.le_trans (List.length_filter_le _ _) s1
  have hWs : ∀ x ∈ W, smpErr x = 0 := fun x hx => by rw [hW] at hx; exact s2 x (List.mem_filter.1 hx).1
  rw [show gapsF most w l = (gapTo most (W.foldl (gapStep most) (w.a, [])) w.b).2 by rw [hW]; rfl] at hk
  refine acalls Tryz.func33 rfl (by kernel_rfl) (by simp (disch := first | omega | (simp only [go_sem]; first | done | omega)) only [go_sem]) (fun hH => ?_)
  simp (disch := first | omega | (simp only [go_sem]; first | done | omega)) only [go_sem]
  refine windowFault_a l w hl ?_
  simp (disch := first | omega | (simp only [go_sem]; first | done | omega)) only [go_sem, h1]
  refine out_a _ _ _ _ _ ?_
  simp (disch := first | omega | (simp only [go_sem]; first | done | omega)) only [go_sem]
  refine within_a l w (by omega) ?_
  rw [← hW]
  simp (disch := first | omega | (simp only [go_sem]; first | done | omega)) only [go_sem]
  refine AWp.loop (H.length + 4) [4, 9, 10, 11, 27, 28] [29] (fun (s : Nat × Nat × Hp) => s.1 ≤ W.length ∧ (∀ i, i < H.length → s.2.2[i]? = H[i]?) ∧ s.2.2[H.length]? = some (.row 62 2 [[.int .i64 w.a, .int .i64 w.b]] true) ∧ GapAt s.2.2 (H.length + 3) (H.length + 1) (H.length + 2) s.2.1 most ((W.take s.1).foldl (gapStep most) (w.a, [])).1 ((W.take s.1).foldl (gapStep most) (w.a, [])).2 ∧ H.length + 4 ≤ s.2.1) (fun (s : Nat × Nat × Hp) => [(29, (.c (.int .i64 (s.1))))]) (fun (s : Nat × Nat × Hp) => s.2.2) (fun (s : Nat × Nat × Hp) => W.length - s.1) (by kernel_rfl) (fun _ => rfl) (by kernel_rfl) (by simp) (by first | (simp; done) | (simp; omega)) (by (try simp only [List.forall_mem_cons, List.not_mem_nil, false_implies, implies_true, and_true]); (try simp (disch := first | omega | (simp only [go_sem]; first | done | omega)) only [go_sem]); all_goals first | trivial | (simp [AV.ok, AV.ok1, AC.ok]; done) | (simp [AV.ok, AV.ok1, AC.ok]; omega) | (simp [AV.ok, AV.ok1, AC.ok]; assumption) | ((repeat' apply And.intro) <;> first | trivial | (simp [AV.ok, AV.ok1, AC.ok]; done) | (simp [AV.ok, AV.ok1, AC.ok]; omega) | (simp [AV.ok, AV.ok1, AC.ok]; assumption) | (refine grV_ok ?_ _; first | (simp; done) | (simp; omega) | omega))) ?_ (fun s hs _ _ => ?_)
  · refine Next.mk (0, H.length + 4, H ++ [.row 62 2 [[.int .i64 w.a, .int .i64 w.b]] true, .row 3 1 [[.int .i64 most]] true, .row 63 1 [[.sl none 0]] true, .row 3 1 [[.int .i64 w.a]] true, .dead]) ⟨by dsimp only; omega, fun i hi => List.getElem?_append_left hi, by simp, ⟨by simp, by simp, by simp [grV], by simp [grO], by dsimp only; omega⟩, by dsimp only; omega⟩ (by simp (disch := first | omega | (simp only [go_sem]; first | done | omega)) only [go_sem]; exact WkL.padP [_, _, _, _] (by simp))
  obtain ⟨k, j, G⟩ := s
  obtain ⟨g1, g2, g3, g4, g5⟩ := hs
  dsimp only at g1 g2 g3 g4 g5
  have lj := getElem?_lt g4.hj
  have lf := getElem?_lt g4.hf
  have lm := getElem?_lt g4.hm
  have lo := getElem?_lt g4.ho
  have hgl : ((W.take k).foldl (gapStep most) (w.a, [])).2.length ≤ 5000 := by
    have h5 := gapTo_len most (endsF (W.take k)) (w.a, [])
    have h6 := endsF_len (W.take k)
    have h7 : (W.take k).length ≤ W.length := by rw [List.length_take]; omega
    rw [gap_ends]
    simp only [List.length_nil, Nat.zero_add] at h5
    omega
  have hgb : 0 ≤ ((W.take k).foldl (gapStep most) (w.a, [])).1 ∧ ((W.take k).foldl (gapStep most) (w.a, [])).1 ≤ 345686400000 + 1 := by
    rw [gap_ends]
    refine gapTo_bd most 345686400000 _ _ (fun t ht => ?_) (by dsimp only; omega) (by dsimp only; omega)
    obtain ⟨x, hx, rfl⟩ := endsF_mem ht
    have := (smp_ok' (hWs x (List.mem_of_mem_take hx))).1
    omega
  by_cases hlt : k < W.length
  · have hn := fold_take (gapStep most) (w.a, []) hlt
    obtain ⟨q1, q2, q3, q4⟩ := smp_ok' (hWs W[k] (List.getElem_mem hlt))
    generalize (W.take k).foldl (gapStep most) (w.a, []) = sk at *
    obtain ⟨fr, L⟩ := sk
    dsimp only at hgl hgb
    have ap : ∀ (o : AObj) (i : Nat), i < G.length → (G ++ [o])[i]? = G[i]? := fun o i hi => List.getElem?_append_left hi
    by_cases c : W[k].q = 2
    · rw [gapStep, if_pos c] at hn
      simp (disch := first | omega | (simp only [go_sem]; first | done | omega)) only [go_sem]
      refine Next.mk (k + 1, j, G ++ [.row 60 3 [[.int .i64 W[k].t, .int .i64 W[k].v, .int .i64 W[k].q]] true]) ⟨⟨by dsimp only; omega, fun i hi => (ap _ i (by omega)).trans (g2 i hi), (ap _ _ (by omega)).trans g3, ?_, g5⟩, by dsimp only; omega⟩ (by (try simp (disch := first | omega | (simp only [go_sem]; first | done | omega)) only [go_sem]); (first | refine WkL.eq ?_ ?_ | refine WkL.rest (by assumption) ?_ ?_ ?_ | refine WkL.keepL (by assumption) rfl ?_ ?_ ?_ ?_) <;> first | rfl | (simp; done) | (simp; omega) | (simp only [List.cons.injEq, AV.c.injEq, AC.int.injEq, AC.bool.injEq, AC.str.injEq, and_true, true_and, Int.natCast_add, Int.natCast_one, Int.cast_ofNat_Int]; omega) | (simp [AV.ok, AV.ok1, AC.ok]; done) | (simp [AV.ok, AV.ok1, AC.ok]; omega) | (simp only [List.forall_mem_cons, List.not_mem_nil, false_implies, implies_true, and_true]; (repeat' apply And.intro) <;> first | exact okN_map (fun x => by simp [go_sem, AC.pure]) | exact okN_grO (fun x => by simp [go_sem, AC.pure]) | (simp [AObj.okN, AC.ok]; done) | (simp [AObj.okN, AC.ok]; omega)) | (simp [*]; done) | grind)
      rw [hn]
      exact ⟨(ap _ _ lf).trans g4.hf, (ap _ _ lm).trans g4.hm, (ap _ _ lo).trans g4.ho, (ap _ _ lj).trans g4.hj, g4.ne⟩
    · rw [gapStep, if_neg c] at hn
      simp (disch := first | omega | (simp only [go_sem]; first | done | omega)) only [go_sem]
      refine gap_a W[k].t (H := G ++ [.row 60 3 [[.int .i64 W[k].t, .int .i64 W[k].v, .int .i64 W[k].q]] true]) (f := H.length + 3) (m := H.length + 1) (o := H.length + 2) (j := j) (most := most) (fr := fr) (L := L) ⟨(ap _ _ lf).trans g4.hf, (ap _ _ lm).trans g4.hm, (ap _ _ lo).trans g4.ho, (ap _ _ lj).trans g4.hj, g4.ne⟩ (by omega) (by omega) (by omega) (by omega) (by omega) (fun j' G2 k1 k2 k3 k4 => ?_)
      rw [List.length_append, List.length_singleton] at k1 k2 k4
      have hx2 : G2[G.length]? = some (.row 60 3 [[.int .i64 W[k].t, .int .i64 W[k].v, .int .i64 W[k].q]] true) := by
        rw [k1 G.length (by omega) (by omega) (by omega)]; simp
      have hf2 := k3.hf
      have lf2 := getElem?_lt hf2
      simp (disch := first | omega | (simp only [go_sem]; first | done | omega)) only [go_sem, hx2, hf2]
      have hst : ∀ (o : AObj) (i : Nat), i ≠ H.length + 3 → (G2.set (H.length + 3) o)[i]? = G2[i]? := fun o i hi => List.getElem?_set_ne (Ne.symm hi)
      refine Next.mk (k + 1, j', G2.set (H.length + 3) (.row 3 1 [[.int .i64 (W[k].t + 1)]] true)) ⟨⟨by dsimp only; omega, fun i hi => ?_, ?_, ?_, by dsimp only; omega⟩, by dsimp only; omega⟩ (by (try simp (disch := first | omega | (simp only [go_sem]; first | done | omega)) only [go_sem]); (first | refine WkL.eq ?_ ?_ | refine WkL.rest (by assumption) ?_ ?_ ?_ | refine WkL.keepL (by assumption) rfl ?_ ?_ ?_ ?_) <;> first | rfl | (simp; done) | (simp; omega) | (simp only [List.cons.injEq, AV.c.injEq, AC.int.injEq, AC.bool.injEq, AC.str.injEq, and_true, true_and, Int.natCast_add, Int.natCast_one, Int.cast_ofNat_Int]; omega) | (simp [AV.ok, AV.ok1, AC.ok]; done) | (simp [AV.ok, AV.ok1, AC.ok]; omega) | (simp only [List.forall_mem_cons, List.not_mem_nil, false_implies, implies_true, and_true]; (repeat' apply And.intro) <;> first | exact okN_map (fun x => by simp [go_sem, AC.pure]) | exact okN_grO (fun x => by simp [go_sem, AC.pure]) | (simp [AObj.okN, AC.ok]; done) | (simp [AObj.okN, AC.ok]; omega)) | (simp [*]; done) | grind)
      · dsimp only
        rw [hst _ _ (by omega), k1 i (by omega) (by omega) (by omega), ap _ _ (by omega), g2 i hi]
      · dsimp only
        rw [hst _ _ (by omega), k1 _ (by omega) (by omega) (by omega), ap _ _ (by omega), g3]
      · dsimp only
        rw [hn]
        obtain ⟨e1, e2, e3, e4, e5⟩ := k3
        exact ⟨List.getElem?_set_self lf2, (hst _ _ (by omega)).trans e2, (hst _ _ (by omega)).trans e3, (hst _ _ (by omega)).trans e4, e5⟩
  · rw [List.take_of_length_le (by omega)] at g4 hgl hgb
    generalize W.foldl (gapStep most) (w.a, []) = sk at *
    obtain ⟨fr, L⟩ := sk
    dsimp only at hgl hgb
    simp (disch := first | omega | (simp only [go_sem]; first | done | omega)) only [go_sem, g3]
    refine gap_a w.b (H := G) (f := H.length + 3) (m := H.length + 1) (o := H.length + 2) (j := j) (most := most) (fr := fr) (L := L) g4 (by omega) (by omega) (by omega) (by omega) (by omega) (fun j' G2 k1 k2 k3 k4 => ?_)
    have ho2 := k3.ho
    simp (disch := first | omega | (simp only [go_sem]; first | done | omega)) only [go_sem, ho2]
    obtain ⟨M, hM⟩ : ∃ M, G2 = H ++ M := by
      refine ⟨G2.drop H.length, ?_⟩
      have : G2.take H.length = H := by
        apply List.ext_getElem?
        intro i
        rw [List.getElem?_take]
        split
        · rename_i hi
          rw [k1 i (by omega) (by omega) (by omega), g2 i hi]
        · rename_i hi
          rw [List.getElem?_eq_none (by omega)]
      conv => lhs; rw [← List.take_append_drop H.length G2, this]
    subst hM
    have hj2 := k3.hj
    obtain ⟨q, rfl⟩ : ∃ q, j' = H.length + q := ⟨j' - H.length, by omega⟩
    rw [List.getElem?_append_right (by omega), Nat.add_sub_cancel_left] at hj2
    exact Ret.frzGrT q hH (Nat.le_refl _) hj2 (pureL_encW _) rfl (map_grV _ _ _).symm hk
end Go.Proofs.YtdcedhgkigpejaaGreatDoor
