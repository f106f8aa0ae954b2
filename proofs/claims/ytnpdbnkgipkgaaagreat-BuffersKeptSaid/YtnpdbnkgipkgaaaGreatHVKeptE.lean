/- The document's answer: steps applied to a buffer. Condition: at most 2000 of them, and the buffer is never over its capacity. -/
import Derived.Test.YtnpdbnkgipkgaaaGreatHVKeptD
import Derived.Test.YtnpdbnkgipkgaaaGreatHVNodeF
namespace Go.Proofs.YtnpdbnkgipkgaaaGreat
open Go Go.RowKit
set_option maxRecDepth 100000
set_option linter.all false
set_option maxHeartbeats 8000000
variable {H : Hp} {K : AV → Hp → Prop}
theorem SWp.thr {P : Program} {n N : Nat} {L : List Tmp} {x y : Code} {Q : AExit → Fr → Hp → Prop} {F : Fr} (h : SWp P n N L x (QS P n N L y Q) F H) : SWp P n N L (.seq x y) Q F H := SWp.seq h
theorem addE_any (l : List Int) (o : List Pk) : ∀ (e : List Int), (∀ z, z ∈ (o.map (fun q => q.n)).foldl addE e ↔ z ∈ e ∨ ∃ q ∈ o, q.n = z) := by
  intro e z
  rw [addE_all]
  simp
/-- what was sent is what was ever sent -/
theorem ever_ok (c p : Int) (l : List Stp) : ∀ k, k ≤ l.length → ∀ z, z ∈ (playF c p (l.take k)).ever ↔ ∃ q ∈ (playF c p (l.take k)).out, q.n = z := by
  intro k
  induction k with
  | zero => intro _ z; rw [play_nil]; simp [nd0]
  | succ k ih =>
    intro hk z
    have ih := ih (by omega) z
    rw [play_next c p (by omega)]
    generalize playF c p (l.take k) = nd at *
    unfold stepF
    split
    · unfold putF
      split
      · split <;> exact ih
      · exact ih
    split
    · unfold sendF
      dsimp only
      rw [addE_all, ih]
      simp only [List.mem_map, List.mem_append]
      constructor
      · rintro (⟨q, h1, h2⟩ | ⟨q, h1, h2⟩)
        · exact ⟨q, .inl h1, h2⟩
        · exact ⟨q, .inr h1, h2⟩
      · rintro ⟨q, h1 | h1, h2⟩
        · exact .inl ⟨q, h1, h2⟩
        · exact .inr ⟨q, h1, h2⟩
    split
    · unfold ackF
      split <;> exact ih
    split
    · exact ih
    · exact ih
theorem nrun_a (c p : Int) (l : List Stp) (hlen : l.length ≤ 2000) (hcnt : ∀ x ∈ l, x.kind = 2 → x.count ≤ 1000000) (hkd : ∀ x ∈ l, x.kind = 1 ∨ x.kind = 2 ∨ x.kind = 3 ∨ x.kind = 4) (hc0 : 0 < c) (hpp : p = 1 ∨ p = 2 ∨ p = 3) (hcap : ∀ k, k ≤ l.length → ((playF c p (l.take k)).l.length : Int) ≤ c)
    (hk : ∀ L s, NodeR H.length (fun q => H[q]?) c p (playF c p l) s (H ++ L) → K (.c (.ptr (some (H.length, 0, 0)))) (H ++ L)) : ACalls Tryz.prog 67 [(.c (.int .i64 c)), (.c (.int .i64 p)), .c (.lst 7 (l.map encStp))] H K := by
  obtain ⟨inv, hinv⟩ : ∃ inv : Nr × Hp × Nat → Prop, inv = fun q => NodeR H.length (fun q => H[q]?) c p (playF c p (l.take q.2.2)) q.1 q.2.1 ∧ q.2.2 ≤ l.length := ⟨_, rfl⟩
  refine acallsS Tryz.func67 rfl (by simp (disch := first | omega | (simp only [go_sem]; first | done | omega)) only [go_sem]) (fun hH => ?_)
  (refine SWp.go (by kernel_rfl) ?_; simp (disch := first | omega | (simp only [go_sem]; first | done | omega)) only [go_sem])
  (refine SWp.go (by kernel_rfl) ?_; simp (disch := first | omega | (simp only [go_sem]; first | done | omega)) only [go_sem])
  refine SWp.thr ?_
  (refine SWp.go (by kernel_rfl) ?_; simp (disch := first | omega | (simp only [go_sem]; first | done | omega)) only [go_sem])
  refine SWp.inB ?_
  refine SWp.loop (H.length + 1) [7, 15, 16] [17] (fun (q : Nr × Hp × Nat) => inv q) (fun (q : Nr × Hp × Nat) => [(17, (.c (.int .i64 (q.2.2))))]) (fun (q : Nr × Hp × Nat) => q.2.1) (fun (q : Nr × Hp × Nat) => l.length - q.2.2) (fun _ => rfl) (by kernel_rfl) (by first | (simp; done) | omega) (by first | (simp; done) | (simp; omega) | omega) (by (try simp only [List.forall_mem_cons, List.not_mem_nil, false_implies, implies_true, and_true]); (try simp (disch := first | omega | (simp only [go_sem]; first | done | omega)) only [go_sem]); all_goals first | trivial | (simp [AV.ok, AV.ok1, AC.ok]; done) | (simp [AV.ok, AV.ok1, AC.ok]; omega) | (simp [AV.ok, AV.ok1, AC.ok]; assumption) | ((repeat' apply And.intro) <;> first | trivial | (simp [AV.ok, AV.ok1, AC.ok]; done) | (simp [AV.ok, AV.ok1, AC.ok]; omega) | (simp [AV.ok, AV.ok1, AC.ok]; assumption) | (refine grV_ok ?_ _; first | (simp; done) | (simp; omega) | omega))) ?_ (fun q hq hm _ => ?_)
  · refine Next.mk (⟨false, H.length + 1, H.length + 2, H.length + 3, H.length + 4, H.length + 5⟩, H ++ [nodeRO c p nd0 ⟨false, H.length + 1, H.length + 2, H.length + 3, H.length + 4, H.length + 5⟩, .dead, .dead, .dead, .dead, .dead], 0) ?_ ?_
    · rw [hinv]
      refine ⟨?_, Nat.zero_le _⟩
      dsimp only
      rw [play_nil]
      refine ⟨?_, ?_, ?_, ?_, ?_, ?_, ?_, ?_⟩
      · intro q o hq
        have := getElem?_lt hq
        refine ⟨get_old hq _, ?_⟩
        simp only [List.mem_cons, List.not_mem_nil, or_false, not_or]
        omega
      all_goals first
        | (rw [List.getElem?_append_right (by dsimp only; omega)]; dsimp only; rw [show H.length - H.length = 0 by omega]; rfl) | (rw [List.getElem?_append_right (by dsimp only; omega)]; dsimp only; rw [Nat.add_sub_cancel_left]; rfl)
        | (simp; done) | (simp; omega)
    · dsimp only
      exact WkL.pad5 [_] (by simp)
  obtain ⟨s', G', k⟩ := q
  rw [hinv] at hq
  obtain ⟨hN', q1⟩ := hq
  dsimp only at hN' q1 hm ⊢
  by_cases hkl : k < l.length
  · have hbd := play_bd c p l k q1 (by omega)
    have hnx := play_next c p hkl
    have hcp := hcap k q1
    have hevk := ever_ok c p l k q1
    obtain ⟨x, hx⟩ : ∃ x, x = l[k] := ⟨_, rfl⟩
    have hxm : x ∈ l := by rw [hx]; exact List.getElem_mem hkl
    rw [← hx] at hnx
    obtain ⟨nd, hnd⟩ : ∃ nd, nd = playF c p (l.take k) := ⟨_, rfl⟩
    rw [← hnd] at hN' hbd hnx hcp hevk
    obtain ⟨b1, b2, b3, b4, b5, b6⟩ := hbd
    have hN1 : ∀ L, NodeR H.length (fun q => H[q]?) c p nd s' (G' ++ L) := fun L => hN'.app L
    have fin : ∀ G2 s2, NodeR H.length (fun q => H[q]?) c p (stepF c p k x nd) s2 G2 → inv (s2, G2, k + 1) := fun G2 s2 h => by
      rw [hinv]
      refine ⟨?_, hkl⟩
      dsimp only
      rw [hnx]
      exact h
    have hpt : ∀ {G2 : Hp} {s2 : Nr} {nd2 : Nd}, NodeR H.length (fun q => H[q]?) c p nd2 s2 G2 → H.length + 1 ≤ G2.length := fun h => getElem?_lt h.hc
    refine SWp.go (by kernel_rfl) ?_
    simp (disch := first | omega | (simp only [go_sem]; first | done | omega)) only [go_sem, hkl]
    refine SWp.go (by kernel_rfl) ?_
    simp (disch := first | omega | (simp only [go_sem]; first | done | omega)) only [go_sem]
    refine SWp.thr (SWp.inB ?_)
    refine SWp.go (by kernel_rfl) ?_
    simp (disch := first | omega | (simp only [go_sem]; first | done | omega)) only [go_sem, hkl, ← hx]
    obtain ⟨inv2, hinv2⟩ : ∃ inv2 : Int × Nr × Hp → Prop, inv2 = fun u => H.length + 1 ≤ u.2.2.length ∧ ((u.1 = 0 ∧ NodeR H.length (fun q => H[q]?) c p (stepF c p k x nd) u.2.1 u.2.2) ∨ (u.1 ≠ 0 ∧ NodeR H.length (fun q => H[q]?) c p nd u.2.1 u.2.2 ∧ stepF c p k x nd = { nd with ref := nd.ref ++ [(k : Int)], why := nd.why ++ [u.1] })) := ⟨_, rfl⟩
    refine SWp.cut (H.length + 1) [7, 8, 15, 16, 17] [10] (fun (u : Int × Nr × Hp) => inv2 u) (fun (u : Int × Nr × Hp) => [(10, (.c (.int .i64 (u.1))))]) (fun (u : Int × Nr × Hp) => u.2.2) (fun _ => rfl) (by kernel_rfl) (by first | (simp; done) | omega) (by first | (simp; done) | (simp; omega) | omega) (by (try simp only [List.forall_mem_cons, List.not_mem_nil, false_implies, implies_true, and_true]); (try simp (disch := first | omega | (simp only [go_sem]; first | done | omega)) only [go_sem]); all_goals first | trivial | (simp [AV.ok, AV.ok1, AC.ok]; done) | (simp [AV.ok, AV.ok1, AC.ok]; omega) | (simp [AV.ok, AV.ok1, AC.ok]; assumption) | ((repeat' apply And.intro) <;> first | trivial | (simp [AV.ok, AV.ok1, AC.ok]; done) | (simp [AV.ok, AV.ok1, AC.ok]; omega) | (simp [AV.ok, AV.ok1, AC.ok]; assumption) | (refine grV_ok ?_ _; first | (simp; done) | (simp; omega) | omega))) ?_ (fun u hu _ _ => ?_)
    · refine SWp.of (by kernel_rfl) ?_
      simp (disch := first | omega | (simp only [go_sem]; first | done | omega)) only [go_sem]
      by_cases k1 : x.kind = 1
      · refine rstep1_a x k1 (hN1 _) hcp hc0 hpp (by omega) (by omega) (by omega) (fun G2 s2 hN2 => ?_)
        simp (disch := first | omega | (simp only [go_sem]; first | done | omega)) only [go_sem]
        refine Next.mk (0, s2, G2) (by rw [hinv2]; exact ⟨hpt hN2, .inl ⟨rfl, by unfold stepF; rw [if_pos k1]; exact hN2⟩⟩) ?_
        (try simp (disch := first | omega | (simp only [go_sem]; first | done | omega)) only [go_sem]); (first | refine WkL.eq ?_ ?_ | refine WkL.rest (by assumption) ?_ ?_ ?_ | refine WkL.keepL (by assumption) rfl ?_ ?_ ?_ ?_) <;> first | rfl | (simp; done) | (simp; omega) | (simp only [List.cons.injEq, AV.c.injEq, AC.int.injEq, AC.bool.injEq, AC.str.injEq, and_true, true_and, Int.natCast_add, Int.natCast_one, Int.cast_ofNat_Int]; omega) | (simp [AV.ok, AV.ok1, AC.ok]; done) | (simp [AV.ok, AV.ok1, AC.ok]; omega) | (simp only [List.forall_mem_cons, List.not_mem_nil, false_implies, implies_true, and_true]; (repeat' apply And.intro) <;> first | exact okN_map (fun x => by simp [go_sem, AC.pure]) | exact okN_grO (fun x => by simp [go_sem, AC.pure]) | (simp [AObj.okN, AC.ok]; done) | (simp [AObj.okN, AC.ok]; omega)) | (simp [*]; done) | grind
      by_cases k2 : x.kind = 2
      · refine rstep2_a x k2 (hN1 _) (hcnt x hxm k2) (by omega) (by omega) (fun G2 s2 hN2 => ?_)
        simp (disch := first | omega | (simp only [go_sem]; first | done | omega)) only [go_sem]
        refine Next.mk (0, s2, G2) (by rw [hinv2]; exact ⟨hpt hN2, .inl ⟨rfl, by unfold stepF; rw [if_neg k1, if_pos k2]; exact hN2⟩⟩) ?_
        (try simp (disch := first | omega | (simp only [go_sem]; first | done | omega)) only [go_sem]); (first | refine WkL.eq ?_ ?_ | refine WkL.rest (by assumption) ?_ ?_ ?_ | refine WkL.keepL (by assumption) rfl ?_ ?_ ?_ ?_) <;> first | rfl | (simp; done) | (simp; omega) | (simp only [List.cons.injEq, AV.c.injEq, AC.int.injEq, AC.bool.injEq, AC.str.injEq, and_true, true_and, Int.natCast_add, Int.natCast_one, Int.cast_ofNat_Int]; omega) | (simp [AV.ok, AV.ok1, AC.ok]; done) | (simp [AV.ok, AV.ok1, AC.ok]; omega) | (simp only [List.forall_mem_cons, List.not_mem_nil, false_implies, implies_true, and_true]; (repeat' apply And.intro) <;> first | exact okN_map (fun x => by simp [go_sem, AC.pure]) | exact okN_grO (fun x => by simp [go_sem, AC.pure]) | (simp [AObj.okN, AC.ok]; done) | (simp [AObj.okN, AC.ok]; omega)) | (simp [*]; done) | grind
      by_cases k3 : x.kind = 3
      · refine rstep3_a x k3 (hN1 _) hevk (by omega) (by omega) (fun he G2 s2 hN2 => ?_) (fun he G2 s2 hN2 => ?_)
        · simp (disch := first | omega | (simp only [go_sem]; first | done | omega)) only [go_sem]
          refine Next.mk (ackE x.seq nd, s2, G2) (by rw [hinv2]; exact ⟨hpt hN2, .inr ⟨he, hN2, by unfold stepF ackF; rw [if_neg k1, if_neg k2, if_pos k3, if_pos he]⟩⟩) ?_
          (try simp (disch := first | omega | (simp only [go_sem]; first | done | omega)) only [go_sem]); (first | refine WkL.eq ?_ ?_ | refine WkL.rest (by assumption) ?_ ?_ ?_ | refine WkL.keepL (by assumption) rfl ?_ ?_ ?_ ?_) <;> first | rfl | (simp; done) | (simp; omega) | (simp only [List.cons.injEq, AV.c.injEq, AC.int.injEq, AC.bool.injEq, AC.str.injEq, and_true, true_and, Int.natCast_add, Int.natCast_one, Int.cast_ofNat_Int]; omega) | (simp [AV.ok, AV.ok1, AC.ok]; done) | (simp [AV.ok, AV.ok1, AC.ok]; omega) | (simp only [List.forall_mem_cons, List.not_mem_nil, false_implies, implies_true, and_true]; (repeat' apply And.intro) <;> first | exact okN_map (fun x => by simp [go_sem, AC.pure]) | exact okN_grO (fun x => by simp [go_sem, AC.pure]) | (simp [AObj.okN, AC.ok]; done) | (simp [AObj.okN, AC.ok]; omega)) | (simp [*]; done) | grind
        · simp (disch := first | omega | (simp only [go_sem]; first | done | omega)) only [go_sem]
          refine Next.mk (0, s2, G2) (by rw [hinv2]; exact ⟨hpt hN2, .inl ⟨rfl, by unfold stepF ackF; rw [if_neg k1, if_neg k2, if_pos k3, if_neg (by omega)]; exact hN2⟩⟩) ?_
          (try simp (disch := first | omega | (simp only [go_sem]; first | done | omega)) only [go_sem]); (first | refine WkL.eq ?_ ?_ | refine WkL.rest (by assumption) ?_ ?_ ?_ | refine WkL.keepL (by assumption) rfl ?_ ?_ ?_ ?_) <;> first | rfl | (simp; done) | (simp; omega) | (simp only [List.cons.injEq, AV.c.injEq, AC.int.injEq, AC.bool.injEq, AC.str.injEq, and_true, true_and, Int.natCast_add, Int.natCast_one, Int.cast_ofNat_Int]; omega) | (simp [AV.ok, AV.ok1, AC.ok]; done) | (simp [AV.ok, AV.ok1, AC.ok]; omega) | (simp only [List.forall_mem_cons, List.not_mem_nil, false_implies, implies_true, and_true]; (repeat' apply And.intro) <;> first | exact okN_map (fun x => by simp [go_sem, AC.pure]) | exact okN_grO (fun x => by simp [go_sem, AC.pure]) | (simp [AObj.okN, AC.ok]; done) | (simp [AObj.okN, AC.ok]; omega)) | (simp [*]; done) | grind
      · have k4 : x.kind = 4 := by have := hkd x hxm; omega
        refine rstep4_a x k1 k2 k3 (hN1 _) (by omega) (fun G2 s2 hN2 => ?_)
        simp (disch := first | omega | (simp only [go_sem]; first | done | omega)) only [go_sem]
        refine Next.mk (0, s2, G2) (by rw [hinv2]; exact ⟨hpt hN2, .inl ⟨rfl, by unfold stepF; rw [if_neg k1, if_neg k2, if_neg k3, if_pos k4]; exact hN2⟩⟩) ?_
        (try simp (disch := first | omega | (simp only [go_sem]; first | done | omega)) only [go_sem]); (first | refine WkL.eq ?_ ?_ | refine WkL.rest (by assumption) ?_ ?_ ?_ | refine WkL.keepL (by assumption) rfl ?_ ?_ ?_ ?_) <;> first | rfl | (simp; done) | (simp; omega) | (simp only [List.cons.injEq, AV.c.injEq, AC.int.injEq, AC.bool.injEq, AC.str.injEq, and_true, true_and, Int.natCast_add, Int.natCast_one, Int.cast_ofNat_Int]; omega) | (simp [AV.ok, AV.ok1, AC.ok]; done) | (simp [AV.ok, AV.ok1, AC.ok]; omega) | (simp only [List.forall_mem_cons, List.not_mem_nil, false_implies, implies_true, and_true]; (repeat' apply And.intro) <;> first | exact okN_map (fun x => by simp [go_sem, AC.pure]) | exact okN_grO (fun x => by simp [go_sem, AC.pure]) | (simp [AObj.okN, AC.ok]; done) | (simp [AObj.okN, AC.ok]; omega)) | (simp [*]; done) | grind
    obtain ⟨er, s2, G2⟩ := u
    rw [hinv2] at hu
    dsimp only at hu ⊢
    obtain ⟨hl2, hu⟩ := hu
    clear hN1 hN' hevk hcp hnx hcap hcnt hkd hinv hinv2 hpt
    rcases hu with ⟨rfl, hN2⟩ | ⟨he, hN2, es⟩
    · refine SWp.of (by kernel_rfl) ?_
      simp (disch := first | omega | (simp only [go_sem]; first | done | omega)) only [go_sem]
      refine SWp.of (by kernel_rfl) ?_
      simp (disch := first | omega | (simp only [go_sem]; first | done | omega)) only [go_sem]
      refine Next.mk (s2, G2, k + 1) ⟨fin _ _ hN2, by dsimp only; omega⟩ ?_
      (try simp (disch := first | omega | (simp only [go_sem]; first | done | omega)) only [go_sem]); (first | refine WkL.eq ?_ ?_ | refine WkL.rest (by assumption) ?_ ?_ ?_ | refine WkL.keepL (by assumption) rfl ?_ ?_ ?_ ?_) <;> first | rfl | (simp; done) | (simp; omega) | (simp only [List.cons.injEq, AV.c.injEq, AC.int.injEq, AC.bool.injEq, AC.str.injEq, and_true, true_and, Int.natCast_add, Int.natCast_one, Int.cast_ofNat_Int]; omega) | (simp [AV.ok, AV.ok1, AC.ok]; done) | (simp [AV.ok, AV.ok1, AC.ok]; omega) | (simp only [List.forall_mem_cons, List.not_mem_nil, false_implies, implies_true, and_true]; (repeat' apply And.intro) <;> first | exact okN_map (fun x => by simp [go_sem, AC.pure]) | exact okN_grO (fun x => by simp [go_sem, AC.pure]) | (simp [AObj.okN, AC.ok]; done) | (simp [AObj.okN, AC.ok]; omega)) | (simp [*]; done) | grind
    · rw [es] at fin
      obtain ⟨rf, hrf⟩ : ∃ rf, rf = nd.ref ++ [(k : Int)] := ⟨_, rfl⟩
      obtain ⟨wy, hwy⟩ : ∃ wy, wy = nd.why ++ [er] := ⟨_, rfl⟩
      rw [← hrf, ← hwy] at fin
      clear es
      have hc5 := hN2.hc
      have hcl := getElem?_lt hc5
      unfold nodeRO at hc5
      have hr := hN2.hr
      have hrl := getElem?_lt hr
      have hw := hN2.hw
      have hwl := getElem?_lt hw
      obtain ⟨d1, d2, d3⟩ : s2.r ≠ H.length ∧ s2.w ≠ H.length ∧ s2.r ≠ s2.w := by
        have ne := hN2.ne
        simp only [List.nodup_cons, List.mem_cons, List.not_mem_nil, or_false, not_or, List.nodup_nil, and_true, not_false_eq_true] at ne
        omega
      refine SWp.of (by kernel_rfl) ?_
      simp (disch := first | omega | (simp only [go_sem]; first | done | omega)) only [go_sem, he, hc5, hcl]
      repeat' (first | ((first | refine acond_d ?_ ?_ | refine acond_b ?_ ?_ | refine ag_d ?_ ?_ | refine ag_n ?_ ?_ | refine ag_bt ?_ ?_ | refine ag_bf ?_ ?_ | refine agt_d ?_ ?_ | refine agt_n ?_ ?_ | refine agt_bt ?_ ?_ | refine agt_bf ?_ ?_) <;> intro c <;> try simp (disch := first | omega | (simp only [go_sem]; first | done | omega)) only [go_sem, c, hc5, hcl, hr, hrl, hw, hwl]) | ((first | refine w_draw (by kernel_rfl) (by decide +kernel) ?_ | refine appI nd.ref (k : Int) rf hrf (get_old hr _) (by first | exact at0 (by simp) | exact at1 (by simp) | exact at2 (by simp) | exact at3 (by simp) | exact at4 (by simp) | exact at5 (by simp) | exact atG 6 (by simp) rfl | exact atG 7 (by simp) rfl | exact atG 8 (by simp) rfl | exact atG 9 (by simp) rfl | exact atG 10 (by simp) rfl | exact atG 11 (by simp) rfl | exact atG 12 (by simp) rfl | exact atG 13 (by simp) rfl | exact atG 14 (by simp) rfl | exact atG 15 (by simp) rfl | assumption) (by omega) ?_ | refine appI nd.ref (k : Int) rf hrf (get_s1 hr (Ne.symm d3)) (by first | exact at0 (by simp) | exact at1 (by simp) | exact at2 (by simp) | exact at3 (by simp) | exact at4 (by simp) | exact at5 (by simp) | exact atG 6 (by simp) rfl | exact atG 7 (by simp) rfl | exact atG 8 (by simp) rfl | exact atG 9 (by simp) rfl | exact atG 10 (by simp) rfl | exact atG 11 (by simp) rfl | exact atG 12 (by simp) rfl | exact atG 13 (by simp) rfl | exact atG 14 (by simp) rfl | exact atG 15 (by simp) rfl | assumption) (by omega) ?_ | refine appE nd.why er wy hwy (get_s1 hw d3) (by first | exact at0 (by simp) | exact at1 (by simp) | exact at2 (by simp) | exact at3 (by simp) | exact at4 (by simp) | exact at5 (by simp) | exact atG 6 (by simp) rfl | exact atG 7 (by simp) rfl | exact atG 8 (by simp) rfl | exact atG 9 (by simp) rfl | exact atG 10 (by simp) rfl | exact atG 11 (by simp) rfl | exact atG 12 (by simp) rfl | exact atG 13 (by simp) rfl | exact atG 14 (by simp) rfl | exact atG 15 (by simp) rfl | assumption) (by omega) ?_ | refine appE nd.why er wy hwy (get_old hw _) (by first | exact at0 (by simp) | exact at1 (by simp) | exact at2 (by simp) | exact at3 (by simp) | exact at4 (by simp) | exact at5 (by simp) | exact atG 6 (by simp) rfl | exact atG 7 (by simp) rfl | exact atG 8 (by simp) rfl | exact atG 9 (by simp) rfl | exact atG 10 (by simp) rfl | exact atG 11 (by simp) rfl | exact atG 12 (by simp) rfl | exact atG 13 (by simp) rfl | exact atG 14 (by simp) rfl | exact atG 15 (by simp) rfl | assumption) (by omega) ?_ | refine w_tree (.one 0 (.one 1 (.one 2 (.one 3 (.one 4 (.one 5 (.one 6 (.one 9 (.one 10 (.one 11 (.one 13 (.three 7 (.three 8 (.one 12 (.one 14 (.one 15 (.one 16 (.one 17 (.one 18 (.one 19 (.one 20 (.one 21 .done))))))))) 12 (.two 8 (.one 14 (.one 15 (.one 16 (.one 17 (.one 18 (.one 19 (.one 20 (.one 21 .done)))))))) 14 (.one 8 (.one 15 (.one 16 (.one 17 (.one 18 (.one 19 (.one 20 (.one 21 .done))))))))) 14 (.two 8 (.one 12 (.one 15 (.one 16 (.one 17 (.one 18 (.one 19 (.one 20 (.one 21 .done)))))))) 12 (.one 8 (.one 15 (.one 16 (.one 17 (.one 18 (.one 19 (.one 20 (.one 21 .done)))))))))) 12 (.two 7 (.two 8 (.one 14 (.one 15 (.one 16 (.one 17 (.one 18 (.one 19 (.one 20 (.one 21 .done)))))))) 14 (.one 8 (.one 15 (.one 16 (.one 17 (.one 18 (.one 19 (.one 20 (.one 21 .done))))))))) 14 (.one 7 (.one 8 (.one 15 (.one 16 (.one 17 (.one 18 (.one 19 (.one 20 (.one 21 .done)))))))))) 14 (.two 7 (.two 8 (.one 12 (.one 15 (.one 16 (.one 17 (.one 18 (.one 19 (.one 20 (.one 21 .done)))))))) 12 (.one 8 (.one 15 (.one 16 (.one 17 (.one 18 (.one 19 (.one 20 (.one 21 .done))))))))) 12 (.one 7 (.one 8 (.one 15 (.one 16 (.one 17 (.one 18 (.one 19 (.one 20 (.one 21 .done)))))))))))))))))))))) (by kernel_rfl) (by decide +kernel) ?_) <;> try simp (disch := first | omega | (simp only [go_sem]; first | done | omega)) only [go_sem, hc5, hcl, hr, hrl, hw, hwl]) | (refine And.intro ?_ ?_ <;> try simp (disch := first | omega | (simp only [go_sem]; first | done | omega)) only [go_sem, hc5, hcl, hr, hrl, hw, hwl]))
      all_goals
        refine SWp.of (by kernel_rfl) ?_
        simp (disch := first | omega | (simp only [go_sem]; first | done | omega)) only [go_sem]
      all_goals first
        | (refine Next.mk ({ s2 with r := G2.length + 1, w := G2.length + 3 }, _, k + 1) ⟨fin _ _ ⟨?_, ?_, ?_, ?_, ?_, ?_, ?_, ?_⟩, by dsimp only; omega⟩ (WkL.eq (by simp; omega) rfl); rotate_left 1; focus (rw [List.getElem?_append_left (by simp only [List.length_set]; omega), List.getElem?_set_self (by simp only [List.length_set]; omega)]; rfl))
        | (refine Next.mk ({ s2 with r := G2.length + 2, w := G2.length + 3 }, _, k + 1) ⟨fin _ _ ⟨?_, ?_, ?_, ?_, ?_, ?_, ?_, ?_⟩, by dsimp only; omega⟩ (WkL.eq (by simp; omega) rfl); rotate_left 1; focus (rw [List.getElem?_append_left (by simp only [List.length_set]; omega), List.getElem?_set_self (by simp only [List.length_set]; omega)]; rfl))
        | (refine Next.mk ({ s2 with r := G2.length + 3, w := G2.length + 2 }, _, k + 1) ⟨fin _ _ ⟨?_, ?_, ?_, ?_, ?_, ?_, ?_, ?_⟩, by dsimp only; omega⟩ (WkL.eq (by simp; omega) rfl); rotate_left 1; focus (rw [List.getElem?_append_left (by simp only [List.length_set]; omega), List.getElem?_set_self (by simp only [List.length_set]; omega)]; rfl))
        | (refine Next.mk ({ s2 with r := G2.length + 3, w := G2.length + 1 }, _, k + 1) ⟨fin _ _ ⟨?_, ?_, ?_, ?_, ?_, ?_, ?_, ?_⟩, by dsimp only; omega⟩ (WkL.eq (by simp; omega) rfl); rotate_left 1; focus (rw [List.getElem?_append_left (by simp only [List.length_set]; omega), List.getElem?_set_self (by simp only [List.length_set]; omega)]; rfl))
      all_goals
        obtain ⟨pre, hc, hl, ho, hd, hr, hw, ne⟩ := hN2
        simp only [List.nodup_cons, List.mem_cons, List.not_mem_nil, or_false, not_or, List.nodup_nil, and_true, not_false_eq_true] at ne
        have hll := getElem?_lt hl
        have hol := getElem?_lt ho
        have hdl := getElem?_lt hd
        (first | (simp only [List.nodup_cons, List.mem_cons, List.not_mem_nil, or_false, not_or, List.nodup_nil, and_true, not_false_eq_true]; (try dsimp only); (repeat' apply And.intro) <;> omega) | (intro q o hq; obtain ⟨g1, g2⟩ := pre q o hq; have g3 := getElem?_lt g1; simp only [List.mem_cons, List.not_mem_nil, or_false, not_or] at g2 ⊢; refine ⟨?_, by (try dsimp only); omega⟩; (try rw [List.getElem?_append_left (by (try simp only [List.length_set]); omega)]); (repeat rw [List.getElem?_set_ne (by omega)]); exact g1) | ((try dsimp only); (try rw [List.getElem?_append_left (by (try simp only [List.length_set]); omega)]); (repeat rw [List.getElem?_set_ne (by omega)]); first | assumption | (rw [List.getElem?_set_self (by (try simp only [List.length_set]); omega)]; done) | (rw [List.getElem?_set_self (by (try simp only [List.length_set]); omega)]; rfl) | (rw [List.getElem?_set_self (by (try simp only [List.length_set]); omega)]; simp [nodeO, hdV, hdO, *]; done)) | ((try dsimp only); rw [List.getElem?_append_right (by (try simp only [List.length_set]); omega)]; (try simp only [List.length_set, Nat.add_sub_cancel_left, Nat.sub_self]); rfl))
  · refine SWp.go (by kernel_rfl) ?_
    simp (disch := first | omega | (simp only [go_sem]; first | done | omega)) only [go_sem, hkl]
    refine SWp.go (by kernel_rfl) ?_
    simp (disch := first | omega | (simp only [go_sem]; first | done | omega)) only [go_sem]
    refine SWp.of (by kernel_rfl) ?_
    simp (disch := first | omega | (simp only [go_sem]; first | done | omega)) only [go_sem]
    rw [List.take_of_length_le (by omega)] at hN'
    obtain ⟨L, rfl⟩ := ext_of (fun q o h => (hN'.pre q o h).1)
    exact Ret.same (by simp) (hk L s' hN')
end Go.Proofs.YtnpdbnkgipkgaaaGreat
