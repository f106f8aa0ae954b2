/- The document's bins of a series. Condition: the times rise, numbers are small. -/
import Derived.Test.YtkmkkjlfnobciaaGreatVBinsOfM
namespace Go.Proofs.YtkmkkjlfnobciaaGreat
open Go Go.RowKit
set_option maxRecDepth 100000
set_option linter.all false
set_option maxHeartbeats 1000000
variable {H : Hp} {K : AV → Hp → Prop}
theorem pureL_encI (l : List Int) : pureL (l.map encI) = true := by simp [pureL, encI, AC.pure]
theorem minI_a (g : List Int) (h0 : g ≠ []) (hl : g.length ≤ 1000000) (hk : K (.c (.int .i64 (minL g))) H) : ACalls Tryz.prog 109 [.c (.lst 1 (g.map encI))] H K := by
  have h1 : 0 < g.length := List.length_pos_iff.2 h0
  have h2 : minL (g.take 1) = g[0] := by cases g with | nil => exact absurd rfl h0 | cons x t => rfl
  refine acalls Tryz.func109 rfl (by kernel_rfl) (by simp (disch := first | omega | (simp only [go_sem]; first | done | omega)) only [go_sem]) (fun hH => ?_)
  simp (disch := first | omega | (simp only [go_sem]; first | done | omega)) only [go_sem]
  refine AWp.loop (H.length) [0] [4, 3] (fun (k : Nat) => 1 ≤ k ∧ k ≤ g.length) (fun (k : Nat) => [(4, (.c (.int .i64 k))), (3, (.c (.int .i64 (minL (g.take k)))))]) (fun (k : Nat) => H) (fun (k : Nat) => g.length - k) (by kernel_rfl) (fun _ => rfl) (by kernel_rfl) (by simp) (by first | (simp; done) | (simp; omega)) (by (try simp only [List.forall_mem_cons, List.not_mem_nil, false_implies, implies_true, and_true]); (try simp (disch := first | omega | (simp only [go_sem]; first | done | omega)) only [go_sem]); first | trivial | (simp [AV.ok, AV.ok1, AC.ok]; done) | (simp [AV.ok, AV.ok1, AC.ok]; omega) | (simp [AV.ok, AV.ok1, AC.ok]; assumption) | ((repeat' apply And.intro) <;> first | trivial | (simp [AV.ok, AV.ok1, AC.ok]; done) | (simp [AV.ok, AV.ok1, AC.ok]; omega) | (simp [AV.ok, AV.ok1, AC.ok]; assumption) | (refine grV_ok ?_ _; first | (simp; done) | (simp; omega) | omega))) ?_ (fun k hk1 _ _ => ?_)
  · exact Next.mk 1 ⟨by omega, by omega⟩ (by rw [h2]; (try simp (disch := first | omega | (simp only [go_sem]; first | done | omega)) only [go_sem]); (first | refine WkL.eq ?_ ?_ | refine WkL.rest (by assumption) ?_ ?_ ?_ | refine WkL.keepL (by assumption) rfl ?_ ?_ ?_ ?_) <;> first | rfl | (simp; done) | (simp; omega) | (simp only [List.cons.injEq, AV.c.injEq, AC.int.injEq, AC.bool.injEq, AC.str.injEq, and_true, true_and, Int.natCast_add, Int.natCast_one, Int.cast_ofNat_Int]; omega) | (simp [AV.ok, AV.ok1, AC.ok]; done) | (simp [AV.ok, AV.ok1, AC.ok]; omega) | (simp only [List.forall_mem_cons, List.not_mem_nil, false_implies, implies_true, and_true]; (repeat' apply And.intro) <;> first | exact okN_map (fun x => by simp [go_sem, AC.pure]) | exact okN_grO (fun x => by simp [go_sem, AC.pure]) | (simp [AObj.okN, AC.ok]; done) | (simp [AObj.okN, AC.ok]; omega)) | (simp [*]; done) | grind)
  by_cases hlt : k < g.length
  · have h3 : minL (g.take (k + 1)) = min (minL (g.take k)) g[k] := by
      rw [List.take_succ_eq_append_getElem hlt, minL_snoc, if_neg (by intro h; have := congrArg List.length h; rw [List.length_take] at this; simp only [List.length_nil] at this; omega)]
    simp (disch := first | omega | (simp only [go_sem]; first | done | omega)) only [go_sem]
    exact Next.mk (k + 1) ⟨⟨by omega, by omega⟩, by omega⟩ (by rw [h3]; (try simp (disch := first | omega | (simp only [go_sem]; first | done | omega)) only [go_sem]); (first | refine WkL.eq ?_ ?_ | refine WkL.rest (by assumption) ?_ ?_ ?_ | refine WkL.keepL (by assumption) rfl ?_ ?_ ?_ ?_) <;> first | rfl | (simp; done) | (simp; omega) | (simp only [List.cons.injEq, AV.c.injEq, AC.int.injEq, AC.bool.injEq, AC.str.injEq, and_true, true_and, Int.natCast_add, Int.natCast_one, Int.cast_ofNat_Int]; omega) | (simp [AV.ok, AV.ok1, AC.ok]; done) | (simp [AV.ok, AV.ok1, AC.ok]; omega) | (simp only [List.forall_mem_cons, List.not_mem_nil, false_implies, implies_true, and_true]; (repeat' apply And.intro) <;> first | exact okN_map (fun x => by simp [go_sem, AC.pure]) | exact okN_grO (fun x => by simp [go_sem, AC.pure]) | (simp [AObj.okN, AC.ok]; done) | (simp [AObj.okN, AC.ok]; omega)) | (simp [*]; done) | grind)
  · simp (disch := first | omega | (simp only [go_sem]; first | done | omega)) only [go_sem]
    try rw [List.take_of_length_le (by omega)]
    exact Ret.same (Nat.le_refl _) hk
theorem maxI_a (g : List Int) (h0 : g ≠ []) (hl : g.length ≤ 1000000) (hk : K (.c (.int .i64 (maxL g))) H) : ACalls Tryz.prog 110 [.c (.lst 1 (g.map encI))] H K := by
  have h1 : 0 < g.length := List.length_pos_iff.2 h0
  have h2 : maxL (g.take 1) = g[0] := by cases g with | nil => exact absurd rfl h0 | cons x t => rfl
  refine acalls Tryz.func110 rfl (by kernel_rfl) (by simp (disch := first | omega | (simp only [go_sem]; first | done | omega)) only [go_sem]) (fun hH => ?_)
  simp (disch := first | omega | (simp only [go_sem]; first | done | omega)) only [go_sem]
  refine AWp.loop (H.length) [0] [4, 3] (fun (k : Nat) => 1 ≤ k ∧ k ≤ g.length) (fun (k : Nat) => [(4, (.c (.int .i64 k))), (3, (.c (.int .i64 (maxL (g.take k)))))]) (fun (k : Nat) => H) (fun (k : Nat) => g.length - k) (by kernel_rfl) (fun _ => rfl) (by kernel_rfl) (by simp) (by first | (simp; done) | (simp; omega)) (by (try simp only [List.forall_mem_cons, List.not_mem_nil, false_implies, implies_true, and_true]); (try simp (disch := first | omega | (simp only [go_sem]; first | done | omega)) only [go_sem]); first | trivial | (simp [AV.ok, AV.ok1, AC.ok]; done) | (simp [AV.ok, AV.ok1, AC.ok]; omega) | (simp [AV.ok, AV.ok1, AC.ok]; assumption) | ((repeat' apply And.intro) <;> first | trivial | (simp [AV.ok, AV.ok1, AC.ok]; done) | (simp [AV.ok, AV.ok1, AC.ok]; omega) | (simp [AV.ok, AV.ok1, AC.ok]; assumption) | (refine grV_ok ?_ _; first | (simp; done) | (simp; omega) | omega))) ?_ (fun k hk1 _ _ => ?_)
  · exact Next.mk 1 ⟨by omega, by omega⟩ (by rw [h2]; (try simp (disch := first | omega | (simp only [go_sem]; first | done | omega)) only [go_sem]); (first | refine WkL.eq ?_ ?_ | refine WkL.rest (by assumption) ?_ ?_ ?_ | refine WkL.keepL (by assumption) rfl ?_ ?_ ?_ ?_) <;> first | rfl | (simp; done) | (simp; omega) | (simp only [List.cons.injEq, AV.c.injEq, AC.int.injEq, AC.bool.injEq, AC.str.injEq, and_true, true_and, Int.natCast_add, Int.natCast_one, Int.cast_ofNat_Int]; omega) | (simp [AV.ok, AV.ok1, AC.ok]; done) | (simp [AV.ok, AV.ok1, AC.ok]; omega) | (simp only [List.forall_mem_cons, List.not_mem_nil, false_implies, implies_true, and_true]; (repeat' apply And.intro) <;> first | exact okN_map (fun x => by simp [go_sem, AC.pure]) | exact okN_grO (fun x => by simp [go_sem, AC.pure]) | (simp [AObj.okN, AC.ok]; done) | (simp [AObj.okN, AC.ok]; omega)) | (simp [*]; done) | grind)
  by_cases hlt : k < g.length
  · have h3 : maxL (g.take (k + 1)) = max (maxL (g.take k)) g[k] := by
      rw [List.take_succ_eq_append_getElem hlt, maxL_snoc, if_neg (by intro h; have := congrArg List.length h; rw [List.length_take] at this; simp only [List.length_nil] at this; omega)]
    simp (disch := first | omega | (simp only [go_sem]; first | done | omega)) only [go_sem]
    exact Next.mk (k + 1) ⟨⟨by omega, by omega⟩, by omega⟩ (by rw [h3]; (try simp (disch := first | omega | (simp only [go_sem]; first | done | omega)) only [go_sem]); (first | refine WkL.eq ?_ ?_ | refine WkL.rest (by assumption) ?_ ?_ ?_ | refine WkL.keepL (by assumption) rfl ?_ ?_ ?_ ?_) <;> first | rfl | (simp; done) | (simp; omega) | (simp only [List.cons.injEq, AV.c.injEq, AC.int.injEq, AC.bool.injEq, AC.str.injEq, and_true, true_and, Int.natCast_add, Int.natCast_one, Int.cast_ofNat_Int]; omega) | (simp [AV.ok, AV.ok1, AC.ok]; done) | (simp [AV.ok, AV.ok1, AC.ok]; omega) | (simp only [List.forall_mem_cons, List.not_mem_nil, false_implies, implies_true, and_true]; (repeat' apply And.intro) <;> first | exact okN_map (fun x => by simp [go_sem, AC.pure]) | exact okN_grO (fun x => by simp [go_sem, AC.pure]) | (simp [AObj.okN, AC.ok]; done) | (simp [AObj.okN, AC.ok]; omega)) | (simp [*]; done) | grind)
  · simp (disch := first | omega | (simp only [go_sem]; first | done | omega)) only [go_sem]
    try rw [List.take_of_length_le (by omega)]
    exact Ret.same (Nat.le_refl _) hk
theorem minGr_a (g : List Int) {i : Nat} (hi : H[i]? = some (grO 3 1 (g.map encI))) (h0 : g ≠ []) (hl : g.length ≤ 1000000) (hk : K (.c (.int .i64 (minL g))) H) : ACalls Tryz.prog 109 [.c (grV i g)] H K := by
  rw [← map_grV encI]
  exact ACalls.lendGr (.c (.int .i64 (minL g))) hi (pureL_encI g) rfl rfl rfl (by simp) (fun G J hJ => minI_a g h0 hl hJ) hk
theorem maxGr_a (g : List Int) {i : Nat} (hi : H[i]? = some (grO 3 1 (g.map encI))) (h0 : g ≠ []) (hl : g.length ≤ 1000000) (hk : K (.c (.int .i64 (maxL g))) H) : ACalls Tryz.prog 110 [.c (grV i g)] H K := by
  rw [← map_grV encI]
  exact ACalls.lendGr (.c (.int .i64 (maxL g))) hi (pureL_encI g) rfl rfl rfl (by simp) (fun G J hJ => maxI_a g h0 hl hJ) hk
def Smp.small (x : Smp) : Prop := 0 ≤ x.t ∧ x.t ≤ 345686399999 ∧ -1000000 ≤ x.v ∧ x.v ≤ 1000000
theorem sum_bd : ∀ (g : List Int), (∀ v ∈ g, -1000000 ≤ v ∧ v ≤ 1000000) → -1000000 * (g.length : Int) ≤ g.sum ∧ g.sum ≤ 1000000 * (g.length : Int)
  | [], _ => by simp
  | x :: t, h => by
    have h1 := h x (by simp)
    have h2 := sum_bd t (fun v hv => h v (by simp [hv]))
    simp only [List.sum_cons, List.length_cons]
    omega
theorem binsOf_o (l : List Smp) (step : Int) (hlen : l.length ≤ 5000) (hs1 : 1 ≤ step) (hs2 : step ≤ 86400000) (hbd : ∀ x ∈ l, x.small) (hinc : incS l)
    (hk : K (.c (grV H.length (binsF step l))) (H ++ [grO 62 6 ((binsF step l).map encN)])) : ACalls Tryz.prog 78 [.c (.lst 3 (l.map encS)), (.c (.int .i64 step))] H K := by
  have hs0 : step ≠ 0 := by omega
  refine acalls Tryz.func78 rfl (by kernel_rfl) (by simp (disch := first | omega | (simp only [go_sem]; first | done | omega)) only [go_sem]) (fun hH => ?_)
  simp (disch := first | omega | (simp only [go_sem]; first | done | omega)) only [go_sem]
  refine AWp.loop (H.length) [0, 1] [6, 5] (fun (q : Nat × List Bin) => q.1 ≤ l.length ∧ q.2 = binsF step (l.take q.1) ∧ q.2.length ≤ q.1 ∧ ∀ (h : q.1 < l.length), ∀ y ∈ q.2, y.a + step ≤ l[q.1].t) (fun (q : Nat × List Bin) => [(6, (.c (.int .i64 (q.1)))), (5, .c (grV H.length q.2))]) (fun (q : Nat × List Bin) => H ++ [grO 62 6 (q.2.map encN)]) (fun (q : Nat × List Bin) => l.length - q.1) (by kernel_rfl) (fun _ => rfl) (by kernel_rfl) (by simp) (by first | (simp; done) | (simp; omega)) (by (try simp only [List.forall_mem_cons, List.not_mem_nil, false_implies, implies_true, and_true]); (try simp (disch := first | omega | (simp only [go_sem]; first | done | omega)) only [go_sem]); first | trivial | (simp [AV.ok, AV.ok1, AC.ok]; done) | (simp [AV.ok, AV.ok1, AC.ok]; omega) | (simp [AV.ok, AV.ok1, AC.ok]; assumption) | ((repeat' apply And.intro) <;> first | trivial | (simp [AV.ok, AV.ok1, AC.ok]; done) | (simp [AV.ok, AV.ok1, AC.ok]; omega) | (simp [AV.ok, AV.ok1, AC.ok]; assumption) | (refine grV_ok ?_ _; first | (simp; done) | (simp; omega) | omega))) ?_ (fun q hq _ _ => ?_)
  · exact Next.mk (0, []) ⟨by simp, rfl, by simp, by simp⟩ (WkL.pad (by simp))
  obtain ⟨i, out⟩ := q
  obtain ⟨q1, q2, q3, q4⟩ := hq
  dsimp only at q1 q2 q3 q4
  by_cases hlt : i < l.length
  · have hx := hbd l[i] (List.getElem_mem hlt)
    have hy := q4 hlt
    obtain ⟨x, hxe⟩ : ∃ x, x = l[i] := ⟨_, rfl⟩
    rw [← hxe] at hx hy
    obtain ⟨f, hf⟩ : ∃ f, f = x.t / step * step := ⟨_, rfl⟩
    simp only [Smp.small] at hx
    have t0 : 0 ≤ x.t / step := Int.ediv_nonneg (by omega) (by omega)
    have t1 : x.t / step * step ≤ x.t := Int.ediv_mul_le _ hs0
    have t2 : 0 ≤ x.t / step * step := Int.mul_nonneg t0 (by omega)
    have t3 : x.t < x.t / step * step + step := by have := Int.emod_lt_of_pos x.t (b := step) (by omega); have := Int.emod_add_ediv_mul x.t step; omega
    simp (disch := first | omega | (simp only [go_sem]; first | done | omega)) only [go_sem, ← hxe]
    rw [← hf] at t1 t2 t3 ⊢
    refine AWp.loop (H.length + 2) [0, 1, 5, 7] [6, 8] (fun (q : Nat × List Int × Int) => i ≤ q.1 ∧ q.1 ≤ l.length ∧ (∀ v ∈ q.2.1, -1000000 ≤ v ∧ v ≤ 1000000) ∧ q.2.1.length ≤ q.1 ∧ 0 ≤ q.2.2 ∧ q.2.2 ≤ q.1 ∧ ((q.1 = i ∧ q.2.1 = [] ∧ q.2.2 = 0) ∨ (i < q.1 ∧ (q.2.1 ≠ [] ∨ q.2.2 ≠ 0) ∧ binsF step (l.take q.1) = out ++ [mkB f q.2.1 q.2.2]))) (fun (q : Nat × List Int × Int) => [(6, (.c (.int .i64 (q.1)))), (8, .c (grV (H.length + 2) q.2.1))]) (fun (q : Nat × List Int × Int) => H ++ [grO 62 6 (out.map encN), .row 62 6 [[.int .i64 f, .int .i64 0, .int .i64 0, .int .i64 q.2.2, .int .i64 0, .int .i64 0]] true, grO 3 1 (q.2.1.map encI)]) (fun (q : Nat × List Int × Int) => l.length - q.1) (by kernel_rfl) (fun _ => rfl) (by kernel_rfl) (by simp) (by first | (simp; done) | (simp; omega)) (by (try simp only [List.forall_mem_cons, List.not_mem_nil, false_implies, implies_true, and_true]); (try simp (disch := first | omega | (simp only [go_sem]; first | done | omega)) only [go_sem]); first | trivial | (simp [AV.ok, AV.ok1, AC.ok]; done) | (simp [AV.ok, AV.ok1, AC.ok]; omega) | (simp [AV.ok, AV.ok1, AC.ok]; assumption) | ((repeat' apply And.intro) <;> first | trivial | (simp [AV.ok, AV.ok1, AC.ok]; done) | (simp [AV.ok, AV.ok1, AC.ok]; omega) | (simp [AV.ok, AV.ok1, AC.ok]; assumption) | (refine grV_ok ?_ _; first | (simp; done) | (simp; omega) | omega))) ?_ (fun q hq _ _ => ?_)
    · refine Next.mk (i, [], 0) ⟨by simp, by omega, by simp, by simp, by simp, by simp, .inl ⟨rfl, rfl, rfl⟩⟩ ?_
      simp (disch := first | omega | (simp only [go_sem]; first | done | omega)) only [go_sem]
      exact WkL.padP [_, _] (by simp)
    obtain ⟨j, g, m⟩ := q
    obtain ⟨g1, g2, g3, g4, g5, g6, g7⟩ := hq
    dsimp only at g1 g2 g3 g4 g5 g6 g7
    by_cases hj : j < l.length ∧ (∀ h : j < l.length, l[j].t < f + step)
    · obtain ⟨hj1, hj2⟩ := hj
      have hj2 := hj2 hj1
      have hxj := hbd l[j] (List.getElem_mem hj1)
      obtain ⟨y, hye⟩ : ∃ y, y = l[j] := ⟨_, rfl⟩
      rw [← hye] at hxj hj2
      simp only [Smp.small] at hxj
      have hxy : x.t ≤ y.t := by
        rcases Nat.lt_or_ge i j with h | h
        · rw [hxe, hye]; exact Int.le_of_lt (hinc i j hj1 h)
        · obtain rfl : i = j := by omega
          rw [hxe, hye]; omega
      have hyf : y.t / step * step = f := by rw [div_same (q := x.t / step) (by omega) (by omega) (by omega)]; exact hf.symm
      have hst : binsF step (l.take (j + 1)) = out ++ [mkB f (if y.q = 0 then g ++ [y.v] else g) (if y.q = 0 then m else m + 1)] := by
        rw [binsF_next step hj1, ← hye]
        rcases g7 with ⟨rfl, rfl, rfl⟩ | ⟨h1, h2, h3⟩
        · rw [← q2, mk_first, hyf, put_first (fun z hz => by have := hy z hz; simp only [mkB]; omega)]
          simp
        · rw [h3, put_next out f g m step y hyf h2]
      simp (disch := first | omega | (simp only [go_sem]; first | done | omega)) only [go_sem, hj1, ← hye, hj2]
      refine w_draw (by kernel_rfl) (by decide +kernel) ?_
      simp (disch := first | omega | (simp only [go_sem]; first | done | omega)) only [go_sem, hj1, ← hye, hj2]
      refine acond_d (fun hq => ?_) (fun hq => ?_)
      · simp (disch := first | omega | (simp only [go_sem]; first | done | omega)) only [go_sem, hj1, ← hye, hj2]
        (refine app_gr (enc := encI) (e := 3) (sz := 1) (bs := 8) (z := [.int .i64 0]) (g) (y.v) (by kernel_rfl) (by kernel_rfl) (by kernel_rfl) (by kernel_rfl) (by first | exact at0 (by simp) | exact at1 (by simp) | exact at2 (by simp) | exact at3 (by simp) | exact at4 (by simp) | exact at5 (by simp) | exact atG 6 (by simp) rfl | exact atG 7 (by simp) rfl | exact atG 8 (by simp) rfl | exact atG 9 (by simp) rfl | exact atG 10 (by simp) rfl | assumption) (by first | (simp (disch := first | omega | (simp only [go_sem]; first | done | omega)) only [go_sem]; done) | (simp (disch := first | omega | (simp only [go_sem]; first | done | omega)) only [go_sem]; rfl) | (simp (disch := first | omega | (simp only [go_sem]; first | done | omega)) only [go_sem]; simp [go_sem]; done) | (simp (disch := first | omega | (simp only [go_sem]; first | done | omega)) only [go_sem]; simp [*]; done)) rfl (by decide) (by omega) (by omega) (by rfl) ?_)
        rw [if_pos hq, if_pos hq] at hst
        simp (disch := first | omega | (simp only [go_sem]; first | done | omega)) only [go_sem]
        refine Next.mk (j + 1, g ++ [y.v], m) ?_ ?_
        rotate_left
        · ((try simp (disch := first | omega | (simp only [go_sem]; first | done | omega)) only [go_sem]); (first | refine WkL.pickAt [_, _] [0] ?_ ?_ ?_ rfl ?_ ?_ ?_ ?_ | refine WkL.pickAt [_, _] [1] ?_ ?_ ?_ rfl ?_ ?_ ?_ ?_ | refine WkL.pickAt [_, _] [2] ?_ ?_ ?_ rfl ?_ ?_ ?_ ?_ | refine WkL.pickAt [_, _] [3] ?_ ?_ ?_ rfl ?_ ?_ ?_ ?_ | refine WkL.pickAt [_, _] [4] ?_ ?_ ?_ rfl ?_ ?_ ?_ ?_ | refine WkL.pickAt [_, _] [5] ?_ ?_ ?_ rfl ?_ ?_ ?_ ?_ | refine WkL.pickAt [_, _] [6] ?_ ?_ ?_ rfl ?_ ?_ ?_ ?_ | refine WkL.pickAt [_, _] [7] ?_ ?_ ?_ rfl ?_ ?_ ?_ ?_ | refine WkL.pickAt [_, _] [8] ?_ ?_ ?_ rfl ?_ ?_ ?_ ?_ | refine WkL.pickAt [_, _] [9] ?_ ?_ ?_ rfl ?_ ?_ ?_ ?_ | refine WkL.pickAt [_, _] [10] ?_ ?_ ?_ rfl ?_ ?_ ?_ ?_ | refine WkL.pickAt [_, _] [11] ?_ ?_ ?_ rfl ?_ ?_ ?_ ?_ | refine WkL.pickAt [_, _] [12] ?_ ?_ ?_ rfl ?_ ?_ ?_ ?_ | refine WkL.pickAt [_, _] [13] ?_ ?_ ?_ rfl ?_ ?_ ?_ ?_ | refine WkL.pickAt [_, _] [14] ?_ ?_ ?_ rfl ?_ ?_ ?_ ?_ | refine WkL.pickAt [_, _] [15] ?_ ?_ ?_ rfl ?_ ?_ ?_ ?_ | refine WkL.pickAt [_, _] [16] ?_ ?_ ?_ rfl ?_ ?_ ?_ ?_ | refine WkL.pickAt [_, _] [17] ?_ ?_ ?_ rfl ?_ ?_ ?_ ?_) <;> first | assumption | exact HOk.str (by assumption) | (simp; done) | (simp; omega) | (simp [pureO_gr, AObj.pureO, pureL, go_sem, AC.pure]; done) | (simp only [List.all_cons, List.all_nil, Bool.and_true]; exact pureO_gr (pureL_map _ (fun x => by simp [go_sem, AC.pure]))) | ((try simp only [List.map_cons, List.map_nil, av_ren_gr]); simp [AV.ren, AV.ren1, AC.ren, pickS]; first | done | omega) | (simp only [List.forall_mem_cons, List.not_mem_nil, false_implies, implies_true, and_true]; (repeat' apply And.intro) <;> first | trivial | exact grV_ok (by simp) _ | exact okN_grO (fun x => by simp [go_sem, AC.pure]) | exact okN_map (fun x => by simp [go_sem, AC.pure]) | (simp [AV.ok, AV.ok1, AC.ok]; done) | (simp [AV.ok, AV.ok1, AC.ok]; omega) | (simp [AObj.okN, AC.ok]; done)) | (simp [AObj.okN]; done))
        refine ⟨⟨by dsimp only; omega, by dsimp only; omega, fun v hv => ?_, by simp; omega, g5, by dsimp only; omega, .inr ⟨by dsimp only; omega, .inl (by simp), hst⟩⟩, by dsimp only; omega⟩
        rcases List.mem_append.1 hv with h | h
        · exact g3 v h
        · simp at h; omega
      · simp (disch := first | omega | (simp only [go_sem]; first | done | omega)) only [go_sem, hj1, ← hye, hj2]
        rw [if_neg hq, if_neg hq] at hst
        refine Next.mk (j + 1, g, m + 1) ?_ ?_
        · exact ⟨⟨by dsimp only; omega, by dsimp only; omega, g3, by dsimp only; omega, by dsimp only; omega, by dsimp only; omega, .inr ⟨by dsimp only; omega, .inr (by dsimp only; omega), hst⟩⟩, by dsimp only; omega⟩
        · (try simp (disch := first | omega | (simp only [go_sem]; first | done | omega)) only [go_sem]); (first | refine WkL.eq ?_ ?_ | refine WkL.rest (by assumption) ?_ ?_ ?_ | refine WkL.keepL (by assumption) rfl ?_ ?_ ?_ ?_) <;> first | rfl | (simp; done) | (simp; omega) | (simp only [List.cons.injEq, AV.c.injEq, AC.int.injEq, AC.bool.injEq, AC.str.injEq, and_true, true_and, Int.natCast_add, Int.natCast_one, Int.cast_ofNat_Int]; omega) | (simp [AV.ok, AV.ok1, AC.ok]; done) | (simp [AV.ok, AV.ok1, AC.ok]; omega) | (simp only [List.forall_mem_cons, List.not_mem_nil, false_implies, implies_true, and_true]; (repeat' apply And.intro) <;> first | exact okN_map (fun x => by simp [go_sem, AC.pure]) | exact okN_grO (fun x => by simp [go_sem, AC.pure]) | (simp [AObj.okN, AC.ok]; done) | (simp [AObj.okN, AC.ok]; omega)) | (simp [*]; done) | grind
    · have hij : i < j := by
        rcases g7 with ⟨rfl, _, _⟩ | ⟨h1, _⟩
        · exact absurd ⟨hlt, fun _ => by rw [← hxe]; omega⟩ hj
        · exact h1
      have g8 : binsF step (l.take j) = out ++ [mkB f g m] := by
        rcases g7 with ⟨rfl, _, _⟩ | ⟨_, _, h3⟩
        · omega
        · exact h3
      have hend : ∀ (h : j < l.length), f + step ≤ l[j].t := fun h => Classical.byContradiction fun h' => hj ⟨h, fun _ => by omega⟩
      have hsum := fun k => sum_bd (g.take k) (fun v hv => g3 v (List.mem_of_mem_take hv))
      by_cases hj1 : j < l.length
      case' pos =>
        have hend1 := hend hj1
        have hxj := hbd l[j] (List.getElem_mem hj1)
        obtain ⟨y, hye⟩ : ∃ y, y = l[j] := ⟨_, rfl⟩
        rw [← hye] at hxj hend1
        simp only [Smp.small] at hxj
        have hend2 : ¬y.t < f + step := by omega
        simp (disch := first | omega | (simp only [go_sem]; first | done | omega)) only [go_sem, hj1, ← hye, hend2]
        refine w_draw (by kernel_rfl) (by decide +kernel) ?_
        simp (disch := first | omega | (simp only [go_sem]; first | done | omega)) only [go_sem, hj1, ← hye, hend2]
      case' neg =>
        simp (disch := first | omega | (simp only [go_sem]; first | done | omega)) only [go_sem, hj1]
        refine w_draw (by kernel_rfl) (by decide +kernel) ?_
        simp (disch := first | omega | (simp only [go_sem]; first | done | omega)) only [go_sem, hj1]
      all_goals
        refine AWp.loop (H.length + 3) [0, 1, 5, 6, 7, 8, 61, 62] [63] (fun (k : Nat) => k ≤ g.length) (fun (k : Nat) => [(63, (.c (.int .i64 k)))]) (fun (k : Nat) => H ++ [grO 62 6 (out.map encN), .row 62 6 [[.int .i64 f, .int .i64 (g.take k).sum, .int .i64 0, .int .i64 m, .int .i64 0, .int .i64 0]] true, grO 3 1 (g.map encI)]) (fun (k : Nat) => g.length - k) (by kernel_rfl) (fun _ => rfl) (by kernel_rfl) (by simp) (by first | (simp; done) | (simp; omega)) (by (try simp only [List.forall_mem_cons, List.not_mem_nil, false_implies, implies_true, and_true]); (try simp (disch := first | omega | (simp only [go_sem]; first | done | omega)) only [go_sem]); first | trivial | (simp [AV.ok, AV.ok1, AC.ok]; done) | (simp [AV.ok, AV.ok1, AC.ok]; omega) | (simp [AV.ok, AV.ok1, AC.ok]; assumption) | ((repeat' apply And.intro) <;> first | trivial | (simp [AV.ok, AV.ok1, AC.ok]; done) | (simp [AV.ok, AV.ok1, AC.ok]; omega) | (simp [AV.ok, AV.ok1, AC.ok]; assumption) | (refine grV_ok ?_ _; first | (simp; done) | (simp; omega) | omega))) ?_ (fun k hkg _ _ => ?_)
        · exact Next.mk 0 (by omega) (by (try simp (disch := first | omega | (simp only [go_sem]; first | done | omega)) only [go_sem]); (first | refine WkL.eq ?_ ?_ | refine WkL.rest (by assumption) ?_ ?_ ?_ | refine WkL.keepL (by assumption) rfl ?_ ?_ ?_ ?_) <;> first | rfl | (simp; done) | (simp; omega) | (simp only [List.cons.injEq, AV.c.injEq, AC.int.injEq, AC.bool.injEq, AC.str.injEq, and_true, true_and, Int.natCast_add, Int.natCast_one, Int.cast_ofNat_Int]; omega) | (simp [AV.ok, AV.ok1, AC.ok]; done) | (simp [AV.ok, AV.ok1, AC.ok]; omega) | (simp only [List.forall_mem_cons, List.not_mem_nil, false_implies, implies_true, and_true]; (repeat' apply And.intro) <;> first | exact okN_map (fun x => by simp [go_sem, AC.pure]) | exact okN_grO (fun x => by simp [go_sem, AC.pure]) | (simp [AObj.okN, AC.ok]; done) | (simp [AObj.okN, AC.ok]; omega)) | (simp [*]; done) | grind)
        have hg1 : (g.take k).length ≤ 5000 := by rw [List.length_take]; omega
        have hs2 := hsum k
        by_cases hkl : k < g.length
        · have hv := g3 g[k] (List.getElem_mem hkl)
          have hsn : (g.take (k + 1)).sum = (g.take k).sum + g[k] := by rw [List.take_succ_eq_append_getElem hkl]; simp [-List.take_append_getElem]
          simp (disch := first | omega | (simp only [go_sem]; first | done | omega)) only [go_sem]
          exact Next.mk (k + 1) ⟨by omega, by omega⟩ (by rw [hsn]; (try simp (disch := first | omega | (simp only [go_sem]; first | done | omega)) only [go_sem]); (first | refine WkL.eq ?_ ?_ | refine WkL.rest (by assumption) ?_ ?_ ?_ | refine WkL.keepL (by assumption) rfl ?_ ?_ ?_ ?_) <;> first | rfl | (simp; done) | (simp; omega) | (simp only [List.cons.injEq, AV.c.injEq, AC.int.injEq, AC.bool.injEq, AC.str.injEq, and_true, true_and, Int.natCast_add, Int.natCast_one, Int.cast_ofNat_Int]; omega) | (simp [AV.ok, AV.ok1, AC.ok]; done) | (simp [AV.ok, AV.ok1, AC.ok]; omega) | (simp only [List.forall_mem_cons, List.not_mem_nil, false_implies, implies_true, and_true]; (repeat' apply And.intro) <;> first | exact okN_map (fun x => by simp [go_sem, AC.pure]) | exact okN_grO (fun x => by simp [go_sem, AC.pure]) | (simp [AObj.okN, AC.ok]; done) | (simp [AObj.okN, AC.ok]; omega)) | (simp [*]; done) | grind)
        · obtain rfl : k = g.length := by omega
          rw [List.take_length] at hs2 ⊢
          have hol : out.length ≤ 5000 := by omega
          have hside : (j ≤ l.length ∧ out ++ [mkB f g m] = binsF step (l.take j) ∧ (out ++ [mkB f g m]).length ≤ j ∧ ∀ (h : j < l.length), ∀ y ∈ out ++ [mkB f g m], y.a + step ≤ l[j].t) ∧ l.length - j < l.length - i := by
            refine ⟨⟨by omega, g8.symm, by simp; omega, fun h y hy' => ?_⟩, by omega⟩
            rcases List.mem_append.1 hy' with h1 | h1
            · have h2 := hy y h1
              have h3 := hinc i j h hij
              rw [← hxe] at h3
              omega
            · simp at h1; subst h1; exact hend h
          by_cases hg0 : g = []
          · subst hg0
            have hgl : ¬(0 : Int) < ([] : List Int).length := by simp
            simp (disch := first | omega | (simp only [go_sem]; first | done | omega)) only [go_sem, hgl]
            (refine app_gr (enc := encN) (e := 62) (sz := 6) (bs := 48) (z := [.int .i64 0, .int .i64 0, .int .i64 0, .int .i64 0, .int .i64 0, .int .i64 0]) (out) (mkB f [] m) (by kernel_rfl) (by kernel_rfl) (by kernel_rfl) (by kernel_rfl) (by first | exact at0 (by simp) | exact at1 (by simp) | exact at2 (by simp) | exact at3 (by simp) | exact at4 (by simp) | exact at5 (by simp) | exact atG 6 (by simp) rfl | exact atG 7 (by simp) rfl | exact atG 8 (by simp) rfl | exact atG 9 (by simp) rfl | exact atG 10 (by simp) rfl | assumption) (by first | (simp (disch := first | omega | (simp only [go_sem]; first | done | omega)) only [go_sem]; done) | (simp (disch := first | omega | (simp only [go_sem]; first | done | omega)) only [go_sem]; rfl) | (simp (disch := first | omega | (simp only [go_sem]; first | done | omega)) only [go_sem]; simp [go_sem]; done) | (simp (disch := first | omega | (simp only [go_sem]; first | done | omega)) only [go_sem]; simp [*]; done)) rfl (by decide) (by omega) (by omega) (by rfl) ?_)
            simp (disch := first | omega | (simp only [go_sem]; first | done | omega)) only [go_sem]
            exact Next.mk (j, out ++ [mkB f [] m]) hside (by ((try simp (disch := first | omega | (simp only [go_sem]; first | done | omega)) only [go_sem]); (first | refine WkL.pick [0] ?_ ?_ rfl ?_ ?_ ?_ ?_ | refine WkL.pick [1] ?_ ?_ rfl ?_ ?_ ?_ ?_ | refine WkL.pick [2] ?_ ?_ rfl ?_ ?_ ?_ ?_ | refine WkL.pick [3] ?_ ?_ rfl ?_ ?_ ?_ ?_ | refine WkL.pick [4] ?_ ?_ rfl ?_ ?_ ?_ ?_ | refine WkL.pick [5] ?_ ?_ rfl ?_ ?_ ?_ ?_ | refine WkL.pick [6] ?_ ?_ rfl ?_ ?_ ?_ ?_ | refine WkL.pick [7] ?_ ?_ rfl ?_ ?_ ?_ ?_ | refine WkL.pick [8] ?_ ?_ rfl ?_ ?_ ?_ ?_ | refine WkL.pick [9] ?_ ?_ rfl ?_ ?_ ?_ ?_ | refine WkL.pick [10] ?_ ?_ rfl ?_ ?_ ?_ ?_ | refine WkL.pick [11] ?_ ?_ rfl ?_ ?_ ?_ ?_ | refine WkL.pick [12] ?_ ?_ rfl ?_ ?_ ?_ ?_ | refine WkL.pick [13] ?_ ?_ rfl ?_ ?_ ?_ ?_ | refine WkL.pick [14] ?_ ?_ rfl ?_ ?_ ?_ ?_ | refine WkL.pick [15] ?_ ?_ rfl ?_ ?_ ?_ ?_) <;> first | assumption | exact HOk.str (by assumption) | (simp; done) | (simp; omega) | (simp [pureO_gr, AObj.pureO, pureL, go_sem, AC.pure]; done) | (simp only [List.all_cons, List.all_nil, Bool.and_true]; exact pureO_gr (pureL_map _ (fun x => by simp [go_sem, AC.pure]))) | ((try simp only [List.map_cons, List.map_nil, av_ren_gr]); simp [AV.ren, AV.ren1, AC.ren, pickS]; first | done | omega) | (simp only [List.forall_mem_cons, List.not_mem_nil, false_implies, implies_true, and_true]; (repeat' apply And.intro) <;> first | trivial | exact grV_ok (by simp) _ | exact okN_grO (fun x => by simp [go_sem, AC.pure]) | exact okN_map (fun x => by simp [go_sem, AC.pure]) | (simp [AV.ok, AV.ok1, AC.ok]; done) | (simp [AV.ok, AV.ok1, AC.ok]; omega) | (simp [AObj.okN, AC.ok]; done)) | (simp [AObj.okN]; done)))
          · have hgl : (0 : Int) < g.length := by have := List.length_pos_iff.2 hg0; omega
            simp (disch := first | omega | (simp only [go_sem]; first | done | omega)) only [go_sem, hgl]
            refine minGr_a g (by first | exact at0 (by simp) | exact at1 (by simp) | exact at2 (by simp) | exact at3 (by simp) | exact at4 (by simp) | exact at5 (by simp) | exact atG 6 (by simp) rfl | exact atG 7 (by simp) rfl | exact atG 8 (by simp) rfl | exact atG 9 (by simp) rfl | exact atG 10 (by simp) rfl | assumption) hg0 (by omega) ?_
            simp (disch := first | omega | (simp only [go_sem]; first | done | omega)) only [go_sem, hgl]
            refine maxGr_a g (by first | exact at0 (by simp) | exact at1 (by simp) | exact at2 (by simp) | exact at3 (by simp) | exact at4 (by simp) | exact at5 (by simp) | exact atG 6 (by simp) rfl | exact atG 7 (by simp) rfl | exact atG 8 (by simp) rfl | exact atG 9 (by simp) rfl | exact atG 10 (by simp) rfl | assumption) hg0 (by omega) ?_
            simp (disch := first | omega | (simp only [go_sem]; first | done | omega)) only [go_sem, hgl]
            (refine app_gr (enc := encN) (e := 62) (sz := 6) (bs := 48) (z := [.int .i64 0, .int .i64 0, .int .i64 0, .int .i64 0, .int .i64 0, .int .i64 0]) (out) (mkB f g m) (by kernel_rfl) (by kernel_rfl) (by kernel_rfl) (by kernel_rfl) (by first | exact at0 (by simp) | exact at1 (by simp) | exact at2 (by simp) | exact at3 (by simp) | exact at4 (by simp) | exact at5 (by simp) | exact atG 6 (by simp) rfl | exact atG 7 (by simp) rfl | exact atG 8 (by simp) rfl | exact atG 9 (by simp) rfl | exact atG 10 (by simp) rfl | assumption) (by first | (simp (disch := first | omega | (simp only [go_sem]; first | done | omega)) only [go_sem]; done) | (simp (disch := first | omega | (simp only [go_sem]; first | done | omega)) only [go_sem]; rfl) | (simp (disch := first | omega | (simp only [go_sem]; first | done | omega)) only [go_sem]; simp [go_sem]; done) | (simp (disch := first | omega | (simp only [go_sem]; first | done | omega)) only [go_sem]; simp [*]; done)) rfl (by decide) (by omega) (by omega) (by rfl) ?_)
            simp (disch := first | omega | (simp only [go_sem]; first | done | omega)) only [go_sem]
            exact Next.mk (j, out ++ [mkB f g m]) hside (by ((try simp (disch := first | omega | (simp only [go_sem]; first | done | omega)) only [go_sem]); (first | refine WkL.pick [0] ?_ ?_ rfl ?_ ?_ ?_ ?_ | refine WkL.pick [1] ?_ ?_ rfl ?_ ?_ ?_ ?_ | refine WkL.pick [2] ?_ ?_ rfl ?_ ?_ ?_ ?_ | refine WkL.pick [3] ?_ ?_ rfl ?_ ?_ ?_ ?_ | refine WkL.pick [4] ?_ ?_ rfl ?_ ?_ ?_ ?_ | refine WkL.pick [5] ?_ ?_ rfl ?_ ?_ ?_ ?_ | refine WkL.pick [6] ?_ ?_ rfl ?_ ?_ ?_ ?_ | refine WkL.pick [7] ?_ ?_ rfl ?_ ?_ ?_ ?_ | refine WkL.pick [8] ?_ ?_ rfl ?_ ?_ ?_ ?_ | refine WkL.pick [9] ?_ ?_ rfl ?_ ?_ ?_ ?_ | refine WkL.pick [10] ?_ ?_ rfl ?_ ?_ ?_ ?_ | refine WkL.pick [11] ?_ ?_ rfl ?_ ?_ ?_ ?_ | refine WkL.pick [12] ?_ ?_ rfl ?_ ?_ ?_ ?_ | refine WkL.pick [13] ?_ ?_ rfl ?_ ?_ ?_ ?_ | refine WkL.pick [14] ?_ ?_ rfl ?_ ?_ ?_ ?_ | refine WkL.pick [15] ?_ ?_ rfl ?_ ?_ ?_ ?_) <;> first | assumption | exact HOk.str (by assumption) | (simp; done) | (simp; omega) | (simp [pureO_gr, AObj.pureO, pureL, go_sem, AC.pure]; done) | (simp only [List.all_cons, List.all_nil, Bool.and_true]; exact pureO_gr (pureL_map _ (fun x => by simp [go_sem, AC.pure]))) | ((try simp only [List.map_cons, List.map_nil, av_ren_gr]); simp [AV.ren, AV.ren1, AC.ren, pickS]; first | done | omega) | (simp only [List.forall_mem_cons, List.not_mem_nil, false_implies, implies_true, and_true]; (repeat' apply And.intro) <;> first | trivial | exact grV_ok (by simp) _ | exact okN_grO (fun x => by simp [go_sem, AC.pure]) | exact okN_map (fun x => by simp [go_sem, AC.pure]) | (simp [AV.ok, AV.ok1, AC.ok]; done) | (simp [AV.ok, AV.ok1, AC.ok]; omega) | (simp [AObj.okN, AC.ok]; done)) | (simp [AObj.okN]; done)))
  · simp (disch := first | omega | (simp only [go_sem]; first | done | omega)) only [go_sem]
    have e : out = binsF step l := by rw [q2, List.take_of_length_le (by omega)]
    rw [← e] at hk
    exact Ret.same (by simp) hk
end Go.Proofs.YtkmkkjlfnobciaaGreat
