/- Several texts in one: The bins of a series, interval by interval: no program in sight, and what follows. No condition. -/
import Derived.Test.YtebhpfhichdgaaaGreatDoorHVGB
import Derived.Test.YtebhpfhichdgaaaGreatDoorHVGA
/- The bins of a series, interval by interval: no program in sight. No condition. -/
namespace Go.Proofs.YtebhpfhichdgaaaGreatDoor
open Go Go.RowKit
set_option maxRecDepth 100000
set_option linter.all false
def minL : List Int → Int
  | [] => 0
  | x :: t => t.foldl min x
def maxL : List Int → Int
  | [] => 0
  | x :: t => t.foldl max x
theorem minL_snoc (g : List Int) (v : Int) : minL (g ++ [v]) = if g = [] then v else min (minL g) v := by
  cases g with
  | nil => rfl
  | cons x t => simp [minL]
theorem maxL_snoc (g : List Int) (v : Int) : maxL (g ++ [v]) = if g = [] then v else max (maxL g) v := by
  cases g with
  | nil => rfl
  | cons x t => simp [maxL]
def mkB (f : Int) (g : List Int) (m : Int) : Bin := ⟨f, g.sum, g.length, m, minL g, maxL g⟩
theorem div_same {t q step : Int} (h0 : 0 < step) (h1 : q * step ≤ t) (h2 : t < q * step + step) : t / step = q := by
  have a : q ≤ t / step := (Int.le_ediv_iff_mul_le h0).2 h1
  have b : t / step < q + 1 := (Int.ediv_lt_iff_lt_mul h0).2 (by rw [Int.add_mul, Int.one_mul]; exact h2)
  omega
theorem mk_first (step : Int) (x : Smp) : binOf step x = mkB (x.t / step * step) (if x.q = 0 then [x.v] else []) (if x.q = 0 then 0 else 1) := by
  unfold binOf mkB
  split <;> simp [minL, maxL]
theorem put_first {out : List Bin} {b : Bin} (h : ∀ y ∈ out, y.a ≠ b.a) : putB out b = out ++ [b] := by
  unfold putB
  split
  · rename_i h0; rw [List.getLast?_eq_none_iff.1 h0]; rfl
  · rename_i y hy
    rw [if_neg (h y (List.mem_of_getLast? hy))]
theorem put_next (out : List Bin) (f : Int) (g : List Int) (m : Int) (step : Int) (x : Smp) (hf : x.t / step * step = f) (hne : g ≠ [] ∨ m ≠ 0) : putB (out ++ [mkB f g m]) (binOf step x) = out ++ [mkB f (if x.q = 0 then g ++ [x.v] else g) (if x.q = 0 then m else m + 1)] := by
  have h1 : (binOf step x).a = f := by unfold binOf; split <;> exact hf
  unfold putB
  rw [List.getLast?_concat]
  dsimp only
  rw [if_pos (by rw [h1]; rfl), List.dropLast_concat]
  congr 2
  unfold binOf combB
  by_cases hq : x.q = 0
  · rw [if_pos hq, if_pos hq, if_pos hq]
    by_cases hg : g = []
    · subst hg; simp [mkB, minL, maxL]
    · have hl : g.length ≠ 0 := by simpa using hg
      have hl2 : (g.length : Int) ≠ 0 := by omega
      simp only [mkB, minL_snoc, maxL_snoc, if_neg hg, if_neg hl2]
      simp [hg]
  · rw [if_neg hq, if_neg hq, if_neg hq]
    by_cases hg : g = []
    · subst hg; simp [mkB, minL, maxL]
    · have hl : g.length ≠ 0 := by simpa using hg
      have hl2 : (g.length : Int) ≠ 0 := by omega
      simp only [mkB, if_neg hl2]
      simp
theorem binsF_next {l : List Smp} {k : Nat} (step : Int) (h : k < l.length) : binsF step (l.take (k + 1)) = putB (binsF step (l.take k)) (binOf step l[k]) := by
  rw [List.take_succ_eq_append_getElem h, binsF_snoc]
def incS (l : List Smp) : Prop := ∀ (i j : Nat) (hj : j < l.length) (hij : i < j), (l[i]'(by omega)).t < l[j].t
theorem errGo_pair {α : Type} (f : Nat → α → α → Int) (p0 : α) (l : List α) (h : errGo f 0 p0 l = 0) : ∀ k (hk : k < l.length), f k (prv p0 l k) l[k] = 0 := by
  have key : ∀ k, k ≤ l.length → errGo f k (prv p0 l k) (l.drop k) = 0 := by
    intro k
    induction k with
    | zero => intro _; exact h
    | succ k ih =>
      intro hk
      have h1 := ih (by omega)
      rw [errGo_step f p0 l k (by omega)] at h1
      split at h1
      · exact h1
      · rename_i h2; exact absurd h1 h2
  intro k hk
  have h1 := key k (by omega)
  rw [errGo_step f p0 l k hk] at h1
  split at h1
  · assumption
  · exact h1
theorem serF_inc {l : List Smp} (h : serF l = 0) : incS l := by
  have h1 : errGo serErr 0 ⟨0, 0, 0⟩ l = 0 := by
    unfold serF at h
    split at h
    · cases h
    · exact h
  have h2 := errGo_pair serErr _ l h1
  have step : ∀ (k : Nat) (hk : k + 1 < l.length), (l[k]'(by omega)).t < l[k + 1].t := by
    intro k hk
    have h3 := h2 (k + 1) hk
    rw [prv_succ _ _ k (by omega)] at h3
    unfold serErr at h3
    split at h3
    · rename_i h4; exact absurd h3 h4
    · split at h3
      · cases h3
      · omega
  intro i j hj hij
  induction j with
  | zero => omega
  | succ j ih =>
    rcases Nat.lt_or_ge i j with h4 | h4
    · exact Int.lt_trans (ih (by omega) h4) (step j hj)
    · obtain rfl : i = j := by omega
      exact step i hj
end Go.Proofs.YtebhpfhichdgaaaGreatDoor
/- The document's bins of a series. Condition: the times rise, numbers are small. -/
namespace Go.Proofs.YtebhpfhichdgaaaGreatDoor
open Go Go.RowKit
set_option maxRecDepth 100000
set_option linter.all false
set_option maxHeartbeats 1000000
variable {H : Hp} {K : AV → Hp → Prop}
theorem pureL_encI (l : List Int) : pureL (l.map encI) = true := by simp [pureL, encI, AC.pure]
theorem minI_a (g : List Int) (h0 : g ≠ []) (hl : g.length ≤ 1000000) (hk : K (.c (.int .i64 (minL g))) H) : ACalls Tryz.prog 162 [.c (.lst 1 (g.map encI))] H K := by
  have h1 : 0 < g.length := List.length_pos_iff.2 h0
  have h2 : minL (g.take 1) = g[0] := by cases g with | nil => exact absurd rfl h0 | cons x t => rfl
  refine acalls Tryz.func162 rfl (by kernel_rfl) (by simp (disch := first | omega | (simp only [go_sem]; first | done | omega)) only [go_sem]) (fun hH => ?_)
  simp (disch := first | omega | (simp only [go_sem]; first | done | omega)) only [go_sem]
  refine AWp.loop (H.length) [0] [4, 3] (fun (k : Nat) => 1 ≤ k ∧ k ≤ g.length) (fun (k : Nat) => [(4, (.c (.int .i64 k))), (3, (.c (.int .i64 (minL (g.take k)))))]) (fun (k : Nat) => H) (fun (k : Nat) => g.length - k) (by kernel_rfl) (fun _ => rfl) (by kernel_rfl) (by first | (simp; done) | omega) (by first | (simp; done) | (simp; omega) | omega) kl ?_ (fun k hk1 _ _ => ?_)
  · exact Next.mk 1 ⟨by omega, by omega⟩ (by rw [h2]; exact wk)
  by_cases hlt : k < g.length
  · have h3 : minL (g.take (k + 1)) = min (minL (g.take k)) g[k] := by
      rw [List.take_succ_eq_append_getElem hlt, minL_snoc, if_neg (by intro h; have := congrArg List.length h; rw [List.length_take] at this; simp only [List.length_nil] at this; omega)]
    simp (disch := first | omega | (simp only [go_sem]; first | done | omega)) only [go_sem]
    exact Next.mk (k + 1) ⟨⟨by omega, by omega⟩, by omega⟩ (by rw [h3]; exact wk)
  · simp (disch := first | omega | (simp only [go_sem]; first | done | omega)) only [go_sem]
    try rw [List.take_of_length_le (by omega)]
    exact Ret.same (Nat.le_refl _) hk
theorem maxI_a (g : List Int) (h0 : g ≠ []) (hl : g.length ≤ 1000000) (hk : K (.c (.int .i64 (maxL g))) H) : ACalls Tryz.prog 163 [.c (.lst 1 (g.map encI))] H K := by
  have h1 : 0 < g.length := List.length_pos_iff.2 h0
  have h2 : maxL (g.take 1) = g[0] := by cases g with | nil => exact absurd rfl h0 | cons x t => rfl
  refine acalls Tryz.func163 rfl (by kernel_rfl) (by simp (disch := first | omega | (simp only [go_sem]; first | done | omega)) only [go_sem]) (fun hH => ?_)
  simp (disch := first | omega | (simp only [go_sem]; first | done | omega)) only [go_sem]
  refine AWp.loop (H.length) [0] [4, 3] (fun (k : Nat) => 1 ≤ k ∧ k ≤ g.length) (fun (k : Nat) => [(4, (.c (.int .i64 k))), (3, (.c (.int .i64 (maxL (g.take k)))))]) (fun (k : Nat) => H) (fun (k : Nat) => g.length - k) (by kernel_rfl) (fun _ => rfl) (by kernel_rfl) (by first | (simp; done) | omega) (by first | (simp; done) | (simp; omega) | omega) kl ?_ (fun k hk1 _ _ => ?_)
  · exact Next.mk 1 ⟨by omega, by omega⟩ (by rw [h2]; exact wk)
  by_cases hlt : k < g.length
  · have h3 : maxL (g.take (k + 1)) = max (maxL (g.take k)) g[k] := by
      rw [List.take_succ_eq_append_getElem hlt, maxL_snoc, if_neg (by intro h; have := congrArg List.length h; rw [List.length_take] at this; simp only [List.length_nil] at this; omega)]
    simp (disch := first | omega | (simp only [go_sem]; first | done | omega)) only [go_sem]
    exact Next.mk (k + 1) ⟨⟨by omega, by omega⟩, by omega⟩ (by rw [h3]; exact wk)
  · simp (disch := first | omega | (simp only [go_sem]; first | done | omega)) only [go_sem]
    try rw [List.take_of_length_le (by omega)]
    exact Ret.same (Nat.le_refl _) hk
theorem minGr_a (g : List Int) {i : Nat} (hi : H[i]? = some (grO 3 1 (g.map encI))) (h0 : g ≠ []) (hl : g.length ≤ 1000000) (hk : K (.c (.int .i64 (minL g))) H) : ACalls Tryz.prog 162 [.c (grV i g)] H K := by
  rw [← map_grV encI]
  exact ACalls.lendGr (.c (.int .i64 (minL g))) hi (pureL_encI g) rfl rfl rfl (by simp) (fun G J hJ => minI_a g h0 hl hJ) hk
theorem maxGr_a (g : List Int) {i : Nat} (hi : H[i]? = some (grO 3 1 (g.map encI))) (h0 : g ≠ []) (hl : g.length ≤ 1000000) (hk : K (.c (.int .i64 (maxL g))) H) : ACalls Tryz.prog 163 [.c (grV i g)] H K := by
  rw [← map_grV encI]
  exact ACalls.lendGr (.c (.int .i64 (maxL g))) hi (pureL_encI g) rfl rfl rfl (by simp) (fun G J hJ => maxI_a g h0 hl hJ) hk
def Smp.small (x : Smp) : Prop := 0 ≤ x.t ∧ x.t ≤ 345686399999 ∧ -1000000 ≤ x.v ∧ x.v ≤ 1000000
theorem sum_bd : ∀ (g : List Int), (∀ v ∈ g, -1000000 ≤ v ∧ v ≤ 1000000) → -1000000 * (g.length : Int) ≤ g.sum ∧ g.sum ≤ 1000000 * (g.length : Int)
  | [], _ => by simp
  | x :: t, h => by
    have h1 := h x (by simp)
    have h2 := sum_bd t (fun v hv => h v (by simp [hv]))
    simp only [List.sum_cons, List.length_cons]
    omega
theorem binsOf_o (l : List Smp) (step : Int) (hlen : l.length ≤ 5000) (hs1 : 1 ≤ step) (hs2 : step ≤ 86400000) (hbd : ∀ x ∈ l, x.small) (hinc : incS l)
    (hk : K (.c (grV H.length (binsF step l))) (H ++ [grO 39 6 ((binsF step l).map encN)])) : ACalls Tryz.prog 71 [.c (.lst 3 (l.map encS)), (.c (.int .i64 step))] H K := by
  have hs0 : step ≠ 0 := by omega
  refine acalls Tryz.func71 rfl (by kernel_rfl) (by simp (disch := first | omega | (simp only [go_sem]; first | done | omega)) only [go_sem]) (fun hH => ?_)
  simp (disch := first | omega | (simp only [go_sem]; first | done | omega)) only [go_sem]
  refine AWp.loop (H.length) [0, 1] [6, 5] (fun (q : Nat × List Bin) => q.1 ≤ l.length ∧ q.2 = binsF step (l.take q.1) ∧ q.2.length ≤ q.1 ∧ ∀ (h : q.1 < l.length), ∀ y ∈ q.2, y.a + step ≤ l[q.1].t) (fun (q : Nat × List Bin) => [(6, (.c (.int .i64 (q.1)))), (5, .c (grV H.length q.2))]) (fun (q : Nat × List Bin) => H ++ [grO 39 6 (q.2.map encN)]) (fun (q : Nat × List Bin) => l.length - q.1) (by kernel_rfl) (fun _ => rfl) (by kernel_rfl) (by first | (simp; done) | omega) (by first | (simp; done) | (simp; omega) | omega) kl ?_ (fun q hq _ _ => ?_)
  · exact Next.mk (0, []) ⟨by simp, rfl, by simp, by simp⟩ (WkL.pad (by simp))
  obtain ⟨i, out⟩ := q
  obtain ⟨q1, q2, q3, q4⟩ := hq
  dsimp only at q1 q2 q3 q4
  by_cases hlt : i < l.length
  · have hx := hbd l[i] (List.getElem_mem hlt)
    have hy := q4 hlt
    obtain ⟨x, hxe⟩ : ∃ x, x = l[i] := ⟨_, rfl⟩
    rw [← hxe] at hx hy
    obtain ⟨f, hf⟩ : ∃ f, f = x.t / step * step := ⟨_, rfl⟩
    simp only [Smp.small] at hx
    have t0 : 0 ≤ x.t / step := Int.ediv_nonneg (by omega) (by omega)
    have t1 : x.t / step * step ≤ x.t := Int.ediv_mul_le _ hs0
    have t2 : 0 ≤ x.t / step * step := Int.mul_nonneg t0 (by omega)
    have t3 : x.t < x.t / step * step + step := by have := Int.emod_lt_of_pos x.t (b := step) (by omega); have := Int.emod_add_ediv_mul x.t step; omega
    simp (disch := first | omega | (simp only [go_sem]; first | done | omega)) only [go_sem, ← hxe]
    rw [← hf] at t1 t2 t3 ⊢
    refine AWp.loop (H.length + 2) [0, 1, 5, 7] [6, 8] (fun (q : Nat × List Int × Int) => i ≤ q.1 ∧ q.1 ≤ l.length ∧ (∀ v ∈ q.2.1, -1000000 ≤ v ∧ v ≤ 1000000) ∧ q.2.1.length ≤ q.1 ∧ 0 ≤ q.2.2 ∧ q.2.2 ≤ q.1 ∧ ((q.1 = i ∧ q.2.1 = [] ∧ q.2.2 = 0) ∨ (i < q.1 ∧ (q.2.1 ≠ [] ∨ q.2.2 ≠ 0) ∧ binsF step (l.take q.1) = out ++ [mkB f q.2.1 q.2.2]))) (fun (q : Nat × List Int × Int) => [(6, (.c (.int .i64 (q.1)))), (8, .c (grV (H.length + 2) q.2.1))]) (fun (q : Nat × List Int × Int) => H ++ [grO 39 6 (out.map encN), .row 39 6 [[.int .i64 f, .int .i64 0, .int .i64 0, .int .i64 q.2.2, .int .i64 0, .int .i64 0]] true, grO 3 1 (q.2.1.map encI)]) (fun (q : Nat × List Int × Int) => l.length - q.1) (by kernel_rfl) (fun _ => rfl) (by kernel_rfl) (by first | (simp; done) | omega) (by first | (simp; done) | (simp; omega) | omega) kl ?_ (fun q hq _ _ => ?_)
    · refine Next.mk (i, [], 0) ⟨by simp, by omega, by simp, by simp, by simp, by simp, .inl ⟨rfl, rfl, rfl⟩⟩ ?_
      simp (disch := first | omega | (simp only [go_sem]; first | done | omega)) only [go_sem]
      exact WkL.padP [_, _] (by simp)
    obtain ⟨j, g, m⟩ := q
    obtain ⟨g1, g2, g3, g4, g5, g6, g7⟩ := hq
    dsimp only at g1 g2 g3 g4 g5 g6 g7
    by_cases hj : j < l.length ∧ (∀ h : j < l.length, l[j].t < f + step)
    · obtain ⟨hj1, hj2⟩ := hj
      have hj2 := hj2 hj1
      have hxj := hbd l[j] (List.getElem_mem hj1)
      obtain ⟨y, hye⟩ : ∃ y, y = l[j] := ⟨_, rfl⟩
      rw [← hye] at hxj hj2
      simp only [Smp.small] at hxj
      have hxy : x.t ≤ y.t := by
        rcases Nat.lt_or_ge i j with h | h
        · rw [hxe, hye]; exact Int.le_of_lt (hinc i j hj1 h)
        · obtain rfl : i = j := by omega
          rw [hxe, hye]; omega
      have hyf : y.t / step * step = f := by rw [div_same (q := x.t / step) (by omega) (by omega) (by omega)]; exact hf.symm
      have hst : binsF step (l.take (j + 1)) = out ++ [mkB f (if y.q = 0 then g ++ [y.v] else g) (if y.q = 0 then m else m + 1)] := by
        rw [binsF_next step hj1, ← hye]
        rcases g7 with ⟨rfl, rfl, rfl⟩ | ⟨h1, h2, h3⟩
        · rw [← q2, mk_first, hyf, put_first (fun z hz => by have := hy z hz; simp only [mkB]; omega)]
          simp
        · rw [h3, put_next out f g m step y hyf h2]
      simp (disch := first | omega | (simp only [go_sem]; first | done | omega)) only [go_sem, hj1, ← hye, hj2]
      refine w_draw (by kernel_rfl) (by decide +kernel) ?_
      simp (disch := first | omega | (simp only [go_sem]; first | done | omega)) only [go_sem, hj1, ← hye, hj2]
      refine acond_d (fun hq => ?_) (fun hq => ?_)
      · simp (disch := first | omega | (simp only [go_sem]; first | done | omega)) only [go_sem, hj1, ← hye, hj2]
        (refine app_gr (enc := encI) (e := 3) (sz := 1) (bs := 8) (z := [.int .i64 0]) (g) (y.v) (by kernel_rfl) (by kernel_rfl) (by kernel_rfl) (by kernel_rfl) (by first | ((repeat first | exact at0 (by simp) | refine atS ?_); done) | assumption) (by first | (simp (disch := first | omega | (simp only [go_sem]; first | done | omega)) only [go_sem]; done) | (simp (disch := first | omega | (simp only [go_sem]; first | done | omega)) only [go_sem]; rfl) | (simp (disch := first | omega | (simp only [go_sem]; first | done | omega)) only [go_sem]; simp [go_sem]; done) | (simp (disch := first | omega | (simp only [go_sem]; first | done | omega)) only [go_sem]; simp [*]; done)) rfl (by decide) (by omega) (by omega) (by rfl) ?_)
        rw [if_pos hq, if_pos hq] at hst
        simp (disch := first | omega | (simp only [go_sem]; first | done | omega)) only [go_sem]
        refine Next.mk (j + 1, g ++ [y.v], m) ?_ ?_
        rotate_left
        · ((try simp (disch := first | omega | (simp only [go_sem]; first | done | omega)) only [go_sem]); (first | refine WkL.pickAt [_, _] [0] ?_ ?_ ?_ rfl ?_ ?_ ?_ ?_ | refine WkL.pickAt [_, _] [1] ?_ ?_ ?_ rfl ?_ ?_ ?_ ?_ | refine WkL.pickAt [_, _] [2] ?_ ?_ ?_ rfl ?_ ?_ ?_ ?_ | refine WkL.pickAt [_, _] [3] ?_ ?_ ?_ rfl ?_ ?_ ?_ ?_ | refine WkL.pickAt [_, _] [4] ?_ ?_ ?_ rfl ?_ ?_ ?_ ?_ | refine WkL.pickAt [_, _] [5] ?_ ?_ ?_ rfl ?_ ?_ ?_ ?_ | refine WkL.pickAt [_, _] [6] ?_ ?_ ?_ rfl ?_ ?_ ?_ ?_ | refine WkL.pickAt [_, _] [7] ?_ ?_ ?_ rfl ?_ ?_ ?_ ?_ | refine WkL.pickAt [_, _] [8] ?_ ?_ ?_ rfl ?_ ?_ ?_ ?_ | refine WkL.pickAt [_, _] [9] ?_ ?_ ?_ rfl ?_ ?_ ?_ ?_ | refine WkL.pickAt [_, _] [10] ?_ ?_ ?_ rfl ?_ ?_ ?_ ?_ | refine WkL.pickAt [_, _] [11] ?_ ?_ ?_ rfl ?_ ?_ ?_ ?_ | refine WkL.pickAt [_, _] [12] ?_ ?_ ?_ rfl ?_ ?_ ?_ ?_ | refine WkL.pickAt [_, _] [13] ?_ ?_ ?_ rfl ?_ ?_ ?_ ?_ | refine WkL.pickAt [_, _] [14] ?_ ?_ ?_ rfl ?_ ?_ ?_ ?_ | refine WkL.pickAt [_, _] [15] ?_ ?_ ?_ rfl ?_ ?_ ?_ ?_ | refine WkL.pickAt [_, _] [16] ?_ ?_ ?_ rfl ?_ ?_ ?_ ?_ | refine WkL.pickAt [_, _] [17] ?_ ?_ ?_ rfl ?_ ?_ ?_ ?_) <;> first | assumption | exact HOk.str (by assumption) | (simp; done) | (simp; omega) | (simp [pureO_gr, AObj.pureO, pureL, go_sem, AC.pure]; done) | (simp only [List.all_cons, List.all_nil, Bool.and_true]; exact pureO_gr (pureL_map _ (fun x => by simp [go_sem, AC.pure]))) | ((try simp only [List.map_cons, List.map_nil, av_ren_gr]); simp [AV.ren, AV.ren1, AC.ren, renP, pickS]; first | done | omega) | (simp only [List.forall_mem_cons, List.not_mem_nil, false_implies, implies_true, and_true]; (repeat' apply And.intro) <;> first | trivial | exact grV_ok (by simp) _ | exact okN_grO (fun x => by simp [go_sem, AC.pure]) | exact okN_map (fun x => by simp [go_sem, AC.pure]) | (simp [AV.ok, AV.ok1, AC.ok]; done) | (simp [AV.ok, AV.ok1, AC.ok]; omega) | (simp [AObj.okN, AC.ok]; done)) | (simp [AObj.okN]; done))
        refine ⟨⟨by dsimp only; omega, by dsimp only; omega, fun v hv => ?_, by simp; omega, g5, by dsimp only; omega, .inr ⟨by dsimp only; omega, .inl (by simp), hst⟩⟩, by dsimp only; omega⟩
        rcases List.mem_append.1 hv with h | h
        · exact g3 v h
        · simp at h; omega
      · simp (disch := first | omega | (simp only [go_sem]; first | done | omega)) only [go_sem, hj1, ← hye, hj2]
        rw [if_neg hq, if_neg hq] at hst
        refine Next.mk (j + 1, g, m + 1) ?_ ?_
        · exact ⟨⟨by dsimp only; omega, by dsimp only; omega, g3, by dsimp only; omega, by dsimp only; omega, by dsimp only; omega, .inr ⟨by dsimp only; omega, .inr (by dsimp only; omega), hst⟩⟩, by dsimp only; omega⟩
        · exact wk
    · have hij : i < j := by
        rcases g7 with ⟨rfl, _, _⟩ | ⟨h1, _⟩
        · exact absurd ⟨hlt, fun _ => by rw [← hxe]; omega⟩ hj
        · exact h1
      have g8 : binsF step (l.take j) = out ++ [mkB f g m] := by
        rcases g7 with ⟨rfl, _, _⟩ | ⟨_, _, h3⟩
        · omega
        · exact h3
      have hend : ∀ (h : j < l.length), f + step ≤ l[j].t := fun h => Classical.byContradiction fun h' => hj ⟨h, fun _ => by omega⟩
      have hsum := fun k => sum_bd (g.take k) (fun v hv => g3 v (List.mem_of_mem_take hv))
      by_cases hj1 : j < l.length
      case' pos =>
        have hend1 := hend hj1
        have hxj := hbd l[j] (List.getElem_mem hj1)
        obtain ⟨y, hye⟩ : ∃ y, y = l[j] := ⟨_, rfl⟩
        rw [← hye] at hxj hend1
        simp only [Smp.small] at hxj
        have hend2 : ¬y.t < f + step := by omega
        simp (disch := first | omega | (simp only [go_sem]; first | done | omega)) only [go_sem, hj1, ← hye, hend2]
        refine w_draw (by kernel_rfl) (by decide +kernel) ?_
        simp (disch := first | omega | (simp only [go_sem]; first | done | omega)) only [go_sem, hj1, ← hye, hend2]
      case' neg =>
        simp (disch := first | omega | (simp only [go_sem]; first | done | omega)) only [go_sem, hj1]
        refine w_draw (by kernel_rfl) (by decide +kernel) ?_
        simp (disch := first | omega | (simp only [go_sem]; first | done | omega)) only [go_sem, hj1]
      all_goals
        refine AWp.loop (H.length + 3) [0, 1, 5, 6, 7, 8, 61, 62] [63] (fun (k : Nat) => k ≤ g.length) (fun (k : Nat) => [(63, (.c (.int .i64 k)))]) (fun (k : Nat) => H ++ [grO 39 6 (out.map encN), .row 39 6 [[.int .i64 f, .int .i64 (g.take k).sum, .int .i64 0, .int .i64 m, .int .i64 0, .int .i64 0]] true, grO 3 1 (g.map encI)]) (fun (k : Nat) => g.length - k) (by kernel_rfl) (fun _ => rfl) (by kernel_rfl) (by first | (simp; done) | omega) (by first | (simp; done) | (simp; omega) | omega) kl ?_ (fun k hkg _ _ => ?_)
        · exact Next.mk 0 (by omega) wk
        have hg1 : (g.take k).length ≤ 5000 := by rw [List.length_take]; omega
        have hs2 := hsum k
        by_cases hkl : k < g.length
        · have hv := g3 g[k] (List.getElem_mem hkl)
          have hsn : (g.take (k + 1)).sum = (g.take k).sum + g[k] := by rw [List.take_succ_eq_append_getElem hkl]; simp [-List.take_append_getElem]
          simp (disch := first | omega | (simp only [go_sem]; first | done | omega)) only [go_sem]
          exact Next.mk (k + 1) ⟨by omega, by omega⟩ (by rw [hsn]; exact wk)
        · obtain rfl : k = g.length := by omega
          rw [List.take_length] at hs2 ⊢
          have hol : out.length ≤ 5000 := by omega
          have hside : (j ≤ l.length ∧ out ++ [mkB f g m] = binsF step (l.take j) ∧ (out ++ [mkB f g m]).length ≤ j ∧ ∀ (h : j < l.length), ∀ y ∈ out ++ [mkB f g m], y.a + step ≤ l[j].t) ∧ l.length - j < l.length - i := by
            refine ⟨⟨by omega, g8.symm, by simp; omega, fun h y hy' => ?_⟩, by omega⟩
            rcases List.mem_append.1 hy' with h1 | h1
            · have h2 := hy y h1
              have h3 := hinc i j h hij
              rw [← hxe] at h3
              omega
            · simp at h1; subst h1; exact hend h
          by_cases hg0 : g = []
          · subst hg0
            have hgl : ¬(0 : Int) < ([] : List Int).length := by simp
            simp (disch := first | omega | (simp only [go_sem]; first | done | omega)) only [go_sem, hgl]
            (refine app_gr (enc := encN) (e := 39) (sz := 6) (bs := 48) (z := [.int .i64 0, .int .i64 0, .int .i64 0, .int .i64 0, .int .i64 0, .int .i64 0]) (out) (mkB f [] m) (by kernel_rfl) (by kernel_rfl) (by kernel_rfl) (by kernel_rfl) (by first | ((repeat first | exact at0 (by simp) | refine atS ?_); done) | assumption) (by first | (simp (disch := first | omega | (simp only [go_sem]; first | done | omega)) only [go_sem]; done) | (simp (disch := first | omega | (simp only [go_sem]; first | done | omega)) only [go_sem]; rfl) | (simp (disch := first | omega | (simp only [go_sem]; first | done | omega)) only [go_sem]; simp [go_sem]; done) | (simp (disch := first | omega | (simp only [go_sem]; first | done | omega)) only [go_sem]; simp [*]; done)) rfl (by decide) (by omega) (by omega) (by rfl) ?_)
            simp (disch := first | omega | (simp only [go_sem]; first | done | omega)) only [go_sem]
            exact Next.mk (j, out ++ [mkB f [] m]) hside (by exact ow)
          · have hgl : (0 : Int) < g.length := by have := List.length_pos_iff.2 hg0; omega
            simp (disch := first | omega | (simp only [go_sem]; first | done | omega)) only [go_sem, hgl]
            refine minGr_a g (by first | ((repeat first | exact at0 (by simp) | refine atS ?_); done) | assumption) hg0 (by omega) ?_
            simp (disch := first | omega | (simp only [go_sem]; first | done | omega)) only [go_sem, hgl]
            refine maxGr_a g (by first | ((repeat first | exact at0 (by simp) | refine atS ?_); done) | assumption) hg0 (by omega) ?_
            simp (disch := first | omega | (simp only [go_sem]; first | done | omega)) only [go_sem, hgl]
            (refine app_gr (enc := encN) (e := 39) (sz := 6) (bs := 48) (z := [.int .i64 0, .int .i64 0, .int .i64 0, .int .i64 0, .int .i64 0, .int .i64 0]) (out) (mkB f g m) (by kernel_rfl) (by kernel_rfl) (by kernel_rfl) (by kernel_rfl) (by first | ((repeat first | exact at0 (by simp) | refine atS ?_); done) | assumption) (by first | (simp (disch := first | omega | (simp only [go_sem]; first | done | omega)) only [go_sem]; done) | (simp (disch := first | omega | (simp only [go_sem]; first | done | omega)) only [go_sem]; rfl) | (simp (disch := first | omega | (simp only [go_sem]; first | done | omega)) only [go_sem]; simp [go_sem]; done) | (simp (disch := first | omega | (simp only [go_sem]; first | done | omega)) only [go_sem]; simp [*]; done)) rfl (by decide) (by omega) (by omega) (by rfl) ?_)
            simp (disch := first | omega | (simp only [go_sem]; first | done | omega)) only [go_sem]
            exact Next.mk (j, out ++ [mkB f g m]) hside (by exact ow)
  · simp (disch := first | omega | (simp only [go_sem]; first | done | omega)) only [go_sem]
    have e : out = binsF step l := by rw [q2, List.take_of_length_le (by omega)]
    rw [← e] at hk
    exact Ret.same (by simp) hk
end Go.Proofs.YtebhpfhichdgaaaGreatDoor
/- Samples that are drawn. No condition. -/
namespace Go.Proofs.YtebhpfhichdgaaaGreatDoor
open Go Go.RowKit
set_option maxRecDepth 100000
set_option linter.all false
set_option maxHeartbeats 1000000
variable {H : Hp} {K : AV → Hp → Prop}
theorem odd_a (s : Nat) (zs : List Int) (j lo hi : Int) (hs : Str H s zs j) (hj : j ≤ 1099000000000) (h1 : -1000000000000 ≤ lo) (h2 : lo ≤ hi) (h3 : hi ≤ 1000000000000)
    (hk : ∀ (r j' : Int), j ≤ j' → j' ≤ j + 2 → (lo - 1 ≤ r ∧ r ≤ hi + 1) ∨ r = -1099511627776 ∨ r = 1099511627776 → K (.c (.int .i64 r)) (H.set s (strO zs j'))) : ACalls Tryz.prog 74 [.c (.ptr (some (s, 0, 0))), (.c (.int .i64 lo)), (.c (.int .i64 hi))] H K := by
  have hlt := hs.lt
  have hpos := hs.pos
  have hne : H.length ≠ s := by omega
  refine acalls Tryz.func74 rfl (by kernel_rfl) (by simp (disch := first | omega | (simp only [go_sem]; first | done | omega)) only [go_sem]) (fun hH => ?_)
  simp (disch := first | omega | (simp only [go_sem]; first | done | omega)) only [go_sem]
  refine flip_a s zs j 12 (by first | exact hs | exact hs.app _ | exact hs.set (by omega) (by omega) | exact (hs.set (by omega) (by omega)).app _) (by omega) (by omega) (fun b => ?_)
  simp (disch := first | omega | (simp only [go_sem]; first | done | omega)) only [go_sem]
  refine acond_b (fun c => ?_) (fun c => ?_)
  · simp (disch := first | omega | (simp only [go_sem]; first | done | omega)) only [go_sem]
    refine pick_lit s zs (j + 1) [lo - 1, hi + 1, lo, hi, -1099511627776, 1099511627776] (by first | ((repeat first | exact at0 (by simp) | refine atS ?_); done) | assumption) rfl rfl (by first | exact hs | exact hs.app _ | exact hs.set (by omega) (by omega) | exact (hs.set (by omega) (by omega)).app _) (by omega) (by simp) (by simp) (fun r hr => ?_)
    simp only [List.mem_cons, List.not_mem_nil, or_false] at hr
    simp (disch := first | omega | (simp only [go_sem]; first | done | omega)) only [go_sem]
    exact Ret.drop (HOk.str hH) (by simp) trivial (hk r (j + 1 + 1) (by omega) (by omega) (by omega))
  · simp (disch := first | omega | (simp only [go_sem]; first | done | omega)) only [go_sem]
    refine range_a s zs (j + 1) lo hi (by first | exact hs | exact hs.app _ | exact hs.set (by omega) (by omega) | exact (hs.set (by omega) (by omega)).app _) (by omega) (by omega) (by omega) (fun r h4 h5 => ?_)
    simp (disch := first | omega | (simp only [go_sem]; first | done | omega)) only [go_sem]
    exact Ret.same (by simp) (hk r (j + 1 + 1) (by omega) (by omega) (by omega))
theorem aStep_a (s : Nat) (zs : List Int) (j : Int) (hs : Str H s zs j) (hj : j ≤ 1099000000000)
    (hk : ∀ (r : Int), r ∈ [10, 50, 100, 100, 1, 86400000, 0, 7, -10, 172800000] → K (.c (.int .i64 r)) (H.set s (strO zs (j + 1)))) : ACalls Tryz.prog 10 [.c (.ptr (some (s, 0, 0)))] H K := by
  have hlt := hs.lt
  have hpos := hs.pos
  have hne : H.length ≠ s := by omega
  refine acalls Tryz.func10 rfl (by kernel_rfl) (by simp (disch := first | omega | (simp only [go_sem]; first | done | omega)) only [go_sem]) (fun hH => ?_)
  simp (disch := first | omega | (simp only [go_sem]; first | done | omega)) only [go_sem]
  refine pick_lit s zs j [10, 50, 100, 100, 1, 86400000, 0, 7, -10, 172800000] (by first | ((repeat first | exact at0 (by simp) | refine atS ?_); done) | assumption) rfl rfl (by first | exact hs | exact hs.app _ | exact hs.set (by omega) (by omega) | exact (hs.set (by omega) (by omega)).app _) (by omega) (by simp) (by simp) (fun r hr => ?_)
  simp (disch := first | omega | (simp only [go_sem]; first | done | omega)) only [go_sem]
  exact Ret.drop (HOk.str hH) (by simp) trivial (hk r hr)
def drawnS (most : Int) (l : List Smp) : Prop := serF l = 0 ∧ l.length ≤ most ∧ ∀ x ∈ l, 0 ≤ x.t ∧ x.t ≤ 90 + 60 * most ∧ -3 ≤ x.v ∧ x.v ≤ 100 ∧ 0 ≤ x.q ∧ x.q ≤ 2
theorem rightSamples_o (s : Nat) (zs : List Int) (j most : Int) (hs : Str H s zs j) (hj : j ≤ 1090000000000) (hm0 : 0 ≤ most) (hm1 : most ≤ 100)
    (hk : ∀ (l : List Smp) (j' : Int), j ≤ j' → j' ≤ j + 2 + 3 * most → drawnS most l → K (.c (grV H.length l)) (H.set s (strO zs j') ++ [grO 49 3 (l.map encS)])) :
    ACalls Tryz.prog 56 [.c (.ptr (some (s, 0, 0))), (.c (.int .i64 most))] H K := by
  have hlt := hs.lt
  have hpos := hs.pos
  have hne : H.length ≠ s := by omega
  refine acalls Tryz.func56 rfl (by kernel_rfl) (by simp (disch := first | omega | (simp only [go_sem]; first | done | omega)) only [go_sem]) (fun hH => ?_)
  simp (disch := first | omega | (simp only [go_sem]; first | done | omega)) only [go_sem]
  refine pick_lit s zs j [0, 5, 90] (by first | ((repeat first | exact at0 (by simp) | refine atS ?_); done) | assumption) rfl rfl (by first | exact hs | exact hs.app _ | exact hs.set (by omega) (by omega) | exact (hs.set (by omega) (by omega)).app _) (by omega) (by simp) (by simp) (fun a0 ha0 => ?_)
  simp only [List.mem_cons, List.not_mem_nil, or_false] at ha0
  simp (disch := first | omega | (simp only [go_sem]; first | done | omega)) only [go_sem]
  refine range_a s zs (j + 1) 0 most (by first | exact hs | exact hs.app _ | exact hs.set (by omega) (by omega) | exact (hs.set (by omega) (by omega)).app _) (by omega) (by omega) (by omega) (fun r hr0 hr1 => ?_)
  simp (disch := first | omega | (simp only [go_sem]; first | done | omega)) only [go_sem]
  refine AWp.loop (H.length) [0, 13] [14, 5, 6] (fun (q : Nat × List Smp × Int × Int) => (q.1 : Int) ≤ r ∧ q.2.1.length = q.1 ∧ errGo serErr 0 ⟨0, 0, 0⟩ q.2.1 = 0 ∧ (∀ x ∈ q.2.1, 0 ≤ x.t ∧ x.t < q.2.2.1 ∧ -3 ≤ x.v ∧ x.v ≤ 100 ∧ 0 ≤ x.q ∧ x.q ≤ 2) ∧ 0 ≤ q.2.2.1 ∧ q.2.2.1 ≤ 90 + 60 * q.1 ∧ j + 2 ≤ q.2.2.2 ∧ q.2.2.2 ≤ j + 2 + 3 * q.1) (fun (q : Nat × List Smp × Int × Int) => [(14, (.c (.int .i64 (q.1)))), (5, .c (grV H.length q.2.1)), (6, (.c (.int .i64 (q.2.2.1))))]) (fun (q : Nat × List Smp × Int × Int) => H.set s (strO zs q.2.2.2) ++ [grO 49 3 (q.2.1.map encS)]) (fun (q : Nat × List Smp × Int × Int) => r.toNat - q.1) (by kernel_rfl) (fun _ => rfl) (by kernel_rfl) (by first | (simp; done) | omega) (by first | (simp; done) | (simp; omega) | omega) kl ?_ (fun q hq _ _ => ?_)
  · refine Next.mk (0, [], a0, j + 1 + 1) ⟨by simpa using hr0, rfl, rfl, by simp, by dsimp only; omega, by dsimp only; omega, by dsimp only; omega, by dsimp only; omega⟩ ?_
    simp (disch := first | omega | (simp only [go_sem]; first | done | omega)) only [go_sem]
    exact WkL.refl (by simp)
  obtain ⟨k, l, t, j2⟩ := q
  obtain ⟨q1, q2, q3, q4, q5, q6, q7, q8⟩ := hq
  dsimp only at q1 q2 q3 q4 q5 q6 q7 q8
  by_cases hkr : (k : Int) < r
  · simp (disch := first | omega | (simp only [go_sem]; first | done | omega)) only [go_sem]
    refine pick_lit s zs j2 [5, 5, 7, 7, -3, 100, 0] (by first | ((repeat first | exact at0 (by simp) | refine atS ?_); done) | assumption) rfl rfl (by first | exact hs | exact hs.app _ | exact hs.set (by omega) (by omega) | exact (hs.set (by omega) (by omega)).app _) (by omega) (by simp) (by simp) (fun v hv => ?_)
    simp only [List.mem_cons, List.not_mem_nil, or_false] at hv
    simp (disch := first | omega | (simp only [go_sem]; first | done | omega)) only [go_sem]
    refine pick_lit s zs (j2 + 1) [0, 0, 0, 1, 2] (by first | ((repeat first | exact at0 (by simp) | refine atS ?_); done) | assumption) rfl rfl (by first | exact hs | exact hs.app _ | exact hs.set (by omega) (by omega) | exact (hs.set (by omega) (by omega)).app _) (by omega) (by simp) (by simp) (fun u hu => ?_)
    simp only [List.mem_cons, List.not_mem_nil, or_false] at hu
    simp (disch := first | omega | (simp only [go_sem]; first | done | omega)) only [go_sem]
    have hlk : l.length ≤ 100 := by omega
    have key : ∀ w : Int, -3 ≤ w → w ≤ 100 → (u = 2 → w = 0) → errGo serErr 0 ⟨0, 0, 0⟩ (l ++ [⟨t, w, u⟩]) = 0 ∧ ∀ d : Int, 1 ≤ d → ∀ x ∈ l ++ [(⟨t, w, u⟩ : Smp)], 0 ≤ x.t ∧ x.t < t + d ∧ -3 ≤ x.v ∧ x.v ≤ 100 ∧ 0 ≤ x.q ∧ x.q ≤ 2 := by
      intro w w1 w2 w3
      refine ⟨?_, fun d hd x hx => ?_⟩
      · rw [errGo_snoc _ _ _ _ _ q3]
        have h1 : smpErr ⟨t, w, u⟩ = 0 := by
          unfold smpErr
          rw [if_neg (by dsimp only; omega), if_neg (by dsimp only; omega), if_neg (by dsimp only; omega), if_neg (by dsimp only; omega)]
        have h2 : ∀ p, l.getLast? = some p → p.t < t := fun p hp => (q4 p (List.mem_of_getLast? hp)).2.1
        unfold serErr
        rw [if_neg (by rw [h1]; simp)]
        rw [if_neg]
        rintro ⟨h3, h4⟩
        cases hl : l.getLast? with
        | none => rw [List.getLast?_eq_none_iff.1 hl] at h3; simp at h3
        | some p =>
          rw [hl] at h4
          have := h2 p hl
          simp only [Option.getD_some] at h4
          omega
      · rcases List.mem_append.1 hx with h | h
        · have := q4 x h; omega
        · simp at h; subst h; dsimp only; omega
    refine acond_d (fun hu2 => ?_) (fun hu2 => ?_)
    · obtain ⟨key1, key2⟩ := key 0 (by omega) (by omega) (fun _ => rfl)
      simp (disch := first | omega | (simp only [go_sem]; first | done | omega)) only [go_sem]
      (refine app_gr (enc := encS) (e := 49) (sz := 3) (bs := 24) (z := [.int .i64 0, .int .i64 0, .int .i64 0]) (l) (⟨t, 0, u⟩) (by kernel_rfl) (by kernel_rfl) (by kernel_rfl) (by kernel_rfl) (by first | ((repeat first | exact at0 (by simp) | refine atS ?_); done) | assumption) (by first | (simp (disch := first | omega | (simp only [go_sem]; first | done | omega)) only [go_sem]; done) | (simp (disch := first | omega | (simp only [go_sem]; first | done | omega)) only [go_sem]; rfl) | (simp (disch := first | omega | (simp only [go_sem]; first | done | omega)) only [go_sem]; simp [go_sem]; done) | (simp (disch := first | omega | (simp only [go_sem]; first | done | omega)) only [go_sem]; simp [*]; done)) rfl (by decide) (by omega) (by omega) (by rfl) ?_)
      simp (disch := first | omega | (simp only [go_sem]; first | done | omega)) only [go_sem]
      refine pick_lit s zs (j2 + 1 + 1) [1, 5, 10, 30, 60] (by first | ((repeat first | exact at0 (by simp) | refine atS ?_); done) | assumption) rfl rfl (by first | exact hs | exact hs.app _ | exact hs.set (by omega) (by omega) | exact (hs.set (by omega) (by omega)).app _) (by omega) (by simp) (by simp) (fun d hd => ?_)
      simp only [List.mem_cons, List.not_mem_nil, or_false] at hd
      simp (disch := first | omega | (simp only [go_sem]; first | done | omega)) only [go_sem]
      refine Next.mk (k + 1, l ++ [⟨t, 0, u⟩], t + d, j2 + 1 + 1 + 1) ?_ ?_
      · exact ⟨⟨by dsimp only; omega, by simp [q2], key1, key2 d (by omega), by dsimp only; omega, by dsimp only; omega, by dsimp only; omega, by dsimp only; omega⟩, by dsimp only; omega⟩
      · exact ow
    · obtain ⟨key1, key2⟩ := key v (by omega) (by omega) (fun h => absurd h hu2)
      simp (disch := first | omega | (simp only [go_sem]; first | done | omega)) only [go_sem]
      (refine app_gr (enc := encS) (e := 49) (sz := 3) (bs := 24) (z := [.int .i64 0, .int .i64 0, .int .i64 0]) (l) (⟨t, v, u⟩) (by kernel_rfl) (by kernel_rfl) (by kernel_rfl) (by kernel_rfl) (by first | ((repeat first | exact at0 (by simp) | refine atS ?_); done) | assumption) (by first | (simp (disch := first | omega | (simp only [go_sem]; first | done | omega)) only [go_sem]; done) | (simp (disch := first | omega | (simp only [go_sem]; first | done | omega)) only [go_sem]; rfl) | (simp (disch := first | omega | (simp only [go_sem]; first | done | omega)) only [go_sem]; simp [go_sem]; done) | (simp (disch := first | omega | (simp only [go_sem]; first | done | omega)) only [go_sem]; simp [*]; done)) rfl (by decide) (by omega) (by omega) (by rfl) ?_)
      simp (disch := first | omega | (simp only [go_sem]; first | done | omega)) only [go_sem]
      refine pick_lit s zs (j2 + 1 + 1) [1, 5, 10, 30, 60] (by first | ((repeat first | exact at0 (by simp) | refine atS ?_); done) | assumption) rfl rfl (by first | exact hs | exact hs.app _ | exact hs.set (by omega) (by omega) | exact (hs.set (by omega) (by omega)).app _) (by omega) (by simp) (by simp) (fun d hd => ?_)
      simp only [List.mem_cons, List.not_mem_nil, or_false] at hd
      simp (disch := first | omega | (simp only [go_sem]; first | done | omega)) only [go_sem]
      refine Next.mk (k + 1, l ++ [⟨t, v, u⟩], t + d, j2 + 1 + 1 + 1) ?_ ?_
      · exact ⟨⟨by dsimp only; omega, by simp [q2], key1, key2 d (by omega), by dsimp only; omega, by dsimp only; omega, by dsimp only; omega, by dsimp only; omega⟩, by dsimp only; omega⟩
      · exact ow
  · simp (disch := first | omega | (simp only [go_sem]; first | done | omega)) only [go_sem]
    refine Ret.same (by simp) (hk l j2 (by omega) (by omega) ⟨?_, by omega, fun x hx => ?_⟩)
    · unfold serF; rw [if_neg (by omega)]; exact q3
    · have := q4 x hx; omega
theorem binsF_len (step : Int) (l : List Smp) : (binsF step l).length ≤ l.length := by
  have key : ∀ k, k ≤ l.length → (binsF step (l.take k)).length ≤ k := by
    intro k
    induction k with
    | zero => simp [binsF]
    | succ k ih =>
      intro hk
      have := ih (by omega)
      rw [binsF_next step (by omega)]
      have h2 : (putB (binsF step (l.take k)) (binOf step l[k])).length ≤ (binsF step (l.take k)).length + 1 := by
        unfold putB
        split
        · simp
        · split <;> simp
      omega
  have := key l.length (Nat.le_refl _)
  rwa [List.take_length] at this
theorem binsF_small (step : Int) (l : List Smp) (h1 : 1 ≤ step) (hl : l.length ≤ 100) (hx : ∀ x ∈ l, 0 ≤ x.t ∧ x.t ≤ 345686399999 ∧ -1000000 ≤ x.v ∧ x.v ≤ 1000000) : ∀ y ∈ binsF step l, y.bd 1000000000 ∧ 0 ≤ y.a ∧ y.a ≤ 345686399999 := by
  have key : ∀ k, k ≤ l.length → ∀ y ∈ binsF step (l.take k), y.bd (1000000 * k) ∧ 0 ≤ y.a ∧ y.a ≤ 345686399999 := by
    intro k
    induction k with
    | zero => intro _ y hy; simp [binsF] at hy
    | succ k ih =>
      intro hk y hy
      have ih := ih (by omega)
      have hxk := hx l[k] (List.getElem_mem (by omega))
      have t0 : 0 ≤ l[k].t / step := Int.ediv_nonneg (by omega) (by omega)
      have t1 : l[k].t / step * step ≤ l[k].t := Int.ediv_mul_le _ (by omega)
      have t2 : 0 ≤ l[k].t / step * step := Int.mul_nonneg t0 (by omega)
      have hb : (binOf step l[k]).bd 1000000 ∧ 0 ≤ (binOf step l[k]).a ∧ (binOf step l[k]).a ≤ 345686399999 := by
        unfold binOf
        split <;> (simp only [Bin.bd]; omega)
      rw [binsF_next step (by omega)] at hy
      have h3 := (putB_bd2 (fun z hz => (ih z hz).1) hb.1 (by omega) (by omega)).1 y hy
      refine ⟨by simp only [Bin.bd] at h3 ⊢; omega, ?_⟩
      unfold putB at hy
      split at hy
      · simp at hy; subst hy; exact hb.2
      · rename_i z hz
        have hzz := ih z (List.mem_of_getLast? hz)
        split at hy
        · rcases List.mem_append.1 hy with h | h
          · exact (ih y (List.dropLast_subset _ h)).2
          · simp at h; subst h; exact hzz.2
        · rcases List.mem_append.1 hy with h | h
          · exact (ih y h).2
          · simp at h; subst h; exact hb.2
  intro y hy
  have := key l.length (Nat.le_refl _) y (by rwa [List.take_length])
  simp only [Bin.bd] at this ⊢
  omega
theorem binList_a (s : Nat) (zs : List Int) (j step : Int) (hs : Str H s zs j) (hj : j ≤ 1000000000) (hst : -10 ≤ step ∧ step ≤ 172800000)
    (hk : ∀ (l : List Bin) (j' : Int), j ≤ j' → j' ≤ j + 60 → l.length ≤ 8 → K (.c (.lst 6 (l.map encN))) (H.set s (strO zs j'))) :
    ACalls Tryz.prog 11 [.c (.ptr (some (s, 0, 0))), (.c (.int .i64 step))] H K := by
  have hlt := hs.lt
  have hpos := hs.pos
  have hne : H.length ≠ s := by omega
  have hok : ∀ j', HOk H → HOk (H.set s (strO zs j')) := fun j' h => HOk.str h
  by_cases h0 : isStep step
  case neg =>
    refine acalls Tryz.func11 rfl (by kernel_rfl) (by simp (disch := first | omega | (simp only [go_sem]; first | done | omega)) only [go_sem]) (fun hH => ?_)
    simp (disch := first | omega | (simp only [go_sem]; first | done | omega)) only [go_sem]
    refine stepFault_a _ _ _ ?_
    rw [if_neg h0]
    simp (disch := first | omega | (simp only [go_sem]; first | done | omega)) only [go_sem]
    have hsame : H = H.set s (strO zs j) := (set_same hs.2.2.2).symm
    have := hk [] j (by omega) (by omega) (by simp)
    rw [← hsame] at this
    exact Ret.nil [6] (Nat.le_refl _) (Ret.same (Nat.le_refl _) this)
  refine acalls Tryz.func11 rfl (by kernel_rfl) (by simp (disch := first | omega | (simp only [go_sem]; first | done | omega)) only [go_sem]) (fun hH => ?_)
  simp (disch := first | omega | (simp only [go_sem]; first | done | omega)) only [go_sem]
  refine stepFault_a _ _ _ ?_
  rw [if_pos h0]
  simp (disch := first | omega | (simp only [go_sem]; first | done | omega)) only [go_sem]
  refine rightSamples_o s zs j 8 hs (by omega) (by omega) (by omega) (fun l j1 h1 h2 h3 => ?_)
  obtain ⟨h4, h5, h6⟩ := h3
  simp (disch := first | omega | (simp only [go_sem]; first | done | omega)) only [go_sem]
  refine ACalls.litGr (by first | ((repeat first | exact at0 (by simp) | refine atS ?_); done) | assumption) (by simp) (pureL_map l (fun x => by simp [AC.pure])) rfl ?_
  refine binsOf_o l step (by omega) h0.1 h0.2.1 (fun x hx => by have := h6 x hx; simp only [Smp.small]; omega) (serF_inc h4) ?_
  simp (disch := first | omega | (simp only [go_sem]; first | done | omega)) only [go_sem]
  have hbl := (binsF_len step l)
  generalize hB : binsF step l = B
  rw [hB] at hbl
  have hbx : ∀ y ∈ B, y.bd 1000000000 ∧ 0 ≤ y.a ∧ y.a ≤ 345686399999 := by rw [← hB]; exact binsF_small step l h0.1 (by omega) (fun x hx => by have := h6 x hx; omega)
  by_cases hn : B = []
  · subst hn
    simp (disch := first | omega | (simp only [go_sem]; first | done | omega)) only [go_sem]
    exact Ret.nil [6] (by simp) (Ret.cut (hok _ hH) (by simp) trivial (Ret.same (by simp) (hk [] j1 (by omega) (by omega) (by simp))))
  have hn1 : 0 < B.length := List.length_pos_iff.2 hn
  have hne2 : B.map encN ≠ [] := by simpa using hn
  rw [grV_pos _ hn, grO_pos _ _ hne2]
  simp (disch := first | omega | (simp only [go_sem]; first | done | omega)) only [go_sem]
  refine flip_a s zs j1 8 (by first | exact hs | exact hs.app _ | exact hs.set (by omega) (by omega) | exact (hs.set (by omega) (by omega)).app _) (by omega) (by omega) (fun b => ?_)
  simp (disch := first | omega | (simp only [go_sem]; first | done | omega)) only [go_sem]
  refine acond_b (fun c => ?_) (fun c => ?_)
  rotate_left
  · simp (disch := first | omega | (simp only [go_sem]; first | done | omega)) only [go_sem]
    exact Ret.frzRow 1 (hok _ hH) (by simp) rfl (pureL_encN _) (by simp) (by simp) (hk B _ (by omega) (by omega) (by omega))
  simp (disch := first | omega | (simp only [go_sem]; first | done | omega)) only [go_sem]
  refine next_a s zs (j1 + 1) B.length (by first | exact hs | exact hs.app _ | exact hs.set (by omega) (by omega) | exact (hs.set (by omega) (by omega)).app _) (by omega) (by omega) (fun r hr0 hr1 => ?_)
  simp (disch := first | omega | (simp only [go_sem]; first | done | omega)) only [go_sem]
  refine next_a s zs (j1 + 1 + 1) 4 (by first | exact hs | exact hs.app _ | exact hs.set (by omega) (by omega) | exact (hs.set (by omega) (by omega)).app _) (by omega) (by omega) (fun q hq0 hq1 => ?_)
  have hrl : r.toNat < B.length := by omega
  have hbr := hbx B[r.toNat] (List.getElem_mem hrl)
  obtain ⟨y, hy⟩ : ∃ y, y = B[r.toNat] := ⟨_, rfl⟩
  rw [← hy] at hbr
  simp only [Bin.bd] at hbr
  have fin : ∀ (y' : Bin) (j' : Int) (G : Hp), j ≤ j' → j' ≤ j + 60 → Ret H.length (.c (.sl (some (H.length + 1, 0)) B.length)) (H.set s (strO zs j') ++ (.dead :: .row 39 6 ((B.map encN).set r.toNat (encN y')) true :: G)) K := by
    intro y' j' G g1 g2
    rw [← List.map_set]
    exact Ret.frzRow 1 (hok _ hH) (by simp) rfl (pureL_encN _) (by simp) (by simp) (hk (B.set r.toNat y') j' g1 g2 (by simp; omega))
  simp (disch := first | omega | (simp only [go_sem]; first | done | omega)) only [go_sem, ← hy]
  refine acond_d (fun c0 => ?_) (fun c0 => ?_)
  · simp (disch := first | omega | (simp only [go_sem]; first | done | omega)) only [go_sem, ← hy]
    refine w_tree (.one 0 (.one 1 (.one 2 (.one 4 (.one 5 (.one 6 (.one 7 (.two 3 (.one 8 (.one 9 (.one 10 (.one 11 (.one 12 (.one 13 .done)))))) 8 (.two 3 (.one 9 (.one 10 (.one 11 (.one 12 (.one 13 .done))))) 9 (.one 3 (.one 10 (.one 11 (.one 12 (.one 13 .done)))))))))))))) (by kernel_rfl) (by decide +kernel) ?_
    simp (disch := first | omega | (simp only [go_sem]; first | done | omega)) only [go_sem, ← hy]
    repeat' apply And.intro
    all_goals
      refine pick_lit s zs (j1 + 1 + 1 + 1) [1, 0 - step, step] (by first | ((repeat first | exact at0 (by simp) | refine atS ?_); done) | assumption) rfl rfl (by first | exact hs | exact hs.app _ | exact hs.set (by omega) (by omega) | exact (hs.set (by omega) (by omega)).app _) (by omega) (by simp) (by simp) (fun r1 hr1 => ?_)
      simp only [List.mem_cons, List.not_mem_nil, or_false] at hr1
      simp (disch := first | omega | (simp only [go_sem]; first | done | omega)) only [go_sem, ← hy]
      exact fin ⟨y.a + r1, y.s, y.n, y.m, y.lo, y.hi⟩ (j1 + 1 + 1 + 1 + 1) _ (by omega) (by omega)
  simp (disch := first | omega | (simp only [go_sem]; first | done | omega)) only [go_sem, ← hy]
  refine acond_d (fun c1 => ?_) (fun c1 => ?_)
  · simp (disch := first | omega | (simp only [go_sem]; first | done | omega)) only [go_sem, ← hy]
    refine w_tree (.one 0 (.one 1 (.one 2 (.one 4 (.two 3 (.one 5 (.one 6 (.one 7 (.one 8 (.one 9 (.one 10 .done)))))) 5 (.two 3 (.one 6 (.one 7 (.one 8 (.one 9 (.one 10 .done))))) 6 (.one 3 (.one 7 (.one 8 (.one 9 (.one 10 .done))))))))))) (by kernel_rfl) (by decide +kernel) ?_
    simp (disch := first | omega | (simp only [go_sem]; first | done | omega)) only [go_sem, ← hy]
    repeat' apply And.intro
    all_goals
      refine pick_lit s zs (j1 + 1 + 1 + 1) [1, 1000, -1000] (by first | ((repeat first | exact at0 (by simp) | refine atS ?_); done) | assumption) rfl rfl (by first | exact hs | exact hs.app _ | exact hs.set (by omega) (by omega) | exact (hs.set (by omega) (by omega)).app _) (by omega) (by simp) (by simp) (fun r1 hr1 => ?_)
      simp only [List.mem_cons, List.not_mem_nil, or_false] at hr1
      simp (disch := first | omega | (simp only [go_sem]; first | done | omega)) only [go_sem, ← hy]
      exact fin ⟨y.a, y.s + r1, y.n, y.m, y.lo, y.hi⟩ (j1 + 1 + 1 + 1 + 1) _ (by omega) (by omega)
  simp (disch := first | omega | (simp only [go_sem]; first | done | omega)) only [go_sem, ← hy]
  refine acond_d (fun c2 => ?_) (fun c2 => ?_)
  · simp (disch := first | omega | (simp only [go_sem]; first | done | omega)) only [go_sem, ← hy]
    refine odd_a s zs (j1 + 1 + 1 + 1) 0 3 (by first | exact hs | exact hs.app _ | exact hs.set (by omega) (by omega) | exact (hs.set (by omega) (by omega)).app _) (by omega) (by omega) (by omega) (by omega) (fun r1 j2 g1 g2 g3 => ?_)
    simp (disch := first | omega | (simp only [go_sem]; first | done | omega)) only [go_sem, ← hy]
    refine pick_lit s zs j2 [0, 1, 5000000, 5000001] (by first | ((repeat first | exact at0 (by simp) | refine atS ?_); done) | assumption) rfl rfl (by first | exact hs | exact hs.app _ | exact hs.set (by omega) (by omega) | exact (hs.set (by omega) (by omega)).app _) (by omega) (by simp) (by simp) (fun r2 hr2 => ?_)
    simp (disch := first | omega | (simp only [go_sem]; first | done | omega)) only [go_sem, ← hy]
    exact fin ⟨y.a, y.s, r1, r2, y.lo, y.hi⟩ (j2 + 1) _ (by omega) (by omega)
  · simp (disch := first | omega | (simp only [go_sem]; first | done | omega)) only [go_sem, ← hy]
    refine odd_a s zs (j1 + 1 + 1 + 1) (-5) 5 (by first | exact hs | exact hs.app _ | exact hs.set (by omega) (by omega) | exact (hs.set (by omega) (by omega)).app _) (by omega) (by omega) (by omega) (by omega) (fun r1 j2 g1 g2 g3 => ?_)
    simp (disch := first | omega | (simp only [go_sem]; first | done | omega)) only [go_sem, ← hy]
    refine pick_lit s zs j2 [5, 1000000, 1000001] (by first | ((repeat first | exact at0 (by simp) | refine atS ?_); done) | assumption) rfl rfl (by first | exact hs | exact hs.app _ | exact hs.set (by omega) (by omega) | exact (hs.set (by omega) (by omega)).app _) (by omega) (by simp) (by simp) (fun r2 hr2 => ?_)
    simp (disch := first | omega | (simp only [go_sem]; first | done | omega)) only [go_sem, ← hy]
    exact fin ⟨y.a, y.s, y.n, y.m, r1, r2⟩ (j2 + 1) _ (by omega) (by omega)
end Go.Proofs.YtebhpfhichdgaaaGreatDoor
