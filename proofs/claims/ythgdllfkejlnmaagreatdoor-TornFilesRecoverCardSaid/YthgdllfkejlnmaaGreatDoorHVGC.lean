/- Several texts in one: The first error of some, and what follows. No condition. -/
import Derived.Test.YthgdllfkejlnmaaGreatDoorHVGA
import Derived.Test.YthgdllfkejlnmaaGreatDoorHVGB
/- The first error of some. No condition. -/
namespace Go.Proofs.YthgdllfkejlnmaaGreatDoor
open Go Go.RowKit
set_option maxRecDepth 100000
set_option linter.all false
set_option maxHeartbeats 1000000
variable {H : Hp} {K : AV → Hp → Prop}
end Go.Proofs.YthgdllfkejlnmaaGreatDoor
/- The bins of a series, interval by interval: no program in sight. No condition. -/
namespace Go.Proofs.YthgdllfkejlnmaaGreatDoor
open Go Go.RowKit
set_option maxRecDepth 100000
set_option linter.all false
def minL : List Int → Int
  | [] => 0
  | x :: t => t.foldl min x
def maxL : List Int → Int
  | [] => 0
  | x :: t => t.foldl max x
theorem minL_snoc (g : List Int) (v : Int) : minL (g ++ [v]) = if g = [] then v else min (minL g) v := by
  cases g with
  | nil => rfl
  | cons x t => simp [minL]
theorem maxL_snoc (g : List Int) (v : Int) : maxL (g ++ [v]) = if g = [] then v else max (maxL g) v := by
  cases g with
  | nil => rfl
  | cons x t => simp [maxL]
def mkB (f : Int) (g : List Int) (m : Int) : Bin := ⟨f, g.sum, g.length, m, minL g, maxL g⟩
theorem div_same {t q step : Int} (h0 : 0 < step) (h1 : q * step ≤ t) (h2 : t < q * step + step) : t / step = q := by
  have a : q ≤ t / step := (Int.le_ediv_iff_mul_le h0).2 h1
  have b : t / step < q + 1 := (Int.ediv_lt_iff_lt_mul h0).2 (by rw [Int.add_mul, Int.one_mul]; exact h2)
  omega
theorem mk_first (step : Int) (x : Smp) : binOf step x = mkB (x.t / step * step) (if x.q = 0 then [x.v] else []) (if x.q = 0 then 0 else 1) := by
  unfold binOf mkB
  split <;> simp [minL, maxL]
theorem put_first {out : List Bin} {b : Bin} (h : ∀ y ∈ out, y.a ≠ b.a) : putB out b = out ++ [b] := by
  unfold putB
  split
  · rename_i h0; rw [List.getLast?_eq_none_iff.1 h0]; rfl
  · rename_i y hy
    rw [if_neg (h y (List.mem_of_getLast? hy))]
theorem put_next (out : List Bin) (f : Int) (g : List Int) (m : Int) (step : Int) (x : Smp) (hf : x.t / step * step = f) (hne : g ≠ [] ∨ m ≠ 0) : putB (out ++ [mkB f g m]) (binOf step x) = out ++ [mkB f (if x.q = 0 then g ++ [x.v] else g) (if x.q = 0 then m else m + 1)] := by
  have h1 : (binOf step x).a = f := by unfold binOf; split <;> exact hf
  unfold putB
  rw [List.getLast?_concat]
  dsimp only
  rw [if_pos (by rw [h1]; rfl), List.dropLast_concat]
  congr 2
  unfold binOf combB
  by_cases hq : x.q = 0
  · rw [if_pos hq, if_pos hq, if_pos hq]
    by_cases hg : g = []
    · subst hg; simp [mkB, minL, maxL]
    · have hl : g.length ≠ 0 := by simpa using hg
      have hl2 : (g.length : Int) ≠ 0 := by omega
      simp only [mkB, minL_snoc, maxL_snoc, if_neg hg, if_neg hl2]
      simp [hg]
  · rw [if_neg hq, if_neg hq, if_neg hq]
    by_cases hg : g = []
    · subst hg; simp [mkB, minL, maxL]
    · have hl : g.length ≠ 0 := by simpa using hg
      have hl2 : (g.length : Int) ≠ 0 := by omega
      simp only [mkB, if_neg hl2]
      simp
theorem binsF_next {l : List Smp} {k : Nat} (step : Int) (h : k < l.length) : binsF step (l.take (k + 1)) = putB (binsF step (l.take k)) (binOf step l[k]) := by
  rw [List.take_succ_eq_append_getElem h, binsF_snoc]
def incS (l : List Smp) : Prop := ∀ (i j : Nat) (hj : j < l.length) (hij : i < j), (l[i]'(by omega)).t < l[j].t
theorem errGo_pair {α : Type} (f : Nat → α → α → Int) (p0 : α) (l : List α) (h : errGo f 0 p0 l = 0) : ∀ k (hk : k < l.length), f k (prv p0 l k) l[k] = 0 := by
  have key : ∀ k, k ≤ l.length → errGo f k (prv p0 l k) (l.drop k) = 0 := by
    intro k
    induction k with
    | zero => intro _; exact h
    | succ k ih =>
      intro hk
      have h1 := ih (by omega)
      rw [errGo_step f p0 l k (by omega)] at h1
      split at h1
      · exact h1
      · rename_i h2; exact absurd h1 h2
  intro k hk
  have h1 := key k (by omega)
  rw [errGo_step f p0 l k hk] at h1
  split at h1
  · assumption
  · exact h1
theorem serF_inc {l : List Smp} (h : serF l = 0) : incS l := by
  have h1 : errGo serErr 0 ⟨0, 0, 0⟩ l = 0 := by
    unfold serF at h
    split at h
    · cases h
    · exact h
  have h2 := errGo_pair serErr _ l h1
  have step : ∀ (k : Nat) (hk : k + 1 < l.length), (l[k]'(by omega)).t < l[k + 1].t := by
    intro k hk
    have h3 := h2 (k + 1) hk
    rw [prv_succ _ _ k (by omega)] at h3
    unfold serErr at h3
    split at h3
    · rename_i h4; exact absurd h3 h4
    · split at h3
      · cases h3
      · omega
  intro i j hj hij
  induction j with
  | zero => omega
  | succ j ih =>
    rcases Nat.lt_or_ge i j with h4 | h4
    · exact Int.lt_trans (ih (by omega) h4) (step j hj)
    · obtain rfl : i = j := by omega
      exact step i hj
end Go.Proofs.YthgdllfkejlnmaaGreatDoor
/- The document's bins of a series. Condition: the times rise, numbers are small. -/
namespace Go.Proofs.YthgdllfkejlnmaaGreatDoor
open Go Go.RowKit
set_option maxRecDepth 100000
set_option linter.all false
set_option maxHeartbeats 1000000
variable {H : Hp} {K : AV → Hp → Prop}
theorem pureL_encI (l : List Int) : pureL (l.map encI) = true := by simp [pureL, encI, AC.pure]
def Smp.small (x : Smp) : Prop := 0 ≤ x.t ∧ x.t ≤ 345686399999 ∧ -1000000 ≤ x.v ∧ x.v ≤ 1000000
theorem sum_bd : ∀ (g : List Int), (∀ v ∈ g, -1000000 ≤ v ∧ v ≤ 1000000) → -1000000 * (g.length : Int) ≤ g.sum ∧ g.sum ≤ 1000000 * (g.length : Int)
  | [], _ => by simp
  | x :: t, h => by
    have h1 := h x (by simp)
    have h2 := sum_bd t (fun v hv => h v (by simp [hv]))
    simp only [List.sum_cons, List.length_cons]
    omega
end Go.Proofs.YthgdllfkejlnmaaGreatDoor
/- Samples that are drawn. No condition. -/
namespace Go.Proofs.YthgdllfkejlnmaaGreatDoor
open Go Go.RowKit
set_option maxRecDepth 100000
set_option linter.all false
set_option maxHeartbeats 1000000
variable {H : Hp} {K : AV → Hp → Prop}
theorem odd_a (s : Nat) (zs : List Int) (j lo hi : Int) (hs : Str H s zs j) (hj : j ≤ 1099000000000) (h1 : -1000000000000 ≤ lo) (h2 : lo ≤ hi) (h3 : hi ≤ 1000000000000)
    (hk : ∀ (r j' : Int), j ≤ j' → j' ≤ j + 2 → (lo - 1 ≤ r ∧ r ≤ hi + 1) ∨ r = -1099511627776 ∨ r = 1099511627776 → K (.c (.int .i64 r)) (H.set s (strO zs j'))) : ACalls Tryz.prog 52 [.c (.ptr (some (s, 0, 0))), (.c (.int .i64 lo)), (.c (.int .i64 hi))] H K := by
  have hlt := hs.lt
  have hpos := hs.pos
  have hne : H.length ≠ s := by omega
  refine acalls Tryz.func52 rfl (by kernel_rfl) (by simp (disch := first | omega | (simp only [go_sem]; first | done | omega)) only [go_sem]) (fun hH => ?_)
  simp (disch := first | omega | (simp only [go_sem]; first | done | omega)) only [go_sem]
  refine flip_a s zs j 12 (by first | exact hs | exact hs.app _ | exact hs.set (by omega) (by omega) | exact (hs.set (by omega) (by omega)).app _) (by omega) (by omega) (fun b => ?_)
  simp (disch := first | omega | (simp only [go_sem]; first | done | omega)) only [go_sem]
  refine acond_b (fun c => ?_) (fun c => ?_)
  · simp (disch := first | omega | (simp only [go_sem]; first | done | omega)) only [go_sem]
    refine pick_lit s zs (j + 1) [lo - 1, hi + 1, lo, hi, -1099511627776, 1099511627776] (by first | exact at0 (by simp) | exact at1 (by simp) | exact at2 (by simp) | exact at3 (by simp) | exact at4 (by simp) | exact at5 (by simp) | exact atG 6 (by simp) rfl | exact atG 7 (by simp) rfl | exact atG 8 (by simp) rfl | exact atG 9 (by simp) rfl | exact atG 10 (by simp) rfl | assumption) rfl rfl (by first | exact hs | exact hs.app _ | exact hs.set (by omega) (by omega) | exact (hs.set (by omega) (by omega)).app _) (by omega) (by simp) (by simp) (fun r hr => ?_)
    simp only [List.mem_cons, List.not_mem_nil, or_false] at hr
    simp (disch := first | omega | (simp only [go_sem]; first | done | omega)) only [go_sem]
    exact Ret.drop (HOk.str hH) (by simp) trivial (hk r (j + 1 + 1) (by omega) (by omega) (by omega))
  · simp (disch := first | omega | (simp only [go_sem]; first | done | omega)) only [go_sem]
    refine range_a s zs (j + 1) lo hi (by first | exact hs | exact hs.app _ | exact hs.set (by omega) (by omega) | exact (hs.set (by omega) (by omega)).app _) (by omega) (by omega) (by omega) (fun r h4 h5 => ?_)
    simp (disch := first | omega | (simp only [go_sem]; first | done | omega)) only [go_sem]
    exact Ret.same (by simp) (hk r (j + 1 + 1) (by omega) (by omega) (by omega))
theorem oneSample_a (s : Nat) (zs : List Int) (j : Int) (hs : Str H s zs j) (hj : j ≤ 1099000000000)
    (hk : ∀ (x : Smp), (-1 ≤ x.t ∧ x.t ≤ 345686400000) → (-9223372036854775808 ≤ x.v ∧ x.v ≤ 4611686018427387904) → (-1 ≤ x.q ∧ x.q ≤ 3) → K (.agg (encS x)) (H.set s (strO zs (j + 1 + 1 + 1)))) : ACalls Tryz.prog 53 [.c (.ptr (some (s, 0, 0)))] H K := by
  have hlt := hs.lt
  have hpos := hs.pos
  have hne : H.length ≠ s := by omega
  refine acalls Tryz.func53 rfl (by kernel_rfl) (by simp (disch := first | omega | (simp only [go_sem]; first | done | omega)) only [go_sem]) (fun hH => ?_)
  simp (disch := first | omega | (simp only [go_sem]; first | done | omega)) only [go_sem]
  refine pick_lit s zs j [0, 50, 345686399999, 345686400000, -1] (by first | exact at0 (by simp) | exact at1 (by simp) | exact at2 (by simp) | exact at3 (by simp) | exact at4 (by simp) | exact at5 (by simp) | exact atG 6 (by simp) rfl | exact atG 7 (by simp) rfl | exact atG 8 (by simp) rfl | exact atG 9 (by simp) rfl | exact atG 10 (by simp) rfl | assumption) rfl rfl (by first | exact hs | exact hs.app _ | exact hs.set (by omega) (by omega) | exact (hs.set (by omega) (by omega)).app _) (by omega) (by simp) (by simp) (fun a ha => ?_)
  simp (disch := first | omega | (simp only [go_sem]; first | done | omega)) only [go_sem]
  refine pick_lit s zs (j + 1) [0, 1, 1000000, -1000000, 1000001, -1000001, 4611686018427387904, -9223372036854775808] (by first | exact at0 (by simp) | exact at1 (by simp) | exact at2 (by simp) | exact at3 (by simp) | exact at4 (by simp) | exact at5 (by simp) | exact atG 6 (by simp) rfl | exact atG 7 (by simp) rfl | exact atG 8 (by simp) rfl | exact atG 9 (by simp) rfl | exact atG 10 (by simp) rfl | assumption) rfl rfl (by first | exact hs | exact hs.app _ | exact hs.set (by omega) (by omega) | exact (hs.set (by omega) (by omega)).app _) (by omega) (by simp) (by simp) (fun b hb => ?_)
  simp (disch := first | omega | (simp only [go_sem]; first | done | omega)) only [go_sem]
  refine pick_lit s zs (j + 1 + 1) [0, 1, 2, 3, -1] (by first | exact at0 (by simp) | exact at1 (by simp) | exact at2 (by simp) | exact at3 (by simp) | exact at4 (by simp) | exact at5 (by simp) | exact atG 6 (by simp) rfl | exact atG 7 (by simp) rfl | exact atG 8 (by simp) rfl | exact atG 9 (by simp) rfl | exact atG 10 (by simp) rfl | assumption) rfl rfl (by first | exact hs | exact hs.app _ | exact hs.set (by omega) (by omega) | exact (hs.set (by omega) (by omega)).app _) (by omega) (by simp) (by simp) (fun c hc => ?_)
  simp only [List.mem_cons, List.not_mem_nil, or_false] at ha hb hc
  simp (disch := first | omega | (simp only [go_sem]; first | done | omega)) only [go_sem]
  have := hk ⟨a, b, c⟩ (by dsimp only; omega) (by dsimp only; omega) (by dsimp only; omega)
  exact Ret.drop (HOk.str hH) (by simp) (by simp [AV.ok, AV.ok1, AC.ok]) this
/-- series as they are drawn, all right -/
def drawnS (most : Int) (l : List Smp) : Prop := serF l = 0 ∧ l.length ≤ most ∧ ∀ x ∈ l, 0 ≤ x.t ∧ x.t ≤ 90 + 60 * most ∧ -3 ≤ x.v ∧ x.v ≤ 100 ∧ 0 ≤ x.q ∧ x.q ≤ 2
theorem rightSamples_o (s : Nat) (zs : List Int) (j most : Int) (hs : Str H s zs j) (hj : j ≤ 1090000000000) (hm0 : 0 ≤ most) (hm1 : most ≤ 100)
    (hk : ∀ (l : List Smp) (j' : Int), j ≤ j' → j' ≤ j + 2 + 3 * most → drawnS most l → K (.c (grV H.length l)) (H.set s (strO zs j') ++ [grO 56 3 (l.map encS)])) :
    ACalls Tryz.prog 44 [.c (.ptr (some (s, 0, 0))), (.c (.int .i64 most))] H K := by
  have hlt := hs.lt
  have hpos := hs.pos
  have hne : H.length ≠ s := by omega
  refine acalls Tryz.func44 rfl (by kernel_rfl) (by simp (disch := first | omega | (simp only [go_sem]; first | done | omega)) only [go_sem]) (fun hH => ?_)
  simp (disch := first | omega | (simp only [go_sem]; first | done | omega)) only [go_sem]
  refine pick_lit s zs j [0, 5, 90] (by first | exact at0 (by simp) | exact at1 (by simp) | exact at2 (by simp) | exact at3 (by simp) | exact at4 (by simp) | exact at5 (by simp) | exact atG 6 (by simp) rfl | exact atG 7 (by simp) rfl | exact atG 8 (by simp) rfl | exact atG 9 (by simp) rfl | exact atG 10 (by simp) rfl | assumption) rfl rfl (by first | exact hs | exact hs.app _ | exact hs.set (by omega) (by omega) | exact (hs.set (by omega) (by omega)).app _) (by omega) (by simp) (by simp) (fun a0 ha0 => ?_)
  simp only [List.mem_cons, List.not_mem_nil, or_false] at ha0
  simp (disch := first | omega | (simp only [go_sem]; first | done | omega)) only [go_sem]
  refine range_a s zs (j + 1) 0 most (by first | exact hs | exact hs.app _ | exact hs.set (by omega) (by omega) | exact (hs.set (by omega) (by omega)).app _) (by omega) (by omega) (by omega) (fun r hr0 hr1 => ?_)
  simp (disch := first | omega | (simp only [go_sem]; first | done | omega)) only [go_sem]
  refine AWp.loop (H.length) [0, 13] [14, 5, 6] (fun (q : Nat × List Smp × Int × Int) => (q.1 : Int) ≤ r ∧ q.2.1.length = q.1 ∧ errGo serErr 0 ⟨0, 0, 0⟩ q.2.1 = 0 ∧ (∀ x ∈ q.2.1, 0 ≤ x.t ∧ x.t < q.2.2.1 ∧ -3 ≤ x.v ∧ x.v ≤ 100 ∧ 0 ≤ x.q ∧ x.q ≤ 2) ∧ 0 ≤ q.2.2.1 ∧ q.2.2.1 ≤ 90 + 60 * q.1 ∧ j + 2 ≤ q.2.2.2 ∧ q.2.2.2 ≤ j + 2 + 3 * q.1) (fun (q : Nat × List Smp × Int × Int) => [(14, (.c (.int .i64 (q.1)))), (5, .c (grV H.length q.2.1)), (6, (.c (.int .i64 (q.2.2.1))))]) (fun (q : Nat × List Smp × Int × Int) => H.set s (strO zs q.2.2.2) ++ [grO 56 3 (q.2.1.map encS)]) (fun (q : Nat × List Smp × Int × Int) => r.toNat - q.1) (by kernel_rfl) (fun _ => rfl) (by kernel_rfl) (by simp) (by first | (simp; done) | (simp; omega)) (by (try simp only [List.forall_mem_cons, List.not_mem_nil, false_implies, implies_true, and_true]); (try simp (disch := first | omega | (simp only [go_sem]; first | done | omega)) only [go_sem]); all_goals first | trivial | (simp [AV.ok, AV.ok1, AC.ok]; done) | (simp [AV.ok, AV.ok1, AC.ok]; omega) | (simp [AV.ok, AV.ok1, AC.ok]; assumption) | ((repeat' apply And.intro) <;> first | trivial | (simp [AV.ok, AV.ok1, AC.ok]; done) | (simp [AV.ok, AV.ok1, AC.ok]; omega) | (simp [AV.ok, AV.ok1, AC.ok]; assumption) | (refine grV_ok ?_ _; first | (simp; done) | (simp; omega) | omega))) ?_ (fun q hq _ _ => ?_)
  · refine Next.mk (0, [], a0, j + 1 + 1) ⟨by simpa using hr0, rfl, rfl, by simp, by dsimp only; omega, by dsimp only; omega, by dsimp only; omega, by dsimp only; omega⟩ ?_
    simp (disch := first | omega | (simp only [go_sem]; first | done | omega)) only [go_sem]
    exact WkL.refl (by simp)
  obtain ⟨k, l, t, j2⟩ := q
  obtain ⟨q1, q2, q3, q4, q5, q6, q7, q8⟩ := hq
  dsimp only at q1 q2 q3 q4 q5 q6 q7 q8
  by_cases hkr : (k : Int) < r
  · simp (disch := first | omega | (simp only [go_sem]; first | done | omega)) only [go_sem]
    refine pick_lit s zs j2 [5, 5, 7, 7, -3, 100, 0] (by first | exact at0 (by simp) | exact at1 (by simp) | exact at2 (by simp) | exact at3 (by simp) | exact at4 (by simp) | exact at5 (by simp) | exact atG 6 (by simp) rfl | exact atG 7 (by simp) rfl | exact atG 8 (by simp) rfl | exact atG 9 (by simp) rfl | exact atG 10 (by simp) rfl | assumption) rfl rfl (by first | exact hs | exact hs.app _ | exact hs.set (by omega) (by omega) | exact (hs.set (by omega) (by omega)).app _) (by omega) (by simp) (by simp) (fun v hv => ?_)
    simp only [List.mem_cons, List.not_mem_nil, or_false] at hv
    simp (disch := first | omega | (simp only [go_sem]; first | done | omega)) only [go_sem]
    refine pick_lit s zs (j2 + 1) [0, 0, 0, 1, 2] (by first | exact at0 (by simp) | exact at1 (by simp) | exact at2 (by simp) | exact at3 (by simp) | exact at4 (by simp) | exact at5 (by simp) | exact atG 6 (by simp) rfl | exact atG 7 (by simp) rfl | exact atG 8 (by simp) rfl | exact atG 9 (by simp) rfl | exact atG 10 (by simp) rfl | assumption) rfl rfl (by first | exact hs | exact hs.app _ | exact hs.set (by omega) (by omega) | exact (hs.set (by omega) (by omega)).app _) (by omega) (by simp) (by simp) (fun u hu => ?_)
    simp only [List.mem_cons, List.not_mem_nil, or_false] at hu
    simp (disch := first | omega | (simp only [go_sem]; first | done | omega)) only [go_sem]
    have hlk : l.length ≤ 100 := by omega
    have key : ∀ w : Int, -3 ≤ w → w ≤ 100 → (u = 2 → w = 0) → errGo serErr 0 ⟨0, 0, 0⟩ (l ++ [⟨t, w, u⟩]) = 0 ∧ ∀ d : Int, 1 ≤ d → ∀ x ∈ l ++ [(⟨t, w, u⟩ : Smp)], 0 ≤ x.t ∧ x.t < t + d ∧ -3 ≤ x.v ∧ x.v ≤ 100 ∧ 0 ≤ x.q ∧ x.q ≤ 2 := by
      intro w w1 w2 w3
      refine ⟨?_, fun d hd x hx => ?_⟩
      · rw [errGo_snoc _ _ _ _ _ q3]
        have h1 : smpErr ⟨t, w, u⟩ = 0 := by
          unfold smpErr
          rw [if_neg (by dsimp only; omega), if_neg (by dsimp only; omega), if_neg (by dsimp only; omega), if_neg (by dsimp only; omega)]
        have h2 : ∀ p, l.getLast? = some p → p.t < t := fun p hp => (q4 p (List.mem_of_getLast? hp)).2.1
        unfold serErr
        rw [if_neg (by rw [h1]; simp)]
        rw [if_neg]
        rintro ⟨h3, h4⟩
        cases hl : l.getLast? with
        | none => rw [List.getLast?_eq_none_iff.1 hl] at h3; simp at h3
        | some p =>
          rw [hl] at h4
          have := h2 p hl
          simp only [Option.getD_some] at h4
          omega
      · rcases List.mem_append.1 hx with h | h
        · have := q4 x h; omega
        · simp at h; subst h; dsimp only; omega
    refine acond_d (fun hu2 => ?_) (fun hu2 => ?_)
    · obtain ⟨key1, key2⟩ := key 0 (by omega) (by omega) (fun _ => rfl)
      simp (disch := first | omega | (simp only [go_sem]; first | done | omega)) only [go_sem]
      (refine app_gr (enc := encS) (e := 56) (sz := 3) (bs := 24) (z := [.int .i64 0, .int .i64 0, .int .i64 0]) (l) (⟨t, 0, u⟩) (by kernel_rfl) (by kernel_rfl) (by kernel_rfl) (by kernel_rfl) (by first | exact at0 (by simp) | exact at1 (by simp) | exact at2 (by simp) | exact at3 (by simp) | exact at4 (by simp) | exact at5 (by simp) | exact atG 6 (by simp) rfl | exact atG 7 (by simp) rfl | exact atG 8 (by simp) rfl | exact atG 9 (by simp) rfl | exact atG 10 (by simp) rfl | assumption) (by first | (simp (disch := first | omega | (simp only [go_sem]; first | done | omega)) only [go_sem]; done) | (simp (disch := first | omega | (simp only [go_sem]; first | done | omega)) only [go_sem]; rfl) | (simp (disch := first | omega | (simp only [go_sem]; first | done | omega)) only [go_sem]; simp [go_sem]; done) | (simp (disch := first | omega | (simp only [go_sem]; first | done | omega)) only [go_sem]; simp [*]; done)) rfl (by decide) (by omega) (by omega) (by rfl) ?_)
      simp (disch := first | omega | (simp only [go_sem]; first | done | omega)) only [go_sem]
      refine pick_lit s zs (j2 + 1 + 1) [1, 5, 10, 30, 60] (by first | exact at0 (by simp) | exact at1 (by simp) | exact at2 (by simp) | exact at3 (by simp) | exact at4 (by simp) | exact at5 (by simp) | exact atG 6 (by simp) rfl | exact atG 7 (by simp) rfl | exact atG 8 (by simp) rfl | exact atG 9 (by simp) rfl | exact atG 10 (by simp) rfl | assumption) rfl rfl (by first | exact hs | exact hs.app _ | exact hs.set (by omega) (by omega) | exact (hs.set (by omega) (by omega)).app _) (by omega) (by simp) (by simp) (fun d hd => ?_)
      simp only [List.mem_cons, List.not_mem_nil, or_false] at hd
      simp (disch := first | omega | (simp only [go_sem]; first | done | omega)) only [go_sem]
      refine Next.mk (k + 1, l ++ [⟨t, 0, u⟩], t + d, j2 + 1 + 1 + 1) ?_ ?_
      · exact ⟨⟨by dsimp only; omega, by simp [q2], key1, key2 d (by omega), by dsimp only; omega, by dsimp only; omega, by dsimp only; omega, by dsimp only; omega⟩, by dsimp only; omega⟩
      · ((try simp (disch := first | omega | (simp only [go_sem]; first | done | omega)) only [go_sem]); (first | refine WkL.pick [0] ?_ ?_ rfl ?_ ?_ ?_ ?_ | refine WkL.pick [1] ?_ ?_ rfl ?_ ?_ ?_ ?_ | refine WkL.pick [2] ?_ ?_ rfl ?_ ?_ ?_ ?_ | refine WkL.pick [3] ?_ ?_ rfl ?_ ?_ ?_ ?_ | refine WkL.pick [4] ?_ ?_ rfl ?_ ?_ ?_ ?_ | refine WkL.pick [5] ?_ ?_ rfl ?_ ?_ ?_ ?_ | refine WkL.pick [6] ?_ ?_ rfl ?_ ?_ ?_ ?_ | refine WkL.pick [7] ?_ ?_ rfl ?_ ?_ ?_ ?_ | refine WkL.pick [8] ?_ ?_ rfl ?_ ?_ ?_ ?_ | refine WkL.pick [9] ?_ ?_ rfl ?_ ?_ ?_ ?_ | refine WkL.pick [10] ?_ ?_ rfl ?_ ?_ ?_ ?_ | refine WkL.pick [11] ?_ ?_ rfl ?_ ?_ ?_ ?_ | refine WkL.pick [12] ?_ ?_ rfl ?_ ?_ ?_ ?_ | refine WkL.pick [13] ?_ ?_ rfl ?_ ?_ ?_ ?_ | refine WkL.pick [14] ?_ ?_ rfl ?_ ?_ ?_ ?_ | refine WkL.pick [15] ?_ ?_ rfl ?_ ?_ ?_ ?_) <;> first | assumption | exact HOk.str (by assumption) | (simp; done) | (simp; omega) | (simp [pureO_gr, AObj.pureO, pureL, go_sem, AC.pure]; done) | (simp only [List.all_cons, List.all_nil, Bool.and_true]; exact pureO_gr (pureL_map _ (fun x => by simp [go_sem, AC.pure]))) | ((try simp only [List.map_cons, List.map_nil, av_ren_gr]); simp [AV.ren, AV.ren1, AC.ren, pickS]; first | done | omega) | (simp only [List.forall_mem_cons, List.not_mem_nil, false_implies, implies_true, and_true]; (repeat' apply And.intro) <;> first | trivial | exact grV_ok (by simp) _ | exact okN_grO (fun x => by simp [go_sem, AC.pure]) | exact okN_map (fun x => by simp [go_sem, AC.pure]) | (simp [AV.ok, AV.ok1, AC.ok]; done) | (simp [AV.ok, AV.ok1, AC.ok]; omega) | (simp [AObj.okN, AC.ok]; done)) | (simp [AObj.okN]; done))
    · obtain ⟨key1, key2⟩ := key v (by omega) (by omega) (fun h => absurd h hu2)
      simp (disch := first | omega | (simp only [go_sem]; first | done | omega)) only [go_sem]
      (refine app_gr (enc := encS) (e := 56) (sz := 3) (bs := 24) (z := [.int .i64 0, .int .i64 0, .int .i64 0]) (l) (⟨t, v, u⟩) (by kernel_rfl) (by kernel_rfl) (by kernel_rfl) (by kernel_rfl) (by first | exact at0 (by simp) | exact at1 (by simp) | exact at2 (by simp) | exact at3 (by simp) | exact at4 (by simp) | exact at5 (by simp) | exact atG 6 (by simp) rfl | exact atG 7 (by simp) rfl | exact atG 8 (by simp) rfl | exact atG 9 (by simp) rfl | exact atG 10 (by simp) rfl | assumption) (by first | (simp (disch := first | omega | (simp only [go_sem]; first | done | omega)) only [go_sem]; done) | (simp (disch := first | omega | (simp only [go_sem]; first | done | omega)) only [go_sem]; rfl) | (simp (disch := first | omega | (simp only [go_sem]; first | done | omega)) only [go_sem]; simp [go_sem]; done) | (simp (disch := first | omega | (simp only [go_sem]; first | done | omega)) only [go_sem]; simp [*]; done)) rfl (by decide) (by omega) (by omega) (by rfl) ?_)
      simp (disch := first | omega | (simp only [go_sem]; first | done | omega)) only [go_sem]
      refine pick_lit s zs (j2 + 1 + 1) [1, 5, 10, 30, 60] (by first | exact at0 (by simp) | exact at1 (by simp) | exact at2 (by simp) | exact at3 (by simp) | exact at4 (by simp) | exact at5 (by simp) | exact atG 6 (by simp) rfl | exact atG 7 (by simp) rfl | exact atG 8 (by simp) rfl | exact atG 9 (by simp) rfl | exact atG 10 (by simp) rfl | assumption) rfl rfl (by first | exact hs | exact hs.app _ | exact hs.set (by omega) (by omega) | exact (hs.set (by omega) (by omega)).app _) (by omega) (by simp) (by simp) (fun d hd => ?_)
      simp only [List.mem_cons, List.not_mem_nil, or_false] at hd
      simp (disch := first | omega | (simp only [go_sem]; first | done | omega)) only [go_sem]
      refine Next.mk (k + 1, l ++ [⟨t, v, u⟩], t + d, j2 + 1 + 1 + 1) ?_ ?_
      · exact ⟨⟨by dsimp only; omega, by simp [q2], key1, key2 d (by omega), by dsimp only; omega, by dsimp only; omega, by dsimp only; omega, by dsimp only; omega⟩, by dsimp only; omega⟩
      · ((try simp (disch := first | omega | (simp only [go_sem]; first | done | omega)) only [go_sem]); (first | refine WkL.pick [0] ?_ ?_ rfl ?_ ?_ ?_ ?_ | refine WkL.pick [1] ?_ ?_ rfl ?_ ?_ ?_ ?_ | refine WkL.pick [2] ?_ ?_ rfl ?_ ?_ ?_ ?_ | refine WkL.pick [3] ?_ ?_ rfl ?_ ?_ ?_ ?_ | refine WkL.pick [4] ?_ ?_ rfl ?_ ?_ ?_ ?_ | refine WkL.pick [5] ?_ ?_ rfl ?_ ?_ ?_ ?_ | refine WkL.pick [6] ?_ ?_ rfl ?_ ?_ ?_ ?_ | refine WkL.pick [7] ?_ ?_ rfl ?_ ?_ ?_ ?_ | refine WkL.pick [8] ?_ ?_ rfl ?_ ?_ ?_ ?_ | refine WkL.pick [9] ?_ ?_ rfl ?_ ?_ ?_ ?_ | refine WkL.pick [10] ?_ ?_ rfl ?_ ?_ ?_ ?_ | refine WkL.pick [11] ?_ ?_ rfl ?_ ?_ ?_ ?_ | refine WkL.pick [12] ?_ ?_ rfl ?_ ?_ ?_ ?_ | refine WkL.pick [13] ?_ ?_ rfl ?_ ?_ ?_ ?_ | refine WkL.pick [14] ?_ ?_ rfl ?_ ?_ ?_ ?_ | refine WkL.pick [15] ?_ ?_ rfl ?_ ?_ ?_ ?_) <;> first | assumption | exact HOk.str (by assumption) | (simp; done) | (simp; omega) | (simp [pureO_gr, AObj.pureO, pureL, go_sem, AC.pure]; done) | (simp only [List.all_cons, List.all_nil, Bool.and_true]; exact pureO_gr (pureL_map _ (fun x => by simp [go_sem, AC.pure]))) | ((try simp only [List.map_cons, List.map_nil, av_ren_gr]); simp [AV.ren, AV.ren1, AC.ren, pickS]; first | done | omega) | (simp only [List.forall_mem_cons, List.not_mem_nil, false_implies, implies_true, and_true]; (repeat' apply And.intro) <;> first | trivial | exact grV_ok (by simp) _ | exact okN_grO (fun x => by simp [go_sem, AC.pure]) | exact okN_map (fun x => by simp [go_sem, AC.pure]) | (simp [AV.ok, AV.ok1, AC.ok]; done) | (simp [AV.ok, AV.ok1, AC.ok]; omega) | (simp [AObj.okN, AC.ok]; done)) | (simp [AObj.okN]; done))
  · simp (disch := first | omega | (simp only [go_sem]; first | done | omega)) only [go_sem]
    refine Ret.same (by simp) (hk l j2 (by omega) (by omega) ⟨?_, by omega, fun x hx => ?_⟩)
    · unfold serF; rw [if_neg (by omega)]; exact q3
    · have := q4 x hx; omega
theorem binsF_len (step : Int) (l : List Smp) : (binsF step l).length ≤ l.length := by
  have key : ∀ k, k ≤ l.length → (binsF step (l.take k)).length ≤ k := by
    intro k
    induction k with
    | zero => simp [binsF]
    | succ k ih =>
      intro hk
      have := ih (by omega)
      rw [binsF_next step (by omega)]
      have h2 : (putB (binsF step (l.take k)) (binOf step l[k])).length ≤ (binsF step (l.take k)).length + 1 := by
        unfold putB
        split
        · simp
        · split <;> simp
      omega
  have := key l.length (Nat.le_refl _)
  rwa [List.take_length] at this
theorem binsF_small (step : Int) (l : List Smp) (h1 : 1 ≤ step) (hl : l.length ≤ 100) (hx : ∀ x ∈ l, 0 ≤ x.t ∧ x.t ≤ 345686399999 ∧ -1000000 ≤ x.v ∧ x.v ≤ 1000000) : ∀ y ∈ binsF step l, y.bd 1000000000 ∧ 0 ≤ y.a ∧ y.a ≤ 345686399999 := by
  have key : ∀ k, k ≤ l.length → ∀ y ∈ binsF step (l.take k), y.bd (1000000 * k) ∧ 0 ≤ y.a ∧ y.a ≤ 345686399999 := by
    intro k
    induction k with
    | zero => intro _ y hy; simp [binsF] at hy
    | succ k ih =>
      intro hk y hy
      have ih := ih (by omega)
      have hxk := hx l[k] (List.getElem_mem (by omega))
      have t0 : 0 ≤ l[k].t / step := Int.ediv_nonneg (by omega) (by omega)
      have t1 : l[k].t / step * step ≤ l[k].t := Int.ediv_mul_le _ (by omega)
      have t2 : 0 ≤ l[k].t / step * step := Int.mul_nonneg t0 (by omega)
      have hb : (binOf step l[k]).bd 1000000 ∧ 0 ≤ (binOf step l[k]).a ∧ (binOf step l[k]).a ≤ 345686399999 := by
        unfold binOf
        split <;> (simp only [Bin.bd]; omega)
      rw [binsF_next step (by omega)] at hy
      have h3 := (putB_bd2 (fun z hz => (ih z hz).1) hb.1 (by omega) (by omega)).1 y hy
      refine ⟨by simp only [Bin.bd] at h3 ⊢; omega, ?_⟩
      unfold putB at hy
      split at hy
      · simp at hy; subst hy; exact hb.2
      · rename_i z hz
        have hzz := ih z (List.mem_of_getLast? hz)
        split at hy
        · rcases List.mem_append.1 hy with h | h
          · exact (ih y (List.dropLast_subset _ h)).2
          · simp at h; subst h; exact hzz.2
        · rcases List.mem_append.1 hy with h | h
          · exact (ih y h).2
          · simp at h; subst h; exact hb.2
  intro y hy
  have := key l.length (Nat.le_refl _) y (by rwa [List.take_length])
  simp only [Bin.bd] at this ⊢
  omega
end Go.Proofs.YthgdllfkejlnmaaGreatDoor
/- The first error of some, in the package of statements. No condition. -/
namespace Go.Proofs.YthgdllfkejlnmaaGreatDoor
open Go Go.RowKit
set_option maxRecDepth 100000
set_option linter.all false
set_option maxHeartbeats 1000000
variable {H : Hp} {K : AV → Hp → Prop}
theorem errsK_a (l : List Int) (hl : l.length ≤ 1000000) (hk : K (.c (.int .i64 (firstE l))) H) : ACalls Tryz.prog 12 [.c (.lst 1 (l.map encI))] H K := by
  refine acalls Tryz.func12 rfl (by kernel_rfl) (by simp (disch := first | omega | (simp only [go_sem]; first | done | omega)) only [go_sem]) (fun hH => ?_)
  simp (disch := first | omega | (simp only [go_sem]; first | done | omega)) only [go_sem]
  refine AWp.loop (H.length) [5, 6] [7] (fun (k : Nat) => k ≤ l.length ∧ firstE (l.drop k) = firstE l) (fun (k : Nat) => [(7, (.c (.int .i64 k)))]) (fun (k : Nat) => H) (fun (k : Nat) => l.length - k) (by kernel_rfl) (fun _ => rfl) (by kernel_rfl) (by simp) (by first | (simp; done) | (simp; omega)) (by (try simp only [List.forall_mem_cons, List.not_mem_nil, false_implies, implies_true, and_true]); (try simp (disch := first | omega | (simp only [go_sem]; first | done | omega)) only [go_sem]); all_goals first | trivial | (simp [AV.ok, AV.ok1, AC.ok]; done) | (simp [AV.ok, AV.ok1, AC.ok]; omega) | (simp [AV.ok, AV.ok1, AC.ok]; assumption) | ((repeat' apply And.intro) <;> first | trivial | (simp [AV.ok, AV.ok1, AC.ok]; done) | (simp [AV.ok, AV.ok1, AC.ok]; omega) | (simp [AV.ok, AV.ok1, AC.ok]; assumption) | (refine grV_ok ?_ _; first | (simp; done) | (simp; omega) | omega))) ?_ (fun k hk1 _ _ => ?_)
  · exact Next.mk 0 (by simp) (by (try simp (disch := first | omega | (simp only [go_sem]; first | done | omega)) only [go_sem]); (first | refine WkL.eq ?_ ?_ | refine WkL.rest (by assumption) ?_ ?_ ?_ | refine WkL.keepL (by assumption) rfl ?_ ?_ ?_ ?_) <;> first | rfl | (simp; done) | (simp; omega) | (simp only [List.cons.injEq, AV.c.injEq, AC.int.injEq, AC.bool.injEq, AC.str.injEq, and_true, true_and, Int.natCast_add, Int.natCast_one, Int.cast_ofNat_Int]; omega) | (simp [AV.ok, AV.ok1, AC.ok]; done) | (simp [AV.ok, AV.ok1, AC.ok]; omega) | (simp only [List.forall_mem_cons, List.not_mem_nil, false_implies, implies_true, and_true]; (repeat' apply And.intro) <;> first | exact okN_map (fun x => by simp [go_sem, AC.pure]) | exact okN_grO (fun x => by simp [go_sem, AC.pure]) | (simp [AObj.okN, AC.ok]; done) | (simp [AObj.okN, AC.ok]; omega)) | (simp [*]; done) | grind)
  · simp (disch := first | omega | (simp only [go_sem]; first | done | omega)) only [go_sem, *]
    repeat' (first | ((first | refine acond_d ?_ ?_ | refine acond_b ?_ ?_ | refine ag_d ?_ ?_ | refine ag_n ?_ ?_ | refine ag_bt ?_ ?_ | refine ag_bf ?_ ?_) <;> intro c <;> try simp (disch := first | omega | (simp only [go_sem]; first | done | omega)) only [go_sem, c]) | ((first | refine w_draw (by kernel_rfl) (by decide +kernel) ?_) <;> try simp (disch := first | omega | (simp only [go_sem]; first | done | omega)) only [go_sem]))
    · have := firstE_drop l k (by omega)
      exact Next.mk (k + 1) ⟨⟨by omega, by grind⟩, by omega⟩ (by (try simp (disch := first | omega | (simp only [go_sem]; first | done | omega)) only [go_sem]); (first | refine WkL.eq ?_ ?_ | refine WkL.rest (by assumption) ?_ ?_ ?_ | refine WkL.keepL (by assumption) rfl ?_ ?_ ?_ ?_) <;> first | rfl | (simp; done) | (simp; omega) | (simp only [List.cons.injEq, AV.c.injEq, AC.int.injEq, AC.bool.injEq, AC.str.injEq, and_true, true_and, Int.natCast_add, Int.natCast_one, Int.cast_ofNat_Int]; omega) | (simp [AV.ok, AV.ok1, AC.ok]; done) | (simp [AV.ok, AV.ok1, AC.ok]; omega) | (simp only [List.forall_mem_cons, List.not_mem_nil, false_implies, implies_true, and_true]; (repeat' apply And.intro) <;> first | exact okN_map (fun x => by simp [go_sem, AC.pure]) | exact okN_grO (fun x => by simp [go_sem, AC.pure]) | (simp [AObj.okN, AC.ok]; done) | (simp [AObj.okN, AC.ok]; omega)) | (simp [*]; done) | grind)
    · have := firstE_drop l k (by omega)
      (first | refine Ret.sameE (Nat.le_refl _) (by assumption) ?_ | refine Ret.dropE (by assumption) (Nat.le_refl _) (by assumption) (by simp [AV.ok, AV.ok1, AC.ok]) ?_) <;> (first | rfl | (simp only [AV.c.injEq, AC.bool.injEq]; rw [Bool.eq_iff_iff]; simp only [Bool.not_eq_true', decide_eq_true_eq, decide_eq_false_iff_not, Bool.and_eq_true, Bool.or_eq_true]; omega) | grind | (simp [*]; done) | (simp [*]; omega))
    · have : l.drop k = [] := List.drop_eq_nil_of_le (by omega)
      have h0 : firstE l = 0 := by rw [← hk1.2, this]; rfl
      (first | refine Ret.sameE (Nat.le_refl _) (by assumption) ?_ | refine Ret.dropE (by assumption) (Nat.le_refl _) (by assumption) (by simp [AV.ok, AV.ok1, AC.ok]) ?_) <;> (first | rfl | (simp only [AV.c.injEq, AC.bool.injEq]; rw [Bool.eq_iff_iff]; simp only [Bool.not_eq_true', decide_eq_true_eq, decide_eq_false_iff_not, Bool.and_eq_true, Bool.or_eq_true]; omega) | grind | (simp [*]; done) | (simp [*]; omega))
/-- of a literal: all of it known -/
theorem errsK_lit (l : List Int) {i ty n : Nat} {els : List (List AC)} {own : Bool} (hi : H[i]? = some (.row ty 1 els own)) (he : els = l.map encI) (hn : n = l.length) (hl : l.length ≤ 1000) (hk : K (.c (.int .i64 (firstE l))) (H.set i .dead)) : ACalls Tryz.prog 12 [.c (.sl (some (i, 0)) n)] H K := by
  subst he hn
  exact ACalls.lit hi (by simp [pureL, encI, AC.pure]) (args' := [.c (.lst 1 (l.map encI))]) (by simp [AV.frz1, AC.frz]; rw [List.take_of_length_le (by simp)]) (errsK_a l (by omega) hk)
end Go.Proofs.YthgdllfkejlnmaaGreatDoor
