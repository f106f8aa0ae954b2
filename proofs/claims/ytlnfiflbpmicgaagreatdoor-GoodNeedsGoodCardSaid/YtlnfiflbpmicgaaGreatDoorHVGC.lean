/- Several texts in one: The document's bins of a series, and what follows. No condition. -/
import Derived.Test.YtlnfiflbpmicgaaGreatDoorHVSmp
import Derived.Test.YtlnfiflbpmicgaaGreatDoorHVGA
/- The document's bins of a series. Condition: the times rise, numbers are small. -/
namespace Go.Proofs.YtlnfiflbpmicgaaGreatDoor
open Go Go.RowKit
set_option maxRecDepth 100000
set_option linter.all false
set_option maxHeartbeats 1000000
variable {H : Hp} {K : AV → Hp → Prop}
end Go.Proofs.YtlnfiflbpmicgaaGreatDoor
/- Samples that are drawn. No condition. -/
namespace Go.Proofs.YtlnfiflbpmicgaaGreatDoor
open Go Go.RowKit
set_option maxRecDepth 100000
set_option linter.all false
set_option maxHeartbeats 1000000
variable {H : Hp} {K : AV → Hp → Prop}
theorem oneSample_a (s : Nat) (zs : List Int) (j : Int) (hs : Str H s zs j) (hj : j ≤ 1099000000000)
    (hk : ∀ (x : Smp), (-1 ≤ x.t ∧ x.t ≤ 345686400000) → (-9223372036854775808 ≤ x.v ∧ x.v ≤ 4611686018427387904) → (-1 ≤ x.q ∧ x.q ≤ 3) → K (.agg (encS x)) (H.set s (strO zs (j + 1 + 1 + 1)))) : ACalls Tryz.prog 136 [.c (.ptr (some (s, 0, 0)))] H K := by
  have hlt := hs.lt
  have hpos := hs.pos
  have hne : H.length ≠ s := by omega
  refine acalls Tryz.func136 rfl (by kernel_rfl) (by simp (disch := first | omega | (simp only [go_sem]; first | done | omega)) only [go_sem]) (fun hH => ?_)
  simp (disch := first | omega | (simp only [go_sem]; first | done | omega)) only [go_sem]
  refine pick_lit s zs j [0, 50, 345686399999, 345686400000, -1] (by first | ((repeat first | exact at0 (by simp) | refine atS ?_); done) | assumption) rfl rfl (by first | exact hs | exact hs.app _ | exact hs.set (by omega) (by omega) | exact (hs.set (by omega) (by omega)).app _) (by omega) (by simp) (by simp) (fun a ha => ?_)
  simp (disch := first | omega | (simp only [go_sem]; first | done | omega)) only [go_sem]
  refine pick_lit s zs (j + 1) [0, 1, 1000000, -1000000, 1000001, -1000001, 4611686018427387904, -9223372036854775808] (by first | ((repeat first | exact at0 (by simp) | refine atS ?_); done) | assumption) rfl rfl (by first | exact hs | exact hs.app _ | exact hs.set (by omega) (by omega) | exact (hs.set (by omega) (by omega)).app _) (by omega) (by simp) (by simp) (fun b hb => ?_)
  simp (disch := first | omega | (simp only [go_sem]; first | done | omega)) only [go_sem]
  refine pick_lit s zs (j + 1 + 1) [0, 1, 2, 3, -1] (by first | ((repeat first | exact at0 (by simp) | refine atS ?_); done) | assumption) rfl rfl (by first | exact hs | exact hs.app _ | exact hs.set (by omega) (by omega) | exact (hs.set (by omega) (by omega)).app _) (by omega) (by simp) (by simp) (fun c hc => ?_)
  simp only [List.mem_cons, List.not_mem_nil, or_false] at ha hb hc
  simp (disch := first | omega | (simp only [go_sem]; first | done | omega)) only [go_sem]
  have := hk ⟨a, b, c⟩ (by dsimp only; omega) (by dsimp only; omega) (by dsimp only; omega)
  exact Ret.drop (HOk.str hH) (by simp) (by simp [AV.ok, AV.ok1, AC.ok]) this
def drawnS (most : Int) (l : List Smp) : Prop := serF l = 0 ∧ l.length ≤ most ∧ ∀ x ∈ l, 0 ≤ x.t ∧ x.t ≤ 90 + 60 * most ∧ -3 ≤ x.v ∧ x.v ≤ 100 ∧ 0 ≤ x.q ∧ x.q ≤ 2
theorem rightSamples_o (s : Nat) (zs : List Int) (j most : Int) (hs : Str H s zs j) (hj : j ≤ 1090000000000) (hm0 : 0 ≤ most) (hm1 : most ≤ 100)
    (hk : ∀ (l : List Smp) (j' : Int), j ≤ j' → j' ≤ j + 2 + 3 * most → drawnS most l → K (.c (grV H.length l)) (H.set s (strO zs j') ++ [grO 34 3 (l.map encS)])) :
    ACalls Tryz.prog 57 [.c (.ptr (some (s, 0, 0))), (.c (.int .i64 most))] H K := by
  have hlt := hs.lt
  have hpos := hs.pos
  have hne : H.length ≠ s := by omega
  refine acalls Tryz.func57 rfl (by kernel_rfl) (by simp (disch := first | omega | (simp only [go_sem]; first | done | omega)) only [go_sem]) (fun hH => ?_)
  simp (disch := first | omega | (simp only [go_sem]; first | done | omega)) only [go_sem]
  refine pick_lit s zs j [0, 5, 90] (by first | ((repeat first | exact at0 (by simp) | refine atS ?_); done) | assumption) rfl rfl (by first | exact hs | exact hs.app _ | exact hs.set (by omega) (by omega) | exact (hs.set (by omega) (by omega)).app _) (by omega) (by simp) (by simp) (fun a0 ha0 => ?_)
  simp only [List.mem_cons, List.not_mem_nil, or_false] at ha0
  simp (disch := first | omega | (simp only [go_sem]; first | done | omega)) only [go_sem]
  refine range_a s zs (j + 1) 0 most (by first | exact hs | exact hs.app _ | exact hs.set (by omega) (by omega) | exact (hs.set (by omega) (by omega)).app _) (by omega) (by omega) (by omega) (fun r hr0 hr1 => ?_)
  simp (disch := first | omega | (simp only [go_sem]; first | done | omega)) only [go_sem]
  refine AWp.loop (H.length) [0, 13] [14, 5, 6] (fun (q : Nat × List Smp × Int × Int) => (q.1 : Int) ≤ r ∧ q.2.1.length = q.1 ∧ errGo serErr 0 ⟨0, 0, 0⟩ q.2.1 = 0 ∧ (∀ x ∈ q.2.1, 0 ≤ x.t ∧ x.t < q.2.2.1 ∧ -3 ≤ x.v ∧ x.v ≤ 100 ∧ 0 ≤ x.q ∧ x.q ≤ 2) ∧ 0 ≤ q.2.2.1 ∧ q.2.2.1 ≤ 90 + 60 * q.1 ∧ j + 2 ≤ q.2.2.2 ∧ q.2.2.2 ≤ j + 2 + 3 * q.1) (fun (q : Nat × List Smp × Int × Int) => [(14, (.c (.int .i64 (q.1)))), (5, .c (grV H.length q.2.1)), (6, (.c (.int .i64 (q.2.2.1))))]) (fun (q : Nat × List Smp × Int × Int) => H.set s (strO zs q.2.2.2) ++ [grO 34 3 (q.2.1.map encS)]) (fun (q : Nat × List Smp × Int × Int) => r.toNat - q.1) (by kernel_rfl) (fun _ => rfl) (by kernel_rfl) (by first | (simp; done) | omega) (by first | (simp; done) | (simp; omega) | omega) kl ?_ (fun q hq _ _ => ?_)
  · refine Next.mk (0, [], a0, j + 1 + 1) ⟨by simpa using hr0, rfl, rfl, by simp, by dsimp only; omega, by dsimp only; omega, by dsimp only; omega, by dsimp only; omega⟩ ?_
    simp (disch := first | omega | (simp only [go_sem]; first | done | omega)) only [go_sem]
    exact WkL.refl (by simp)
  obtain ⟨k, l, t, j2⟩ := q
  obtain ⟨q1, q2, q3, q4, q5, q6, q7, q8⟩ := hq
  dsimp only at q1 q2 q3 q4 q5 q6 q7 q8
  by_cases hkr : (k : Int) < r
  · simp (disch := first | omega | (simp only [go_sem]; first | done | omega)) only [go_sem]
    refine pick_lit s zs j2 [5, 5, 7, 7, -3, 100, 0] (by first | ((repeat first | exact at0 (by simp) | refine atS ?_); done) | assumption) rfl rfl (by first | exact hs | exact hs.app _ | exact hs.set (by omega) (by omega) | exact (hs.set (by omega) (by omega)).app _) (by omega) (by simp) (by simp) (fun v hv => ?_)
    simp only [List.mem_cons, List.not_mem_nil, or_false] at hv
    simp (disch := first | omega | (simp only [go_sem]; first | done | omega)) only [go_sem]
    refine pick_lit s zs (j2 + 1) [0, 0, 0, 1, 2] (by first | ((repeat first | exact at0 (by simp) | refine atS ?_); done) | assumption) rfl rfl (by first | exact hs | exact hs.app _ | exact hs.set (by omega) (by omega) | exact (hs.set (by omega) (by omega)).app _) (by omega) (by simp) (by simp) (fun u hu => ?_)
    simp only [List.mem_cons, List.not_mem_nil, or_false] at hu
    simp (disch := first | omega | (simp only [go_sem]; first | done | omega)) only [go_sem]
    have hlk : l.length ≤ 100 := by omega
    have key : ∀ w : Int, -3 ≤ w → w ≤ 100 → (u = 2 → w = 0) → errGo serErr 0 ⟨0, 0, 0⟩ (l ++ [⟨t, w, u⟩]) = 0 ∧ ∀ d : Int, 1 ≤ d → ∀ x ∈ l ++ [(⟨t, w, u⟩ : Smp)], 0 ≤ x.t ∧ x.t < t + d ∧ -3 ≤ x.v ∧ x.v ≤ 100 ∧ 0 ≤ x.q ∧ x.q ≤ 2 := by
      intro w w1 w2 w3
      refine ⟨?_, fun d hd x hx => ?_⟩
      · rw [errGo_snoc _ _ _ _ _ q3]
        have h1 : smpErr ⟨t, w, u⟩ = 0 := by
          unfold smpErr
          rw [if_neg (by dsimp only; omega), if_neg (by dsimp only; omega), if_neg (by dsimp only; omega), if_neg (by dsimp only; omega)]
        have h2 : ∀ p, l.getLast? = some p → p.t < t := fun p hp => (q4 p (List.mem_of_getLast? hp)).2.1
        unfold serErr
        rw [if_neg (by rw [h1]; simp)]
        rw [if_neg]
        rintro ⟨h3, h4⟩
        cases hl : l.getLast? with
        | none => rw [List.getLast?_eq_none_iff.1 hl] at h3; simp at h3
        | some p =>
          rw [hl] at h4
          have := h2 p hl
          simp only [Option.getD_some] at h4
          omega
      · rcases List.mem_append.1 hx with h | h
        · have := q4 x h; omega
        · simp at h; subst h; dsimp only; omega
    refine acond_d (fun hu2 => ?_) (fun hu2 => ?_)
    · obtain ⟨key1, key2⟩ := key 0 (by omega) (by omega) (fun _ => rfl)
      simp (disch := first | omega | (simp only [go_sem]; first | done | omega)) only [go_sem]
      (refine app_gr (enc := encS) (e := 34) (sz := 3) (bs := 24) (z := [.int .i64 0, .int .i64 0, .int .i64 0]) (l) (⟨t, 0, u⟩) (by kernel_rfl) (by kernel_rfl) (by kernel_rfl) (by kernel_rfl) (by first | ((repeat first | exact at0 (by simp) | refine atS ?_); done) | assumption) (by first | (simp (disch := first | omega | (simp only [go_sem]; first | done | omega)) only [go_sem]; done) | (simp (disch := first | omega | (simp only [go_sem]; first | done | omega)) only [go_sem]; rfl) | (simp (disch := first | omega | (simp only [go_sem]; first | done | omega)) only [go_sem]; simp [go_sem]; done) | (simp (disch := first | omega | (simp only [go_sem]; first | done | omega)) only [go_sem]; simp [*]; done)) rfl (by decide) (by omega) (by omega) (by rfl) ?_)
      simp (disch := first | omega | (simp only [go_sem]; first | done | omega)) only [go_sem]
      refine pick_lit s zs (j2 + 1 + 1) [1, 5, 10, 30, 60] (by first | ((repeat first | exact at0 (by simp) | refine atS ?_); done) | assumption) rfl rfl (by first | exact hs | exact hs.app _ | exact hs.set (by omega) (by omega) | exact (hs.set (by omega) (by omega)).app _) (by omega) (by simp) (by simp) (fun d hd => ?_)
      simp only [List.mem_cons, List.not_mem_nil, or_false] at hd
      simp (disch := first | omega | (simp only [go_sem]; first | done | omega)) only [go_sem]
      refine Next.mk (k + 1, l ++ [⟨t, 0, u⟩], t + d, j2 + 1 + 1 + 1) ?_ ?_
      · exact ⟨⟨by dsimp only; omega, by simp [q2], key1, key2 d (by omega), by dsimp only; omega, by dsimp only; omega, by dsimp only; omega, by dsimp only; omega⟩, by dsimp only; omega⟩
      · exact ow
    · obtain ⟨key1, key2⟩ := key v (by omega) (by omega) (fun h => absurd h hu2)
      simp (disch := first | omega | (simp only [go_sem]; first | done | omega)) only [go_sem]
      (refine app_gr (enc := encS) (e := 34) (sz := 3) (bs := 24) (z := [.int .i64 0, .int .i64 0, .int .i64 0]) (l) (⟨t, v, u⟩) (by kernel_rfl) (by kernel_rfl) (by kernel_rfl) (by kernel_rfl) (by first | ((repeat first | exact at0 (by simp) | refine atS ?_); done) | assumption) (by first | (simp (disch := first | omega | (simp only [go_sem]; first | done | omega)) only [go_sem]; done) | (simp (disch := first | omega | (simp only [go_sem]; first | done | omega)) only [go_sem]; rfl) | (simp (disch := first | omega | (simp only [go_sem]; first | done | omega)) only [go_sem]; simp [go_sem]; done) | (simp (disch := first | omega | (simp only [go_sem]; first | done | omega)) only [go_sem]; simp [*]; done)) rfl (by decide) (by omega) (by omega) (by rfl) ?_)
      simp (disch := first | omega | (simp only [go_sem]; first | done | omega)) only [go_sem]
      refine pick_lit s zs (j2 + 1 + 1) [1, 5, 10, 30, 60] (by first | ((repeat first | exact at0 (by simp) | refine atS ?_); done) | assumption) rfl rfl (by first | exact hs | exact hs.app _ | exact hs.set (by omega) (by omega) | exact (hs.set (by omega) (by omega)).app _) (by omega) (by simp) (by simp) (fun d hd => ?_)
      simp only [List.mem_cons, List.not_mem_nil, or_false] at hd
      simp (disch := first | omega | (simp only [go_sem]; first | done | omega)) only [go_sem]
      refine Next.mk (k + 1, l ++ [⟨t, v, u⟩], t + d, j2 + 1 + 1 + 1) ?_ ?_
      · exact ⟨⟨by dsimp only; omega, by simp [q2], key1, key2 d (by omega), by dsimp only; omega, by dsimp only; omega, by dsimp only; omega, by dsimp only; omega⟩, by dsimp only; omega⟩
      · exact ow
  · simp (disch := first | omega | (simp only [go_sem]; first | done | omega)) only [go_sem]
    refine Ret.same (by simp) (hk l j2 (by omega) (by omega) ⟨?_, by omega, fun x hx => ?_⟩)
    · unfold serF; rw [if_neg (by omega)]; exact q3
    · have := q4 x hx; omega
theorem samples_a (s : Nat) (zs : List Int) (j most : Int) (hs : Str H s zs j) (hj : j ≤ 1000000000) (hm0 : 0 ≤ most) (hm1 : most ≤ 100)
    (hk : ∀ (l : List Smp) (j' : Int), j ≤ j' → j' ≤ j + 10 + 3 * most → l.length ≤ most → K (.c (.lst 3 (l.map encS))) (H.set s (strO zs j'))) :
    ACalls Tryz.prog 59 [.c (.ptr (some (s, 0, 0))), (.c (.int .i64 most))] H K := by
  have hlt := hs.lt
  have hpos := hs.pos
  have hne : H.length ≠ s := by omega
  refine acalls Tryz.func59 rfl (by kernel_rfl) (by simp (disch := first | omega | (simp only [go_sem]; first | done | omega)) only [go_sem]) (fun hH => ?_)
  simp (disch := first | omega | (simp only [go_sem]; first | done | omega)) only [go_sem]
  refine rightSamples_o s zs j most hs (by omega) hm0 hm1 (fun l j1 h1 h2 h3 => ?_)
  obtain ⟨h4, h5, h6⟩ := h3
  simp (disch := first | omega | (simp only [go_sem]; first | done | omega)) only [go_sem]
  have hok : ∀ j', HOk (H.set s (strO zs j')) := fun j' => HOk.str hH
  by_cases hl0 : l = []
  · subst hl0
    simp (disch := first | omega | (simp only [go_sem]; first | done | omega)) only [go_sem]
    exact Ret.frzGr 0 (hok _) (by simp) rfl rfl (by simp [grV]) (hk [] j1 (by omega) (by omega) (by simp; omega))
  · have hl1 : 0 < l.length := List.length_pos_iff.2 hl0
    have hne2 : l.map encS ≠ [] := by simpa using hl0
    rw [grV_pos _ hl0, grO_pos _ _ hne2]
    have hpl : ∀ l : List Smp, pureL (l.map encS) = true := fun l => pureL_map l (fun x => by simp [AC.pure])
    simp (disch := first | omega | (simp only [go_sem]; first | done | omega)) only [go_sem]
    refine flip_a s zs j1 10 (by first | exact hs | exact hs.app _ | exact hs.set (by omega) (by omega) | exact (hs.set (by omega) (by omega)).app _) (by omega) (by omega) (fun b => ?_)
    simp (disch := first | omega | (simp only [go_sem]; first | done | omega)) only [go_sem]
    refine acond_b (fun c => ?_) (fun c => ?_)
    · simp (disch := first | omega | (simp only [go_sem]; first | done | omega)) only [go_sem]
      refine next_a s zs (j1 + 1) l.length (by first | exact hs | exact hs.app _ | exact hs.set (by omega) (by omega) | exact (hs.set (by omega) (by omega)).app _) (by omega) (by omega) (fun r hr0 hr1 => ?_)
      simp (disch := first | omega | (simp only [go_sem]; first | done | omega)) only [go_sem]
      refine oneSample_a s zs (j1 + 1 + 1) (by first | exact hs | exact hs.app _ | exact hs.set (by omega) (by omega) | exact (hs.set (by omega) (by omega)).app _) (by omega) (fun x _ _ _ => ?_)
      simp (disch := first | omega | (simp only [go_sem]; first | done | omega)) only [go_sem]
      have e : (l.map encS).set r.toNat [.int .i64 x.t, .int .i64 x.v, .int .i64 x.q] = (l.set r.toNat x).map encS := by rw [List.map_set]; rfl
      rw [e]
      exact Ret.frzRow 0 (hok _) (by simp) rfl (hpl _) (by simp) (by simp) (hk _ _ (by omega) (by omega) (by simp; omega))
    · simp (disch := first | omega | (simp only [go_sem]; first | done | omega)) only [go_sem]
      exact Ret.frzRow 0 (hok _) (by simp) rfl (hpl _) (by simp) (by simp) (hk l _ (by omega) (by omega) (by omega))
end Go.Proofs.YtlnfiflbpmicgaaGreatDoor
