/- Bent: what it returns is its own. Condition: the bytes fit. -/
import Derived.Test.YtgcjenfdndhhpaaGreatHVDelete
namespace Go.Proofs.YtgcjenfdndhhpaaGreat
open Go Go.RowKit
set_option maxRecDepth 100000
set_option linter.all false
set_option maxHeartbeats 2000000
variable {H : Hp} {K : AV → Hp → Prop}
theorem cloneU_n (hk0 : HOk H → K (.c (.sl none 0)) H) (hk : HOk H → K (.c (.sl (some (H.length, 0)) 0)) (H ++ [.row 5 1 [] true])) : ACalls Tryz.prog 60 [.c (.lst 1 [])] H K := by
  refine acalls Tryz.func60 rfl (by kernel_rfl) (by simp (disch := first | omega | (simp only [go_sem]; first | done | omega)) only [go_sem]) (fun hH => ?_)
  simp (disch := first | omega | (simp only [go_sem]; first | done | omega)) only [go_sem]
  refine asome_i (fun b _ => ?_)
  cases b
  · simp (disch := first | omega | (simp only [go_sem]; first | done | omega)) only [go_sem]
    refine app_lst ?_
    simp (disch := first | omega | (simp only [go_sem]; first | done | omega)) only [go_sem]
    exact Ret.same (by simp) (hk hH)
  · simp (disch := first | omega | (simp only [go_sem]; first | done | omega)) only [go_sem]
    exact Ret.same (by simp) (hk0 hH)
theorem bent_o (s : Nat) (zs : List Int) (j : Int) (l : List UInt8) (hs : Str H s zs j) (hj : j ≤ 1000000000) (hl : l.length ≤ 100000000)
    (hk0 : ∀ (j' : Int), j ≤ j' → j' ≤ j + 20 → K (.c (.sl none 0)) (H.set s (strO zs j')))
    (hk : ∀ (us : List UInt8) (n : Nat) (j' : Int), j ≤ j' → j' ≤ j + 20 → n ≤ us.length → n ≤ l.length + 2 → K (.c (.sl (some (H.length, 0)) n)) (H.set s (strO zs j') ++ [.row 5 1 (us.map encU) true])) :
    ACalls Tryz.prog 6 [.c (.ptr (some (s, 0, 0))), .c (.lst 1 (l.map encU))] H K := by
  have hlt := hs.lt
  have hpos := hs.pos
  have hne : H.length ≠ s := by omega
  refine acalls Tryz.func6 rfl (by kernel_rfl) (by simp (disch := first | omega | (simp only [go_sem]; first | done | omega)) only [go_sem]) (fun hH => ?_)
  simp (disch := first | omega | (simp only [go_sem]; first | done | omega)) only [go_sem]
  by_cases hl0 : l = []
  · subst hl0
    refine cloneU_n (fun _ => ?_) (fun _ => ?_)
    · simp (disch := first | omega | (simp only [go_sem]; first | done | omega)) only [go_sem]
      refine pick_lit s zs j [0, 0, 0, 1, 2] (by first | ((repeat first | exact at0 (by simp) | refine atS ?_); done) | assumption) rfl rfl (by first | exact hs | exact hs.app _ | exact hs.set (by omega) (by omega) | exact (hs.set (by omega) (by omega)).app _) (by omega) (by simp) (by simp) (fun r hr => ?_)
      simp only [List.mem_cons, List.not_mem_nil, or_false] at hr
      simp (disch := first | omega | (simp only [go_sem]; first | done | omega)) only [go_sem]
      refine AWp.rounds 1 (by kernel_rfl) ?_
      have fin := hk0 (j + 1) (by omega) (by omega)
      by_cases h0 : 0 < r
      · simp (disch := first | omega | (simp only [go_sem]; first | done | omega)) only [go_sem, h0]
        exact Ret.drop (HOk.str hH) (by simp) (by simp [AV.ok, AV.ok1, AC.ok]) fin
      · simp (disch := first | omega | (simp only [go_sem]; first | done | omega)) only [go_sem, h0]
        exact Ret.drop (HOk.str hH) (by simp) (by simp [AV.ok, AV.ok1, AC.ok]) fin
    · simp (disch := first | omega | (simp only [go_sem]; first | done | omega)) only [go_sem]
      refine pick_lit s zs j [0, 0, 0, 1, 2] (by first | ((repeat first | exact at0 (by simp) | refine atS ?_); done) | assumption) rfl rfl (by first | exact hs | exact hs.app _ | exact hs.set (by omega) (by omega) | exact (hs.set (by omega) (by omega)).app _) (by omega) (by simp) (by simp) (fun r hr => ?_)
      simp only [List.mem_cons, List.not_mem_nil, or_false] at hr
      simp (disch := first | omega | (simp only [go_sem]; first | done | omega)) only [go_sem]
      refine AWp.rounds 1 (by kernel_rfl) ?_
      have fin := hk [] 0 (j + 1) (by omega) (by omega) (Nat.le_refl _) (by simp)
      by_cases h0 : 0 < r
      · simp (disch := first | omega | (simp only [go_sem]; first | done | omega)) only [go_sem, h0]
        refine Ret.pick [0] (HOk.str hH) (by simp) (L := [.row 5 1 [] true]) rfl (by simp) (by simp [AObj.pureO, pureL]) (v' := .c (.sl (some (H.length, 0)) 0)) ?_ (by simp [AV.ok, AV.ok1, AC.ok]) fin
        simp [AV.ren, AV.ren1, AC.ren, pickS]
      · simp (disch := first | omega | (simp only [go_sem]; first | done | omega)) only [go_sem, h0]
        refine Ret.pick [0] (HOk.str hH) (by simp) (L := [.row 5 1 [] true]) rfl (by simp) (by simp [AObj.pureO, pureL]) (v' := .c (.sl (some (H.length, 0)) 0)) ?_ (by simp [AV.ok, AV.ok1, AC.ok]) fin
        simp [AV.ren, AV.ren1, AC.ren, pickS]
  refine cloneU_a l (by omega) ?_
  have hv : clV H.length 1 (l.map encU) = .sl (some (H.length, 0)) l.length := by cases l with | nil => exact absurd rfl hl0 | cons a t => simp [clV]
  have ho : grO 5 1 (l.map encU) = .row 5 1 (l.map encU) true := grO_pos _ _ (by simpa using hl0)
  rw [hv, ho]
  simp (disch := first | omega | (simp only [go_sem]; first | done | omega)) only [go_sem]
  refine pick_lit s zs j [0, 0, 0, 1, 2] (by first | ((repeat first | exact at0 (by simp) | refine atS ?_); done) | assumption) rfl rfl (by first | exact hs | exact hs.app _ | exact hs.set (by omega) (by omega) | exact (hs.set (by omega) (by omega)).app _) (by omega) (by simp) (by simp) (fun r hr => ?_)
  simp only [List.mem_cons, List.not_mem_nil, or_false] at hr
  simp (disch := first | omega | (simp only [go_sem]; first | done | omega)) only [go_sem]
  refine AWp.loop (H.length) [0, 10] [1, 11] (fun (q : Nat × List UInt8 × Nat × Int) => (q.1 : Int) ≤ r ∧ q.2.2.1 ≤ q.2.1.length ∧ q.2.2.1 ≤ l.length + q.1 ∧ j + 1 ≤ q.2.2.2 ∧ q.2.2.2 ≤ j + 1 + 4 * q.1) (fun (q : Nat × List UInt8 × Nat × Int) => [(1, .c (.sl (some (H.length, 0)) q.2.2.1)), (11, (.c (.int .i64 (q.1))))]) (fun (q : Nat × List UInt8 × Nat × Int) => H.set s (strO zs q.2.2.2) ++ [.row 5 1 (q.2.1.map encU) true]) (fun (q : Nat × List UInt8 × Nat × Int) => r.toNat - q.1) (by kernel_rfl) (fun _ => rfl) (by kernel_rfl) (by first | (simp; done) | omega) (by first | (simp; done) | (simp; omega) | omega) kl ?_ (fun q hq _ _ => ?_)
  · refine Next.mk (0, l, l.length, j + 1) ⟨by dsimp only; omega, Nat.le_refl _, by simp, by dsimp only; omega, by dsimp only; omega⟩ ?_
    exact ow
  obtain ⟨k, us, n, j2⟩ := q
  obtain ⟨q1, q2, q3, q4, q5⟩ := hq
  dsimp only at q1 q2 q3 q4 q5
  have fin := hk us n j2 (by omega) (by omega) q2 (by omega)
  by_cases hkr : (k : Int) < r
  · by_cases hn0 : n = 0
    · subst hn0
      simp (disch := first | omega | (simp only [go_sem]; first | done | omega)) only [go_sem]
      exact Ret.same (by simp) fin
    have e0 : ¬ ((n : Int) = 0) := by omega
    simp (disch := first | omega | (simp only [go_sem]; first | done | omega)) only [go_sem, e0]
    refine next_a s zs j2 n (by first | exact hs | exact hs.app _ | exact hs.set (by omega) (by omega) | exact (hs.set (by omega) (by omega)).app _) (by omega) (by omega) (fun i hi0 hi1 => ?_)
    obtain ⟨i, rfl⟩ := Int.eq_ofNat_of_zero_le hi0
    simp (disch := first | omega | (simp only [go_sem]; first | done | omega)) only [go_sem]
    refine next_a s zs (j2 + 1) 4 (by first | exact hs | exact hs.app _ | exact hs.set (by omega) (by omega) | exact (hs.set (by omega) (by omega)).app _) (by omega) (by omega) (fun c hc0 hc1 => ?_)
    have hc : c = 0 ∨ c = 1 ∨ c = 2 ∨ c = 3 := by omega
    rcases hc with rfl | rfl | rfl | rfl
    · simp (disch := first | omega | (simp only [go_sem]; first | done | omega)) only [go_sem]
      refine pick_lit s zs (j2 + 1 + 1) [0, 1, 167, 255, _] (by first | ((repeat first | exact at0 (by simp) | refine atS ?_); done) | assumption) rfl rfl (by first | exact hs | exact hs.app _ | exact hs.set (by omega) (by omega) | exact (hs.set (by omega) (by omega)).app _) (by omega) (by simp) (by simp) (fun v hv => ?_)
      clear hv
      obtain ⟨x, hx⟩ := wrapU v
      simp (disch := first | omega | (simp only [go_sem]; first | done | omega)) only [go_sem, hx]
      have e : (us.map encU).set i [.int .u8 (x.toNat : Int)] = (us.set i x).map encU := by rw [List.map_set]; rfl
      refine Next.mk (k + 1, us.set i x, n, j2 + 1 + 1 + 1) ⟨⟨by dsimp only; omega, by simpa using q2, by dsimp only; omega, by dsimp only; omega, by dsimp only; omega⟩, by dsimp only; omega⟩ ?_
      simp (disch := first | omega | (simp only [go_sem]; first | done | omega)) only [go_sem]
      rw [e]
      generalize us.set i x = us' at *
      exact ow
    · simp (disch := first | omega | (simp only [go_sem]; first | done | omega)) only [go_sem]
      refine pick_lit s zs (j2 + 1 + 1) [0, 167] (by first | ((repeat first | exact at0 (by simp) | refine atS ?_); done) | assumption) rfl rfl (by first | exact hs | exact hs.app _ | exact hs.set (by omega) (by omega) | exact (hs.set (by omega) (by omega)).app _) (by omega) (by simp) (by simp) (fun v hv => ?_)
      clear hv
      obtain ⟨x, hx⟩ := wrapU v
      simp (disch := first | omega | (simp only [go_sem]; first | done | omega)) only [go_sem, hx]
      refine insert_a us n i x (by first | ((repeat first | exact at0 (by simp) | refine atS ?_); done) | assumption) (by first | ((repeat first | exact at0 (by simp) | refine atS ?_); done) | assumption) (by omega) q2 (by omega) (by omega) ?_
      simp (disch := first | omega | (simp only [go_sem]; first | done | omega)) only [go_sem]
      refine Next.mk (k + 1, insL us n i x, n + 1, j2 + 1 + 1 + 1) ⟨⟨by dsimp only; omega, by dsimp only; rw [insL_len x q2 (by omega)]; exact Nat.le_refl _, by dsimp only; omega, by dsimp only; omega, by dsimp only; omega⟩, by dsimp only; omega⟩ ?_
      exact ow
    · simp (disch := first | omega | (simp only [go_sem]; first | done | omega)) only [go_sem]
      refine delete_a us n i (by first | ((repeat first | exact at0 (by simp) | refine atS ?_); done) | assumption) q2 (by omega) ?_
      simp (disch := first | omega | (simp only [go_sem]; first | done | omega)) only [go_sem]
      refine Next.mk (k + 1, delL us n i, n - 1, j2 + 1 + 1) ⟨⟨by dsimp only; omega, by dsimp only; simp [delL]; omega, by dsimp only; omega, by dsimp only; omega, by dsimp only; omega⟩, by dsimp only; omega⟩ ?_
      exact ow
    · simp (disch := first | omega | (simp only [go_sem]; first | done | omega)) only [go_sem]
      refine Next.mk (k + 1, us, i, j2 + 1 + 1) ⟨⟨by dsimp only; omega, by dsimp only; omega, by dsimp only; omega, by dsimp only; omega, by dsimp only; omega⟩, by dsimp only; omega⟩ ?_
      exact ow
  · simp (disch := first | omega | (simp only [go_sem]; first | done | omega)) only [go_sem]
    exact Ret.same (by simp) fin
end Go.Proofs.YtgcjenfdndhhpaaGreat
