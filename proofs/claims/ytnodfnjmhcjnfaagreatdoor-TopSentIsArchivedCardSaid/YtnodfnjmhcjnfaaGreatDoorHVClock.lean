/- Clocks: what is wrong with one, and what a moment is corrected to: the program. Condition: numbers as those of clocks. -/
import Derived.Test.YtnodfnjmhcjnfaaGreatDoorHVBlkR
import Derived.Test.YtnodfnjmhcjnfaaGreatDoorHVGA
import Derived.Test.YtnodfnjmhcjnfaaGreatDoorHVGC
namespace Go.Proofs.YtnodfnjmhcjnfaaGreatDoor
open Go Go.RowKit
set_option maxRecDepth 100000
set_option linter.all false
set_option maxHeartbeats 1000000
variable {H : Hp} {K : AV → Hp → Prop}
def Clk.near (x : Clk) : Prop := -2000000000000 ≤ x.n ∧ x.n ≤ 2000000000000 ∧ -2000000000000 ≤ x.s ∧ x.s ≤ 2000000000000
theorem Clk.ok.near {x : Clk} (h : x.ok) : x.near := by obtain ⟨h1, h2, h3⟩ := h; simp only [Clk.near]; omega
theorem checkClock_a (l : List Clk) (hlen : l.length ≤ 1099511627776) (hn : ∀ x ∈ l, x.near) (hk : K (.c (.int .i64 (ckF l))) H) : ACalls Tryz.prog 232 [.c (.lst 2 (l.map encK))] H K := by
  by_cases h6 : 2000 < l.length
  · refine acalls Tryz.func232 rfl (by kernel_rfl) (by simp (disch := first | omega | (simp only [go_sem]; first | done | omega)) only [go_sem]) (fun hH => ?_)
    simp (disch := first | omega | (simp only [go_sem]; first | done | omega)) only [go_sem]
    (first | refine Ret.sameE (Nat.le_refl _) (by assumption) ?_ | refine Ret.dropE (by assumption) (Nat.le_refl _) (by assumption) (by simp [AV.ok, AV.ok1, AC.ok]) ?_) <;> simp [ckF, h6]
  have hF : ckF l = errGo ckErr 0 ⟨0, 0⟩ l := by simp [ckF, h6]
  refine acalls Tryz.func232 rfl (by kernel_rfl) (by simp (disch := first | omega | (simp only [go_sem]; first | done | omega)) only [go_sem]) (fun hH => ?_)
  simp (disch := first | omega | (simp only [go_sem]; first | done | omega)) only [go_sem]
  refine AWp.loop (H.length) [0, 9, 10] [11] (fun (k : Nat) => k ≤ l.length ∧ errGo ckErr k (prv ⟨0, 0⟩ l k) (l.drop k) = errGo ckErr 0 ⟨0, 0⟩ l) (fun (k : Nat) => [(11, (.c (.int .i64 k)))]) (fun (k : Nat) => H) (fun (k : Nat) => l.length - k) (by kernel_rfl) (fun _ => rfl) (by kernel_rfl) (by first | (simp; done) | omega) (by first | (simp; done) | (simp; omega) | omega) kl ?_ (fun k hk1 _ _ => ?_)
  · exact Next.mk 0 ⟨by omega, rfl⟩ wk
  obtain ⟨hk1, hk2⟩ := hk1
  by_cases hlt : k < l.length
  · have hs := errGo_step ckErr ⟨0, 0⟩ l k hlt
    have hp : ∀ h : 0 < k, prv ⟨0, 0⟩ l k = l[((k : Int) - 1).toNat]'(by omega) := fun h => by rw [prv_pos _ _ _ hk1 h]; congr 1; omega
    have hv : ckErr k (prv ⟨0, 0⟩ l k) l[k] ≠ 0 → ckErr k (prv ⟨0, 0⟩ l k) l[k] = ckF l := fun h => by rw [hF, ← hk2, hs, if_neg h]
    have hnx : ckErr k (prv ⟨0, 0⟩ l k) l[k] = 0 → errGo ckErr (k + 1) (prv ⟨0, 0⟩ l (k + 1)) (l.drop (k + 1)) = errGo ckErr 0 ⟨0, 0⟩ l := fun h => by rw [← hk2, hs, if_pos h]
    have hnk := hn l[k] (List.getElem_mem hlt)
    simp only [Clk.near] at hnk
    clear hs hF
    simp (disch := first | omega | (simp only [go_sem]; first | done | omega)) only [go_sem, hlt]
    repeat' (first | ((first | refine acond_d ?_ ?_ | refine acond_b ?_ ?_ | refine ag_d ?_ ?_ | refine ag_n ?_ ?_ | refine ag_bt ?_ ?_ | refine ag_bf ?_ ?_) <;> intro c <;> try simp (disch := first | omega | (simp only [go_sem]; first | done | omega)) only [go_sem, c]) | ((first | refine w_draw (by kernel_rfl) (by decide +kernel) ?_ | refine moment_a _ _ _ ?_) <;> try simp (disch := first | omega | (simp only [go_sem]; first | done | omega)) only [go_sem]))
    all_goals first
      | (refine Next.mk (k + 1) (by grind [ckErr]) ?_; exact wk)
      | (first | refine Ret.sameE (Nat.le_refl _) (by assumption) ?_ | refine Ret.dropE (by assumption) (Nat.le_refl _) (by assumption) (by simp [AV.ok, AV.ok1, AC.ok]) ?_) <;> grind [ckErr]
  · simp (disch := first | omega | (simp only [go_sem]; first | done | omega)) only [go_sem, hlt]
    have := errGo_end ckErr (prv ⟨0, 0⟩ l k) l k (by omega)
    (first | refine Ret.sameE (Nat.le_refl _) (by assumption) ?_ | refine Ret.dropE (by assumption) (Nat.le_refl _) (by assumption) (by simp [AV.ok, AV.ok1, AC.ok]) ?_) <;> (first | rfl | (simp only [AV.c.injEq, AC.bool.injEq]; rw [Bool.eq_iff_iff]; simp only [Bool.not_eq_true', decide_eq_true_eq, decide_eq_false_iff_not, Bool.and_eq_true, Bool.or_eq_true]; omega) | grind | (simp [*]; done) | (simp [*]; omega))
theorem floor_div {a b : Int} (hb : 0 < b) : (if a.tmod b < 0 then a.tdiv b - 1 else a.tdiv b) = a / b := by
  rcases Int.le_total 0 a with h | h
  · have h1 : 0 ≤ a.tmod b := Int.tmod_nonneg _ h
    rw [if_neg (by omega), Int.tdiv_eq_ediv_of_nonneg h]
  · obtain ⟨c, rfl⟩ : ∃ c, a = -c := ⟨-a, by omega⟩
    have hc : 0 ≤ c := by omega
    rw [Int.neg_tmod, Int.neg_tdiv, Int.tdiv_eq_ediv_of_nonneg hc, Int.tmod_eq_emod_of_nonneg hc]
    have m0 := Int.emod_nonneg c (show b ≠ 0 by omega)
    have m1 := Int.emod_lt_of_pos c hb
    have m2 := Int.emod_add_ediv_mul c b
    split
    · rename_i h2
      symm
      refine (Int.ediv_emod_unique (r := b - c % b) hb).2 ⟨?_, by omega, by omega⟩ |>.1
      have : b * (-(c / b) - 1) = -(c / b * b) - b := by rw [Int.mul_sub, Int.mul_neg, Int.mul_comm b (c / b)]; omega
      omega
    · rename_i h2
      symm
      refine (Int.ediv_emod_unique (r := 0) hb).2 ⟨?_, by omega, by omega⟩ |>.1
      have : b * (-(c / b)) = -(c / b * b) := by rw [Int.mul_neg, Int.mul_comm b (c / b)]
      omega
theorem down_a (a b : Int) (hb : 0 < b) (hb2 : b ≤ 4611686018427387903) (ha : -4611686018427387903 ≤ a ∧ a ≤ 4611686018427387903) (hk : K (.c (.int .i64 (a / b))) H) : ACalls Tryz.prog 235 [(.c (.int .i64 a)), (.c (.int .i64 b))] H K := by
  rw [← floor_div hb] at hk
  have h1 : -4611686018427387903 ≤ a.tdiv b ∧ a.tdiv b ≤ 4611686018427387903 := by
    have := Int.natAbs_tdiv_le_natAbs a b
    omega
  by_cases c : a.tmod b < 0
  · rw [if_pos c] at hk
    refine acalls Tryz.func235 rfl (by kernel_rfl) (by simp (disch := first | omega | (simp only [go_sem]; first | done | omega)) only [go_sem]) (fun hH => ?_)
    simp (disch := first | omega | (simp only [go_sem]; first | done | omega)) only [go_sem, c]
    exact Ret.same (Nat.le_refl _) hk
  · rw [if_neg c] at hk
    refine acalls Tryz.func235 rfl (by kernel_rfl) (by simp (disch := first | omega | (simp only [go_sem]; first | done | omega)) only [go_sem]) (fun hH => ?_)
    simp (disch := first | omega | (simp only [go_sem]; first | done | omega)) only [go_sem, c]
    exact Ret.same (Nat.le_refl _) hk
theorem corr1_a (x : Clk) (t : Int) (hx : x.near) (ht : -1000000000000 ≤ t ∧ t ≤ 1000000000000) (hk : K (.c (.int .i64 (x.n - t))) H) : ACalls Tryz.prog 234 [.agg (encK x), (.c (.int .i64 t))] H K := by
  simp only [Clk.near] at hx
  refine acalls Tryz.func234 rfl (by kernel_rfl) (by simp (disch := first | omega | (simp only [go_sem]; first | done | omega)) only [go_sem]) (fun hH => ?_)
  simp (disch := first | omega | (simp only [go_sem]; first | done | omega)) only [go_sem]
  exact Ret.drop hH (Nat.le_refl _) trivial hk
theorem half_is (i j : Nat) (h : i + j ≤ 1000000000000) : IntKind.u64.wrap ((i : Int) + j) = (i : Int) + j ∧ ((i : Int) + j).fdiv (2 ^ min 1 64) = (((i + j) / 2 : Nat) : Int) := by
  refine ⟨by simp [IntKind.wrap, IntKind.bits, IntKind.signed]; omega, ?_⟩
  rw [show ((2 : Int) ^ min 1 64) = 2 by decide, Int.fdiv_eq_ediv_of_nonneg _ (by omega)]
  omega
theorem bsearchK_a (l : List Clk) (t : Int) (hlen : l.length ≤ 100000) (hinc : ∀ (i j : Nat) (hj : j < l.length) (hij : i < j), (l[i]'(by omega)).n < l[j].n) (hn : ∀ x ∈ l, x.near) (ht : -1000000000000 ≤ t ∧ t ≤ 1000000000000)
    (hk : ∀ b : Bool, K (.tup [(.c (.int .i64 (posK l t))), (.c (.bool b))]) H) : ACalls Tryz.prog 233 [.c (.lst 2 (l.map encK)), (.c (.int .i64 t)), .c (.fn 234 [] [])] H K := by
  have he : entersB Tryz.prog 234 = true := by kernel_rfl
  refine acalls Tryz.func233 rfl (by kernel_rfl) (by simp (disch := first | omega | (simp only [go_sem]; first | done | omega)) only [go_sem]) (fun hH => ?_)
  simp (disch := first | omega | (simp only [go_sem]; first | done | omega)) only [go_sem]
  refine AWp.loop (H.length) [0, 1, 2, 8] [9, 10] (fun (s : Nat × Nat) => s.1 ≤ s.2 ∧ s.2 ≤ l.length ∧ (∀ q (h : q < l.length), q < s.1 → l[q].n < t) ∧ (∀ q (h : q < l.length), s.2 ≤ q → t ≤ l[q].n)) (fun (s : Nat × Nat) => [(9, (.c (.int .i64 (s.1)))), (10, (.c (.int .i64 (s.2))))]) (fun (s : Nat × Nat) => H) (fun (s : Nat × Nat) => s.2 - s.1) (by kernel_rfl) (fun _ => rfl) (by kernel_rfl) (by first | (simp; done) | omega) (by first | (simp; done) | (simp; omega) | omega) kl ?_ (fun s hs _ _ => ?_)
  · exact Next.mk (0, l.length) ⟨by simp, by simp, fun q h h2 => absurd h2 (by simp), fun q h h2 => absurd h2 (by simp; omega)⟩ wk
  obtain ⟨i, j⟩ := s
  obtain ⟨s1, s2, s3, s4⟩ := hs
  dsimp only at s1 s2 s3 s4
  by_cases hlt : i < j
  · obtain ⟨e1, e2⟩ := half_is i j (by omega)
    obtain ⟨m, hm⟩ : ∃ m, m = (i + j) / 2 := ⟨_, rfl⟩
    rw [← hm] at e2
    have hml : m < l.length := by omega
    have hnm := hn l[m] (List.getElem_mem hml)
    simp (disch := first | omega | (simp only [go_sem]; first | done | omega)) only [go_sem, he, e1, e2]
    refine corr1_a l[m] t hnm ht ?_
    simp only [Clk.near] at hnm
    have hle : ∀ p q (hp : p < l.length) (hq : q < l.length), p ≤ q → l[p].n ≤ l[q].n := fun p q hp hq hpq => by
      rcases Nat.eq_or_lt_of_le hpq with rfl | h
      · exact Int.le_refl _
      · exact Int.le_of_lt (hinc p q hq h)
    by_cases c : l[m].n < t
    · have c2 : l[m].n - t < 0 := by omega
      simp (disch := first | omega | (simp only [go_sem]; first | done | omega)) only [go_sem, c2]
      refine Next.mk (m + 1, j) ⟨⟨by dsimp only; omega, s2, fun q h h2 => ?_, s4⟩, by dsimp only; omega⟩ wk
      have := hle q m h hml (by dsimp only at h2; omega)
      omega
    · have c2 : ¬(l[m].n - t < 0) := by omega
      simp (disch := first | omega | (simp only [go_sem]; first | done | omega)) only [go_sem, c2]
      refine Next.mk (i, m) ⟨⟨by dsimp only; omega, by dsimp only; omega, s3, fun q h h2 => ?_⟩, by dsimp only; omega⟩ wk
      have := hle m q hml h (by dsimp only at h2; omega)
      omega
  · have e : j = i := by omega
    subst e
    have hp : posK l t = j := posK_is s2 s3 (fun h => s4 j h (Nat.le_refl _))
    rw [hp] at hk
    by_cases c : j < l.length
    · simp (disch := first | omega | (simp only [go_sem]; first | done | omega)) only [go_sem, he]
      refine corr1_a l[j] t (hn _ (List.getElem_mem c)) ht ?_
      simp (disch := first | omega | (simp only [go_sem]; first | done | omega)) only [go_sem]
      exact Ret.same (Nat.le_refl _) (hk _)
    · simp (disch := first | omega | (simp only [go_sem]; first | done | omega)) only [go_sem]
      exact Ret.same (Nat.le_refl _) (hk _)
theorem corrected_a (l : List Clk) (t : Int) (h : ckF l = 0) (h0 : 0 ≤ t) (h1 : t ≤ 345686399999) (hk : K (.c (.int .i64 (corrF l t))) H) : ACalls Tryz.prog 149 [.c (.lst 2 (l.map encK)), (.c (.int .i64 t))] H K := by
  obtain ⟨hlen, hok, hinc⟩ := ckF_ok h
  by_cases hl : l = []
  · subst hl
    rw [show corrF [] t = t from rfl] at hk
    refine acalls Tryz.func149 rfl (by kernel_rfl) (by simp (disch := first | omega | (simp only [go_sem]; first | done | omega)) only [go_sem]) (fun hH => ?_)
    simp (disch := first | omega | (simp only [go_sem]; first | done | omega)) only [go_sem]
    exact Ret.same (Nat.le_refl _) hk
  have hl0 : 0 < l.length := List.length_pos_iff.2 hl
  unfold corrF at hk
  rw [if_neg hl] at hk
  have hpl := posK_le l t
  have hpb := posK_lt l t
  have hpa := posK_at l t
  refine acalls Tryz.func149 rfl (by kernel_rfl) (by simp (disch := first | omega | (simp only [go_sem]; first | done | omega)) only [go_sem]) (fun hH => ?_)
  simp (disch := first | omega | (simp only [go_sem]; first | done | omega)) only [go_sem]
  refine bsearchK_a l t (by omega) (fun i j hj hij => (hinc i j hj hij).1) (fun x hx => (hok x hx).near) (by omega) (fun b => ?_)
  generalize posK l t = k at *
  simp (disch := first | omega | (simp only [go_sem]; first | done | omega)) only [go_sem]
  rcases Nat.eq_zero_or_pos k with hk0 | hk0
  · subst hk0
    have hx := hok l[0] (List.getElem_mem hl0)
    obtain ⟨x1, x2, x3⟩ := hx
    rw [show rawK l t 0 = t + l[0].s - l[0].n by unfold rawK; rw [if_pos rfl, at0K_at hl0]] at hk
    simp (disch := first | omega | (simp only [go_sem]; first | done | omega)) only [go_sem]
    refine w_draw (by kernel_rfl) (by decide +kernel) ?_
    simp (disch := first | omega | (simp only [go_sem]; first | done | omega)) only [go_sem]
    exact Ret.same (Nat.le_refl _) (by simpa using hk)
  · have hkl : k - 1 < l.length := by omega
    have e1 : ((k : Int) - 1).toNat = k - 1 := by omega
    have hx := hok l[k - 1] (List.getElem_mem hkl)
    have hb1 := hpb (k - 1) hkl (by omega)
    obtain ⟨x1, x2, x3⟩ := hx
    have hX : l[((k : Int) - 1).toNat]'(by omega) = l[k - 1] := by simp only [e1]
    by_cases hke : k = l.length
    · rw [show rawK l t k = t + l[k - 1].s - l[k - 1].n by unfold rawK; rw [if_neg (by omega), if_pos hke, at0K_at hkl]] at hk
      simp (disch := first | omega | (simp only [go_sem]; first | done | omega)) only [go_sem]
      refine w_draw (by kernel_rfl) (by decide +kernel) ?_
      simp (disch := first | omega | (simp only [go_sem]; first | done | omega)) only [go_sem, hX]
      exact Ret.same (Nat.le_refl _) (by simpa using hk)
    · have hkk : k < l.length := by omega
      have hs2 := (ckF_ok h).2.2 (k - 1) k hkk (by omega)
      have hy := hok l[k] (List.getElem_mem hkk)
      obtain ⟨y1, y2, y3⟩ := hy
      have hb2 := hpa hkk
      rw [show rawK l t k = l[k - 1].s + (t - l[k - 1].n) + (t - l[k - 1].n) * ((l[k].s - l[k - 1].s) - (l[k].n - l[k - 1].n)) / (l[k].n - l[k - 1].n) by unfold rawK; rw [if_neg (by omega), if_neg hke, at0K_at hkl, at0K_at hkk]] at hk
      generalize l[k - 1] = x at *
      generalize hyy : l[k] = y at *
      have hm : -2600000000000000000 ≤ (t - x.n) * ((y.s - x.s) - (y.n - x.n)) ∧ (t - x.n) * ((y.s - x.s) - (y.n - x.n)) ≤ 2600000000000000000 := by
        have m1 : (t - x.n) * ((y.s - x.s) - (y.n - x.n)) ≤ (t - x.n) * 7200000 := Int.mul_le_mul_of_nonneg_left (by omega) (by omega)
        have m2 : (t - x.n) * -7200000 ≤ (t - x.n) * ((y.s - x.s) - (y.n - x.n)) := Int.mul_le_mul_of_nonneg_left (by omega) (by omega)
        omega
      have hd : -2600000000000000000 ≤ (t - x.n) * ((y.s - x.s) - (y.n - x.n)) / (y.n - x.n) ∧ (t - x.n) * ((y.s - x.s) - (y.n - x.n)) / (y.n - x.n) ≤ 2600000000000000000 := by
        generalize (t - x.n) * ((y.s - x.s) - (y.n - x.n)) = p at *
        have hpos : 0 < y.n - x.n := by omega
        constructor
        · refine Int.le_ediv_of_mul_le hpos ?_
          have : -2600000000000000000 * (y.n - x.n) ≤ -2600000000000000000 * 1 := Int.mul_le_mul_of_nonpos_left (by omega) (by omega)
          omega
        · refine Int.ediv_le_of_le_mul hpos ?_
          have : 2600000000000000000 * 1 ≤ 2600000000000000000 * (y.n - x.n) := Int.mul_le_mul_of_nonneg_left (by omega) (by omega)
          omega
      simp (disch := first | omega | (simp only [go_sem]; first | done | omega)) only [go_sem]
      repeat' (first | ((first | refine acond_d ?_ ?_ | refine acond_b ?_ ?_ | refine ag_d ?_ ?_ | refine ag_n ?_ ?_ | refine ag_bt ?_ ?_ | refine ag_bf ?_ ?_ | refine agt_d ?_ ?_ | refine agt_n ?_ ?_ | refine agt_bt ?_ ?_ | refine agt_bf ?_ ?_) <;> intro c <;> try simp (disch := first | omega | (simp only [go_sem]; first | done | omega)) only [go_sem, c, hX, hyy]) | ((first | refine w_draw (by kernel_rfl) (by decide +kernel) ?_ | refine down_a _ _ (by omega) (by omega) (by omega) ?_ | refine w_tree (.one 0 (.one 1 (.one 2 (.one 3 (.one 4 (.one 5 (.one 6 (.three 7 (.three 8 (.two 9 (.one 10 (.one 11 (.one 12 .done))) 10 (.one 9 (.one 11 (.one 12 .done)))) 9 (.two 8 (.one 10 (.one 11 (.one 12 .done))) 10 (.two 8 (.one 11 (.one 12 .done)) 11 (.one 8 (.one 12 .done)))) 10 (.two 8 (.one 9 (.one 11 (.one 12 .done))) 9 (.two 8 (.one 11 (.one 12 .done)) 11 (.one 8 (.one 12 .done))))) 9 (.two 7 (.two 8 (.one 10 (.one 11 (.one 12 .done))) 10 (.two 8 (.one 11 (.one 12 .done)) 11 (.one 8 (.one 12 .done)))) 10 (.two 7 (.two 8 (.one 11 (.one 12 .done)) 11 (.one 8 (.one 12 .done))) 11 (.one 7 (.one 8 (.one 12 .done))))) 10 (.two 7 (.two 8 (.one 9 (.one 11 (.one 12 .done))) 9 (.two 8 (.one 11 (.one 12 .done)) 11 (.one 8 (.one 12 .done)))) 9 (.two 7 (.two 8 (.one 11 (.one 12 .done)) 11 (.one 8 (.one 12 .done))) 11 (.one 7 (.one 8 (.one 12 .done))))))))))))) (by kernel_rfl) (by decide +kernel) ?_ | refine w_tree (.one 0 (.one 2 (.one 4 (.one 5 (.one 6 (.one 7 (.one 8 (.one 9 (.one 10 (.one 11 (.two 1 (.one 3 (.one 12 (.one 13 (.one 14 .done)))) 12 (.one 1 (.one 3 (.one 13 (.one 14 .done))))))))))))))) (by kernel_rfl) (by decide +kernel) ?_) <;> try simp (disch := first | omega | (simp only [go_sem]; first | done | omega)) only [go_sem, hX, hyy]) | (refine And.intro ?_ ?_ <;> try simp (disch := first | omega | (simp only [go_sem]; first | done | omega)) only [go_sem, hX, hyy]))
      all_goals exact Ret.drop hH (Nat.le_refl _) trivial (by simpa using hk)
end Go.Proofs.YtnodfnjmhcjnfaaGreatDoor
