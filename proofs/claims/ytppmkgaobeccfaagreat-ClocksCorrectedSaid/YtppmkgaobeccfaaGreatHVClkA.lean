/- What a moment of a node is corrected to: the document's answer. Condition: the clock is right. -/
import Derived.Test.YtppmkgaobeccfaaGreatHVClock
namespace Go.Proofs.YtppmkgaobeccfaaGreat
open Go Go.RowKit
set_option maxRecDepth 100000
set_option linter.all false
set_option maxHeartbeats 1000000
variable {H : Hp} {K : AV → Hp → Prop}
theorem floorR_a (a b : Int) (hb : 0 < b) (hb2 : b ≤ 4611686018427387903) (ha : -4611686018427387903 ≤ a ∧ a ≤ 4611686018427387903) (hk : K (.c (.int .i64 (a / b))) H) : ACalls Tryz.prog 80 [(.c (.int .i64 a)), (.c (.int .i64 b))] H K := by
  rw [← floor_div hb] at hk
  have h1 : -4611686018427387903 ≤ a.tdiv b ∧ a.tdiv b ≤ 4611686018427387903 := by
    have := Int.natAbs_tdiv_le_natAbs a b
    omega
  by_cases c : a.tmod b < 0
  · rw [if_pos c] at hk
    refine acalls Tryz.func80 rfl (by kernel_rfl) (by simp (disch := first | omega | (simp only [go_sem]; first | done | omega)) only [go_sem]) (fun hH => ?_)
    simp (disch := first | omega | (simp only [go_sem]; first | done | omega)) only [go_sem, c]
    exact Ret.same (Nat.le_refl _) hk
  · rw [if_neg c] at hk
    refine acalls Tryz.func80 rfl (by kernel_rfl) (by simp (disch := first | omega | (simp only [go_sem]; first | done | omega)) only [go_sem]) (fun hH => ?_)
    simp (disch := first | omega | (simp only [go_sem]; first | done | omega)) only [go_sem, c]
    exact Ret.same (Nat.le_refl _) hk
/-- the server's time after so many entries -/
def srvK (l : List Clk) (t : Int) (k : Nat) : Int :=
  if k = 0 then t + (at0K l 0).s - (at0K l 0).n
  else if k = l.length then t + (at0K l (k - 1)).s - (at0K l (k - 1)).n
  else t + (at0K l (k - 1)).s - (at0K l (k - 1)).n + (t - (at0K l (k - 1)).n) * (((at0K l k).s - (at0K l (k - 1)).s) - ((at0K l k).n - (at0K l (k - 1)).n)) / ((at0K l k).n - (at0K l (k - 1)).n)
theorem srvK_is {l : List Clk} (h : ckF l = 0) {t : Int} {k : Nat} (hk : k ≤ l.length) (h1 : ∀ j (h : j < l.length), j < k → l[j].n ≤ t) (h2 : ∀ h : k < l.length, t < l[k].n) : rawK l t (posK l t) = srvK l t k := by
  have hinc := (ckF_ok h).2.2
  rcases Nat.eq_zero_or_pos k with rfl | h0
  · have : posK l t = 0 := posK_is (Nat.zero_le _) (fun j _ hj => by omega) (fun h => by have := h2 h; omega)
    rw [this]
    unfold rawK srvK
    rw [if_pos rfl, if_pos rfl]
  · have hk1 : k - 1 < l.length := by omega
    have hle := h1 (k - 1) hk1 (by omega)
    by_cases he : l[k - 1].n = t
    · have hp : posK l t = k - 1 := posK_is (by omega) (fun j hj hjk => by have := (hinc j (k - 1) hk1 hjk).1; omega) (fun h => by omega)
      rw [hp]
      have hv : rawK l t (k - 1) = l[k - 1].s := by
        rcases Nat.eq_zero_or_pos (k - 1) with e | e
        · have h5 : at0K l 0 = l[k - 1] := by rw [at0K_at (by omega)]; congr 1; omega
          have hz : rawK l t (k - 1) = t + (at0K l 0).s - (at0K l 0).n := by rw [e]; unfold rawK; rw [if_pos rfl]
          rw [hz, h5]
          omega
        · rw [raw_mid h e hk1]
          have h3 := (hinc (k - 1 - 1) (k - 1) hk1 (by omega)).1
          rw [he]
          have h4 : 0 < t - l[k - 1 - 1].n := by omega
          rw [Int.mul_comm, Int.mul_ediv_cancel _ (by omega)]
          omega
      rw [hv]
      unfold srvK
      rw [if_neg (by omega), at0K_at hk1]
      split
      · omega
      · rw [show t - l[k - 1].n = 0 by omega, Int.zero_mul, Int.zero_ediv]
        omega
    · have hp : posK l t = k := posK_is hk (fun j hj hjk => by
        rcases Nat.lt_or_ge j (k - 1) with h3 | h3
        · have := (hinc j (k - 1) hk1 h3).1; omega
        · have e : j = k - 1 := by omega
          have e2 : l[j].n = l[k - 1].n := by simp only [e]
          omega) (fun h => by have := h2 h; omega)
      rw [hp]
      unfold rawK srvK
      rw [if_neg (show ¬ k = 0 by omega), if_neg (show ¬ k = 0 by omega)]
      split
      · rfl
      · omega
theorem skew_bd {t n s n2 s2 : Int} (h1 : 0 ≤ n ∧ n ≤ t) (h2 : t ≤ 345686399999) (h3 : -3600000 ≤ n - s ∧ n - s ≤ 3600000) (h4 : -3600000 ≤ n2 - s2 ∧ n2 - s2 ≤ 3600000) (h5 : n < n2) :
    (-2600000000000000000 ≤ (t - n) * ((s2 - s) - (n2 - n)) ∧ (t - n) * ((s2 - s) - (n2 - n)) ≤ 2600000000000000000) ∧ (-2600000000000000000 ≤ (t - n) * ((s2 - s) - (n2 - n)) / (n2 - n) ∧ (t - n) * ((s2 - s) - (n2 - n)) / (n2 - n) ≤ 2600000000000000000) := by
  have hm : -2600000000000000000 ≤ (t - n) * ((s2 - s) - (n2 - n)) ∧ (t - n) * ((s2 - s) - (n2 - n)) ≤ 2600000000000000000 := by
    have m1 : (t - n) * ((s2 - s) - (n2 - n)) ≤ (t - n) * 7200000 := Int.mul_le_mul_of_nonneg_left (by omega) (by omega)
    have m2 : (t - n) * -7200000 ≤ (t - n) * ((s2 - s) - (n2 - n)) := Int.mul_le_mul_of_nonneg_left (by omega) (by omega)
    omega
  refine ⟨hm, ?_⟩
  generalize (t - n) * ((s2 - s) - (n2 - n)) = p at *
  have hpos : 0 < n2 - n := by omega
  constructor
  · refine Int.le_ediv_of_mul_le hpos ?_
    have : -2600000000000000000 * (n2 - n) ≤ -2600000000000000000 * 1 := Int.mul_le_mul_of_nonpos_left (by omega) (by omega)
    omega
  · refine Int.ediv_le_of_le_mul hpos ?_
    have : 2600000000000000000 * 1 ≤ 2600000000000000000 * (n2 - n) := Int.mul_le_mul_of_nonneg_left (by omega) (by omega)
    omega
theorem srvK_bd {l : List Clk} (h : ckF l = 0) (hl : 0 < l.length) {t : Int} (h0 : 0 ≤ t) (h2 : t ≤ 345686399999) {k : Nat} (hk : k ≤ l.length) (h1 : ∀ j (h : j < l.length), j < k → l[j].n ≤ t) : -3000000000000000000 ≤ srvK l t k ∧ srvK l t k ≤ 3000000000000000000 := by
  obtain ⟨hlen, hok, hinc⟩ := ckF_ok h
  unfold srvK
  split
  · have hx := hok l[0] (List.getElem_mem hl)
    obtain ⟨x1, x2, x3⟩ := hx
    rw [at0K_at hl]
    omega
  · rename_i c
    have hk1 : k - 1 < l.length := by omega
    have hx := hok l[k - 1] (List.getElem_mem hk1)
    obtain ⟨x1, x2, x3⟩ := hx
    rw [at0K_at hk1]
    split
    · omega
    · have hkk : k < l.length := by omega
      have hy := hok l[k] (List.getElem_mem hkk)
      obtain ⟨y1, y2, y3⟩ := hy
      have := (hinc (k - 1) k hkk (by omega)).1
      rw [at0K_at hkk]
      have hb := (skew_bd (t := t) (n := l[k - 1].n) (s := l[k - 1].s) (n2 := l[k].n) (s2 := l[k].s) ⟨x1.1, h1 (k - 1) hk1 (by omega)⟩ h2 x3 y3 this).2
      omega
theorem correctedOf_a (l : List Clk) (t : Int) (h : ckF l = 0) (h0 : 0 ≤ t) (h1 : t ≤ 345686399999) (hk : K (.c (.int .i64 (corrF l t))) H) : ACalls Tryz.prog 20 [.c (.lst 2 (l.map encK)), (.c (.int .i64 t))] H K := by
  obtain ⟨hlen, hok, hinc⟩ := ckF_ok h
  by_cases hl : l = []
  · subst hl
    rw [show corrF [] t = t from rfl] at hk
    refine acalls Tryz.func20 rfl (by kernel_rfl) (by simp (disch := first | omega | (simp only [go_sem]; first | done | omega)) only [go_sem]) (fun hH => ?_)
    simp (disch := first | omega | (simp only [go_sem]; first | done | omega)) only [go_sem]
    exact Ret.same (Nat.le_refl _) hk
  have hl0 : 0 < l.length := List.length_pos_iff.2 hl
  unfold corrF at hk
  rw [if_neg hl] at hk
  have hx0 := hok l[0] (List.getElem_mem hl0)
  obtain ⟨x1, x2, x3⟩ := hx0
  have e0 : srvK l t 0 = t + l[0].s - l[0].n := by unfold srvK; rw [if_pos rfl, at0K_at hl0]
  refine acalls Tryz.func20 rfl (by kernel_rfl) (by simp (disch := first | omega | (simp only [go_sem]; first | done | omega)) only [go_sem]) (fun hH => ?_)
  simp (disch := first | omega | (simp only [go_sem]; first | done | omega)) only [go_sem]
  refine w_draw (by kernel_rfl) (by decide +kernel) ?_
  simp (disch := first | omega | (simp only [go_sem]; first | done | omega)) only [go_sem, hl0]
  refine AWp.loop (H.length) [0, 1, 5, 27, 28] [29, 6] (fun (k : Nat) => k ≤ l.length ∧ ∀ j (h : j < l.length), j < k → l[j].n ≤ t) (fun (k : Nat) => [(29, (.c (.int .i64 k))), (6, (.c (.int .i64 (srvK l t k))))]) (fun (k : Nat) => H) (fun (k : Nat) => l.length - k) (by kernel_rfl) (fun _ => rfl) (by kernel_rfl) (by first | (simp; done) | omega) (by first | (simp; done) | (simp; omega) | omega) (by (try simp only [List.forall_mem_cons, List.not_mem_nil, false_implies, implies_true, and_true]); (try simp (disch := first | omega | (simp only [go_sem]; first | done | omega)) only [go_sem]); all_goals first | trivial | (simp [AV.ok, AV.ok1, AC.ok]; done) | (simp [AV.ok, AV.ok1, AC.ok]; omega) | (simp [AV.ok, AV.ok1, AC.ok]; assumption) | ((repeat' apply And.intro) <;> first | trivial | (simp [AV.ok, AV.ok1, AC.ok]; done) | (simp [AV.ok, AV.ok1, AC.ok]; omega) | (simp [AV.ok, AV.ok1, AC.ok]; assumption) | (refine grV_ok ?_ _; first | (simp; done) | (simp; omega) | omega))) ?_ (fun k q _ _ => ?_)
  · refine Next.mk 0 ⟨Nat.zero_le _, fun j _ hj => by omega⟩ ?_
    rw [e0]
    (try simp (disch := first | omega | (simp only [go_sem]; first | done | omega)) only [go_sem]); (first | refine WkL.eq ?_ ?_ | refine WkL.rest (by assumption) ?_ ?_ ?_ | refine WkL.keepL (by assumption) rfl ?_ ?_ ?_ ?_) <;> first | rfl | (simp; done) | (simp; omega) | (simp only [List.cons.injEq, AV.c.injEq, AC.int.injEq, AC.bool.injEq, AC.str.injEq, and_true, true_and, Int.natCast_add, Int.natCast_one, Int.cast_ofNat_Int]; omega) | (simp [AV.ok, AV.ok1, AC.ok]; done) | (simp [AV.ok, AV.ok1, AC.ok]; omega) | (simp only [List.forall_mem_cons, List.not_mem_nil, false_implies, implies_true, and_true]; (repeat' apply And.intro) <;> first | exact okN_map (fun x => by simp [go_sem, AC.pure]) | exact okN_grO (fun x => by simp [go_sem, AC.pure]) | (simp [AObj.okN, AC.ok]; done) | (simp [AObj.okN, AC.ok]; omega)) | (simp [*]; done) | grind
  obtain ⟨q1, q2⟩ := q
  have hbd := srvK_bd h hl0 h0 h1 q1 q2
  by_cases hlt : k < l.length
  · obtain ⟨x, hx⟩ : ∃ x, x = l[k] := ⟨_, rfl⟩
    obtain ⟨y1, y2, y3⟩ := hok x (hx ▸ List.getElem_mem hlt)
    by_cases c : t < x.n
    · rw [srvK_is h q1 q2 (fun _ => by rw [← hx]; exact c)] at hk
      generalize srvK l t k = sv at *
      simp (disch := first | omega | (simp only [go_sem]; first | done | omega)) only [go_sem, hlt, ← hx, c]
      exact Ret.drop hH (Nat.le_refl _) trivial hk
    · have hq : ∀ j (h : j < l.length), j < k + 1 → l[j].n ≤ t := fun j hj hjk => by
        rcases Nat.lt_or_ge j k with g | g
        · exact q2 j hj g
        · obtain rfl : j = k := by omega
          rw [← hx]
          omega
      by_cases c2 : k + 1 < l.length
      · obtain ⟨y, hy⟩ : ∃ y, y = l[k + 1] := ⟨_, rfl⟩
        obtain ⟨z1, z2, z3⟩ := hok y (hy ▸ List.getElem_mem c2)
        have hxy := (hinc k (k + 1) c2 (by omega)).1
        rw [← hx, ← hy] at hxy
        obtain ⟨m1, m2⟩ := skew_bd (t := t) (n := x.n) (s := x.s) (n2 := y.n) (s2 := y.s) ⟨y1.1, by omega⟩ h1 y3 z3 hxy
        have e : srvK l t (k + 1) = t + x.s - x.n + (t - x.n) * ((y.s - x.s) - (y.n - x.n)) / (y.n - x.n) := by
          unfold srvK
          rw [if_neg (by omega), if_neg (by omega), Nat.add_sub_cancel, at0K_at hlt, at0K_at c2, ← hx, ← hy]
        have c3 : (k : Int) + 1 < l.length := by omega
        have hix : ((k : Int) + 1).toNat = k + 1 := by omega
        simp (disch := first | omega | (simp only [go_sem]; first | done | omega)) only [go_sem, hlt, ← hx, c, c3, hix, c2, ← hy]
        refine floorR_a _ _ (by omega) (by omega) (by omega) ?_
        simp (disch := first | omega | (simp only [go_sem]; first | done | omega)) only [go_sem]
        refine Next.mk (k + 1) ⟨⟨by omega, hq⟩, by omega⟩ ?_
        rw [e]
        (try simp (disch := first | omega | (simp only [go_sem]; first | done | omega)) only [go_sem]); (first | refine WkL.eq ?_ ?_ | refine WkL.rest (by assumption) ?_ ?_ ?_ | refine WkL.keepL (by assumption) rfl ?_ ?_ ?_ ?_) <;> first | rfl | (simp; done) | (simp; omega) | (simp only [List.cons.injEq, AV.c.injEq, AC.int.injEq, AC.bool.injEq, AC.str.injEq, and_true, true_and, Int.natCast_add, Int.natCast_one, Int.cast_ofNat_Int]; omega) | (simp [AV.ok, AV.ok1, AC.ok]; done) | (simp [AV.ok, AV.ok1, AC.ok]; omega) | (simp only [List.forall_mem_cons, List.not_mem_nil, false_implies, implies_true, and_true]; (repeat' apply And.intro) <;> first | exact okN_map (fun x => by simp [go_sem, AC.pure]) | exact okN_grO (fun x => by simp [go_sem, AC.pure]) | (simp [AObj.okN, AC.ok]; done) | (simp [AObj.okN, AC.ok]; omega)) | (simp [*]; done) | grind
      · have e : srvK l t (k + 1) = t + x.s - x.n := by
          unfold srvK
          rw [if_neg (by omega), if_pos (by omega), Nat.add_sub_cancel, at0K_at hlt, ← hx]
        have c3 : ¬ (k : Int) + 1 < l.length := by omega
        simp (disch := first | omega | (simp only [go_sem]; first | done | omega)) only [go_sem, hlt, ← hx, c, c3]
        refine Next.mk (k + 1) ⟨⟨by omega, hq⟩, by omega⟩ ?_
        rw [e]
        (try simp (disch := first | omega | (simp only [go_sem]; first | done | omega)) only [go_sem]); (first | refine WkL.eq ?_ ?_ | refine WkL.rest (by assumption) ?_ ?_ ?_ | refine WkL.keepL (by assumption) rfl ?_ ?_ ?_ ?_) <;> first | rfl | (simp; done) | (simp; omega) | (simp only [List.cons.injEq, AV.c.injEq, AC.int.injEq, AC.bool.injEq, AC.str.injEq, and_true, true_and, Int.natCast_add, Int.natCast_one, Int.cast_ofNat_Int]; omega) | (simp [AV.ok, AV.ok1, AC.ok]; done) | (simp [AV.ok, AV.ok1, AC.ok]; omega) | (simp only [List.forall_mem_cons, List.not_mem_nil, false_implies, implies_true, and_true]; (repeat' apply And.intro) <;> first | exact okN_map (fun x => by simp [go_sem, AC.pure]) | exact okN_grO (fun x => by simp [go_sem, AC.pure]) | (simp [AObj.okN, AC.ok]; done) | (simp [AObj.okN, AC.ok]; omega)) | (simp [*]; done) | grind
  · rw [srvK_is h q1 q2 (fun g => absurd g hlt)] at hk
    generalize srvK l t k = sv at *
    simp (disch := first | omega | (simp only [go_sem]; first | done | omega)) only [go_sem, hlt]
    exact Ret.same (Nat.le_refl _) hk
end Go.Proofs.YtppmkgaobeccfaaGreat
