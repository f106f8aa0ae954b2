/- What is wrong with fixes: the program's answer and the document's. Condition: names are not longer than a machine holds. -/
import Derived.Test.YtgcjenfdndhhpaaGreatDoorHVFixM
import Derived.Test.YtgcjenfdndhhpaaGreatDoorHVArrF
import Derived.Test.YtgcjenfdndhhpaaGreatDoorHVGD
namespace Go.Proofs.YtgcjenfdndhhpaaGreatDoor
open Go Go.RowKit
set_option maxRecDepth 100000
set_option linter.all false
set_option maxHeartbeats 1000000
variable {H : Hp} {K : AV → Hp → Prop}
def kdErr (x : Fix) : Int := if x.kind = 1 then smpErr x.s else if x.kind = 2 then (if 0 ≤ x.t ∧ x.t ≤ 345686399999 then 0 else 1) else if x.kind = 3 then (if x.w1 < 0 ∨ x.w2 ≤ x.w1 ∨ 345686400000 < x.w2 then 1 else if x.q < 0 ∨ 2 < x.q then 4 else 0) else 0
def bareF (x : Fix) : Fix := if x.kind = 1 then { x with s := ⟨0, 0, 0⟩ } else if x.kind = 2 then { x with t := 0 } else if x.kind = 3 then { x with w1 := 0, w2 := 0, q := 0 } else x
def onlyF (x : Fix) : Fix := ⟨x.by_, x.no, x.made, x.kind, ⟨0, 0, 0⟩, 0, 0, 0, 0⟩
def fxErr (x : Fix) : Int := if ¬ isKey x.by_ then 5 else if (x.no < 1 ∨ 1000000 < x.no) ∨ ¬ (0 ≤ x.made ∧ x.made ≤ 345686399999) then 1 else if x.kind < 1 ∨ 3 < x.kind then 4 else if kdErr x ≠ 0 then kdErr x else if bareF x ≠ onlyF x then 3 else 0
theorem kindFault_a (x : Fix) (hk : K (.c (.int .i64 (kdErr x))) H) : ACalls Tryz.prog 168 [.agg (encF x)] H K := by
  unfold kdErr at hk
  by_cases k1 : x.kind = 1
  · rw [if_pos k1] at hk
    refine acalls Tryz.func168 rfl (by kernel_rfl) (by simp (disch := first | omega | (simp only [go_sem]; first | done | omega)) only [go_sem]) (fun hH => ?_)
    simp (disch := first | omega | (simp only [go_sem]; first | done | omega)) only [go_sem, k1]
    refine checkSample_a x.s ?_
    simp (disch := first | omega | (simp only [go_sem]; first | done | omega)) only [go_sem]
    exact Ret.drop hH (Nat.le_refl _) trivial hk
  rw [if_neg k1] at hk
  by_cases k2 : x.kind = 2
  · rw [if_pos k2] at hk
    refine acalls Tryz.func168 rfl (by kernel_rfl) (by simp (disch := first | omega | (simp only [go_sem]; first | done | omega)) only [go_sem]) (fun hH => ?_)
    simp (disch := first | omega | (simp only [go_sem]; first | done | omega)) only [go_sem, k1, k2]
    refine moment_a _ _ _ ?_
    by_cases h : 0 ≤ x.t ∧ x.t ≤ 345686399999
    · rw [if_pos h] at hk
      simp (disch := first | omega | (simp only [go_sem]; first | done | omega)) only [go_sem, h]
      exact Ret.drop hH (Nat.le_refl _) trivial hk
    · rw [if_neg h] at hk
      simp (disch := first | omega | (simp only [go_sem]; first | done | omega)) only [go_sem, h]
      exact Ret.drop hH (Nat.le_refl _) trivial hk
  rw [if_neg k2] at hk
  by_cases k3 : x.kind = 3
  · rw [if_pos k3] at hk
    refine acalls Tryz.func168 rfl (by kernel_rfl) (by simp (disch := first | omega | (simp only [go_sem]; first | done | omega)) only [go_sem]) (fun hH => ?_)
    simp (disch := first | omega | (simp only [go_sem]; first | done | omega)) only [go_sem, k1, k2, k3]
    repeat' (first | ((first | refine acond_d ?_ ?_ | refine acond_b ?_ ?_ | refine ag_d ?_ ?_ | refine ag_n ?_ ?_ | refine ag_bt ?_ ?_ | refine ag_bf ?_ ?_) <;> intro c <;> try simp (disch := first | omega | (simp only [go_sem]; first | done | omega)) only [go_sem, c]) | ((first | refine w_draw (by kernel_rfl) (by decide +kernel) ?_ | refine out_a _ _ _ _ _ ?_) <;> try simp (disch := first | omega | (simp only [go_sem]; first | done | omega)) only [go_sem]))
    all_goals (first | refine Ret.sameE (Nat.le_refl _) (by assumption) ?_ | refine Ret.dropE (by assumption) (Nat.le_refl _) (by assumption) (by simp [AV.ok, AV.ok1, AC.ok]) ?_) <;> grind
  · rw [if_neg k3] at hk
    refine acalls Tryz.func168 rfl (by kernel_rfl) (by simp (disch := first | omega | (simp only [go_sem]; first | done | omega)) only [go_sem]) (fun hH => ?_)
    simp (disch := first | omega | (simp only [go_sem]; first | done | omega)) only [go_sem, k1, k2, k3]
    exact Ret.drop hH (Nat.le_refl _) trivial hk
theorem bare_a (x : Fix) (hk : K (.agg (encF (bareF x))) H) : ACalls Tryz.prog 169 [.agg (encF x)] H K := by
  unfold bareF at hk
  by_cases k1 : x.kind = 1
  · rw [if_pos k1] at hk
    refine acalls Tryz.func169 rfl (by kernel_rfl) (by simp (disch := first | omega | (simp only [go_sem]; first | done | omega)) only [go_sem]) (fun hH => ?_)
    simp (disch := first | omega | (simp only [go_sem]; first | done | omega)) only [go_sem, k1]
    exact Ret.drop hH (Nat.le_refl _) (by simp [AV.ok, AV.ok1, AC.ok]) (by simpa [k1] using hk)
  rw [if_neg k1] at hk
  by_cases k2 : x.kind = 2
  · rw [if_pos k2] at hk
    refine acalls Tryz.func169 rfl (by kernel_rfl) (by simp (disch := first | omega | (simp only [go_sem]; first | done | omega)) only [go_sem]) (fun hH => ?_)
    simp (disch := first | omega | (simp only [go_sem]; first | done | omega)) only [go_sem, k1, k2]
    exact Ret.drop hH (Nat.le_refl _) (by simp [AV.ok, AV.ok1, AC.ok]) (by simpa [k2] using hk)
  rw [if_neg k2] at hk
  by_cases k3 : x.kind = 3
  · rw [if_pos k3] at hk
    refine acalls Tryz.func169 rfl (by kernel_rfl) (by simp (disch := first | omega | (simp only [go_sem]; first | done | omega)) only [go_sem]) (fun hH => ?_)
    simp (disch := first | omega | (simp only [go_sem]; first | done | omega)) only [go_sem, k1, k2, k3]
    exact Ret.drop hH (Nat.le_refl _) (by simp [AV.ok, AV.ok1, AC.ok]) (by simpa [k3] using hk)
  · rw [if_neg k3] at hk
    refine acalls Tryz.func169 rfl (by kernel_rfl) (by simp (disch := first | omega | (simp only [go_sem]; first | done | omega)) only [go_sem]) (fun hH => ?_)
    simp (disch := first | omega | (simp only [go_sem]; first | done | omega)) only [go_sem, k1, k2, k3]
    exact Ret.drop hH (Nat.le_refl _) (by simp [AV.ok, AV.ok1, AC.ok]) hk
def domB (f : FuncId) : Bool := Nat.beq f 169
def spB (_f : FuncId) (args : List AV) : Option AV := match args with
  | [.agg [.str a, .int .i64 b, .int .i64 c, .int .i64 d, .int .i64 e, .int .i64 f, .int .i64 g, .int .i64 h, .int .i64 i, .int .i64 j, .int .i64 k]] => some (.agg (encF (bareF ⟨a, b, c, d, ⟨e, f, g⟩, h, i, j, k⟩)))
  | _ => none
@[go_sem] theorem domB_y : domB 169 = true := (rfl)
@[go_sem] theorem spB_go (u : FuncId) (a : ByteArray) (b c d e f g h i j k : Int) : spB u [.agg [.str a, .int .i64 b, .int .i64 c, .int .i64 d, .int .i64 e, .int .i64 f, .int .i64 g, .int .i64 h, .int .i64 i, .int .i64 j, .int .i64 k]] = some (.agg (encF (bareF ⟨a, b, c, d, ⟨e, f, g⟩, h, i, j, k⟩))) := (rfl)
theorem specB_ok : SpecOk Tryz.prog domB spB := by
  intro f args v H K hd hs hk
  unfold domB at hd
  have hf := Nat.eq_of_beq_eq_true hd
  subst hf
  unfold spB at hs
  split at hs
  · injection hs with hs
    subst hs
    exact ⟨by kernel_rfl, rfl, bare_a ⟨_, _, _, _, ⟨_, _, _⟩, _, _, _, _⟩ hk⟩
  · cases hs
theorem fix_eta (x : Fix) : (⟨x.by_, x.no, x.made, x.kind, ⟨x.s.t, x.s.v, x.s.q⟩, x.t, x.w1, x.w2, x.q⟩ : Fix) = x := rfl
theorem fix_eqs (a b : Fix) : (decide (a.by_ = b.by_) && (decide (a.no = b.no) && (decide (a.made = b.made) && (decide (a.kind = b.kind) && (decide (a.s.t = b.s.t) && (decide (a.s.v = b.s.v) && (decide (a.s.q = b.s.q) && (decide (a.t = b.t) && (decide (a.w1 = b.w1) && (decide (a.w2 = b.w2) && decide (a.q = b.q))))))))))) = decide (a = b) := by
  obtain ⟨a1, a2, a3, a4, ⟨a5, a6, a7⟩, a8, a9, a10, a11⟩ := a
  obtain ⟨b1, b2, b3, b4, ⟨b5, b6, b7⟩, b8, b9, b10, b11⟩ := b
  simp only [← Bool.decide_and]
  exact decide_eq_decide.2 (by simp only [Fix.mk.injEq, Smp.mk.injEq]; grind)
theorem fixFault_a (x : Fix) (hsz : x.by_.size ≤ 1099511627776) (hk : K (.c (.int .i64 (fxErr x))) H) : ACalls Tryz.prog 124 [.agg (encF x)] H K := by
  unfold fxErr at hk
  refine acalls Tryz.func124 rfl (by kernel_rfl) (by simp (disch := first | omega | (simp only [go_sem]; first | done | omega)) only [go_sem]) (fun hH => ?_)
  simp (disch := first | omega | (simp only [go_sem]; first | done | omega)) only [go_sem]
  refine key_a _ hsz ?_
  by_cases h1 : isKey x.by_
  rotate_left
  · rw [if_pos h1] at hk
    simp (disch := first | omega | (simp only [go_sem]; first | done | omega)) only [go_sem, h1]
    exact Ret.drop hH (Nat.le_refl _) trivial hk
  rw [if_neg (by simpa using h1)] at hk
  by_cases h2 : (x.no < 1 ∨ 1000000 < x.no) ∨ ¬ (0 ≤ x.made ∧ x.made ≤ 345686399999)
  · rw [if_pos h2] at hk
    simp (disch := first | omega | (simp only [go_sem]; first | done | omega)) only [go_sem, h1]
    refine out_a _ _ _ _ _ ?_
    by_cases h3 : x.no < 1 ∨ 1000000 < x.no
    · simp (disch := first | omega | (simp only [go_sem]; first | done | omega)) only [go_sem, h3]
      exact Ret.drop hH (Nat.le_refl _) trivial hk
    · have h4 : ¬ (0 ≤ x.made ∧ x.made ≤ 345686399999) := h2.resolve_left h3
      simp (disch := first | omega | (simp only [go_sem]; first | done | omega)) only [go_sem, h3]
      refine moment_a _ _ _ ?_
      simp (disch := first | omega | (simp only [go_sem]; first | done | omega)) only [go_sem, h4]
      exact Ret.drop hH (Nat.le_refl _) trivial hk
  rw [if_neg h2] at hk
  have h3 : ¬ (x.no < 1 ∨ 1000000 < x.no) := fun h => h2 (.inl h)
  have h4 : 0 ≤ x.made ∧ x.made ≤ 345686399999 := Classical.byContradiction fun h => h2 (.inr h)
  simp (disch := first | omega | (simp only [go_sem]; first | done | omega)) only [go_sem, h1]
  refine out_a _ _ _ _ _ ?_
  simp (disch := first | omega | (simp only [go_sem]; first | done | omega)) only [go_sem, h3]
  refine moment_a _ _ _ ?_
  simp (disch := first | omega | (simp only [go_sem]; first | done | omega)) only [go_sem, h4]
  refine out_a _ _ _ _ _ ?_
  by_cases h5 : x.kind < 1 ∨ 3 < x.kind
  · rw [if_pos h5] at hk
    simp (disch := first | omega | (simp only [go_sem]; first | done | omega)) only [go_sem, h5]
    exact Ret.drop hH (Nat.le_refl _) trivial hk
  rw [if_neg h5] at hk
  simp (disch := first | omega | (simp only [go_sem]; first | done | omega)) only [go_sem, h5]
  refine kindFault_a x ?_
  by_cases h6 : kdErr x = 0
  rotate_left
  · rw [if_pos h6] at hk
    simp (disch := first | omega | (simp only [go_sem]; first | done | omega)) only [go_sem, h6]
    exact Ret.drop hH (Nat.le_refl _) trivial hk
  rw [if_neg (by simpa using h6)] at hk
  simp (disch := first | omega | (simp only [go_sem]; first | done | omega)) only [go_sem, h6]
  refine w_drawS specB_ok (by kernel_rfl) (by decide +kernel) ?_
  simp (disch := first | omega | (simp only [go_sem]; first | done | omega)) only [go_sem, fix_eta]
  refine acond_b (fun c => ?_) (fun c => ?_)
  · have h7 : bareF x = onlyF x := by
      have e := fix_eqs (bareF x) (onlyF x)
      simp only [Bool.and_eq_true, decide_eq_true_eq] at c
      refine of_decide_eq_true (e.symm.trans ?_)
      simp only [Bool.and_eq_true, decide_eq_true_eq]
      exact c
    rw [if_neg (by simpa using h7)] at hk
    simp (disch := first | omega | (simp only [go_sem]; first | done | omega)) only [go_sem]
    exact Ret.drop hH (Nat.le_refl _) trivial hk
  · have h7 : bareF x ≠ onlyF x := by
      intro h
      rw [h] at c
      simp [onlyF] at c
    rw [if_pos h7] at hk
    simp (disch := first | omega | (simp only [go_sem]; first | done | omega)) only [go_sem]
    exact Ret.drop hH (Nat.le_refl _) trivial hk
theorem smp0 {s : Smp} (h1 : s.t = 0) (h2 : s.v = 0) (h3 : s.q = 0) : s = ⟨0, 0, 0⟩ := by
  obtain ⟨a, b, c⟩ := s
  simp_all
theorem fixFaultR_a (x : Fix) (hsz : x.by_.size ≤ 1099511627776) (hk : K (.c (.int .i64 (fxErr x))) H) : ACalls Tryz.prog 120 [.agg (encF x)] H K := by
  unfold fxErr at hk
  refine acalls Tryz.func120 rfl (by kernel_rfl) (by simp (disch := first | omega | (simp only [go_sem]; first | done | omega)) only [go_sem]) (fun hH => ?_)
  simp (disch := first | omega | (simp only [go_sem]; first | done | omega)) only [go_sem]
  refine keyR_a _ hsz ?_
  by_cases h1 : isKey x.by_
  rotate_left
  · rw [if_pos h1] at hk
    simp (disch := first | omega | (simp only [go_sem]; first | done | omega)) only [go_sem, h1]
    exact Ret.drop hH (Nat.le_refl _) trivial hk
  rw [if_neg (by simpa using h1)] at hk
  by_cases h2 : (x.no < 1 ∨ 1000000 < x.no) ∨ ¬ (0 ≤ x.made ∧ x.made ≤ 345686399999)
  · rw [if_pos h2] at hk
    simp (disch := first | omega | (simp only [go_sem]; first | done | omega)) only [go_sem, h1]
    refine in_a _ _ _ _ _ ?_
    by_cases h3 : x.no < 1 ∨ 1000000 < x.no
    · have h3' : ¬ (1 ≤ x.no ∧ x.no ≤ 1000000) := by omega
      simp (disch := first | omega | (simp only [go_sem]; first | done | omega)) only [go_sem, h3']
      exact Ret.drop hH (Nat.le_refl _) trivial hk
    · have h4 : ¬ (0 ≤ x.made ∧ x.made ≤ 345686399999) := h2.resolve_left h3
      have h3' : 1 ≤ x.no ∧ x.no ≤ 1000000 := by omega
      simp (disch := first | omega | (simp only [go_sem]; first | done | omega)) only [go_sem, h3']
      refine momentR_a _ _ _ ?_
      simp (disch := first | omega | (simp only [go_sem]; first | done | omega)) only [go_sem, h4]
      exact Ret.drop hH (Nat.le_refl _) trivial hk
  rw [if_neg h2] at hk
  have h3 : 1 ≤ x.no ∧ x.no ≤ 1000000 := by omega
  have h4 : 0 ≤ x.made ∧ x.made ≤ 345686399999 := Classical.byContradiction fun h => h2 (.inr h)
  clear h2
  simp (disch := first | omega | (simp only [go_sem]; first | done | omega)) only [go_sem, h1]
  refine in_a _ _ _ _ _ ?_
  simp (disch := first | omega | (simp only [go_sem]; first | done | omega)) only [go_sem, h3]
  refine momentR_a _ _ _ ?_
  by_cases k1 : x.kind = 1
  · rw [if_neg (by omega)] at hk
    have ek : kdErr x = smpErr x.s := by unfold kdErr; rw [if_pos k1]
    have hb : bareF x = onlyF x ↔ (x.t = 0 ∧ x.w1 = 0 ∧ x.w2 = 0 ∧ x.q = 0) := by
      unfold bareF onlyF
      rw [if_pos k1]
      simp only [Fix.mk.injEq, true_and]
    rw [ek] at hk
    simp (disch := first | omega | (simp only [go_sem]; first | done | omega)) only [go_sem, h4, k1]
    refine sampleFault_a x.s ?_
    by_cases h6 : smpErr x.s = 0
    rotate_left
    · rw [if_pos h6] at hk
      simp (disch := first | omega | (simp only [go_sem]; first | done | omega)) only [go_sem, h6]
      exact Ret.drop hH (Nat.le_refl _) trivial hk
    rw [if_neg (by simpa using h6)] at hk
    simp (disch := first | omega | (simp only [go_sem]; first | done | omega)) only [go_sem, h6]
    refine acond_b (fun c => ?_) (fun c => ?_)
    · have h7 : bareF x = onlyF x := hb.2 (by simpa using c)
      rw [if_neg (by simpa using h7)] at hk
      simp (disch := first | omega | (simp only [go_sem]; first | done | omega)) only [go_sem]
      exact Ret.drop hH (Nat.le_refl _) trivial hk
    · have h7 : bareF x ≠ onlyF x := fun h => by simp [hb.1 h] at c
      rw [if_pos h7] at hk
      simp (disch := first | omega | (simp only [go_sem]; first | done | omega)) only [go_sem]
      exact Ret.drop hH (Nat.le_refl _) trivial hk
  by_cases k2 : x.kind = 2
  · rw [if_neg (by omega)] at hk
    have ek : kdErr x = if 0 ≤ x.t ∧ x.t ≤ 345686399999 then 0 else 1 := by unfold kdErr; rw [if_neg k1, if_pos k2]
    have hb : bareF x = onlyF x ↔ ((x.s.t = 0 ∧ x.s.v = 0 ∧ x.s.q = 0) ∧ x.w1 = 0 ∧ x.w2 = 0 ∧ x.q = 0) := by
      unfold bareF onlyF
      rw [if_neg k1, if_pos k2]
      simp only [Fix.mk.injEq, true_and]
      constructor
      · rintro ⟨h1, h2⟩; rw [h1]; exact ⟨⟨rfl, rfl, rfl⟩, h2⟩
      · rintro ⟨⟨h1, h2, h3⟩, h4⟩
        exact ⟨smp0 h1 h2 h3, h4⟩
    rw [ek] at hk
    simp (disch := first | omega | (simp only [go_sem]; first | done | omega)) only [go_sem, h4, k1, k2]
    refine momentR_a _ _ _ ?_
    by_cases h6 : 0 ≤ x.t ∧ x.t ≤ 345686399999
    rotate_left
    · rw [if_neg h6, if_pos (by decide)] at hk
      simp (disch := first | omega | (simp only [go_sem]; first | done | omega)) only [go_sem, h6]
      exact Ret.drop hH (Nat.le_refl _) trivial hk
    rw [if_pos h6, if_neg (by simp)] at hk
    simp (disch := first | omega | (simp only [go_sem]; first | done | omega)) only [go_sem, h6]
    refine acond_b (fun c => ?_) (fun c => ?_)
    · have h7 : bareF x = onlyF x := hb.2 (by simpa [and_assoc] using c)
      rw [if_neg (by simpa using h7)] at hk
      simp (disch := first | omega | (simp only [go_sem]; first | done | omega)) only [go_sem]
      exact Ret.drop hH (Nat.le_refl _) trivial hk
    · have h7 : bareF x ≠ onlyF x := fun h => by simp [hb.1 h] at c
      rw [if_pos h7] at hk
      simp (disch := first | omega | (simp only [go_sem]; first | done | omega)) only [go_sem]
      exact Ret.drop hH (Nat.le_refl _) trivial hk
  by_cases k3 : x.kind = 3
  · rw [if_neg (by omega)] at hk
    have ek : kdErr x = (if x.w1 < 0 ∨ x.w2 ≤ x.w1 ∨ 345686400000 < x.w2 then 1 else if x.q < 0 ∨ 2 < x.q then 4 else 0) := by unfold kdErr; rw [if_neg k1, if_neg k2, if_pos k3]
    have hb : bareF x = onlyF x ↔ ((x.s.t = 0 ∧ x.s.v = 0 ∧ x.s.q = 0) ∧ x.t = 0) := by
      unfold bareF onlyF
      rw [if_neg k1, if_neg k2, if_pos k3]
      simp only [Fix.mk.injEq, true_and, and_true]
      constructor
      · rintro ⟨h1, h2⟩; rw [h1]; exact ⟨⟨rfl, rfl, rfl⟩, h2⟩
      · rintro ⟨⟨h1, h2, h3⟩, h4⟩
        exact ⟨smp0 h1 h2 h3, h4⟩
    rw [ek] at hk
    by_cases h6 : x.w1 < 0 ∨ x.w2 ≤ x.w1 ∨ 345686400000 < x.w2
    · rw [if_pos h6, if_pos (by decide)] at hk
      simp (disch := first | omega | (simp only [go_sem]; first | done | omega)) only [go_sem, h4, k1, k2, k3]
      repeat' (first | ((first | refine acond_d ?_ ?_ | refine acond_b ?_ ?_ | refine ag_d ?_ ?_ | refine ag_n ?_ ?_ | refine ag_bt ?_ ?_ | refine ag_bf ?_ ?_ | refine agt_d ?_ ?_ | refine agt_n ?_ ?_ | refine agt_bt ?_ ?_ | refine agt_bf ?_ ?_) <;> intro c <;> try simp (disch := first | omega | (simp only [go_sem]; first | done | omega)) only [go_sem, c, h6]) | ((first | refine w_draw (by kernel_rfl) (by decide +kernel) ?_ | refine timeFault_a _ _ ?_ | refine w_tree (.one 0 (.one 1 (.one 2 (.one 4 (.two 3 (.one 5 (.one 6 (.one 7 .done))) 5 (.one 3 (.one 6 (.one 7 .done)))))))) (by kernel_rfl) (by decide +kernel) ?_) <;> try simp (disch := first | omega | (simp only [go_sem]; first | done | omega)) only [go_sem, h6]) | (refine And.intro ?_ ?_ <;> try simp (disch := first | omega | (simp only [go_sem]; first | done | omega)) only [go_sem, h6]))
      all_goals exact Ret.drop hH (Nat.le_refl _) trivial hk
    rw [if_neg h6] at hk
    by_cases h8 : x.q < 0 ∨ 2 < x.q
    · rw [if_pos h8, if_pos (by decide)] at hk
      have h8' : ¬ (0 ≤ x.q ∧ x.q ≤ 2) := by omega
      simp (disch := first | omega | (simp only [go_sem]; first | done | omega)) only [go_sem, h4, k1, k2, k3]
      repeat' (first | ((first | refine acond_d ?_ ?_ | refine acond_b ?_ ?_ | refine ag_d ?_ ?_ | refine ag_n ?_ ?_ | refine ag_bt ?_ ?_ | refine ag_bf ?_ ?_ | refine agt_d ?_ ?_ | refine agt_n ?_ ?_ | refine agt_bt ?_ ?_ | refine agt_bf ?_ ?_) <;> intro c <;> try simp (disch := first | omega | (simp only [go_sem]; first | done | omega)) only [go_sem, c, h6, h8']) | ((first | refine w_draw (by kernel_rfl) (by decide +kernel) ?_ | refine timeFault_a _ _ ?_ | refine in_a _ _ _ _ _ ?_ | refine w_tree (.one 0 (.one 1 (.one 2 (.one 4 (.two 3 (.one 5 (.one 6 (.one 7 .done))) 5 (.one 3 (.one 6 (.one 7 .done)))))))) (by kernel_rfl) (by decide +kernel) ?_) <;> try simp (disch := first | omega | (simp only [go_sem]; first | done | omega)) only [go_sem, h6, h8']) | (refine And.intro ?_ ?_ <;> try simp (disch := first | omega | (simp only [go_sem]; first | done | omega)) only [go_sem, h6, h8']))
      all_goals exact Ret.drop hH (Nat.le_refl _) trivial hk
    rw [if_neg h8, if_neg (by simp)] at hk
    have h8' : 0 ≤ x.q ∧ x.q ≤ 2 := by omega
    simp (disch := first | omega | (simp only [go_sem]; first | done | omega)) only [go_sem, h4, k1, k2, k3]
    repeat' (first | ((first | refine acond_d ?_ ?_ | refine acond_b ?_ ?_ | refine ag_d ?_ ?_ | refine ag_n ?_ ?_ | refine ag_bt ?_ ?_ | refine ag_bf ?_ ?_ | refine agt_d ?_ ?_ | refine agt_n ?_ ?_ | refine agt_bt ?_ ?_ | refine agt_bf ?_ ?_) <;> intro c <;> try simp (disch := first | omega | (simp only [go_sem]; first | done | omega)) only [go_sem, c, h6, h8']) | ((first | refine w_draw (by kernel_rfl) (by decide +kernel) ?_ | refine timeFault_a _ _ ?_ | refine in_a _ _ _ _ _ ?_ | refine w_tree (.one 0 (.one 1 (.one 2 (.one 4 (.two 3 (.one 5 (.one 6 (.one 7 .done))) 5 (.one 3 (.one 6 (.one 7 .done)))))))) (by kernel_rfl) (by decide +kernel) ?_) <;> try simp (disch := first | omega | (simp only [go_sem]; first | done | omega)) only [go_sem, h6, h8']) | (refine And.intro ?_ ?_ <;> try simp (disch := first | omega | (simp only [go_sem]; first | done | omega)) only [go_sem, h6, h8']))
    · have h7 : bareF x = onlyF x := hb.2 (by simpa [and_assoc] using c)
      rw [if_neg (by simpa using h7)] at hk
      exact Ret.drop hH (Nat.le_refl _) trivial hk
    · have h7 : bareF x ≠ onlyF x := fun h => by simp [hb.1 h] at c
      rw [if_pos h7] at hk
      exact Ret.drop hH (Nat.le_refl _) trivial hk
  · rw [if_pos (by omega)] at hk
    simp (disch := first | omega | (simp only [go_sem]; first | done | omega)) only [go_sem, h4, k1, k2, k3]
    exact Ret.drop hH (Nat.le_refl _) trivial hk
end Go.Proofs.YtgcjenfdndhhpaaGreatDoor
