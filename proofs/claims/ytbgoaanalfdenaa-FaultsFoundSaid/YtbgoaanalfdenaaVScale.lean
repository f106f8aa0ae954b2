/- Values scaled and limited: the program and the document's answer. Condition: right series, factors and limits. -/
import Derived.Test.YtbgoaanalfdenaaVFrac
import Derived.Test.YtbgoaanalfdenaaVSmp
import Derived.Test.YtbgoaanalfdenaaVGr
import Derived.Test.YtbgoaanalfdenaaVSign
namespace Go.Proofs.Ytbgoaanalfdenaa
open Go Go.RowKit
set_option maxRecDepth 100000
set_option linter.all false
set_option maxHeartbeats 1000000
variable {H : Hp} {K : AV → Hp → Prop}
theorem cloneS_a (l : List Smp) (hl : l.length ≤ 1099511627776) (hk : K (.c (clV H.length 3 (l.map encS))) (H ++ [grO 44 3 (l.map encS)])) : ACalls Try.prog 44 [.c (.lst 3 (l.map encS))] H K := by
  cases l with
  | nil =>
    refine acalls Try.func44 rfl (by kernel_rfl) (by simp (disch := first | omega | (simp only [go_sem]; first | done | omega)) only [go_sem]) (fun hH => ?_)
    simp (disch := first | omega | (simp only [go_sem]; first | done | omega)) only [go_sem]
    refine asome_i (fun b _ => ?_)
    cases b
    · simp (disch := first | omega | (simp only [go_sem]; first | done | omega)) only [go_sem]
      refine app_lst ?_
      simp (disch := first | omega | (simp only [go_sem]; first | done | omega)) only [go_sem]
      exact Ret.nil [3] (by simp) (Ret.cut hH (Nat.le_refl _) trivial (Ret.pad (Nat.le_refl _) (Ret.same (by simp) hk)))
    · simp (disch := first | omega | (simp only [go_sem]; first | done | omega)) only [go_sem]
      exact Ret.nil [3] (by simp) (Ret.pad (Nat.le_refl _) (Ret.same (by simp) hk))
  | cons x xs =>
    refine acalls Try.func44 rfl (by kernel_rfl) (by simp (disch := first | omega | (simp only [go_sem]; first | done | omega)) only [go_sem]) (fun hH => ?_)
    simp (disch := first | omega | (simp only [go_sem]; first | done | omega)) only [go_sem]
    refine asome_i (fun b hb => ?_)
    subst hb
    simp (disch := first | omega | (simp only [go_sem]; first | done | omega)) only [go_sem]
    refine app_lst ?_
    simp only [List.length_cons] at hl
    simp (disch := first | omega | (simp only [go_sem]; first | done | omega)) only [go_sem]
    refine Ret.pick [1] hH (Nat.le_refl _) (L := [.row 44 3 ((x :: xs).map encS) true]) rfl (by simp) (by simp [AObj.pureO, pureL, encS, AC.pure]) (v' := .c (.sl (some (H.length, 0)) (xs.length + 1))) ?_ (by simp [AV.ok, AV.ok1, AC.ok]) (by simpa [clV, grO] using hk)
    simp [AV.ren, AV.ren1, AC.ren, pickS]
/-- the first k ones are turned -/
def updF {α : Type} (f : α → α) : Nat → List α → List α
  | _, [] => []
  | 0, l => l
  | k + 1, x :: l => f x :: updF f k l
theorem updF_len {α : Type} (f : α → α) : ∀ (k : Nat) (l : List α), (updF f k l).length = l.length
  | 0, [] => rfl
  | 0, _ :: _ => rfl
  | _ + 1, [] => rfl
  | k + 1, x :: l => by simp [updF, updF_len f k l]
theorem updF_zero {α : Type} (f : α → α) (l : List α) : updF f 0 l = l := by cases l <;> rfl
theorem updF_all {α : Type} (f : α → α) : ∀ (l : List α), updF f l.length l = l.map f
  | [] => rfl
  | x :: l => by simp [updF, updF_all f l]
theorem updF_at {α : Type} (f : α → α) : ∀ (k : Nat) (l : List α) (h : k < l.length), (updF f k l)[k]? = some l[k]
  | 0, [], h => by simp at h
  | 0, x :: l, _ => rfl
  | k + 1, [], h => by simp at h
  | k + 1, x :: l, h => by simpa [updF] using updF_at f k l (by simpa using h)
theorem updF_set {α : Type} (f : α → α) : ∀ (k : Nat) (l : List α) (h : k < l.length), (updF f k l).set k (f l[k]) = updF f (k + 1) l
  | 0, [], h => by simp at h
  | 0, x :: l, _ => by simp [updF, updF_zero]
  | k + 1, [], h => by simp at h
  | k + 1, x :: l, h => by simpa [updF] using updF_set f k l (by simpa using h)
theorem updF_same {α : Type} (f : α → α) (k : Nat) (l : List α) (h : k < l.length) (e : f l[k] = l[k]) : updF f (k + 1) l = updF f k l := by
  rw [← updF_set f k l h, e]
  have := updF_at f k l h
  apply List.ext_getElem?
  intro j
  by_cases hj : k = j
  · subst hj; rw [List.getElem?_set_self (by rw [updF_len]; exact h), this]
  · rw [List.getElem?_set_ne hj]
def roundF (a b : Int) : Int := if a < 0 then 0 - (2 * (0 - a) + b) / (2 * b) else (2 * a + b) / (2 * b)
theorem rounded0_a (a b : Int) (ha : 0 ≤ a ∧ a ≤ 4000000000000) (hb : 1 ≤ b ∧ b ≤ 1000000) (hk : K (.c (.int .i64 ((2 * a + b) / (2 * b)))) H) : ACalls Try.prog 45 [(.c (.int .i64 a)), (.c (.int .i64 b))] H K := by
  refine acalls Try.func45 rfl (by kernel_rfl) (by simp (disch := first | omega | (simp only [go_sem]; first | done | omega)) only [go_sem]) (fun hH => ?_)
  simp (disch := first | omega | (simp only [go_sem]; first | done | omega)) only [go_sem]
  repeat' (first | ((first | refine acond_d ?_ ?_ | refine acond_b ?_ ?_ | refine ag_d ?_ ?_ | refine ag_n ?_ ?_ | refine ag_bt ?_ ?_ | refine ag_bf ?_ ?_) <;> intro c <;> try simp (disch := first | omega | (simp only [go_sem]; first | done | omega)) only [go_sem, c]) | ((first | refine w_draw (by kernel_rfl) (by decide +kernel) ?_) <;> try simp (disch := first | omega | (simp only [go_sem]; first | done | omega)) only [go_sem]))
  (first | refine Ret.sameE (Nat.le_refl _) (by assumption) ?_ | refine Ret.dropE (by assumption) (Nat.le_refl _) (by assumption) (by simp [AV.ok, AV.ok1, AC.ok]) ?_) <;> (first | rfl | (simp only [AV.c.injEq, AC.bool.injEq]; rw [Bool.eq_iff_iff]; simp only [Bool.not_eq_true', decide_eq_true_eq, decide_eq_false_iff_not, Bool.and_eq_true, Bool.or_eq_true]; omega) | grind | (simp [*]; done) | (simp [*]; omega))
theorem rounded_a (a b : Int) (ha : -4000000000000 ≤ a ∧ a ≤ 4000000000000) (hb : 1 ≤ b ∧ b ≤ 1000000) (hk : K (.c (.int .i64 (roundF a b))) H) : ACalls Try.prog 45 [(.c (.int .i64 a)), (.c (.int .i64 b))] H K := by
  by_cases hn : a < 0
  · rw [show roundF a b = 0 - (2 * (0 - a) + b) / (2 * b) by simp [roundF, hn]] at hk
    have h1 := div_bd (2 * (0 - a) + b) (2 * b) (by omega)
    refine acalls Try.func45 rfl (by kernel_rfl) (by simp (disch := first | omega | (simp only [go_sem]; first | done | omega)) only [go_sem]) (fun hH => ?_)
    simp (disch := first | omega | (simp only [go_sem]; first | done | omega)) only [go_sem]
    refine rounded0_a (0 - a) b (by omega) hb ?_
    simp (disch := first | omega | (simp only [go_sem]; first | done | omega)) only [go_sem]
    exact Ret.same (Nat.le_refl _) hk
  · rw [show roundF a b = (2 * a + b) / (2 * b) by simp [roundF, hn]] at hk
    exact rounded0_a a b (by omega) hb hk
def scaleF (n d off : Int) (x : Smp) : Smp := if x.q = 2 then x else if roundF (x.v * n + off * d) d < -1000000 ∨ 1000000 < roundF (x.v * n + off * d) d then ⟨x.t, 0, 2⟩ else ⟨x.t, roundF (x.v * n + off * d) d, x.q⟩
def limitF (lo hi : Int) (x : Smp) : Smp := if x.q ≠ 2 ∧ min (max x.v lo) hi ≠ x.v then ⟨x.t, min (max x.v lo) hi, 1⟩ else x
def facE (n d off : Int) : Int := if d < 1 ∨ gcdF n d ≠ 1 then 3 else if n < -1000000 ∨ 1000000 < n ∨ 1000000 < d ∨ off < -1000000 ∨ 1000000 < off then 1 else 0
def limE (lo hi : Int) : Int := if lo < -1000000 ∨ hi < lo ∨ 1000000 < hi then 1 else 0
def scaleRes (l : List Smp) (n d off : Int) : List Smp × Int := if serF l ≠ 0 then ([], serF l) else if facE n d off ≠ 0 then ([], facE n d off) else (l.map (scaleF n d off), 0)
def limRes (l : List Smp) (lo hi : Int) : List Smp × Int := if serF l ≠ 0 then ([], serF l) else if limE lo hi ≠ 0 then ([], limE lo hi) else (l.map (limitF lo hi), 0)
theorem facE_3 {n d off : Int} (h : d < 1 ∨ gcdF n d ≠ 1) : facE n d off = 3 := by unfold facE; rw [if_pos h]
theorem facE_1 {n d off : Int} (h : ¬(d < 1 ∨ gcdF n d ≠ 1)) (h2 : n < -1000000 ∨ 1000000 < n ∨ 1000000 < d ∨ off < -1000000 ∨ 1000000 < off) : facE n d off = 1 := by unfold facE; rw [if_neg h, if_pos h2]
theorem facE_0 {n d off : Int} (h : ¬(d < 1 ∨ gcdF n d ≠ 1)) (h2 : ¬(n < -1000000 ∨ 1000000 < n ∨ 1000000 < d ∨ off < -1000000 ∨ 1000000 < off)) : facE n d off = 0 := by unfold facE; rw [if_neg h, if_neg h2]
theorem factorFault_a (n d off : Int) (hn : -9223372036854775808 ≤ n ∧ n ≤ 9223372036854775807) (hd : d ≤ 9223372036854775807) (hk : K (.c (.int .i64 (facE n d off))) H) : ACalls Try.prog 13 [.agg [.int .i64 n, .int .i64 d], (.c (.int .i64 off))] H K := by
  by_cases h2 : d < 1 ∨ gcdF n d ≠ 1
  · rw [facE_3 h2] at hk
    refine acalls Try.func13 rfl (by kernel_rfl) (by simp (disch := first | omega | (simp only [go_sem]; first | done | omega)) only [go_sem]) (fun hH => ?_)
    simp (disch := first | omega | (simp only [go_sem]; first | done | omega)) only [go_sem]
    repeat' (first | ((first | refine acond_d ?_ ?_ | refine acond_b ?_ ?_ | refine ag_d ?_ ?_ | refine ag_n ?_ ?_ | refine ag_bt ?_ ?_ | refine ag_bf ?_ ?_) <;> intro c <;> try simp (disch := first | omega | (simp only [go_sem]; first | done | omega)) only [go_sem, c]) | ((first | refine w_draw (by kernel_rfl) (by decide +kernel) ?_ | refine divisor_a n d hn (by omega) ?_) <;> try simp (disch := first | omega | (simp only [go_sem]; first | done | omega)) only [go_sem]))
    all_goals first
      | exact Ret.drop hH (Nat.le_refl _) trivial hk
      | (exfalso; grind)
  · by_cases h3 : n < -1000000 ∨ 1000000 < n ∨ 1000000 < d ∨ off < -1000000 ∨ 1000000 < off
    · rw [facE_1 h2 h3] at hk
      refine acalls Try.func13 rfl (by kernel_rfl) (by simp (disch := first | omega | (simp only [go_sem]; first | done | omega)) only [go_sem]) (fun hH => ?_)
      simp (disch := first | omega | (simp only [go_sem]; first | done | omega)) only [go_sem]
      repeat' (first | ((first | refine acond_d ?_ ?_ | refine acond_b ?_ ?_ | refine ag_d ?_ ?_ | refine ag_n ?_ ?_ | refine ag_bt ?_ ?_ | refine ag_bf ?_ ?_) <;> intro c <;> try simp (disch := first | omega | (simp only [go_sem]; first | done | omega)) only [go_sem, c]) | ((first | refine w_draw (by kernel_rfl) (by decide +kernel) ?_ | refine divisor_a n d hn (by omega) ?_ | refine in_a _ _ _ _ _ ?_) <;> try simp (disch := first | omega | (simp only [go_sem]; first | done | omega)) only [go_sem]))
      all_goals first
        | exact Ret.drop hH (Nat.le_refl _) trivial hk
        | (exfalso; grind)
    · rw [facE_0 h2 h3] at hk
      refine acalls Try.func13 rfl (by kernel_rfl) (by simp (disch := first | omega | (simp only [go_sem]; first | done | omega)) only [go_sem]) (fun hH => ?_)
      simp (disch := first | omega | (simp only [go_sem]; first | done | omega)) only [go_sem]
      repeat' (first | ((first | refine acond_d ?_ ?_ | refine acond_b ?_ ?_ | refine ag_d ?_ ?_ | refine ag_n ?_ ?_ | refine ag_bt ?_ ?_ | refine ag_bf ?_ ?_) <;> intro c <;> try simp (disch := first | omega | (simp only [go_sem]; first | done | omega)) only [go_sem, c]) | ((first | refine w_draw (by kernel_rfl) (by decide +kernel) ?_ | refine divisor_a n d hn (by omega) ?_ | refine in_a _ _ _ _ _ ?_) <;> try simp (disch := first | omega | (simp only [go_sem]; first | done | omega)) only [go_sem]))
      all_goals first
        | exact Ret.drop hH (Nat.le_refl _) trivial hk
        | (exfalso; grind)
theorem limitFault_a (lo hi : Int) (hk : K (.c (.int .i64 (limE lo hi))) H) : ACalls Try.prog 14 [(.c (.int .i64 lo)), (.c (.int .i64 hi))] H K := by
  refine acalls Try.func14 rfl (by kernel_rfl) (by simp (disch := first | omega | (simp only [go_sem]; first | done | omega)) only [go_sem]) (fun hH => ?_)
  simp (disch := first | omega | (simp only [go_sem]; first | done | omega)) only [go_sem]
  repeat' (first | ((first | refine acond_d ?_ ?_ | refine acond_b ?_ ?_ | refine ag_d ?_ ?_ | refine ag_n ?_ ?_ | refine ag_bt ?_ ?_ | refine ag_bf ?_ ?_) <;> intro c <;> try simp (disch := first | omega | (simp only [go_sem]; first | done | omega)) only [go_sem, c]) | ((first | refine w_draw (by kernel_rfl) (by decide +kernel) ?_ | refine in_a _ _ _ _ _ ?_) <;> try simp (disch := first | omega | (simp only [go_sem]; first | done | omega)) only [go_sem]))
  all_goals (first | refine Ret.sameE (Nat.le_refl _) (by assumption) ?_ | refine Ret.dropE (by assumption) (Nat.le_refl _) (by assumption) (by simp [AV.ok, AV.ok1, AC.ok]) ?_) <;> grind [limE]
end Go.Proofs.Ytbgoaanalfdenaa
