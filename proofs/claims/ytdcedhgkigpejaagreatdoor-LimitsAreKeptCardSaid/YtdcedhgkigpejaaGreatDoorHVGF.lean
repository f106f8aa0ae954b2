/- Several texts in one: Fractions in lowest terms, and what follows. No condition. -/
import Derived.Test.YtdcedhgkigpejaaGreatDoorHVGA
import Derived.Test.YtdcedhgkigpejaaGreatDoorHVGB
/- Fractions in lowest terms. Condition: numbers as they are in memory. -/
namespace Go.Proofs.YtdcedhgkigpejaaGreatDoor
open Go Go.RowKit
set_option maxRecDepth 100000
set_option linter.all false
set_option maxHeartbeats 1000000
variable {H : Hp} {K : AV → Hp → Prop}
@[go_sem] theorem wrapU_pos (n : Int) (h : 0 ≤ n ∧ n ≤ 18446744073709551615) : IntKind.u64.wrap n = n := by
  unfold IntKind.wrap
  simp [IntKind.bits, IntKind.signed]
  omega
theorem wrapU_neg (n : Int) (h : -9223372036854775808 ≤ n ∧ n < 0) : IntKind.u64.wrap n = n + 18446744073709551616 := by
  unfold IntKind.wrap
  simp [IntKind.bits, IntKind.signed]
  omega
def gcdF (n d : Int) : Nat := Nat.gcd n.natAbs d.natAbs
theorem lowest_a (n d : Int) (hn : -9223372036854775808 ≤ n ∧ n ≤ 9223372036854775807) (hd : 1 ≤ d ∧ d ≤ 9223372036854775807) (hk : K (.c (.bool (decide (gcdF n d = 1)))) H) : ACalls Tryz.prog 109 [.agg [.int .i64 n, .int .i64 d]] H K := by
  have e : n < 0 → IntKind.u64.wrap (0 - IntKind.u64.wrap n) = -n := fun h => by
    rw [wrapU_neg n (by omega)]
    unfold IntKind.wrap
    simp [IntKind.bits, IntKind.signed]
    omega
  refine acalls Tryz.func109 rfl (by kernel_rfl) (by simp (disch := first | omega | (simp only [go_sem]; first | done | omega)) only [go_sem]) (fun hH => ?_)
  simp (disch := first | omega | (simp only [go_sem]; first | done | omega)) only [go_sem]
  refine w_draw (by kernel_rfl) (by decide +kernel) ?_
  simp (disch := first | omega | (simp only [go_sem]; first | done | omega)) only [go_sem]
  refine acond_d (fun c => ?_) (fun c => ?_)
  all_goals
    first | simp (disch := first | omega | (simp only [go_sem]; first | done | omega)) only [go_sem, e c] | simp (disch := first | omega | (simp only [go_sem]; first | done | omega)) only [go_sem]
    refine AWp.loop (H.length) [] [3, 4] (fun (s : Nat × Nat) => s.1 ≤ 9223372036854775808 ∧ s.2 ≤ 9223372036854775807 ∧ Nat.gcd s.1 s.2 = gcdF n d) (fun (s : Nat × Nat) => [(3, .c (.int .u64 (s.1 : Int))), (4, .c (.int .u64 (s.2 : Int)))]) (fun (s : Nat × Nat) => H ++ [.row 56 2 [[.int .i64 n, .int .i64 d]] true]) (fun (s : Nat × Nat) => s.2) (by kernel_rfl) (fun _ => rfl) (by kernel_rfl) (by simp) (by first | (simp; done) | (simp; omega)) (by (try simp only [List.forall_mem_cons, List.not_mem_nil, false_implies, implies_true, and_true]); (try simp (disch := first | omega | (simp only [go_sem]; first | done | omega)) only [go_sem]); all_goals first | trivial | (simp [AV.ok, AV.ok1, AC.ok]; done) | (simp [AV.ok, AV.ok1, AC.ok]; omega) | (simp [AV.ok, AV.ok1, AC.ok]; assumption) | ((repeat' apply And.intro) <;> first | trivial | (simp [AV.ok, AV.ok1, AC.ok]; done) | (simp [AV.ok, AV.ok1, AC.ok]; omega) | (simp [AV.ok, AV.ok1, AC.ok]; assumption) | (refine grV_ok ?_ _; first | (simp; done) | (simp; omega) | omega))) ?_ (fun s hs _ _ => ?_)
    · exact Next.mk (n.natAbs, d.natAbs) ⟨by dsimp only; omega, by dsimp only; omega, rfl⟩ (by (try simp (disch := first | omega | (simp only [go_sem]; first | done | omega)) only [go_sem]); (first | refine WkL.eq ?_ ?_ | refine WkL.rest (by assumption) ?_ ?_ ?_ | refine WkL.keepL (by assumption) rfl ?_ ?_ ?_ ?_) <;> first | rfl | (simp; done) | (simp; omega) | (simp only [List.cons.injEq, AV.c.injEq, AC.int.injEq, AC.bool.injEq, AC.str.injEq, and_true, true_and, Int.natCast_add, Int.natCast_one, Int.cast_ofNat_Int]; omega) | (simp [AV.ok, AV.ok1, AC.ok]; done) | (simp [AV.ok, AV.ok1, AC.ok]; omega) | (simp only [List.forall_mem_cons, List.not_mem_nil, false_implies, implies_true, and_true]; (repeat' apply And.intro) <;> first | exact okN_map (fun x => by simp [go_sem, AC.pure]) | exact okN_grO (fun x => by simp [go_sem, AC.pure]) | (simp [AObj.okN, AC.ok]; done) | (simp [AObj.okN, AC.ok]; omega)) | (simp [*]; done) | grind)
    obtain ⟨a, b⟩ := s
    obtain ⟨s1, s2, s3⟩ := hs
    dsimp only at s1 s2 s3
    by_cases hb : b = 0
    · subst hb
      rw [Nat.gcd_zero_right] at s3
      simp (disch := first | omega | (simp only [go_sem]; first | done | omega)) only [go_sem]
      refine Ret.dropE hH (Nat.le_refl _) hk trivial ?_
      rw [← s3]
      simp
      omega
    · simp (disch := first | omega | (simp only [go_sem]; first | done | omega)) only [go_sem]
      refine w_draw (by kernel_rfl) (by decide +kernel) ?_
      simp (disch := first | omega | (simp only [go_sem]; first | done | omega)) only [go_sem]
      have hm := Nat.mod_lt a (by omega : 0 < b)
      refine Next.mk (b, a % b) ⟨⟨by dsimp only; omega, by dsimp only; omega, ?_⟩, hm⟩ (by (try simp (disch := first | omega | (simp only [go_sem]; first | done | omega)) only [go_sem]); (first | refine WkL.eq ?_ ?_ | refine WkL.rest (by assumption) ?_ ?_ ?_ | refine WkL.keepL (by assumption) rfl ?_ ?_ ?_ ?_) <;> first | rfl | (simp; done) | (simp; omega) | (simp only [List.cons.injEq, AV.c.injEq, AC.int.injEq, AC.bool.injEq, AC.str.injEq, and_true, true_and, Int.natCast_add, Int.natCast_one, Int.cast_ofNat_Int]; omega) | (simp [AV.ok, AV.ok1, AC.ok]; done) | (simp [AV.ok, AV.ok1, AC.ok]; omega) | (simp only [List.forall_mem_cons, List.not_mem_nil, false_implies, implies_true, and_true]; (repeat' apply And.intro) <;> first | exact okN_map (fun x => by simp [go_sem, AC.pure]) | exact okN_grO (fun x => by simp [go_sem, AC.pure]) | (simp [AObj.okN, AC.ok]; done) | (simp [AObj.okN, AC.ok]; omega)) | (simp [*]; done) | grind)
      dsimp only
      rw [← s3]
      exact (Nat.gcd_comm _ _).trans ((Nat.gcd_rec b a).symm.trans (Nat.gcd_comm _ _))
end Go.Proofs.YtdcedhgkigpejaaGreatDoor
/- The sign of a number. No condition. -/
namespace Go.Proofs.YtdcedhgkigpejaaGreatDoor
open Go Go.RowKit
set_option maxRecDepth 100000
set_option linter.all false
section
variable (H : Hp) (K : AV → Hp → Prop)
theorem sign_a (n : Int) (hk : K (.c (.int .i64 (if n < 0 then -1 else if 0 < n then 1 else 0))) H) : ACalls Tryz.prog 267 [(.c (.int .i64 n))] H K := by
  refine acalls Tryz.func267 rfl (by kernel_rfl) (by simp (disch := first | omega | (simp only [go_sem]; first | done | omega)) only [go_sem]) (fun hH => ?_)
  simp (disch := first | omega | (simp only [go_sem]; first | done | omega)) only [go_sem]
  repeat' (first | ((first | refine acond_d ?_ ?_ | refine acond_b ?_ ?_ | refine ag_d ?_ ?_ | refine ag_n ?_ ?_ | refine ag_bt ?_ ?_ | refine ag_bf ?_ ?_) <;> intro c <;> try simp (disch := first | omega | (simp only [go_sem]; first | done | omega)) only [go_sem, c]) | ((first | refine w_draw (by kernel_rfl) (by decide +kernel) ?_) <;> try simp (disch := first | omega | (simp only [go_sem]; first | done | omega)) only [go_sem]))
  all_goals (first | refine Ret.sameE (Nat.le_refl _) (by assumption) ?_ | refine Ret.dropE (by assumption) (Nat.le_refl _) (by assumption) (by simp [AV.ok, AV.ok1, AC.ok]) ?_) <;> (first | rfl | (simp only [AV.c.injEq, AC.bool.injEq]; rw [Bool.eq_iff_iff]; simp only [Bool.not_eq_true', decide_eq_true_eq, decide_eq_false_iff_not, Bool.and_eq_true, Bool.or_eq_true]; omega) | grind | (simp [*]; done) | (simp [*]; omega))
end
end Go.Proofs.YtdcedhgkigpejaaGreatDoor
/- Values scaled and limited: the program and the document's answer. Condition: right series, factors and limits. -/
namespace Go.Proofs.YtdcedhgkigpejaaGreatDoor
open Go Go.RowKit
set_option maxRecDepth 100000
set_option linter.all false
set_option maxHeartbeats 1000000
variable {H : Hp} {K : AV → Hp → Prop}
theorem cloneS_a (l : List Smp) (hl : l.length ≤ 1099511627776) (hk : K (.c (clV H.length 3 (l.map encS))) (H ++ [grO 60 3 (l.map encS)])) : ACalls Tryz.prog 108 [.c (.lst 3 (l.map encS))] H K := by
  cases l with
  | nil =>
    refine acalls Tryz.func108 rfl (by kernel_rfl) (by simp (disch := first | omega | (simp only [go_sem]; first | done | omega)) only [go_sem]) (fun hH => ?_)
    simp (disch := first | omega | (simp only [go_sem]; first | done | omega)) only [go_sem]
    refine asome_i (fun b _ => ?_)
    cases b
    · simp (disch := first | omega | (simp only [go_sem]; first | done | omega)) only [go_sem]
      refine app_lst ?_
      simp (disch := first | omega | (simp only [go_sem]; first | done | omega)) only [go_sem]
      exact Ret.nil [3] (by simp) (Ret.cut hH (Nat.le_refl _) trivial (Ret.pad (Nat.le_refl _) (Ret.same (by simp) hk)))
    · simp (disch := first | omega | (simp only [go_sem]; first | done | omega)) only [go_sem]
      exact Ret.nil [3] (by simp) (Ret.pad (Nat.le_refl _) (Ret.same (by simp) hk))
  | cons x xs =>
    refine acalls Tryz.func108 rfl (by kernel_rfl) (by simp (disch := first | omega | (simp only [go_sem]; first | done | omega)) only [go_sem]) (fun hH => ?_)
    simp (disch := first | omega | (simp only [go_sem]; first | done | omega)) only [go_sem]
    refine asome_i (fun b hb => ?_)
    subst hb
    simp (disch := first | omega | (simp only [go_sem]; first | done | omega)) only [go_sem]
    refine app_lst ?_
    simp only [List.length_cons] at hl
    simp (disch := first | omega | (simp only [go_sem]; first | done | omega)) only [go_sem]
    refine Ret.pick [1] hH (Nat.le_refl _) (L := [.row 60 3 ((x :: xs).map encS) true]) rfl (by simp) (by simp [AObj.pureO, pureL, encS, AC.pure]) (v' := .c (.sl (some (H.length, 0)) (xs.length + 1))) ?_ (by simp [AV.ok, AV.ok1, AC.ok]) (by simpa [clV, grO] using hk)
    simp [AV.ren, AV.ren1, AC.ren, pickS]
/-- the first k ones are turned -/
def updF {α : Type} (f : α → α) : Nat → List α → List α
  | _, [] => []
  | 0, l => l
  | k + 1, x :: l => f x :: updF f k l
theorem updF_len {α : Type} (f : α → α) : ∀ (k : Nat) (l : List α), (updF f k l).length = l.length
  | 0, [] => rfl
  | 0, _ :: _ => rfl
  | _ + 1, [] => rfl
  | k + 1, x :: l => by simp [updF, updF_len f k l]
theorem updF_zero {α : Type} (f : α → α) (l : List α) : updF f 0 l = l := by cases l <;> rfl
theorem updF_all {α : Type} (f : α → α) : ∀ (l : List α), updF f l.length l = l.map f
  | [] => rfl
  | x :: l => by simp [updF, updF_all f l]
theorem updF_at {α : Type} (f : α → α) : ∀ (k : Nat) (l : List α) (h : k < l.length), (updF f k l)[k]? = some l[k]
  | 0, [], h => by simp at h
  | 0, x :: l, _ => rfl
  | k + 1, [], h => by simp at h
  | k + 1, x :: l, h => by simpa [updF] using updF_at f k l (by simpa using h)
theorem updF_set {α : Type} (f : α → α) : ∀ (k : Nat) (l : List α) (h : k < l.length), (updF f k l).set k (f l[k]) = updF f (k + 1) l
  | 0, [], h => by simp at h
  | 0, x :: l, _ => by simp [updF, updF_zero]
  | k + 1, [], h => by simp at h
  | k + 1, x :: l, h => by simpa [updF] using updF_set f k l (by simpa using h)
theorem updF_same {α : Type} (f : α → α) (k : Nat) (l : List α) (h : k < l.length) (e : f l[k] = l[k]) : updF f (k + 1) l = updF f k l := by
  rw [← updF_set f k l h, e]
  have := updF_at f k l h
  apply List.ext_getElem?
  intro j
  by_cases hj : k = j
  · subst hj; rw [List.getElem?_set_self (by rw [updF_len]; exact h), this]
  · rw [List.getElem?_set_ne hj]
def roundF (a b : Int) : Int := if a < 0 then 0 - (2 * (0 - a) + b) / (2 * b) else (2 * a + b) / (2 * b)
theorem rounded0_a (a b : Int) (ha : 0 ≤ a ∧ a ≤ 4000000000000) (hb : 1 ≤ b ∧ b ≤ 1000000) (hk : K (.c (.int .i64 ((2 * a + b) / (2 * b)))) H) : ACalls Tryz.prog 110 [(.c (.int .i64 a)), (.c (.int .i64 b))] H K := by
  refine acalls Tryz.func110 rfl (by kernel_rfl) (by simp (disch := first | omega | (simp only [go_sem]; first | done | omega)) only [go_sem]) (fun hH => ?_)
  simp (disch := first | omega | (simp only [go_sem]; first | done | omega)) only [go_sem]
  repeat' (first | ((first | refine acond_d ?_ ?_ | refine acond_b ?_ ?_ | refine ag_d ?_ ?_ | refine ag_n ?_ ?_ | refine ag_bt ?_ ?_ | refine ag_bf ?_ ?_) <;> intro c <;> try simp (disch := first | omega | (simp only [go_sem]; first | done | omega)) only [go_sem, c]) | ((first | refine w_draw (by kernel_rfl) (by decide +kernel) ?_) <;> try simp (disch := first | omega | (simp only [go_sem]; first | done | omega)) only [go_sem]))
  (first | refine Ret.sameE (Nat.le_refl _) (by assumption) ?_ | refine Ret.dropE (by assumption) (Nat.le_refl _) (by assumption) (by simp [AV.ok, AV.ok1, AC.ok]) ?_) <;> (first | rfl | (simp only [AV.c.injEq, AC.bool.injEq]; rw [Bool.eq_iff_iff]; simp only [Bool.not_eq_true', decide_eq_true_eq, decide_eq_false_iff_not, Bool.and_eq_true, Bool.or_eq_true]; omega) | grind | (simp [*]; done) | (simp [*]; omega))
theorem rounded_a (a b : Int) (ha : -4000000000000 ≤ a ∧ a ≤ 4000000000000) (hb : 1 ≤ b ∧ b ≤ 1000000) (hk : K (.c (.int .i64 (roundF a b))) H) : ACalls Tryz.prog 110 [(.c (.int .i64 a)), (.c (.int .i64 b))] H K := by
  by_cases hn : a < 0
  · rw [show roundF a b = 0 - (2 * (0 - a) + b) / (2 * b) by simp [roundF, hn]] at hk
    have h1 := div_bd (2 * (0 - a) + b) (2 * b) (by omega)
    refine acalls Tryz.func110 rfl (by kernel_rfl) (by simp (disch := first | omega | (simp only [go_sem]; first | done | omega)) only [go_sem]) (fun hH => ?_)
    simp (disch := first | omega | (simp only [go_sem]; first | done | omega)) only [go_sem]
    refine rounded0_a (0 - a) b (by omega) hb ?_
    simp (disch := first | omega | (simp only [go_sem]; first | done | omega)) only [go_sem]
    exact Ret.same (Nat.le_refl _) hk
  · rw [show roundF a b = (2 * a + b) / (2 * b) by simp [roundF, hn]] at hk
    exact rounded0_a a b (by omega) hb hk
def scaleF (n d off : Int) (x : Smp) : Smp := if x.q = 2 then x else if roundF (x.v * n + off * d) d < -1000000 ∨ 1000000 < roundF (x.v * n + off * d) d then ⟨x.t, 0, 2⟩ else ⟨x.t, roundF (x.v * n + off * d) d, x.q⟩
def limitF (lo hi : Int) (x : Smp) : Smp := if x.q ≠ 2 ∧ min (max x.v lo) hi ≠ x.v then ⟨x.t, min (max x.v lo) hi, 1⟩ else x
def facE (n d off : Int) : Int := if d < 1 ∨ gcdF n d ≠ 1 then 3 else if n < -1000000 ∨ 1000000 < n ∨ 1000000 < d ∨ off < -1000000 ∨ 1000000 < off then 1 else 0
def limE (lo hi : Int) : Int := if lo < -1000000 ∨ hi < lo ∨ 1000000 < hi then 1 else 0
def scaleRes (l : List Smp) (n d off : Int) : List Smp × Int := if serF l ≠ 0 then ([], serF l) else if facE n d off ≠ 0 then ([], facE n d off) else (l.map (scaleF n d off), 0)
def limRes (l : List Smp) (lo hi : Int) : List Smp × Int := if serF l ≠ 0 then ([], serF l) else if limE lo hi ≠ 0 then ([], limE lo hi) else (l.map (limitF lo hi), 0)
theorem facE_3 {n d off : Int} (h : d < 1 ∨ gcdF n d ≠ 1) : facE n d off = 3 := by unfold facE; rw [if_pos h]
theorem facE_1 {n d off : Int} (h : ¬(d < 1 ∨ gcdF n d ≠ 1)) (h2 : n < -1000000 ∨ 1000000 < n ∨ 1000000 < d ∨ off < -1000000 ∨ 1000000 < off) : facE n d off = 1 := by unfold facE; rw [if_neg h, if_pos h2]
theorem facE_0 {n d off : Int} (h : ¬(d < 1 ∨ gcdF n d ≠ 1)) (h2 : ¬(n < -1000000 ∨ 1000000 < n ∨ 1000000 < d ∨ off < -1000000 ∨ 1000000 < off)) : facE n d off = 0 := by unfold facE; rw [if_neg h, if_neg h2]
end Go.Proofs.YtdcedhgkigpejaaGreatDoor
/- Values scaled: the program. Condition: numbers as they are in memory. -/
namespace Go.Proofs.YtdcedhgkigpejaaGreatDoor
open Go Go.RowKit
set_option maxRecDepth 100000
set_option linter.all false
set_option maxHeartbeats 1000000
variable {H : Hp} {K : AV → Hp → Prop}
attribute [go_sem] updF_len
theorem roundF_bd (a b : Int) (ha : -4000000000000 ≤ a ∧ a ≤ 4000000000000) (hb : 1 ≤ b ∧ b ≤ 1000000) : -9000000000000 ≤ roundF a b ∧ roundF a b ≤ 9000000000000 := by
  unfold roundF
  split
  · have h1 := div_bd (2 * (0 - a) + b) (2 * b) (by omega); omega
  · have h1 := div_bd (2 * a + b) (2 * b) (by omega); omega
theorem smp_ok' {x : Smp} (h : smpErr x = 0) : (0 ≤ x.t ∧ x.t ≤ 345686399999) ∧ (0 ≤ x.q ∧ x.q ≤ 2) ∧ (-1000000 ≤ x.v ∧ x.v ≤ 1000000) ∧ (x.q = 2 → x.v = 0) := by
  grind [smpErr]
theorem errGo_all' {α : Type} (f : Nat → α → α → Int) : ∀ (l : List α) (k : Nat) (p : α), errGo f k p l = 0 → ∀ x ∈ l, ∃ j q, f j q x = 0
  | [], _, _, _ => by simp
  | y :: t, k, p, h => by
    intro x hx
    unfold errGo at h
    split at h
    · rename_i h0
      rcases List.mem_cons.1 hx with rfl | hx
      · exact ⟨_, _, h0⟩
      · exact errGo_all' f t _ _ h x hx
    · rename_i h0; exact absurd h h0
theorem serF_ok' {l : List Smp} (h : serF l = 0) : l.length ≤ 5000 ∧ ∀ x ∈ l, smpErr x = 0 := by
  unfold serF at h
  split at h
  · cases h
  · refine ⟨by omega, fun x hx => ?_⟩
    obtain ⟨j, q, h1⟩ := errGo_all' serErr l 0 _ h x hx
    unfold serErr at h1
    split at h1
    · rename_i h2; exact absurd h1 h2
    · rename_i h2; exact Classical.byContradiction fun h3 => h2 h3
theorem setEnc (l : List Smp) (k : Nat) (x : Smp) (l' : List Smp) (h : l.set k x = l') : (l.map encS).set k (encS x) = l'.map encS := by rw [← h, List.map_set]
theorem mul_bdS {a b : Int} (h1 : -1000000 ≤ a) (h2 : a ≤ 1000000) (h3 : -1000000 ≤ b) (h4 : b ≤ 1000000) : -1000000000000 ≤ a * b ∧ a * b ≤ 1000000000000 := by
  have e1 : (a * b).natAbs = a.natAbs * b.natAbs := Int.natAbs_mul a b
  have e2 : a.natAbs * b.natAbs ≤ 1000000 * 1000000 := Nat.mul_le_mul (by omega) (by omega)
  omega
theorem scale_a (l : List Smp) (n d off : Int) (hl : l.length ≤ 1099511627776) (hn : -9223372036854775808 ≤ n ∧ n ≤ 9223372036854775807) (hd : d ≤ 9223372036854775807) (hk : K (.tup [.c (.lst 3 ((scaleRes l n d off).1.map encS)), (.c (.int .i64 ((scaleRes l n d off).2)))]) H) : ACalls Tryz.prog 31 [.c (.lst 3 (l.map encS)), .agg [.int .i64 n, .int .i64 d], (.c (.int .i64 off))] H K := by
  by_cases h1 : serF l = 0
  case neg =>
    rw [show scaleRes l n d off = ([], serF l) by unfold scaleRes; rw [if_pos h1]] at hk
    refine acalls Tryz.func31 rfl (by kernel_rfl) (by simp (disch := first | omega | (simp only [go_sem]; first | done | omega)) only [go_sem]) (fun hH => ?_)
    simp (disch := first | omega | (simp only [go_sem]; first | done | omega)) only [go_sem]
    refine checkSeries_a l hl ?_
    simp (disch := first | omega | (simp only [go_sem]; first | done | omega)) only [go_sem, h1]
    exact Ret.nilT hH (Nat.le_refl _) rfl hk
  by_cases h2 : d < 1 ∨ gcdF n d ≠ 1
  · rw [show scaleRes l n d off = ([], 3) by unfold scaleRes; rw [if_neg (by simp [h1]), if_pos (by rw [facE_3 h2]; decide), facE_3 h2]] at hk
    refine acalls Tryz.func31 rfl (by kernel_rfl) (by simp (disch := first | omega | (simp only [go_sem]; first | done | omega)) only [go_sem]) (fun hH => ?_)
    simp (disch := first | omega | (simp only [go_sem]; first | done | omega)) only [go_sem]
    repeat' (first | ((first | refine acond_d ?_ ?_ | refine acond_b ?_ ?_ | refine ag_d ?_ ?_ | refine ag_n ?_ ?_ | refine ag_bt ?_ ?_ | refine ag_bf ?_ ?_) <;> intro c <;> try simp (disch := first | omega | (simp only [go_sem]; first | done | omega)) only [go_sem, c, h1]) | ((first | refine w_draw (by kernel_rfl) (by decide +kernel) ?_ | refine checkSeries_a l hl ?_ | refine lowest_a n d hn (by omega) ?_) <;> try simp (disch := first | omega | (simp only [go_sem]; first | done | omega)) only [go_sem, h1]))
    all_goals first
      | exact Ret.nilT hH (Nat.le_refl _) rfl hk
      | (exfalso; grind)
  by_cases h3 : n < -1000000 ∨ 1000000 < n ∨ 1000000 < d ∨ off < -1000000 ∨ 1000000 < off
  · rw [show scaleRes l n d off = ([], 1) by unfold scaleRes; rw [if_neg (by simp [h1]), if_pos (by rw [facE_1 h2 h3]; decide), facE_1 h2 h3]] at hk
    refine acalls Tryz.func31 rfl (by kernel_rfl) (by simp (disch := first | omega | (simp only [go_sem]; first | done | omega)) only [go_sem]) (fun hH => ?_)
    simp (disch := first | omega | (simp only [go_sem]; first | done | omega)) only [go_sem]
    repeat' (first | ((first | refine acond_d ?_ ?_ | refine acond_b ?_ ?_ | refine ag_d ?_ ?_ | refine ag_n ?_ ?_ | refine ag_bt ?_ ?_ | refine ag_bf ?_ ?_) <;> intro c <;> try simp (disch := first | omega | (simp only [go_sem]; first | done | omega)) only [go_sem, c, h1]) | ((first | refine w_draw (by kernel_rfl) (by decide +kernel) ?_ | refine checkSeries_a l hl ?_ | refine lowest_a n d hn (by omega) ?_ | refine out_a _ _ _ _ _ ?_) <;> try simp (disch := first | omega | (simp only [go_sem]; first | done | omega)) only [go_sem, h1]))
    all_goals first
      | exact Ret.nilT hH (Nat.le_refl _) rfl hk
      | (exfalso; grind)
  rw [show scaleRes l n d off = (l.map (scaleF n d off), 0) by unfold scaleRes; rw [if_neg (by simp [h1]), if_neg (by rw [facE_0 h2 h3]; decide)]] at hk
  obtain ⟨s1, s2⟩ := serF_ok' h1
  have h2' : 1 ≤ d ∧ gcdF n d = 1 := ⟨by omega, Classical.byContradiction fun h => h2 (.inr h)⟩
  refine acalls Tryz.func31 rfl (by kernel_rfl) (by simp (disch := first | omega | (simp only [go_sem]; first | done | omega)) only [go_sem]) (fun hH => ?_)
  simp (disch := first | omega | (simp only [go_sem]; first | done | omega)) only [go_sem]
  refine checkSeries_a l hl ?_
  simp (disch := first | omega | (simp only [go_sem]; first | done | omega)) only [go_sem, h1]
  refine lowest_a n d hn (by omega) ?_
  simp (disch := first | omega | (simp only [go_sem]; first | done | omega)) only [go_sem, h2'.2]
  refine out_a _ _ _ _ _ ?_
  simp (disch := first | omega | (simp only [go_sem]; first | done | omega)) only [go_sem]
  refine out_a _ _ _ _ _ ?_
  simp (disch := first | omega | (simp only [go_sem]; first | done | omega)) only [go_sem]
  refine cloneS_a l (by omega) ?_
  by_cases hne : l = []
  · subst hne
    simp (disch := first | omega | (simp only [go_sem]; first | done | omega)) only [go_sem, clV_nil, grO_nil]
    refine AWp.rounds 0 (by kernel_rfl) ?_
    simp (disch := first | omega | (simp only [go_sem]; first | done | omega)) only [go_sem]
    exact Ret.drop hH (Nat.le_refl _) (by simp [AV.ok, AV.ok1, AC.ok]) hk
  have hne2 : l.map encS ≠ [] := by simpa using hne
  rw [clV_pos _ _ hne2, grO_pos _ _ hne2]
  simp (disch := first | omega | (simp only [go_sem]; first | done | omega)) only [go_sem]
  refine AWp.loop (H.length + 2) [2, 4, 9, 42] [43] (fun (k : Nat) => k ≤ l.length) (fun (k : Nat) => [(43, (.c (.int .i64 k)))]) (fun (k : Nat) => H ++ [.row 56 2 [[.int .i64 n, .int .i64 d]] true, .row 60 3 ((updF (scaleF n d off) k l).map encS) true]) (fun (k : Nat) => l.length - k) (by kernel_rfl) (fun _ => rfl) (by kernel_rfl) (by simp) (by first | (simp; done) | (simp; omega)) (by (try simp only [List.forall_mem_cons, List.not_mem_nil, false_implies, implies_true, and_true]); (try simp (disch := first | omega | (simp only [go_sem]; first | done | omega)) only [go_sem]); all_goals first | trivial | (simp [AV.ok, AV.ok1, AC.ok]; done) | (simp [AV.ok, AV.ok1, AC.ok]; omega) | (simp [AV.ok, AV.ok1, AC.ok]; assumption) | ((repeat' apply And.intro) <;> first | trivial | (simp [AV.ok, AV.ok1, AC.ok]; done) | (simp [AV.ok, AV.ok1, AC.ok]; omega) | (simp [AV.ok, AV.ok1, AC.ok]; assumption) | (refine grV_ok ?_ _; first | (simp; done) | (simp; omega) | omega))) ?_ (fun k hkb _ _ => ?_)
  · exact Next.mk 0 (by omega) (by rw [updF_zero]; (try simp (disch := first | omega | (simp only [go_sem]; first | done | omega)) only [go_sem]); (first | refine WkL.eq ?_ ?_ | refine WkL.rest (by assumption) ?_ ?_ ?_ | refine WkL.keepL (by assumption) rfl ?_ ?_ ?_ ?_) <;> first | rfl | (simp; done) | (simp; omega) | (simp only [List.cons.injEq, AV.c.injEq, AC.int.injEq, AC.bool.injEq, AC.str.injEq, and_true, true_and, Int.natCast_add, Int.natCast_one, Int.cast_ofNat_Int]; omega) | (simp [AV.ok, AV.ok1, AC.ok]; done) | (simp [AV.ok, AV.ok1, AC.ok]; omega) | (simp only [List.forall_mem_cons, List.not_mem_nil, false_implies, implies_true, and_true]; (repeat' apply And.intro) <;> first | exact okN_map (fun x => by simp [go_sem, AC.pure]) | exact okN_grO (fun x => by simp [go_sem, AC.pure]) | (simp [AObj.okN, AC.ok]; done) | (simp [AObj.okN, AC.ok]; omega)) | (simp [*]; done) | grind)
  by_cases hlt : k < l.length
  · have hat := updF_at (scaleF n d off) k l hlt
    have hset := updF_set (scaleF n d off) k l hlt
    have hsame := updF_same (scaleF n d off) k l hlt
    obtain ⟨q1, q2, q3, q4⟩ := smp_ok' (s2 l[k] (List.getElem_mem hlt))
    have hb1 : -1000000000000 ≤ l[k].v * n ∧ l[k].v * n ≤ 1000000000000 := mul_bdS q3.1 q3.2 (by omega) (by omega)
    have hb2 : -1000000000000 ≤ off * d ∧ off * d ≤ 1000000000000 := mul_bdS (by omega) (by omega) (by omega) (by omega)
    simp (disch := first | omega | (simp only [go_sem]; first | done | omega)) only [go_sem, hat]
    refine acond_d (fun c => ?_) (fun c => ?_)
    · have e := hsame (by simp [scaleF, c])
      simp (disch := first | omega | (simp only [go_sem]; first | done | omega)) only [go_sem]
      exact Next.mk (k + 1) ⟨by omega, by omega⟩ (by rw [e]; (try simp (disch := first | omega | (simp only [go_sem]; first | done | omega)) only [go_sem]); (first | refine WkL.eq ?_ ?_ | refine WkL.rest (by assumption) ?_ ?_ ?_ | refine WkL.keepL (by assumption) rfl ?_ ?_ ?_ ?_) <;> first | rfl | (simp; done) | (simp; omega) | (simp only [List.cons.injEq, AV.c.injEq, AC.int.injEq, AC.bool.injEq, AC.str.injEq, and_true, true_and, Int.natCast_add, Int.natCast_one, Int.cast_ofNat_Int]; omega) | (simp [AV.ok, AV.ok1, AC.ok]; done) | (simp [AV.ok, AV.ok1, AC.ok]; omega) | (simp only [List.forall_mem_cons, List.not_mem_nil, false_implies, implies_true, and_true]; (repeat' apply And.intro) <;> first | exact okN_map (fun x => by simp [go_sem, AC.pure]) | exact okN_grO (fun x => by simp [go_sem, AC.pure]) | (simp [AObj.okN, AC.ok]; done) | (simp [AObj.okN, AC.ok]; omega)) | (simp [*]; done) | grind)
    · simp (disch := first | omega | (simp only [go_sem]; first | done | omega)) only [go_sem, hat]
      refine w_tree (.one 0 (.one 1 (.one 2 (.one 3 (.one 4 (.one 5 (.one 6 (.one 7 (.one 8 (.one 9 (.one 10 (.one 11 (.one 12 (.one 13 (.one 14 (.one 15 (.one 16 (.one 17 (.one 18 .done))))))))))))))))))) (by kernel_rfl) (by decide +kernel) ?_
      simp (disch := first | omega | (simp only [go_sem]; first | done | omega)) only [go_sem, hat]
      have hr := roundF_bd (l[k].v * n + off * d) d (by omega) (by omega)
      refine rounded_a _ _ (by omega) (by omega) ?_
      simp (disch := first | omega | (simp only [go_sem]; first | done | omega)) only [go_sem, hat]
      refine out_a _ _ _ _ _ ?_
      simp (disch := first | omega | (simp only [go_sem]; first | done | omega)) only [go_sem, hat]
      refine acond_d (fun c2 => ?_) (fun c2 => ?_)
      · have e : scaleF n d off l[k] = ⟨l[k].t, 0, 2⟩ := by unfold scaleF; rw [if_neg c, if_pos c2]
        have hs2 := setEnc (updF (scaleF n d off) k l) k ⟨l[k].t, 0, 2⟩ (updF (scaleF n d off) (k + 1) l) (by rw [← e]; exact hset)
        simp only [encS] at hs2
        simp (disch := first | omega | (simp only [go_sem]; first | done | omega)) only [go_sem, hat, hs2]
        exact Next.mk (k + 1) ⟨by omega, by omega⟩ (by (try simp (disch := first | omega | (simp only [go_sem]; first | done | omega)) only [go_sem]); (first | refine WkL.eq ?_ ?_ | refine WkL.rest (by assumption) ?_ ?_ ?_ | refine WkL.keepL (by assumption) rfl ?_ ?_ ?_ ?_) <;> first | rfl | (simp; done) | (simp; omega) | (simp only [List.cons.injEq, AV.c.injEq, AC.int.injEq, AC.bool.injEq, AC.str.injEq, and_true, true_and, Int.natCast_add, Int.natCast_one, Int.cast_ofNat_Int]; omega) | (simp [AV.ok, AV.ok1, AC.ok]; done) | (simp [AV.ok, AV.ok1, AC.ok]; omega) | (simp only [List.forall_mem_cons, List.not_mem_nil, false_implies, implies_true, and_true]; (repeat' apply And.intro) <;> first | exact okN_map (fun x => by simp [go_sem, AC.pure]) | exact okN_grO (fun x => by simp [go_sem, AC.pure]) | (simp [AObj.okN, AC.ok]; done) | (simp [AObj.okN, AC.ok]; omega)) | (simp [*]; done) | grind)
      · have e : scaleF n d off l[k] = ⟨l[k].t, roundF (l[k].v * n + off * d) d, l[k].q⟩ := by unfold scaleF; rw [if_neg c, if_neg c2]
        have hs2 := setEnc (updF (scaleF n d off) k l) k ⟨l[k].t, roundF (l[k].v * n + off * d) d, l[k].q⟩ (updF (scaleF n d off) (k + 1) l) (by rw [← e]; exact hset)
        simp only [encS] at hs2
        simp (disch := first | omega | (simp only [go_sem]; first | done | omega)) only [go_sem, hat, hs2]
        exact Next.mk (k + 1) ⟨by omega, by omega⟩ (by (try simp (disch := first | omega | (simp only [go_sem]; first | done | omega)) only [go_sem]); (first | refine WkL.eq ?_ ?_ | refine WkL.rest (by assumption) ?_ ?_ ?_ | refine WkL.keepL (by assumption) rfl ?_ ?_ ?_ ?_) <;> first | rfl | (simp; done) | (simp; omega) | (simp only [List.cons.injEq, AV.c.injEq, AC.int.injEq, AC.bool.injEq, AC.str.injEq, and_true, true_and, Int.natCast_add, Int.natCast_one, Int.cast_ofNat_Int]; omega) | (simp [AV.ok, AV.ok1, AC.ok]; done) | (simp [AV.ok, AV.ok1, AC.ok]; omega) | (simp only [List.forall_mem_cons, List.not_mem_nil, false_implies, implies_true, and_true]; (repeat' apply And.intro) <;> first | exact okN_map (fun x => by simp [go_sem, AC.pure]) | exact okN_grO (fun x => by simp [go_sem, AC.pure]) | (simp [AObj.okN, AC.ok]; done) | (simp [AObj.okN, AC.ok]; omega)) | (simp [*]; done) | grind)
  · have hke : k = l.length := by omega
    subst hke
    rw [updF_all]
    simp (disch := first | omega | (simp only [go_sem]; first | done | omega)) only [go_sem]
    exact Ret.frzAt 1 hH (Nat.le_refl _) hk rfl (pureL_map _ (fun x => by simp [AC.pure])) (by simp [AV.ok, AV.ok1, AC.ok]) (by simp [AV.frz, AV.frz1, AC.frz]; rw [List.take_of_length_le (by simp)])
end Go.Proofs.YtdcedhgkigpejaaGreatDoor
