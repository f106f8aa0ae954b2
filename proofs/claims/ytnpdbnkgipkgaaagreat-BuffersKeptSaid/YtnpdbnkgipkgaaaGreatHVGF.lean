/- Several texts in one: Samples and bins deleted in place, and what follows. No condition. -/
import Derived.Test.YtnpdbnkgipkgaaaGreatHVGA
import Derived.Test.YtnpdbnkgipkgaaaGreatHVGB
import Derived.Test.YtnpdbnkgipkgaaaGreatHVGC
/- Samples and bins deleted in place. No condition. -/
namespace Go.Proofs.YtnpdbnkgipkgaaaGreat
open Go Go.RowKit
set_option maxRecDepth 100000
set_option linter.all false
set_option maxHeartbeats 1000000
variable {H : Hp} {K : AV → Hp → Prop}
/-- a row is frozen, handed back, and forgotten under its name -/
theorem Ret.frzDead {ty sz n m i : Nat} {els : List (List AC)} {own : Bool} (hi : H[i]? = some (.row ty sz els own)) (hp : pureL els = true) (hm : m ≤ els.length) (hn : n ≤ H.length) (hk : K (.c (.lst sz (els.take m))) (H.set i .dead)) : Ret n (.c (.sl (some (i, 0)) m)) H K := by
  intro hH hv
  have hlt := getElem?_lt hi
  have h1 := WkL.frz (m := n) (vs := [.c (.sl (some (i, 0)) m)]) hi hp hn
  have e1 : [AV.c (AC.sl (some (i, 0)) m)].map (AV.frz i sz els) = [.c (.lst sz (els.take m))] := by simp [AV.frz, AV.frz1, AC.frz, hm]
  rw [e1] at h1
  have hok : HOk (H.set i .dead) := HOk.set hH trivial
  have h2 : WkL n [.c (.lst sz (els.take m))] (H.set i (.row ty sz els false)) [.c (.lst sz (els.take m))] (H.set i .dead) := by
    refine WkL.renL id (fun _ _ => rfl) (by simpa using hn) (fun j o hj hl => ?_) (fun j k _ _ _ _ _ _ e => e) (by simp [AV.ren, AV.ren1, AC.ren]) (by simp [AV.ok, AV.ok1, AC.ok]) hok
    by_cases e : i = j
    · subst e; rw [List.getElem?_set_self hlt] at hj; injection hj with hj; subst hj; cases hl
    · rw [List.getElem?_set_ne e] at hj
      show (H.set i (.row ty sz els false))[j]? = _
      rw [List.getElem?_set_ne e, hj, AObj.ren_id (σ := id) (n := H.length) (fun _ _ => rfl) (hH j o hj)]
  exact ⟨_, _, h1.trans h2, hk⟩
theorem indexRowS_a (f : FuncId) (caps : List (Nat × Nat × Nat)) (p : Smp → Bool) (he : entersB Tryz.prog f = true) (hc : ∀ (a b c : Nat), (a, b, c) ∈ caps → a < H.length) {i ty n : Nat} {own : Bool} (l : List Smp) (hi : H[i]? = some (.row ty 3 (l.map encS) own)) (hn : n = l.length) (hf : ∀ (x : Smp) (K : AV → Hp → Prop), x ∈ l → K (.c (.bool (p x))) H → ACalls Tryz.prog f (.agg (encS x) :: caps.map fun q => .c (.ptr (some q))) H K) (hlen : l.length ≤ 1099511627776)
    (hk0 : l.any p = false → K (.c (.int .i64 (-1))) H) (hk1 : ∀ k : Nat, (h : k < l.length) → p l[k] = true → (∀ j (h : j < l.length), j < k → p l[j] = false) → K (.c (.int .i64 k)) H) : ACalls Tryz.prog 130 [.c (.sl (some (i, 0)) n), .c (.fn f [] caps)] H K := by
  subst hn
  have hilt := getElem?_lt hi
  refine acalls Tryz.func130 rfl (by kernel_rfl) (by simp (disch := first | omega | (simp only [go_sem]; first | done | omega)) only [go_sem]) (fun hH => ?_)
  simp (disch := first | omega | (simp only [go_sem]; first | done | omega)) only [go_sem]
  refine AWp.loop (H.length) [0, 1, 7] [8] (fun (k : Nat) => k ≤ l.length ∧ ∀ j (h : j < l.length), j < k → p l[j] = false) (fun (k : Nat) => [(8, (.c (.int .i64 k)))]) (fun (k : Nat) => H) (fun (k : Nat) => l.length - k) (by kernel_rfl) (fun _ => rfl) (by kernel_rfl) (by first | (simp; done) | omega) (by first | (simp; done) | (simp; omega) | omega) (by (try simp only [List.forall_mem_cons, List.not_mem_nil, false_implies, implies_true, and_true]); (try simp (disch := first | omega | (simp only [go_sem]; first | done | omega)) only [go_sem]); all_goals first | trivial | (simp [AV.ok, AV.ok1, AC.ok]; done) | (simp [AV.ok, AV.ok1, AC.ok]; omega) | (simp [AV.ok, AV.ok1, AC.ok]; assumption) | ((repeat' apply And.intro) <;> first | trivial | (simp [AV.ok, AV.ok1, AC.ok]; done) | (simp [AV.ok, AV.ok1, AC.ok]; omega) | (simp [AV.ok, AV.ok1, AC.ok]; assumption) | (refine grV_ok ?_ _; first | (simp; done) | (simp; omega) | omega))) ?_ (fun k hk1' _ _ => ?_)
  · exact Next.mk 0 (by simp) (by (try simp (disch := first | omega | (simp only [go_sem]; first | done | omega)) only [go_sem]); (first | refine WkL.eq ?_ ?_ | refine WkL.rest (by assumption) ?_ ?_ ?_ | refine WkL.keepL (by assumption) rfl ?_ ?_ ?_ ?_) <;> first | rfl | (simp; done) | (simp; omega) | (simp only [List.cons.injEq, AV.c.injEq, AC.int.injEq, AC.bool.injEq, AC.str.injEq, and_true, true_and, Int.natCast_add, Int.natCast_one, Int.cast_ofNat_Int]; omega) | (simp [AV.ok, AV.ok1, AC.ok]; done) | (simp [AV.ok, AV.ok1, AC.ok]; omega) | (simp only [List.forall_mem_cons, List.not_mem_nil, false_implies, implies_true, and_true]; (repeat' apply And.intro) <;> first | exact okN_map (fun x => by simp [go_sem, AC.pure]) | exact okN_grO (fun x => by simp [go_sem, AC.pure]) | (simp [AObj.okN, AC.ok]; done) | (simp [AObj.okN, AC.ok]; omega)) | (simp [*]; done) | grind)
  obtain ⟨hk1', hk2⟩ := hk1'
  by_cases hlt : k < l.length
  · simp (disch := first | omega | (simp only [go_sem]; first | done | omega)) only [go_sem, he, hi]
    refine hf l[k] _ (List.getElem_mem hlt) ?_
    simp (disch := first | omega | (simp only [go_sem]; first | done | omega)) only [go_sem]
    refine acond_b (fun c => ?_) (fun c => ?_)
    · simp (disch := first | omega | (simp only [go_sem]; first | done | omega)) only [go_sem]
      exact Ret.same (Nat.le_refl _) (hk1 k hlt c hk2)
    · simp (disch := first | omega | (simp only [go_sem]; first | done | omega)) only [go_sem]
      refine Next.mk (k + 1) ⟨⟨by omega, fun j h hj => ?_⟩, by omega⟩ (by (try simp (disch := first | omega | (simp only [go_sem]; first | done | omega)) only [go_sem]); (first | refine WkL.eq ?_ ?_ | refine WkL.rest (by assumption) ?_ ?_ ?_ | refine WkL.keepL (by assumption) rfl ?_ ?_ ?_ ?_) <;> first | rfl | (simp; done) | (simp; omega) | (simp only [List.cons.injEq, AV.c.injEq, AC.int.injEq, AC.bool.injEq, AC.str.injEq, and_true, true_and, Int.natCast_add, Int.natCast_one, Int.cast_ofNat_Int]; omega) | (simp [AV.ok, AV.ok1, AC.ok]; done) | (simp [AV.ok, AV.ok1, AC.ok]; omega) | (simp only [List.forall_mem_cons, List.not_mem_nil, false_implies, implies_true, and_true]; (repeat' apply And.intro) <;> first | exact okN_map (fun x => by simp [go_sem, AC.pure]) | exact okN_grO (fun x => by simp [go_sem, AC.pure]) | (simp [AObj.okN, AC.ok]; done) | (simp [AObj.okN, AC.ok]; omega)) | (simp [*]; done) | grind)
      rcases Nat.lt_or_ge j k with h1 | h1
      · exact hk2 j h h1
      · obtain rfl : j = k := by omega
        simpa using c
  · simp (disch := first | omega | (simp only [go_sem]; first | done | omega)) only [go_sem]
    refine Ret.same (Nat.le_refl _) (hk0 ?_)
    rw [List.any_eq_false]
    intro x hx
    obtain ⟨j, hj, rfl⟩ := List.getElem_of_mem hx
    simpa using hk2 j hj (by omega)
end Go.Proofs.YtnpdbnkgipkgaaaGreat
/- Fractions in lowest terms. Condition: numbers as they are in memory. -/
namespace Go.Proofs.YtnpdbnkgipkgaaaGreat
open Go Go.RowKit
set_option maxRecDepth 100000
set_option linter.all false
set_option maxHeartbeats 1000000
variable {H : Hp} {K : AV → Hp → Prop}
@[go_sem] theorem wrapU_pos (n : Int) (h : 0 ≤ n ∧ n ≤ 18446744073709551615) : IntKind.u64.wrap n = n := by
  unfold IntKind.wrap
  simp [IntKind.bits, IntKind.signed]
  omega
theorem wrapU_neg (n : Int) (h : -9223372036854775808 ≤ n ∧ n < 0) : IntKind.u64.wrap n = n + 18446744073709551616 := by
  unfold IntKind.wrap
  simp [IntKind.bits, IntKind.signed]
  omega
def gcdF (n d : Int) : Nat := Nat.gcd n.natAbs d.natAbs
end Go.Proofs.YtnpdbnkgipkgaaaGreat
/- The sign of a number. No condition. -/
namespace Go.Proofs.YtnpdbnkgipkgaaaGreat
open Go Go.RowKit
set_option maxRecDepth 100000
set_option linter.all false
section
variable (H : Hp) (K : AV → Hp → Prop)
theorem sign_a (n : Int) (hk : K (.c (.int .i64 (if n < 0 then -1 else if 0 < n then 1 else 0))) H) : ACalls Tryz.prog 92 [(.c (.int .i64 n))] H K := by
  refine acalls Tryz.func92 rfl (by kernel_rfl) (by simp (disch := first | omega | (simp only [go_sem]; first | done | omega)) only [go_sem]) (fun hH => ?_)
  simp (disch := first | omega | (simp only [go_sem]; first | done | omega)) only [go_sem]
  repeat' (first | ((first | refine acond_d ?_ ?_ | refine acond_b ?_ ?_ | refine ag_d ?_ ?_ | refine ag_n ?_ ?_ | refine ag_bt ?_ ?_ | refine ag_bf ?_ ?_) <;> intro c <;> try simp (disch := first | omega | (simp only [go_sem]; first | done | omega)) only [go_sem, c]) | ((first | refine w_draw (by kernel_rfl) (by decide +kernel) ?_) <;> try simp (disch := first | omega | (simp only [go_sem]; first | done | omega)) only [go_sem]))
  all_goals (first | refine Ret.sameE (Nat.le_refl _) (by assumption) ?_ | refine Ret.dropE (by assumption) (Nat.le_refl _) (by assumption) (by simp [AV.ok, AV.ok1, AC.ok]) ?_) <;> (first | rfl | (simp only [AV.c.injEq, AC.bool.injEq]; rw [Bool.eq_iff_iff]; simp only [Bool.not_eq_true', decide_eq_true_eq, decide_eq_false_iff_not, Bool.and_eq_true, Bool.or_eq_true]; omega) | grind | (simp [*]; done) | (simp [*]; omega))
end
end Go.Proofs.YtnpdbnkgipkgaaaGreat
/- Values scaled and limited: the program and the document's answer. Condition: right series, factors and limits. -/
namespace Go.Proofs.YtnpdbnkgipkgaaaGreat
open Go Go.RowKit
set_option maxRecDepth 100000
set_option linter.all false
set_option maxHeartbeats 1000000
variable {H : Hp} {K : AV → Hp → Prop}
/-- the first k ones are turned -/
def updF {α : Type} (f : α → α) : Nat → List α → List α
  | _, [] => []
  | 0, l => l
  | k + 1, x :: l => f x :: updF f k l
theorem updF_len {α : Type} (f : α → α) : ∀ (k : Nat) (l : List α), (updF f k l).length = l.length
  | 0, [] => rfl
  | 0, _ :: _ => rfl
  | _ + 1, [] => rfl
  | k + 1, x :: l => by simp [updF, updF_len f k l]
theorem updF_zero {α : Type} (f : α → α) (l : List α) : updF f 0 l = l := by cases l <;> rfl
theorem updF_all {α : Type} (f : α → α) : ∀ (l : List α), updF f l.length l = l.map f
  | [] => rfl
  | x :: l => by simp [updF, updF_all f l]
theorem updF_at {α : Type} (f : α → α) : ∀ (k : Nat) (l : List α) (h : k < l.length), (updF f k l)[k]? = some l[k]
  | 0, [], h => by simp at h
  | 0, x :: l, _ => rfl
  | k + 1, [], h => by simp at h
  | k + 1, x :: l, h => by simpa [updF] using updF_at f k l (by simpa using h)
theorem updF_set {α : Type} (f : α → α) : ∀ (k : Nat) (l : List α) (h : k < l.length), (updF f k l).set k (f l[k]) = updF f (k + 1) l
  | 0, [], h => by simp at h
  | 0, x :: l, _ => by simp [updF, updF_zero]
  | k + 1, [], h => by simp at h
  | k + 1, x :: l, h => by simpa [updF] using updF_set f k l (by simpa using h)
theorem updF_same {α : Type} (f : α → α) (k : Nat) (l : List α) (h : k < l.length) (e : f l[k] = l[k]) : updF f (k + 1) l = updF f k l := by
  rw [← updF_set f k l h, e]
  have := updF_at f k l h
  apply List.ext_getElem?
  intro j
  by_cases hj : k = j
  · subst hj; rw [List.getElem?_set_self (by rw [updF_len]; exact h), this]
  · rw [List.getElem?_set_ne hj]
def roundF (a b : Int) : Int := if a < 0 then 0 - (2 * (0 - a) + b) / (2 * b) else (2 * a + b) / (2 * b)
def scaleF (n d off : Int) (x : Smp) : Smp := if x.q = 2 then x else if roundF (x.v * n + off * d) d < -1000000 ∨ 1000000 < roundF (x.v * n + off * d) d then ⟨x.t, 0, 2⟩ else ⟨x.t, roundF (x.v * n + off * d) d, x.q⟩
def limitF (lo hi : Int) (x : Smp) : Smp := if x.q ≠ 2 ∧ min (max x.v lo) hi ≠ x.v then ⟨x.t, min (max x.v lo) hi, 1⟩ else x
def facE (n d off : Int) : Int := if d < 1 ∨ gcdF n d ≠ 1 then 3 else if n < -1000000 ∨ 1000000 < n ∨ 1000000 < d ∨ off < -1000000 ∨ 1000000 < off then 1 else 0
def limE (lo hi : Int) : Int := if lo < -1000000 ∨ hi < lo ∨ 1000000 < hi then 1 else 0
def scaleRes (l : List Smp) (n d off : Int) : List Smp × Int := if serF l ≠ 0 then ([], serF l) else if facE n d off ≠ 0 then ([], facE n d off) else (l.map (scaleF n d off), 0)
def limRes (l : List Smp) (lo hi : Int) : List Smp × Int := if serF l ≠ 0 then ([], serF l) else if limE lo hi ≠ 0 then ([], limE lo hi) else (l.map (limitF lo hi), 0)
theorem facE_3 {n d off : Int} (h : d < 1 ∨ gcdF n d ≠ 1) : facE n d off = 3 := by unfold facE; rw [if_pos h]
theorem facE_1 {n d off : Int} (h : ¬(d < 1 ∨ gcdF n d ≠ 1)) (h2 : n < -1000000 ∨ 1000000 < n ∨ 1000000 < d ∨ off < -1000000 ∨ 1000000 < off) : facE n d off = 1 := by unfold facE; rw [if_neg h, if_pos h2]
theorem facE_0 {n d off : Int} (h : ¬(d < 1 ∨ gcdF n d ≠ 1)) (h2 : ¬(n < -1000000 ∨ 1000000 < n ∨ 1000000 < d ∨ off < -1000000 ∨ 1000000 < off)) : facE n d off = 0 := by unfold facE; rw [if_neg h, if_neg h2]
end Go.Proofs.YtnpdbnkgipkgaaaGreat
/- Values scaled: the program. Condition: numbers as they are in memory. -/
namespace Go.Proofs.YtnpdbnkgipkgaaaGreat
open Go Go.RowKit
set_option maxRecDepth 100000
set_option linter.all false
set_option maxHeartbeats 1000000
variable {H : Hp} {K : AV → Hp → Prop}
attribute [go_sem] updF_len
theorem roundF_bd (a b : Int) (ha : -4000000000000 ≤ a ∧ a ≤ 4000000000000) (hb : 1 ≤ b ∧ b ≤ 1000000) : -9000000000000 ≤ roundF a b ∧ roundF a b ≤ 9000000000000 := by
  unfold roundF
  split
  · have h1 := div_bd (2 * (0 - a) + b) (2 * b) (by omega); omega
  · have h1 := div_bd (2 * a + b) (2 * b) (by omega); omega
theorem smp_ok' {x : Smp} (h : smpErr x = 0) : (0 ≤ x.t ∧ x.t ≤ 345686399999) ∧ (0 ≤ x.q ∧ x.q ≤ 2) ∧ (-1000000 ≤ x.v ∧ x.v ≤ 1000000) ∧ (x.q = 2 → x.v = 0) := by
  grind [smpErr]
theorem errGo_all' {α : Type} (f : Nat → α → α → Int) : ∀ (l : List α) (k : Nat) (p : α), errGo f k p l = 0 → ∀ x ∈ l, ∃ j q, f j q x = 0
  | [], _, _, _ => by simp
  | y :: t, k, p, h => by
    intro x hx
    unfold errGo at h
    split at h
    · rename_i h0
      rcases List.mem_cons.1 hx with rfl | hx
      · exact ⟨_, _, h0⟩
      · exact errGo_all' f t _ _ h x hx
    · rename_i h0; exact absurd h h0
theorem serF_ok' {l : List Smp} (h : serF l = 0) : l.length ≤ 5000 ∧ ∀ x ∈ l, smpErr x = 0 := by
  unfold serF at h
  split at h
  · cases h
  · refine ⟨by omega, fun x hx => ?_⟩
    obtain ⟨j, q, h1⟩ := errGo_all' serErr l 0 _ h x hx
    unfold serErr at h1
    split at h1
    · rename_i h2; exact absurd h1 h2
    · rename_i h2; exact Classical.byContradiction fun h3 => h2 h3
theorem setEnc (l : List Smp) (k : Nat) (x : Smp) (l' : List Smp) (h : l.set k x = l') : (l.map encS).set k (encS x) = l'.map encS := by rw [← h, List.map_set]
theorem mul_bdS {a b : Int} (h1 : -1000000 ≤ a) (h2 : a ≤ 1000000) (h3 : -1000000 ≤ b) (h4 : b ≤ 1000000) : -1000000000000 ≤ a * b ∧ a * b ≤ 1000000000000 := by
  have e1 : (a * b).natAbs = a.natAbs * b.natAbs := Int.natAbs_mul a b
  have e2 : a.natAbs * b.natAbs ≤ 1000000 * 1000000 := Nat.mul_le_mul (by omega) (by omega)
  omega
end Go.Proofs.YtnpdbnkgipkgaaaGreat
/- Windows, and the samples in one. Condition: the list is not huge. -/
namespace Go.Proofs.YtnpdbnkgipkgaaaGreat
open Go Go.RowKit
set_option maxRecDepth 100000
set_option linter.all false
set_option maxHeartbeats 1000000
variable {H : Hp} {K : AV → Hp → Prop}
theorem errGo_pair' {α : Type} (f : Nat → α → α → Int) (p0 : α) (l : List α) (h : errGo f 0 p0 l = 0) : ∀ k (hk : k < l.length), f k (prv p0 l k) l[k] = 0 := by
  have key : ∀ k, k ≤ l.length → errGo f k (prv p0 l k) (l.drop k) = 0 := by
    intro k
    induction k with
    | zero => intro _; exact h
    | succ k ih =>
      intro hk
      have h1 := ih (by omega)
      rw [errGo_step f p0 l k (by omega)] at h1
      split at h1
      · exact h1
      · rename_i h2; exact absurd h1 h2
  intro k hk
  have h1 := key k (by omega)
  rw [errGo_step f p0 l k hk] at h1
  split at h1
  · assumption
  · exact h1
theorem serInc {l : List Smp} (h : serF l = 0) : ∀ (i j : Nat) (hj : j < l.length) (hij : i < j), (l[i]'(by omega)).t < l[j].t := by
  have h1 : errGo serErr 0 ⟨0, 0, 0⟩ l = 0 := by
    unfold serF at h
    split at h
    · cases h
    · exact h
  have h2 := errGo_pair' serErr _ l h1
  have step : ∀ (k : Nat) (hk : k + 1 < l.length), (l[k]'(by omega)).t < l[k + 1].t := by
    intro k hk
    have h3 := h2 (k + 1) hk
    rw [prv_succ _ _ k (by omega)] at h3
    unfold serErr at h3
    split at h3
    · rename_i h4; exact absurd h3 h4
    · split at h3
      · cases h3
      · rename_i h5; omega
  intro i j hj hij
  obtain ⟨d, rfl⟩ : ∃ d, j = i + 1 + d := ⟨j - i - 1, by omega⟩
  induction d with
  | zero => exact step i hj
  | succ d ih =>
    have h4 := ih (by omega) (by omega)
    have h5 := step (i + 1 + d) (by omega)
    have e : i + 1 + (d + 1) = i + 1 + d + 1 := by omega
    simp only [e]
    omega
structure Win where
  a : Int
  b : Int
deriving DecidableEq
def encW (x : Win) : List AC := [.int .i64 x.a, .int .i64 x.b]
attribute [go_sem, simp] encW
theorem pureL_encW (l : List Win) : pureL (l.map encW) = true := by simp [pureL, AC.pure]
theorem pureL_encS' (l : List Smp) : pureL (l.map encS) = true := by simp [pureL, AC.pure]
def winE (w : Win) : Int := if w.a < 0 ∨ w.b < w.a ∨ 345686400000 < w.b then 1 else 0
def withinF (l : List Smp) (w : Win) : List Smp := l.filter (fun x => decide (w.a ≤ x.t ∧ x.t < w.b))
theorem indexNilS_a (f : FuncId) (caps : List (Nat × Nat × Nat)) (hk : K (.c (.int .i64 (-1))) H) : ACalls Tryz.prog 130 [.c (.lst 3 []), .c (.fn f [] caps)] H K := by
  refine acalls Tryz.func130 rfl (by kernel_rfl) (by simp (disch := first | omega | (simp only [go_sem]; first | done | omega)) only [go_sem]) (fun hH => ?_)
  simp (disch := first | omega | (simp only [go_sem]; first | done | omega)) only [go_sem]
  refine AWp.rounds 0 (by kernel_rfl) ?_
  simp (disch := first | omega | (simp only [go_sem]; first | done | omega)) only [go_sem]
  exact Ret.same (Nat.le_refl _) hk
end Go.Proofs.YtnpdbnkgipkgaaaGreat
