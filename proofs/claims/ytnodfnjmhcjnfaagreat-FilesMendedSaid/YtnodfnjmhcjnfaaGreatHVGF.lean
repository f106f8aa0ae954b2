/- Several texts in one: Samples and bins deleted in place, and what follows. No condition. -/
import Derived.Test.YtnodfnjmhcjnfaaGreatHVGA
import Derived.Test.YtnodfnjmhcjnfaaGreatHVBack
/- Samples and bins deleted in place. No condition. -/
namespace Go.Proofs.YtnodfnjmhcjnfaaGreat
open Go Go.RowKit
set_option maxRecDepth 100000
set_option linter.all false
set_option maxHeartbeats 1000000
variable {H : Hp} {K : AV → Hp → Prop}
theorem Ret.frzDead {ty sz n m i : Nat} {els : List (List AC)} {own : Bool} (hi : H[i]? = some (.row ty sz els own)) (hp : pureL els = true) (hm : m ≤ els.length) (hn : n ≤ H.length) (hk : K (.c (.lst sz (els.take m))) (H.set i .dead)) : Ret n (.c (.sl (some (i, 0)) m)) H K := by
  intro hH hv
  have hlt := getElem?_lt hi
  have h1 := WkL.frz (m := n) (vs := [.c (.sl (some (i, 0)) m)]) hi hp hn
  have e1 : [AV.c (AC.sl (some (i, 0)) m)].map (AV.frz i sz els) = [.c (.lst sz (els.take m))] := by simp [AV.frz, AV.frz1, AC.frz, hm]
  rw [e1] at h1
  have hok : HOk (H.set i .dead) := HOk.set hH trivial
  have h2 : WkL n [.c (.lst sz (els.take m))] (H.set i (.row ty sz els false)) [.c (.lst sz (els.take m))] (H.set i .dead) := by
    refine WkL.renL id (fun _ _ => rfl) (by simpa using hn) (fun j o hj hl => ?_) (fun j k _ _ _ _ _ _ e => e) (by simp [AV.ren, AV.ren1, AC.ren]) (by simp [AV.ok, AV.ok1, AC.ok]) hok
    by_cases e : i = j
    · subst e; rw [List.getElem?_set_self hlt] at hj; injection hj with hj; subst hj; cases hl
    · rw [List.getElem?_set_ne e] at hj
      show (H.set i (.row ty sz els false))[j]? = _
      rw [List.getElem?_set_ne e, hj, AObj.ren_id (σ := id) (n := H.length) (fun _ _ => rfl) (hH j o hj)]
  exact ⟨_, _, h1.trans h2, hk⟩
end Go.Proofs.YtnodfnjmhcjnfaaGreat
/- Fractions in lowest terms. Condition: numbers as they are in memory. -/
namespace Go.Proofs.YtnodfnjmhcjnfaaGreat
open Go Go.RowKit
set_option maxRecDepth 100000
set_option linter.all false
set_option maxHeartbeats 1000000
variable {H : Hp} {K : AV → Hp → Prop}
@[go_sem] theorem wrapU_pos (n : Int) (h : 0 ≤ n ∧ n ≤ 18446744073709551615) : IntKind.u64.wrap n = n := by
  unfold IntKind.wrap
  simp [IntKind.bits, IntKind.signed]
  omega
end Go.Proofs.YtnodfnjmhcjnfaaGreat
/- Windows, and the samples in one. Condition: the list is not huge. -/
namespace Go.Proofs.YtnodfnjmhcjnfaaGreat
open Go Go.RowKit
set_option maxRecDepth 100000
set_option linter.all false
set_option maxHeartbeats 1000000
variable {H : Hp} {K : AV → Hp → Prop}
theorem errGo_pair' {α : Type} (f : Nat → α → α → Int) (p0 : α) (l : List α) (h : errGo f 0 p0 l = 0) : ∀ k (hk : k < l.length), f k (prv p0 l k) l[k] = 0 := by
  have key : ∀ k, k ≤ l.length → errGo f k (prv p0 l k) (l.drop k) = 0 := by
    intro k
    induction k with
    | zero => intro _; exact h
    | succ k ih =>
      intro hk
      have h1 := ih (by omega)
      rw [errGo_step f p0 l k (by omega)] at h1
      split at h1
      · exact h1
      · rename_i h2; exact absurd h1 h2
  intro k hk
  have h1 := key k (by omega)
  rw [errGo_step f p0 l k hk] at h1
  split at h1
  · assumption
  · exact h1
theorem serInc {l : List Smp} (h : serF l = 0) : ∀ (i j : Nat) (hj : j < l.length) (hij : i < j), (l[i]'(by omega)).t < l[j].t := by
  have h1 : errGo serErr 0 ⟨0, 0, 0⟩ l = 0 := by
    unfold serF at h
    split at h
    · cases h
    · exact h
  have h2 := errGo_pair' serErr _ l h1
  have step : ∀ (k : Nat) (hk : k + 1 < l.length), (l[k]'(by omega)).t < l[k + 1].t := by
    intro k hk
    have h3 := h2 (k + 1) hk
    rw [prv_succ _ _ k (by omega)] at h3
    unfold serErr at h3
    split at h3
    · rename_i h4; exact absurd h3 h4
    · split at h3
      · cases h3
      · rename_i h5; omega
  intro i j hj hij
  obtain ⟨d, rfl⟩ : ∃ d, j = i + 1 + d := ⟨j - i - 1, by omega⟩
  induction d with
  | zero => exact step i hj
  | succ d ih =>
    have h4 := ih (by omega) (by omega)
    have h5 := step (i + 1 + d) (by omega)
    have e : i + 1 + (d + 1) = i + 1 + d + 1 := by omega
    simp only [e]
    omega
structure Win where
  a : Int
  b : Int
deriving DecidableEq
def encW (x : Win) : List AC := [.int .i64 x.a, .int .i64 x.b]
attribute [go_sem, simp] encW
theorem inW2_a (a b t : Int) (hk : K (.c (.bool (decide (a ≤ t ∧ t < b)))) H) : ACalls Tryz.prog 57 [.agg [.int .i64 a, .int .i64 b], (.c (.int .i64 t))] H K := by
  refine acalls Tryz.func57 rfl (by kernel_rfl) (by simp (disch := first | omega | (simp only [go_sem]; first | done | omega)) only [go_sem]) (fun hH => ?_)
  simp (disch := first | omega | (simp only [go_sem]; first | done | omega)) only [go_sem]
  repeat' (first | ((first | refine acond_d ?_ ?_ | refine acond_b ?_ ?_ | refine ag_d ?_ ?_ | refine ag_n ?_ ?_ | refine ag_bt ?_ ?_ | refine ag_bf ?_ ?_) <;> intro c <;> try simp (disch := first | omega | (simp only [go_sem]; first | done | omega)) only [go_sem, c]) | ((first | refine w_draw (by kernel_rfl) (by decide +kernel) ?_) <;> try simp (disch := first | omega | (simp only [go_sem]; first | done | omega)) only [go_sem]))
  all_goals (first | refine Ret.sameE (Nat.le_refl _) (by assumption) ?_ | refine Ret.dropE (by assumption) (Nat.le_refl _) (by assumption) (by simp [AV.ok, AV.ok1, AC.ok]) ?_) <;> (first | rfl | (simp only [AV.c.injEq, AC.bool.injEq]; rw [Bool.eq_iff_iff]; simp only [Bool.not_eq_true', decide_eq_true_eq, decide_eq_false_iff_not, Bool.and_eq_true, Bool.or_eq_true]; omega) | grind | (simp [*]; done) | (simp [*]; omega))
end Go.Proofs.YtnodfnjmhcjnfaaGreat
