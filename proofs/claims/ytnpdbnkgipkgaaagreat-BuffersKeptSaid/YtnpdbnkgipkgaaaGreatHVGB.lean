/- Several texts in one: What is wrong with levels, and what follows. No condition. -/
import Derived.Test.YtnpdbnkgipkgaaaGreatHVGA
/- What is wrong with levels. No condition. -/
namespace Go.Proofs.YtnpdbnkgipkgaaaGreat
open Go Go.RowKit
set_option maxRecDepth 100000
set_option linter.all false
variable {H : Hp} {K : AV → Hp → Prop}
end Go.Proofs.YtnpdbnkgipkgaaaGreat
/- Levels that are drawn. No condition. -/
namespace Go.Proofs.YtnpdbnkgipkgaaaGreat
open Go Go.RowKit
set_option maxRecDepth 100000
set_option linter.all false
set_option maxHeartbeats 1000000
variable {H : Hp} {K : AV → Hp → Prop}
/-- levels as they are drawn: numbers within bounds -/
def Level.near (y : Level) : Prop := -1 ≤ y.step ∧ y.step ≤ 86400001 ∧ 0 ≤ y.keep ∧ y.keep ≤ 345686400001
end Go.Proofs.YtnpdbnkgipkgaaaGreat
/- Samples and series: their faults, in the program and in the document's answer. Condition: the list is not huge. -/
namespace Go.Proofs.YtnpdbnkgipkgaaaGreat
open Go Go.RowKit
set_option maxRecDepth 100000
set_option linter.all false
set_option maxHeartbeats 1000000
variable {H : Hp} {K : AV → Hp → Prop}
structure Smp where
  t : Int
  v : Int
  q : Int
deriving DecidableEq
def encS (x : Smp) : List AC := [.int .i64 x.t, .int .i64 x.v, .int .i64 x.q]
attribute [go_sem, simp] encS
def smpErr (x : Smp) : Int := if x.t < 0 ∨ 345686399999 < x.t then 1 else if x.q < 0 ∨ 2 < x.q then 4 else if x.v < -1000000 ∨ 1000000 < x.v then 1 else if x.q = 2 ∧ x.v ≠ 0 then 3 else 0
theorem checkSample_a (x : Smp) (hk : K (.c (.int .i64 (smpErr x))) H) : ACalls Tryz.prog 118 [.agg (encS x)] H K := by
  refine acalls Tryz.func118 rfl (by kernel_rfl) (by simp (disch := first | omega | (simp only [go_sem]; first | done | omega)) only [go_sem]) (fun hH => ?_)
  simp (disch := first | omega | (simp only [go_sem]; first | done | omega)) only [go_sem]
  repeat' (first | ((first | refine acond_d ?_ ?_ | refine acond_b ?_ ?_ | refine ag_d ?_ ?_ | refine ag_n ?_ ?_ | refine ag_bt ?_ ?_ | refine ag_bf ?_ ?_) <;> intro c <;> try simp (disch := first | omega | (simp only [go_sem]; first | done | omega)) only [go_sem, c]) | ((first | refine w_draw (by kernel_rfl) (by decide +kernel) ?_ | refine moment_a _ _ _ ?_ | refine out_a _ _ _ _ _ ?_) <;> try simp (disch := first | omega | (simp only [go_sem]; first | done | omega)) only [go_sem]))
  all_goals (first | refine Ret.sameE (Nat.le_refl _) (by assumption) ?_ | refine Ret.dropE (by assumption) (Nat.le_refl _) (by assumption) (by simp [AV.ok, AV.ok1, AC.ok]) ?_) <;> grind [smpErr]
theorem sampleFault_a (x : Smp) (hk : K (.c (.int .i64 (smpErr x))) H) : ACalls Tryz.prog 66 [.agg (encS x)] H K := by
  refine acalls Tryz.func66 rfl (by kernel_rfl) (by simp (disch := first | omega | (simp only [go_sem]; first | done | omega)) only [go_sem]) (fun hH => ?_)
  simp (disch := first | omega | (simp only [go_sem]; first | done | omega)) only [go_sem]
  repeat' (first | ((first | refine acond_d ?_ ?_ | refine acond_b ?_ ?_ | refine ag_d ?_ ?_ | refine ag_n ?_ ?_ | refine ag_bt ?_ ?_ | refine ag_bf ?_ ?_) <;> intro c <;> try simp (disch := first | omega | (simp only [go_sem]; first | done | omega)) only [go_sem, c]) | ((first | refine w_draw (by kernel_rfl) (by decide +kernel) ?_ | refine momentR_a _ _ _ ?_ | refine in_a _ _ _ _ _ ?_) <;> try simp (disch := first | omega | (simp only [go_sem]; first | done | omega)) only [go_sem]))
  all_goals (first | refine Ret.sameE (Nat.le_refl _) (by assumption) ?_ | refine Ret.dropE (by assumption) (Nat.le_refl _) (by assumption) (by simp [AV.ok, AV.ok1, AC.ok]) ?_) <;> grind [smpErr]
def serErr (i : Nat) (p x : Smp) : Int := if smpErr x ≠ 0 then smpErr x else if 0 < i ∧ x.t ≤ p.t then 7 else 0
def serF (l : List Smp) : Int := if 5000 < l.length then 2 else errGo serErr 0 ⟨0, 0, 0⟩ l
end Go.Proofs.YtnpdbnkgipkgaaaGreat
/- Bins: combined, put. Condition: the sums are small. -/
namespace Go.Proofs.YtnpdbnkgipkgaaaGreat
open Go Go.RowKit
set_option maxRecDepth 100000
set_option linter.all false
set_option maxHeartbeats 1000000
variable {H : Hp} {K : AV → Hp → Prop}
structure Bin where
  a : Int
  s : Int
  n : Int
  m : Int
  lo : Int
  hi : Int
deriving DecidableEq
def encN (x : Bin) : List AC := [.int .i64 x.a, .int .i64 x.s, .int .i64 x.n, .int .i64 x.m, .int .i64 x.lo, .int .i64 x.hi]
attribute [go_sem, simp] encN
def combB (x y : Bin) : Bin := ⟨x.a, x.s + y.s, x.n + y.n, x.m + y.m, if x.n = 0 then y.lo else if y.n = 0 then x.lo else min x.lo y.lo, if x.n = 0 then y.hi else if y.n = 0 then x.hi else max x.hi y.hi⟩
def Bin.bd (x : Bin) (B : Int) : Prop := -B ≤ x.s ∧ x.s ≤ B ∧ -B ≤ x.n ∧ x.n ≤ B ∧ -B ≤ x.m ∧ x.m ≤ B
def putB (l : List Bin) (b : Bin) : List Bin := match l.getLast? with
  | none => [b]
  | some x => if x.a = b.a then l.dropLast ++ [combB x b] else l ++ [b]
theorem pureL_encN (l : List Bin) : pureL (l.map encN) = true := by simp [pureL, AC.pure]
end Go.Proofs.YtnpdbnkgipkgaaaGreat
/- The bins of a series: the program. No condition. -/
namespace Go.Proofs.YtnpdbnkgipkgaaaGreat
open Go Go.RowKit
set_option maxRecDepth 100000
set_option linter.all false
set_option maxHeartbeats 1000000
variable {H : Hp} {K : AV → Hp → Prop}
def foldB (l : List Bin) : List Bin := l.foldl putB []
theorem foldB_snoc (l : List Bin) (x : Bin) : foldB (l ++ [x]) = putB (foldB l) x := by simp [foldB]
theorem putB_bd2 {l : List Bin} {b : Bin} {B C : Int} (hl : ∀ x ∈ l, x.bd B) (hb : b.bd C) (hB : 0 ≤ B) (hC : 0 ≤ C) : (∀ x ∈ putB l b, x.bd (B + C)) ∧ (putB l b).length ≤ l.length + 1 := by
  have up : ∀ x ∈ l, x.bd (B + C) := fun x hx => by
    have := hl x hx; simp only [Bin.bd] at this ⊢; omega
  have ub : b.bd (B + C) := by simp only [Bin.bd] at hb ⊢; omega
  unfold putB
  split
  · exact ⟨by intro x hx; simp at hx; subst hx; exact ub, by simp⟩
  · rename_i x hx
    have hxm : x ∈ l := List.mem_of_getLast? hx
    split
    · refine ⟨?_, by simp⟩
      intro y hy
      rcases List.mem_append.1 hy with hy | hy
      · exact up y (List.dropLast_subset _ hy)
      · simp at hy; subst hy
        have := hl x hxm
        simp only [Bin.bd, combB] at this hb ⊢; omega
    · refine ⟨?_, by simp⟩
      intro y hy
      rcases List.mem_append.1 hy with hy | hy
      · exact up y hy
      · simp at hy; subst hy; exact ub
def binOf (step : Int) (x : Smp) : Bin := if x.q = 0 then ⟨x.t / step * step, x.v, 1, 0, x.v, x.v⟩ else ⟨x.t / step * step, 0, 0, 1, 0, 0⟩
def binsF (step : Int) (l : List Smp) : List Bin := l.foldl (fun r x => putB r (binOf step x)) []
theorem putB_bd {l : List Bin} {b : Bin} {B : Int} (hl : ∀ x ∈ l, x.bd B) (hb : b.bd 1000000) (hB : 0 ≤ B) : (∀ x ∈ putB l b, x.bd (B + 1000000)) ∧ (putB l b).length ≤ l.length + 1 := by
  have up : ∀ x ∈ l, x.bd (B + 1000000) := fun x hx => by
    have := hl x hx; simp only [Bin.bd] at this ⊢; omega
  have ub : b.bd (B + 1000000) := by simp only [Bin.bd] at hb ⊢; omega
  unfold putB
  split
  · exact ⟨by intro x hx; simp at hx; subst hx; exact ub, by simp⟩
  · rename_i x hx
    have hxm : x ∈ l := List.mem_of_getLast? hx
    split
    · refine ⟨?_, by simp⟩
      intro y hy
      rcases List.mem_append.1 hy with hy | hy
      · exact up y (List.dropLast_subset _ hy)
      · simp at hy; subst hy
        have := hl x hxm
        simp only [Bin.bd, combB] at this hb ⊢; omega
    · refine ⟨?_, by simp⟩
      intro y hy
      rcases List.mem_append.1 hy with hy | hy
      · exact up y hy
      · simp at hy; subst hy; exact ub
theorem binsF_snoc (step : Int) (l : List Smp) (x : Smp) : binsF step (l ++ [x]) = putB (binsF step l) (binOf step x) := by simp [binsF]
theorem errGo_all {α : Type} (f : Nat → α → α → Int) : ∀ (l : List α) (k : Nat) (p : α), errGo f k p l = 0 → ∀ x ∈ l, ∃ j q, f j q x = 0
  | [], _, _, _ => by simp
  | y :: t, k, p, h => by
    intro x hx
    unfold errGo at h
    split at h
    · rename_i h0
      rcases List.mem_cons.1 hx with rfl | hx
      · exact ⟨k, p, h0⟩
      · exact errGo_all f t (k + 1) y h x hx
    · rename_i h0; exact absurd h h0
theorem smp_ok {x : Smp} (h : smpErr x = 0) : (0 ≤ x.t ∧ x.t ≤ 345686399999) ∧ (0 ≤ x.q ∧ x.q ≤ 2) ∧ (-1000000 ≤ x.v ∧ x.v ≤ 1000000) ∧ (x.q = 2 → x.v = 0) := by
  grind [smpErr]
theorem serF_ok {l : List Smp} (h : serF l = 0) : l.length ≤ 5000 ∧ ∀ x ∈ l, smpErr x = 0 := by
  unfold serF at h
  split at h
  · cases h
  · refine ⟨by omega, fun x hx => ?_⟩
    obtain ⟨j, q, h1⟩ := errGo_all serErr l 0 _ h x hx
    unfold serErr at h1
    split at h1
    · omega
    · rename_i h2; simpa using h2
theorem putB_ne (l : List Bin) (b : Bin) : putB l b ≠ [] := by
  unfold putB
  split
  · simp
  · split <;> simp
def binsRes (l : List Smp) (step : Int) : List Bin × Int := if serF l ≠ 0 then ([], serF l) else if isStep step then (binsF step l, 0) else ([], 1)
end Go.Proofs.YtnpdbnkgipkgaaaGreat
/- Bins that grow. No condition. -/
namespace Go.Proofs.YtnpdbnkgipkgaaaGreat
open Go Go.RowKit
set_option maxRecDepth 100000
set_option linter.all false
set_option maxHeartbeats 1000000
variable {H : Hp} {K : AV → Hp → Prop}
theorem fold_next {l : List Bin} {k : Nat} (hk : k < l.length) : foldB (l.take (k + 1)) = putB (foldB (l.take k)) l[k] := by
  rw [List.take_succ_eq_append_getElem hk, foldB_snoc]
end Go.Proofs.YtnpdbnkgipkgaaaGreat
