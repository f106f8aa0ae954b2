/- Several texts in one: Samples and series: their faults, in the program and in the document's answer, and what follows. No condition. -/
import Derived.Test.YtebhpfhichdgaaaGreatDoorHVGA
/- Samples and series: their faults, in the program and in the document's answer. Condition: the list is not huge. -/
namespace Go.Proofs.YtebhpfhichdgaaaGreatDoor
open Go Go.RowKit
set_option maxRecDepth 100000
set_option linter.all false
set_option maxHeartbeats 1000000
variable {H : Hp} {K : AV → Hp → Prop}
structure Smp where
  t : Int
  v : Int
  q : Int
deriving DecidableEq
def encS (x : Smp) : List AC := [.int .i64 x.t, .int .i64 x.v, .int .i64 x.q]
attribute [go_sem, simp] encS
def smpErr (x : Smp) : Int := if x.t < 0 ∨ 345686399999 < x.t then 1 else if x.q < 0 ∨ 2 < x.q then 4 else if x.v < -1000000 ∨ 1000000 < x.v then 1 else if x.q = 2 ∧ x.v ≠ 0 then 3 else 0
theorem checkSample_a (x : Smp) (hk : K (.c (.int .i64 (smpErr x))) H) : ACalls Tryz.prog 157 [.agg (encS x)] H K := by
  refine acalls Tryz.func157 rfl (by kernel_rfl) (by simp (disch := first | omega | (simp only [go_sem]; first | done | omega)) only [go_sem]) (fun hH => ?_)
  simp (disch := first | omega | (simp only [go_sem]; first | done | omega)) only [go_sem]
  repeat' (first | ((first | refine acond_d ?_ ?_ | refine acond_b ?_ ?_ | refine ag_d ?_ ?_ | refine ag_n ?_ ?_ | refine ag_bt ?_ ?_ | refine ag_bf ?_ ?_) <;> intro c <;> try simp (disch := first | omega | (simp only [go_sem]; first | done | omega)) only [go_sem, c]) | ((first | refine w_draw (by kernel_rfl) (by decide +kernel) ?_ | refine moment_a _ _ _ ?_ | refine out_a _ _ _ _ _ ?_) <;> try simp (disch := first | omega | (simp only [go_sem]; first | done | omega)) only [go_sem]))
  all_goals (first | refine Ret.sameE (Nat.le_refl _) (by assumption) ?_ | refine Ret.dropE (by assumption) (Nat.le_refl _) (by assumption) (by simp [AV.ok, AV.ok1, AC.ok]) ?_) <;> grind [smpErr]
def serErr (i : Nat) (p x : Smp) : Int := if smpErr x ≠ 0 then smpErr x else if 0 < i ∧ x.t ≤ p.t then 7 else 0
def serF (l : List Smp) : Int := if 5000 < l.length then 2 else errGo serErr 0 ⟨0, 0, 0⟩ l
theorem checkSeries_a (l : List Smp) (hlen : l.length ≤ 1099511627776) (hk : K (.c (.int .i64 (serF l))) H) : ACalls Tryz.prog 64 [.c (.lst 3 (l.map encS))] H K := by
  by_cases h6 : 5000 < l.length
  · refine acalls Tryz.func64 rfl (by kernel_rfl) (by simp (disch := first | omega | (simp only [go_sem]; first | done | omega)) only [go_sem]) (fun hH => ?_)
    simp (disch := first | omega | (simp only [go_sem]; first | done | omega)) only [go_sem]
    (first | refine Ret.sameE (Nat.le_refl _) (by assumption) ?_ | refine Ret.dropE (by assumption) (Nat.le_refl _) (by assumption) (by simp [AV.ok, AV.ok1, AC.ok]) ?_) <;> simp [serF, h6]
  have hF : serF l = errGo serErr 0 ⟨0, 0, 0⟩ l := by simp [serF, h6]
  refine acalls Tryz.func64 rfl (by kernel_rfl) (by simp (disch := first | omega | (simp only [go_sem]; first | done | omega)) only [go_sem]) (fun hH => ?_)
  simp (disch := first | omega | (simp only [go_sem]; first | done | omega)) only [go_sem]
  refine AWp.loop (H.length) [0, 9, 10] [11] (fun (k : Nat) => k ≤ l.length ∧ errGo serErr k (prv ⟨0, 0, 0⟩ l k) (l.drop k) = errGo serErr 0 ⟨0, 0, 0⟩ l) (fun (k : Nat) => [(11, (.c (.int .i64 k)))]) (fun (k : Nat) => H) (fun (k : Nat) => l.length - k) (by kernel_rfl) (fun _ => rfl) (by kernel_rfl) (by first | (simp; done) | omega) (by first | (simp; done) | (simp; omega) | omega) kl ?_ (fun k hk1 _ _ => ?_)
  · exact Next.mk 0 ⟨by omega, rfl⟩ wk
  obtain ⟨hk1, hk2⟩ := hk1
  by_cases hlt : k < l.length
  · have hs := errGo_step serErr ⟨0, 0, 0⟩ l k hlt
    have hp : ∀ h : 0 < k, prv ⟨0, 0, 0⟩ l k = l[((k : Int) - 1).toNat]'(by omega) := fun h => by rw [prv_pos _ _ _ hk1 h]; congr 1; omega
    have hv : serErr k (prv ⟨0, 0, 0⟩ l k) l[k] ≠ 0 → serErr k (prv ⟨0, 0, 0⟩ l k) l[k] = serF l := fun h => by rw [hF, ← hk2, hs, if_neg h]
    have hn : serErr k (prv ⟨0, 0, 0⟩ l k) l[k] = 0 → errGo serErr (k + 1) (prv ⟨0, 0, 0⟩ l (k + 1)) (l.drop (k + 1)) = errGo serErr 0 ⟨0, 0, 0⟩ l := fun h => by rw [← hk2, hs, if_pos h]
    clear hs hF
    simp (disch := first | omega | (simp only [go_sem]; first | done | omega)) only [go_sem, hlt]
    repeat' (first | ((first | refine acond_d ?_ ?_ | refine acond_b ?_ ?_ | refine ag_d ?_ ?_ | refine ag_n ?_ ?_ | refine ag_bt ?_ ?_ | refine ag_bf ?_ ?_) <;> intro c <;> try simp (disch := first | omega | (simp only [go_sem]; first | done | omega)) only [go_sem, c]) | ((first | refine w_draw (by kernel_rfl) (by decide +kernel) ?_ | refine checkSample_a _ ?_) <;> try simp (disch := first | omega | (simp only [go_sem]; first | done | omega)) only [go_sem]))
    all_goals first
      | (refine Next.mk (k + 1) (by grind [serErr]) ?_; exact wk)
      | (first | refine Ret.sameE (Nat.le_refl _) (by assumption) ?_ | refine Ret.dropE (by assumption) (Nat.le_refl _) (by assumption) (by simp [AV.ok, AV.ok1, AC.ok]) ?_) <;> grind [serErr]
  · simp (disch := first | omega | (simp only [go_sem]; first | done | omega)) only [go_sem, hlt]
    have := errGo_end serErr (prv ⟨0, 0, 0⟩ l k) l k (by omega)
    (first | refine Ret.sameE (Nat.le_refl _) (by assumption) ?_ | refine Ret.dropE (by assumption) (Nat.le_refl _) (by assumption) (by simp [AV.ok, AV.ok1, AC.ok]) ?_) <;> (first | rfl | (simp only [AV.c.injEq, AC.bool.injEq]; rw [Bool.eq_iff_iff]; simp only [Bool.not_eq_true', decide_eq_true_eq, decide_eq_false_iff_not, Bool.and_eq_true, Bool.or_eq_true]; omega) | grind | (simp [*]; done) | (simp [*]; omega))
end Go.Proofs.YtebhpfhichdgaaaGreatDoor
/- Bins: combined, put. Condition: the sums are small. -/
namespace Go.Proofs.YtebhpfhichdgaaaGreatDoor
open Go Go.RowKit
set_option maxRecDepth 100000
set_option linter.all false
set_option maxHeartbeats 1000000
variable {H : Hp} {K : AV → Hp → Prop}
structure Bin where
  a : Int
  s : Int
  n : Int
  m : Int
  lo : Int
  hi : Int
deriving DecidableEq
def encN (x : Bin) : List AC := [.int .i64 x.a, .int .i64 x.s, .int .i64 x.n, .int .i64 x.m, .int .i64 x.lo, .int .i64 x.hi]
attribute [go_sem, simp] encN
def combB (x y : Bin) : Bin := ⟨x.a, x.s + y.s, x.n + y.n, x.m + y.m, if x.n = 0 then y.lo else if y.n = 0 then x.lo else min x.lo y.lo, if x.n = 0 then y.hi else if y.n = 0 then x.hi else max x.hi y.hi⟩
def Bin.bd (x : Bin) (B : Int) : Prop := -B ≤ x.s ∧ x.s ≤ B ∧ -B ≤ x.n ∧ x.n ≤ B ∧ -B ≤ x.m ∧ x.m ≤ B
theorem combined_a (x y : Bin) (hx : x.bd 4611686018427387903) (hy : y.bd 4611686018427387903) (hk : K (.agg (encN (combB x y))) H) : ACalls Tryz.prog 307 [.agg (encN x), .agg (encN y)] H K := by
  simp only [Bin.bd] at hx hy
  obtain ⟨x1, x2, x3, x4, x5, x6⟩ := hx
  obtain ⟨y1, y2, y3, y4, y5, y6⟩ := hy
  refine acalls Tryz.func307 rfl (by kernel_rfl) (by simp (disch := first | omega | (simp only [go_sem]; first | done | omega)) only [go_sem]) (fun hH => ?_)
  simp (disch := first | omega | (simp only [go_sem]; first | done | omega)) only [go_sem]
  repeat' (first | ((first | refine acond_d ?_ ?_ | refine acond_b ?_ ?_ | refine ag_d ?_ ?_ | refine ag_n ?_ ?_ | refine ag_bt ?_ ?_ | refine ag_bf ?_ ?_ | refine agt_d ?_ ?_ | refine agt_n ?_ ?_ | refine agt_bt ?_ ?_ | refine agt_bf ?_ ?_) <;> intro c <;> try simp (disch := first | omega | (simp only [go_sem]; first | done | omega)) only [go_sem, c]) | ((first | refine w_draw (by kernel_rfl) (by decide +kernel) ?_ | refine w_tree (.one 0 (.one 1 (.one 2 (.one 4 (.two 3 (.one 5 (.one 6 (.one 7 .done))) 5 (.one 3 (.one 6 (.one 7 .done)))))))) (by kernel_rfl) (by decide +kernel) ?_ | refine w_tree (.one 0 (.one 1 (.one 2 (.one 4 (.two 3 (.one 5 (.one 6 (.one 7 .done))) 5 (.one 3 (.one 6 (.one 7 .done)))))))) (by kernel_rfl) (by decide +kernel) ?_ | refine w_tree (.one 0 (.one 1 (.one 2 (.one 3 (.one 4 (.one 5 (.one 7 (.one 10 (.three 6 (.two 8 (.one 9 (.one 11 (.one 12 (.one 13 .done)))) 11 (.one 8 (.one 9 (.one 12 (.one 13 .done))))) 8 (.two 6 (.one 9 (.one 11 (.one 12 (.one 13 .done)))) 11 (.one 6 (.one 9 (.one 12 (.one 13 .done))))) 11 (.one 6 (.one 8 (.one 9 (.one 12 (.one 13 .done)))))))))))))) (by kernel_rfl) (by decide +kernel) ?_) <;> try simp (disch := first | omega | (simp only [go_sem]; first | done | omega)) only [go_sem]) | (refine And.intro ?_ ?_ <;> try simp (disch := first | omega | (simp only [go_sem]; first | done | omega)) only [go_sem]))
  all_goals (first | refine Ret.sameE (Nat.le_refl _) (by assumption) ?_ | refine Ret.dropE (by assumption) (Nat.le_refl _) (by assumption) (by simp [AV.ok, AV.ok1, AC.ok]) ?_) <;> simp [combB, *]
def putB (l : List Bin) (b : Bin) : List Bin := match l.getLast? with
  | none => [b]
  | some x => if x.a = b.a then l.dropLast ++ [combB x b] else l ++ [b]
theorem pureL_encN (l : List Bin) : pureL (l.map encN) = true := by simp [pureL, AC.pure]
theorem put_a (i : Nat) (l : List Bin) (b : Bin) (hi : H[i]? = some (grO 39 6 (l.map encN))) (hlen : l.length ≤ 1000000) (hx : ∀ x ∈ l, x.bd 4611686018427387903) (hb : b.bd 4611686018427387903)
    (hk : K (.c (.sl (some (H.length, 0)) (putB l b).length)) (H.set i .dead ++ [.row 39 6 ((putB l b).map encN) true])) : ACalls Tryz.prog 248 [.c (grV i l), .agg (encN b)] H K := by
  have hlt := getElem?_lt hi
  rcases hl : l.getLast? with _ | x
  · have h0 : l = [] := by simpa using hl
    subst h0
    have hd : H.set i .dead = H := by
      apply List.ext_getElem?
      intro j
      by_cases e : i = j
      · subst e; rw [List.getElem?_set_self hlt, hi]; rfl
      · rw [List.getElem?_set_ne e]
    rw [hd] at hk
    refine acalls Tryz.func248 rfl (by kernel_rfl) (by simp (disch := first | omega | (simp only [go_sem]; first | done | omega)) only [go_sem]) (fun hH => ?_)
    simp (disch := first | omega | (simp only [go_sem]; first | done | omega)) only [go_sem, grV]
    refine w_draw (by kernel_rfl) (by decide +kernel) ?_
    simp (disch := first | omega | (simp only [go_sem]; first | done | omega)) only [go_sem]
    refine app_sl ?_
    simp (disch := first | omega | (simp only [go_sem]; first | done | omega)) only [go_sem]
    refine Ret.pick [2] hH (Nat.le_refl _) rfl (by simp) (by simp [AObj.pureO, pureL, AC.pure]) (v' := .c (.sl (some (H.length, 0)) 1)) ?_ (by simp [AV.ok, AV.ok1, AC.ok]) hk
    simp [AV.ren, AV.ren1, AC.ren, pickS]
  · have h0 : l ≠ [] := by rintro rfl; simp at hl
    have hl1 : 0 < l.length := List.length_pos_iff.2 h0
    have hxm : x ∈ l := List.mem_of_getLast? hl
    have hxb := hx x hxm
    have hlast : l[l.length - 1]? = some x := by rw [List.getLast?_eq_getElem?] at hl; exact hl
    have hx1 : l[l.length - 1]'(by omega) = x := by rw [List.getElem?_eq_getElem (by omega)] at hlast; injection hlast
    have hx2 : l[((l.length : Int) - 1).toNat]'(by omega) = x := by rw [← hx1]; congr 1; omega
    rw [grO_pos _ _ (by simpa using h0)] at hi
    rw [grV_pos _ h0]
    by_cases he : x.a = b.a
    · have he' := eq_true he
      have e : putB l b = l.set ((l.length : Int) - 1).toNat (combB x b) := by
        have e1 : putB l b = l.dropLast ++ [combB x b] := by simp [putB, hl, he]
        have e2 : ((l.length : Int) - 1).toNat = l.length - 1 := by omega
        rw [e1, e2]
        obtain ⟨l', rfl⟩ := List.getLast?_eq_some_iff.1 hl
        simp
      have hmp : (l.map encN).set ((l.length : Int) - 1).toNat (encN (combB x b)) = (putB l b).map encN := by rw [e, List.map_set]
      have hle : (putB l b).length = l.length := by rw [e]; simp
      rw [hle] at hk
      generalize hcb : combB x b = c at *
      rw [encN] at hmp
      refine acalls Tryz.func248 rfl (by kernel_rfl) (by simp (disch := first | omega | (simp only [go_sem]; first | done | omega)) only [go_sem]) (fun hH => ?_)
      simp (disch := first | omega | (simp only [go_sem]; first | done | omega)) only [go_sem, hi, hx2, he']
      repeat' (first | ((first | refine acond_d ?_ ?_ | refine acond_b ?_ ?_ | refine ag_d ?_ ?_ | refine ag_n ?_ ?_ | refine ag_bt ?_ ?_ | refine ag_bf ?_ ?_) <;> intro c <;> try simp (disch := first | omega | (simp only [go_sem]; first | done | omega)) only [go_sem, c, hi, hx2, he', hcb]) | ((first | refine w_draw (by kernel_rfl) (by decide +kernel) ?_ | refine combined_a x b hxb hb ?_) <;> try simp (disch := first | omega | (simp only [go_sem]; first | done | omega)) only [go_sem, hi, hx2, he', hcb]))
      rw [hmp]
      refine Ret.cut (HOk.set hH (okN_pure (pureL_encN _) (by simp) _)) (by simp) (by simpa [AV.ok, AV.ok1, AC.ok] using hlt) (Ret.move (List.getElem?_set_self hlt) (pureL_encN _) (by simp) ?_)
      rw [List.set_set, List.length_set]
      exact hk
    have e : putB l b = l ++ [b] := by simp [putB, hl, he]
    rw [e] at hk
    refine acalls Tryz.func248 rfl (by kernel_rfl) (by simp (disch := first | omega | (simp only [go_sem]; first | done | omega)) only [go_sem]) (fun hH => ?_)
    simp (disch := first | omega | (simp only [go_sem]; first | done | omega)) only [go_sem, hi, hx2, he]
    repeat' (first | ((first | refine acond_d ?_ ?_ | refine acond_b ?_ ?_ | refine ag_d ?_ ?_ | refine ag_n ?_ ?_ | refine ag_bt ?_ ?_ | refine ag_bf ?_ ?_) <;> intro c <;> try simp (disch := first | omega | (simp only [go_sem]; first | done | omega)) only [go_sem, c, hi, hx2, he]) | ((first | refine w_draw (by kernel_rfl) (by decide +kernel) ?_) <;> try simp (disch := first | omega | (simp only [go_sem]; first | done | omega)) only [go_sem, hi, hx2, he]))
    refine app_sl ?_
    simp (disch := first | omega | (simp only [go_sem]; first | done | omega)) only [go_sem, hi]
    refine Ret.pick [2] (L := [.row 39 6 ((l ++ [b]).map encN) true]) (HOk.set hH (o := .dead) trivial) (by simp) (by simp) (by simp) (by simp [AObj.pureO, pureL, AC.pure]) (v' := .c (.sl (some (H.length, 0)) (l.length + 1))) ?_ (by simp [AV.ok, AV.ok1, AC.ok]) (by simpa using hk)
    simp [AV.ren, AV.ren1, AC.ren, pickS]
end Go.Proofs.YtebhpfhichdgaaaGreatDoor
/- The bins of a series: the program. No condition. -/
namespace Go.Proofs.YtebhpfhichdgaaaGreatDoor
open Go Go.RowKit
set_option maxRecDepth 100000
set_option linter.all false
set_option maxHeartbeats 1000000
variable {H : Hp} {K : AV → Hp → Prop}
theorem putB_bd2 {l : List Bin} {b : Bin} {B C : Int} (hl : ∀ x ∈ l, x.bd B) (hb : b.bd C) (hB : 0 ≤ B) (hC : 0 ≤ C) : (∀ x ∈ putB l b, x.bd (B + C)) ∧ (putB l b).length ≤ l.length + 1 := by
  have up : ∀ x ∈ l, x.bd (B + C) := fun x hx => by
    have := hl x hx; simp only [Bin.bd] at this ⊢; omega
  have ub : b.bd (B + C) := by simp only [Bin.bd] at hb ⊢; omega
  unfold putB
  split
  · exact ⟨by intro x hx; simp at hx; subst hx; exact ub, by simp⟩
  · rename_i x hx
    have hxm : x ∈ l := List.mem_of_getLast? hx
    split
    · refine ⟨?_, by simp⟩
      intro y hy
      rcases List.mem_append.1 hy with hy | hy
      · exact up y (List.dropLast_subset _ hy)
      · simp at hy; subst hy
        have := hl x hxm
        simp only [Bin.bd, combB] at this hb ⊢; omega
    · refine ⟨?_, by simp⟩
      intro y hy
      rcases List.mem_append.1 hy with hy | hy
      · exact up y hy
      · simp at hy; subst hy; exact ub
def binOf (step : Int) (x : Smp) : Bin := if x.q = 0 then ⟨x.t / step * step, x.v, 1, 0, x.v, x.v⟩ else ⟨x.t / step * step, 0, 0, 1, 0, 0⟩
def binsF (step : Int) (l : List Smp) : List Bin := l.foldl (fun r x => putB r (binOf step x)) []
theorem putB_bd {l : List Bin} {b : Bin} {B : Int} (hl : ∀ x ∈ l, x.bd B) (hb : b.bd 1000000) (hB : 0 ≤ B) : (∀ x ∈ putB l b, x.bd (B + 1000000)) ∧ (putB l b).length ≤ l.length + 1 := by
  have up : ∀ x ∈ l, x.bd (B + 1000000) := fun x hx => by
    have := hl x hx; simp only [Bin.bd] at this ⊢; omega
  have ub : b.bd (B + 1000000) := by simp only [Bin.bd] at hb ⊢; omega
  unfold putB
  split
  · exact ⟨by intro x hx; simp at hx; subst hx; exact ub, by simp⟩
  · rename_i x hx
    have hxm : x ∈ l := List.mem_of_getLast? hx
    split
    · refine ⟨?_, by simp⟩
      intro y hy
      rcases List.mem_append.1 hy with hy | hy
      · exact up y (List.dropLast_subset _ hy)
      · simp at hy; subst hy
        have := hl x hxm
        simp only [Bin.bd, combB] at this hb ⊢; omega
    · refine ⟨?_, by simp⟩
      intro y hy
      rcases List.mem_append.1 hy with hy | hy
      · exact up y hy
      · simp at hy; subst hy; exact ub
theorem binsF_snoc (step : Int) (l : List Smp) (x : Smp) : binsF step (l ++ [x]) = putB (binsF step l) (binOf step x) := by simp [binsF]
theorem errGo_all {α : Type} (f : Nat → α → α → Int) : ∀ (l : List α) (k : Nat) (p : α), errGo f k p l = 0 → ∀ x ∈ l, ∃ j q, f j q x = 0
  | [], _, _, _ => by simp
  | y :: t, k, p, h => by
    intro x hx
    unfold errGo at h
    split at h
    · rename_i h0
      rcases List.mem_cons.1 hx with rfl | hx
      · exact ⟨k, p, h0⟩
      · exact errGo_all f t (k + 1) y h x hx
    · rename_i h0; exact absurd h h0
theorem smp_ok {x : Smp} (h : smpErr x = 0) : (0 ≤ x.t ∧ x.t ≤ 345686399999) ∧ (0 ≤ x.q ∧ x.q ≤ 2) ∧ (-1000000 ≤ x.v ∧ x.v ≤ 1000000) ∧ (x.q = 2 → x.v = 0) := by
  grind [smpErr]
theorem serF_ok {l : List Smp} (h : serF l = 0) : l.length ≤ 5000 ∧ ∀ x ∈ l, smpErr x = 0 := by
  unfold serF at h
  split at h
  · cases h
  · refine ⟨by omega, fun x hx => ?_⟩
    obtain ⟨j, q, h1⟩ := errGo_all serErr l 0 _ h x hx
    unfold serErr at h1
    split at h1
    · omega
    · rename_i h2; simpa using h2
theorem putB_ne (l : List Bin) (b : Bin) : putB l b ≠ [] := by
  unfold putB
  split
  · simp
  · split <;> simp
theorem bins_o (l : List Smp) (step : Int) (hlen : l.length ≤ 5000) (hs1 : 1 ≤ step) (hs2 : step ≤ 86400000) (hbd : ∀ x ∈ l, 0 ≤ x.t ∧ x.t ≤ 345686399999 ∧ -1000000 ≤ x.v ∧ x.v ≤ 1000000)
    (hk : K (.c (grV H.length (binsF step l))) (H ++ [grO 39 6 ((binsF step l).map encN)])) : ACalls Tryz.prog 176 [.c (.lst 3 (l.map encS)), (.c (.int .i64 step))] H K := by
  have hs0 : step ≠ 0 := by omega
  refine acalls Tryz.func176 rfl (by kernel_rfl) (by simp (disch := first | omega | (simp only [go_sem]; first | done | omega)) only [go_sem]) (fun hH => ?_)
  simp (disch := first | omega | (simp only [go_sem]; first | done | omega)) only [go_sem]
  refine AWp.loop (H.length) [1, 9, 10] [11, 5] (fun (q : Nat × List Bin) => q.1 ≤ l.length ∧ q.2 = binsF step (l.take q.1) ∧ q.2.length ≤ q.1 ∧ ∀ y ∈ q.2, y.bd (1000000 * q.1)) (fun (q : Nat × List Bin) => [(11, (.c (.int .i64 (q.1)))), (5, .c (grV H.length q.2))]) (fun (q : Nat × List Bin) => H ++ [grO 39 6 (q.2.map encN)]) (fun (q : Nat × List Bin) => l.length - q.1) (by kernel_rfl) (fun _ => rfl) (by kernel_rfl) (by first | (simp; done) | omega) (by first | (simp; done) | (simp; omega) | omega) kl ?_ (fun q hq _ _ => ?_)
  · refine Next.mk (0, []) ⟨by simp, rfl, by simp, by simp⟩ ?_
    exact WkL.pad (by simp)
  obtain ⟨k, cur⟩ := q
  obtain ⟨hk1, hcur, hcl, hcb⟩ := hq
  dsimp only at hk1 hcur hcl hcb
  by_cases hlt : k < l.length
  · have hx := hbd l[k] (List.getElem_mem hlt)
    have hnext : binsF step (l.take (k + 1)) = putB cur (binOf step l[k]) := by
      rw [List.take_succ_eq_append_getElem hlt, binsF_snoc, hcur]
    obtain ⟨x, hxe⟩ : ∃ x, x = l[k] := ⟨_, rfl⟩
    rw [← hxe] at hx hnext
    have t0 : 0 ≤ x.t / step := Int.ediv_nonneg hx.1 (by omega)
    have t1 : x.t / step * step ≤ x.t := Int.ediv_mul_le _ hs0
    have t2 : 0 ≤ x.t / step * step := Int.mul_nonneg t0 (by omega)
    have hb : (binOf step x).bd 1000000 := by
      unfold binOf; split <;> (simp only [Bin.bd]; omega)
    have hp := putB_bd hcb hb (by omega)
    have hlast : ∀ L : Hp, L[3]? = some (.row 39 6 ((putB cur (binOf step x)).map encN) true) → WkL H.length [(.c (.int .i64 ((k + 1 : Nat)))), .c (.sl (some (H.length + 3, 0)) (putB cur (binOf step x)).length)] (H ++ L) [(.c (.int .i64 ((k + 1 : Nat)))), .c (grV H.length (putB cur (binOf step x)))] (H ++ [grO 39 6 ((putB cur (binOf step x)).map encN)]) := by
      intro L hL
      rw [grV_pos _ (putB_ne _ _), grO_pos _ _ (by simpa using putB_ne cur (binOf step x))]
      refine WkL.pick [3] (by assumption) (Nat.le_refl _) (by simp [hL]) (by simp) (by simp [AObj.pureO, pureL_encN]) ?_ ?_
      · simp [AV.ren, AV.ren1, AC.ren, pickS]
      · simp [AV.ok, AV.ok1, AC.ok]
    have hfin : ∀ y ∈ putB cur (binOf step x), y.bd (1000000 * ((k + 1 : Nat) : Int)) := fun y hy => by have := hp.1 y hy; simp only [Bin.bd] at this ⊢; omega
    have hcb2 : ∀ y ∈ cur, y.bd 4611686018427387903 := fun y hy => by have := hcb y hy; simp only [Bin.bd] at this ⊢; omega
    have hb2 : (binOf step x).bd 4611686018427387903 := by simp only [Bin.bd] at hb ⊢; omega
    have hp2 := hp.2
    clear hp hcb hb
    simp (disch := first | omega | (simp only [go_sem]; first | done | omega)) only [go_sem, ← hxe]
    refine acond_d (fun c => ?_) (fun c => ?_)
    · have e : encN (binOf step x) = [.int .i64 (x.t / step * step), .int .i64 x.v, .int .i64 1, .int .i64 0, .int .i64 x.v, .int .i64 x.v] := by simp [binOf, c]
      simp (disch := first | omega | (simp only [go_sem]; first | done | omega)) only [go_sem, c]
      rw [← e]
      refine put_a H.length cur _ (by first | ((repeat first | exact at0 (by simp) | refine atS ?_); done) | assumption) (by omega) hcb2 hb2 ?_
      simp (disch := first | omega | (simp only [go_sem]; first | done | omega)) only [go_sem]
      refine Next.mk (k + 1, putB cur (binOf step x)) ⟨⟨by omega, hnext.symm, by dsimp only; omega, hfin⟩, by dsimp only; omega⟩ (hlast _ rfl)
    · have e : encN (binOf step x) = [.int .i64 (x.t / step * step), .int .i64 0, .int .i64 0, .int .i64 1, .int .i64 0, .int .i64 0] := by simp [binOf, c]
      simp (disch := first | omega | (simp only [go_sem]; first | done | omega)) only [go_sem, c]
      rw [← e]
      refine put_a H.length cur _ (by first | ((repeat first | exact at0 (by simp) | refine atS ?_); done) | assumption) (by omega) hcb2 hb2 ?_
      simp (disch := first | omega | (simp only [go_sem]; first | done | omega)) only [go_sem]
      refine Next.mk (k + 1, putB cur (binOf step x)) ⟨⟨by omega, hnext.symm, by dsimp only; omega, hfin⟩, by dsimp only; omega⟩ (hlast _ rfl)
  · have e : cur = binsF step l := by rw [hcur, List.take_of_length_le (by omega)]
    rw [← e] at hk
    simp (disch := first | omega | (simp only [go_sem]; first | done | omega)) only [go_sem]
    exact Ret.same (by simp) hk
def binsRes (l : List Smp) (step : Int) : List Bin × Int := if serF l ≠ 0 then ([], serF l) else if isStep step then (binsF step l, 0) else ([], 1)
theorem binsTop_o (l : List Smp) (step : Int) (hn : l.length ≤ 1099511627776)
    (hk : K (.tup [.c (grV H.length (binsRes l step).1), (.c (.int .i64 ((binsRes l step).2)))]) (H ++ [grO 39 6 ((binsRes l step).1.map encN)])) : ACalls Tryz.prog 93 [.c (.lst 3 (l.map encS)), (.c (.int .i64 step))] H K := by
  refine acalls Tryz.func93 rfl (by kernel_rfl) (by simp (disch := first | omega | (simp only [go_sem]; first | done | omega)) only [go_sem]) (fun hH => ?_)
  simp (disch := first | omega | (simp only [go_sem]; first | done | omega)) only [go_sem]
  refine checkSeries_a l hn ?_
  simp (disch := first | omega | (simp only [go_sem]; first | done | omega)) only [go_sem]
  refine acond_d (fun h1 => ?_) (fun h1 => ?_)
  rotate_left
  · simp (disch := first | omega | (simp only [go_sem]; first | done | omega)) only [go_sem]
    rw [show binsRes l step = ([], serF l) by simp [binsRes, h1]] at hk
    exact Ret.pad (Nat.le_refl _) (Ret.same (by simp) hk)
  simp (disch := first | omega | (simp only [go_sem]; first | done | omega)) only [go_sem]
  refine isStep_a _ _ _ ?_
  simp (disch := first | omega | (simp only [go_sem]; first | done | omega)) only [go_sem]
  refine acond_d (fun h2 => ?_) (fun h2 => ?_)
  · simp (disch := first | omega | (simp only [go_sem]; first | done | omega)) only [go_sem]
    obtain ⟨h3, h4⟩ := serF_ok h1
    rw [show binsRes l step = (binsF step l, 0) by simp [binsRes, h1, h2]] at hk
    refine bins_o l step h3 h2.1 h2.2.1 (fun x hx => by have := smp_ok (h4 x hx); omega) ?_
    simp (disch := first | omega | (simp only [go_sem]; first | done | omega)) only [go_sem]
    exact Ret.same (by simp) hk
  · simp (disch := first | omega | (simp only [go_sem]; first | done | omega)) only [go_sem]
    rw [show binsRes l step = ([], 1) by simp only [binsRes, if_neg h2]; simp [h1]] at hk
    exact Ret.pad (Nat.le_refl _) (Ret.same (by simp) hk)
theorem retained_a (hk : K (.c (.bool true)) H) : ACalls Tryz.prog 19 [] H K := by
  have e : binsRes [⟨5, 3, 0⟩] 10 = ([⟨0, 3, 1, 0, 3, 3⟩], 0) := by decide +kernel
  refine acalls Tryz.func19 rfl (by kernel_rfl) (by simp (disch := first | omega | (simp only [go_sem]; first | done | omega)) only [go_sem]) (fun hH => ?_)
  simp (disch := first | omega | (simp only [go_sem]; first | done | omega)) only [go_sem]
  refine ACalls.lit (i := H.length) (ty := 49) (sz := 3) (els := [encS ⟨5, 3, 0⟩]) (own := true) (by first | ((repeat first | exact at0 (by simp) | refine atS ?_); done) | assumption) (by simp [pureL, AC.pure]) (args' := [.c (.lst 3 ([(⟨5, 3, 0⟩ : Smp)].map encS)), (.c (.int .i64 10))]) (by simp [AV.frz1, AC.frz]) (binsTop_o [⟨5, 3, 0⟩] 10 (by simp) ?_)
  rw [e]
  simp only [List.map_cons, List.map_nil, grV, grO]
  simp (disch := first | omega | (simp only [go_sem]; first | done | omega)) only [go_sem]
  (first | refine Ret.sameE (Nat.le_refl _) (by assumption) ?_ | refine Ret.dropE (by assumption) (Nat.le_refl _) (by assumption) (by simp [AV.ok, AV.ok1, AC.ok]) ?_) <;> (first | rfl | (simp only [AV.c.injEq, AC.bool.injEq]; rw [Bool.eq_iff_iff]; simp only [Bool.not_eq_true', decide_eq_true_eq, decide_eq_false_iff_not, Bool.and_eq_true, Bool.or_eq_true]; omega) | grind | (simp [*]; done) | (simp [*]; omega))
end Go.Proofs.YtebhpfhichdgaaaGreatDoor
