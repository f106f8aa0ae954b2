/- Bins: combined, put. Condition: the sums are small. -/
import Derived.Test.YtkmkkjlfnobciaaGreatVSmp
namespace Go.Proofs.YtkmkkjlfnobciaaGreat
open Go Go.RowKit
set_option maxRecDepth 100000
set_option linter.all false
set_option maxHeartbeats 1000000
variable {H : Hp} {K : AV → Hp → Prop}
structure Bin where
  a : Int
  s : Int
  n : Int
  m : Int
  lo : Int
  hi : Int
deriving DecidableEq
def encN (x : Bin) : List AC := [.int .i64 x.a, .int .i64 x.s, .int .i64 x.n, .int .i64 x.m, .int .i64 x.lo, .int .i64 x.hi]
attribute [go_sem, simp] encN
def combB (x y : Bin) : Bin := ⟨x.a, x.s + y.s, x.n + y.n, x.m + y.m, if x.n = 0 then y.lo else if y.n = 0 then x.lo else min x.lo y.lo, if x.n = 0 then y.hi else if y.n = 0 then x.hi else max x.hi y.hi⟩
def Bin.bd (x : Bin) (B : Int) : Prop := -B ≤ x.s ∧ x.s ≤ B ∧ -B ≤ x.n ∧ x.n ≤ B ∧ -B ≤ x.m ∧ x.m ≤ B
theorem combined_a (x y : Bin) (hx : x.bd 4611686018427387903) (hy : y.bd 4611686018427387903) (hk : K (.agg (encN (combB x y))) H) : ACalls Tryz.prog 121 [.agg (encN x), .agg (encN y)] H K := by
  simp only [Bin.bd] at hx hy
  obtain ⟨x1, x2, x3, x4, x5, x6⟩ := hx
  obtain ⟨y1, y2, y3, y4, y5, y6⟩ := hy
  refine acalls Tryz.func121 rfl (by kernel_rfl) (by simp (disch := first | omega | (simp only [go_sem]; first | done | omega)) only [go_sem]) (fun hH => ?_)
  simp (disch := first | omega | (simp only [go_sem]; first | done | omega)) only [go_sem]
  repeat' (first | ((first | refine acond_d ?_ ?_ | refine acond_b ?_ ?_ | refine ag_d ?_ ?_ | refine ag_n ?_ ?_ | refine ag_bt ?_ ?_ | refine ag_bf ?_ ?_ | refine agt_d ?_ ?_ | refine agt_n ?_ ?_ | refine agt_bt ?_ ?_ | refine agt_bf ?_ ?_) <;> intro c <;> try simp (disch := first | omega | (simp only [go_sem]; first | done | omega)) only [go_sem, c]) | ((first | refine w_draw (by kernel_rfl) (by decide +kernel) ?_ | refine w_tree (.one 0 (.one 1 (.one 2 (.one 4 (.two 3 (.one 5 (.one 6 (.one 7 .done))) 5 (.one 3 (.one 6 (.one 7 .done)))))))) (by kernel_rfl) (by decide +kernel) ?_ | refine w_tree (.one 0 (.one 1 (.one 2 (.one 4 (.two 3 (.one 5 (.one 6 (.one 7 .done))) 5 (.one 3 (.one 6 (.one 7 .done)))))))) (by kernel_rfl) (by decide +kernel) ?_ | refine w_tree (.one 0 (.one 1 (.one 2 (.one 3 (.one 4 (.one 5 (.one 7 (.one 10 (.three 6 (.two 8 (.one 9 (.one 11 (.one 12 (.one 13 .done)))) 11 (.one 8 (.one 9 (.one 12 (.one 13 .done))))) 8 (.two 6 (.one 9 (.one 11 (.one 12 (.one 13 .done)))) 11 (.one 6 (.one 9 (.one 12 (.one 13 .done))))) 11 (.one 6 (.one 8 (.one 9 (.one 12 (.one 13 .done)))))))))))))) (by kernel_rfl) (by decide +kernel) ?_) <;> try simp (disch := first | omega | (simp only [go_sem]; first | done | omega)) only [go_sem]) | (refine And.intro ?_ ?_ <;> try simp (disch := first | omega | (simp only [go_sem]; first | done | omega)) only [go_sem]))
  all_goals (first | refine Ret.sameE (Nat.le_refl _) (by assumption) ?_ | refine Ret.dropE (by assumption) (Nat.le_refl _) (by assumption) (by simp [AV.ok, AV.ok1, AC.ok]) ?_) <;> simp [combB, *]
def putB (l : List Bin) (b : Bin) : List Bin := match l.getLast? with
  | none => [b]
  | some x => if x.a = b.a then l.dropLast ++ [combB x b] else l ++ [b]
theorem pureL_encN (l : List Bin) : pureL (l.map encN) = true := by simp [pureL, AC.pure]
theorem put_a (i : Nat) (l : List Bin) (b : Bin) (hi : H[i]? = some (grO 62 6 (l.map encN))) (hlen : l.length ≤ 1000000) (hx : ∀ x ∈ l, x.bd 4611686018427387903) (hb : b.bd 4611686018427387903)
    (hk : K (.c (.sl (some (H.length, 0)) (putB l b).length)) (H.set i .dead ++ [.row 62 6 ((putB l b).map encN) true])) : ACalls Tryz.prog 104 [.c (grV i l), .agg (encN b)] H K := by
  have hlt := getElem?_lt hi
  rcases hl : l.getLast? with _ | x
  · have h0 : l = [] := by simpa using hl
    subst h0
    have hd : H.set i .dead = H := by
      apply List.ext_getElem?
      intro j
      by_cases e : i = j
      · subst e; rw [List.getElem?_set_self hlt, hi]; rfl
      · rw [List.getElem?_set_ne e]
    rw [hd] at hk
    refine acalls Tryz.func104 rfl (by kernel_rfl) (by simp (disch := first | omega | (simp only [go_sem]; first | done | omega)) only [go_sem]) (fun hH => ?_)
    simp (disch := first | omega | (simp only [go_sem]; first | done | omega)) only [go_sem, grV]
    refine w_draw (by kernel_rfl) (by decide +kernel) ?_
    simp (disch := first | omega | (simp only [go_sem]; first | done | omega)) only [go_sem]
    refine app_sl ?_
    simp (disch := first | omega | (simp only [go_sem]; first | done | omega)) only [go_sem]
    refine Ret.pick [2] hH (Nat.le_refl _) rfl (by simp) (by simp [AObj.pureO, pureL, AC.pure]) (v' := .c (.sl (some (H.length, 0)) 1)) ?_ (by simp [AV.ok, AV.ok1, AC.ok]) hk
    simp [AV.ren, AV.ren1, AC.ren, pickS]
  · have h0 : l ≠ [] := by rintro rfl; simp at hl
    have hl1 : 0 < l.length := List.length_pos_iff.2 h0
    have hxm : x ∈ l := List.mem_of_getLast? hl
    have hxb := hx x hxm
    have hlast : l[l.length - 1]? = some x := by rw [List.getLast?_eq_getElem?] at hl; exact hl
    have hx1 : l[l.length - 1]'(by omega) = x := by rw [List.getElem?_eq_getElem (by omega)] at hlast; injection hlast
    have hx2 : l[((l.length : Int) - 1).toNat]'(by omega) = x := by rw [← hx1]; congr 1; omega
    rw [grO_pos _ _ (by simpa using h0)] at hi
    rw [grV_pos _ h0]
    by_cases he : x.a = b.a
    · have he' := eq_true he
      have e : putB l b = l.set ((l.length : Int) - 1).toNat (combB x b) := by
        have e1 : putB l b = l.dropLast ++ [combB x b] := by simp [putB, hl, he]
        have e2 : ((l.length : Int) - 1).toNat = l.length - 1 := by omega
        rw [e1, e2]
        obtain ⟨l', rfl⟩ := List.getLast?_eq_some_iff.1 hl
        simp
      have hmp : (l.map encN).set ((l.length : Int) - 1).toNat (encN (combB x b)) = (putB l b).map encN := by rw [e, List.map_set]
      have hle : (putB l b).length = l.length := by rw [e]; simp
      rw [hle] at hk
      generalize hcb : combB x b = c at *
      rw [encN] at hmp
      refine acalls Tryz.func104 rfl (by kernel_rfl) (by simp (disch := first | omega | (simp only [go_sem]; first | done | omega)) only [go_sem]) (fun hH => ?_)
      simp (disch := first | omega | (simp only [go_sem]; first | done | omega)) only [go_sem, hi, hx2, he']
      repeat' (first | ((first | refine acond_d ?_ ?_ | refine acond_b ?_ ?_ | refine ag_d ?_ ?_ | refine ag_n ?_ ?_ | refine ag_bt ?_ ?_ | refine ag_bf ?_ ?_) <;> intro c <;> try simp (disch := first | omega | (simp only [go_sem]; first | done | omega)) only [go_sem, c, hi, hx2, he', hcb]) | ((first | refine w_draw (by kernel_rfl) (by decide +kernel) ?_ | refine combined_a x b hxb hb ?_) <;> try simp (disch := first | omega | (simp only [go_sem]; first | done | omega)) only [go_sem, hi, hx2, he', hcb]))
      rw [hmp]
      refine Ret.cut (HOk.set hH (okN_pure (pureL_encN _) (by simp) _)) (by simp) (by simpa [AV.ok, AV.ok1, AC.ok] using hlt) (Ret.move (List.getElem?_set_self hlt) (pureL_encN _) (by simp) ?_)
      rw [List.set_set, List.length_set]
      exact hk
    have e : putB l b = l ++ [b] := by simp [putB, hl, he]
    rw [e] at hk
    refine acalls Tryz.func104 rfl (by kernel_rfl) (by simp (disch := first | omega | (simp only [go_sem]; first | done | omega)) only [go_sem]) (fun hH => ?_)
    simp (disch := first | omega | (simp only [go_sem]; first | done | omega)) only [go_sem, hi, hx2, he]
    repeat' (first | ((first | refine acond_d ?_ ?_ | refine acond_b ?_ ?_ | refine ag_d ?_ ?_ | refine ag_n ?_ ?_ | refine ag_bt ?_ ?_ | refine ag_bf ?_ ?_) <;> intro c <;> try simp (disch := first | omega | (simp only [go_sem]; first | done | omega)) only [go_sem, c, hi, hx2, he]) | ((first | refine w_draw (by kernel_rfl) (by decide +kernel) ?_) <;> try simp (disch := first | omega | (simp only [go_sem]; first | done | omega)) only [go_sem, hi, hx2, he]))
    refine app_sl ?_
    simp (disch := first | omega | (simp only [go_sem]; first | done | omega)) only [go_sem, hi]
    refine Ret.pick [2] (L := [.row 62 6 ((l ++ [b]).map encN) true]) (HOk.set hH (o := .dead) trivial) (by simp) (by simp) (by simp) (by simp [AObj.pureO, pureL, AC.pure]) (v' := .c (.sl (some (H.length, 0)) (l.length + 1))) ?_ (by simp [AV.ok, AV.ok1, AC.ok]) (by simpa using hk)
    simp [AV.ren, AV.ren1, AC.ren, pickS]
end Go.Proofs.YtkmkkjlfnobciaaGreat
