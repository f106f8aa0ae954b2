/- The bins of a series: the program. No condition. -/
import Derived.Test.YtkmkkjlfnobciaaGreatVBin
namespace Go.Proofs.YtkmkkjlfnobciaaGreat
open Go Go.RowKit
set_option maxRecDepth 100000
set_option linter.all false
set_option maxHeartbeats 1000000
variable {H : Hp} {K : AV → Hp → Prop}
def foldB (l : List Bin) : List Bin := l.foldl putB []
theorem foldB_snoc (l : List Bin) (x : Bin) : foldB (l ++ [x]) = putB (foldB l) x := by simp [foldB]
theorem putB_bd2 {l : List Bin} {b : Bin} {B C : Int} (hl : ∀ x ∈ l, x.bd B) (hb : b.bd C) (hB : 0 ≤ B) (hC : 0 ≤ C) : (∀ x ∈ putB l b, x.bd (B + C)) ∧ (putB l b).length ≤ l.length + 1 := by
  have up : ∀ x ∈ l, x.bd (B + C) := fun x hx => by
    have := hl x hx; simp only [Bin.bd] at this ⊢; omega
  have ub : b.bd (B + C) := by simp only [Bin.bd] at hb ⊢; omega
  unfold putB
  split
  · exact ⟨by intro x hx; simp at hx; subst hx; exact ub, by simp⟩
  · rename_i x hx
    have hxm : x ∈ l := List.mem_of_getLast? hx
    split
    · refine ⟨?_, by simp⟩
      intro y hy
      rcases List.mem_append.1 hy with hy | hy
      · exact up y (List.dropLast_subset _ hy)
      · simp at hy; subst hy
        have := hl x hxm
        simp only [Bin.bd, combB] at this hb ⊢; omega
    · refine ⟨?_, by simp⟩
      intro y hy
      rcases List.mem_append.1 hy with hy | hy
      · exact up y hy
      · simp at hy; subst hy; exact ub
def binOf (step : Int) (x : Smp) : Bin := if x.q = 0 then ⟨x.t / step * step, x.v, 1, 0, x.v, x.v⟩ else ⟨x.t / step * step, 0, 0, 1, 0, 0⟩
def binsF (step : Int) (l : List Smp) : List Bin := l.foldl (fun r x => putB r (binOf step x)) []
theorem putB_bd {l : List Bin} {b : Bin} {B : Int} (hl : ∀ x ∈ l, x.bd B) (hb : b.bd 1000000) (hB : 0 ≤ B) : (∀ x ∈ putB l b, x.bd (B + 1000000)) ∧ (putB l b).length ≤ l.length + 1 := by
  have up : ∀ x ∈ l, x.bd (B + 1000000) := fun x hx => by
    have := hl x hx; simp only [Bin.bd] at this ⊢; omega
  have ub : b.bd (B + 1000000) := by simp only [Bin.bd] at hb ⊢; omega
  unfold putB
  split
  · exact ⟨by intro x hx; simp at hx; subst hx; exact ub, by simp⟩
  · rename_i x hx
    have hxm : x ∈ l := List.mem_of_getLast? hx
    split
    · refine ⟨?_, by simp⟩
      intro y hy
      rcases List.mem_append.1 hy with hy | hy
      · exact up y (List.dropLast_subset _ hy)
      · simp at hy; subst hy
        have := hl x hxm
        simp only [Bin.bd, combB] at this hb ⊢; omega
    · refine ⟨?_, by simp⟩
      intro y hy
      rcases List.mem_append.1 hy with hy | hy
      · exact up y hy
      · simp at hy; subst hy; exact ub
theorem binsF_snoc (step : Int) (l : List Smp) (x : Smp) : binsF step (l ++ [x]) = putB (binsF step l) (binOf step x) := by simp [binsF]
theorem errGo_all {α : Type} (f : Nat → α → α → Int) : ∀ (l : List α) (k : Nat) (p : α), errGo f k p l = 0 → ∀ x ∈ l, ∃ j q, f j q x = 0
  | [], _, _, _ => by simp
  | y :: t, k, p, h => by
    intro x hx
    unfold errGo at h
    split at h
    · rename_i h0
      rcases List.mem_cons.1 hx with rfl | hx
      · exact ⟨k, p, h0⟩
      · exact errGo_all f t (k + 1) y h x hx
    · rename_i h0; exact absurd h h0
theorem smp_ok {x : Smp} (h : smpErr x = 0) : (0 ≤ x.t ∧ x.t ≤ 345686399999) ∧ (0 ≤ x.q ∧ x.q ≤ 2) ∧ (-1000000 ≤ x.v ∧ x.v ≤ 1000000) ∧ (x.q = 2 → x.v = 0) := by
  grind [smpErr]
theorem serF_ok {l : List Smp} (h : serF l = 0) : l.length ≤ 5000 ∧ ∀ x ∈ l, smpErr x = 0 := by
  unfold serF at h
  split at h
  · cases h
  · refine ⟨by omega, fun x hx => ?_⟩
    obtain ⟨j, q, h1⟩ := errGo_all serErr l 0 _ h x hx
    unfold serErr at h1
    split at h1
    · omega
    · rename_i h2; simpa using h2
theorem putB_ne (l : List Bin) (b : Bin) : putB l b ≠ [] := by
  unfold putB
  split
  · simp
  · split <;> simp
theorem bins_o (l : List Smp) (step : Int) (hlen : l.length ≤ 5000) (hs1 : 1 ≤ step) (hs2 : step ≤ 86400000) (hbd : ∀ x ∈ l, 0 ≤ x.t ∧ x.t ≤ 345686399999 ∧ -1000000 ≤ x.v ∧ x.v ≤ 1000000)
    (hk : K (.c (grV H.length (binsF step l))) (H ++ [grO 62 6 ((binsF step l).map encN)])) : ACalls Tryz.prog 65 [.c (.lst 3 (l.map encS)), (.c (.int .i64 step))] H K := by
  have hs0 : step ≠ 0 := by omega
  refine acalls Tryz.func65 rfl (by kernel_rfl) (by simp (disch := first | omega | (simp only [go_sem]; first | done | omega)) only [go_sem]) (fun hH => ?_)
  simp (disch := first | omega | (simp only [go_sem]; first | done | omega)) only [go_sem]
  refine AWp.loop (H.length) [1, 9, 10] [11, 5] (fun (q : Nat × List Bin) => q.1 ≤ l.length ∧ q.2 = binsF step (l.take q.1) ∧ q.2.length ≤ q.1 ∧ ∀ y ∈ q.2, y.bd (1000000 * q.1)) (fun (q : Nat × List Bin) => [(11, (.c (.int .i64 (q.1)))), (5, .c (grV H.length q.2))]) (fun (q : Nat × List Bin) => H ++ [grO 62 6 (q.2.map encN)]) (fun (q : Nat × List Bin) => l.length - q.1) (by kernel_rfl) (fun _ => rfl) (by kernel_rfl) (by simp) (by first | (simp; done) | (simp; omega)) (by (try simp only [List.forall_mem_cons, List.not_mem_nil, false_implies, implies_true, and_true]); (try simp (disch := first | omega | (simp only [go_sem]; first | done | omega)) only [go_sem]); first | trivial | (simp [AV.ok, AV.ok1, AC.ok]; done) | (simp [AV.ok, AV.ok1, AC.ok]; omega) | (simp [AV.ok, AV.ok1, AC.ok]; assumption) | ((repeat' apply And.intro) <;> first | trivial | (simp [AV.ok, AV.ok1, AC.ok]; done) | (simp [AV.ok, AV.ok1, AC.ok]; omega) | (simp [AV.ok, AV.ok1, AC.ok]; assumption) | (refine grV_ok ?_ _; first | (simp; done) | (simp; omega) | omega))) ?_ (fun q hq _ _ => ?_)
  · refine Next.mk (0, []) ⟨by simp, rfl, by simp, by simp⟩ ?_
    exact WkL.pad (by simp)
  obtain ⟨k, cur⟩ := q
  obtain ⟨hk1, hcur, hcl, hcb⟩ := hq
  dsimp only at hk1 hcur hcl hcb
  by_cases hlt : k < l.length
  · have hx := hbd l[k] (List.getElem_mem hlt)
    have hnext : binsF step (l.take (k + 1)) = putB cur (binOf step l[k]) := by
      rw [List.take_succ_eq_append_getElem hlt, binsF_snoc, hcur]
    obtain ⟨x, hxe⟩ : ∃ x, x = l[k] := ⟨_, rfl⟩
    rw [← hxe] at hx hnext
    have t0 : 0 ≤ x.t / step := Int.ediv_nonneg hx.1 (by omega)
    have t1 : x.t / step * step ≤ x.t := Int.ediv_mul_le _ hs0
    have t2 : 0 ≤ x.t / step * step := Int.mul_nonneg t0 (by omega)
    have hb : (binOf step x).bd 1000000 := by
      unfold binOf; split <;> (simp only [Bin.bd]; omega)
    have hp := putB_bd hcb hb (by omega)
    have hlast : ∀ L : Hp, L[3]? = some (.row 62 6 ((putB cur (binOf step x)).map encN) true) → WkL H.length [(.c (.int .i64 ((k + 1 : Nat)))), .c (.sl (some (H.length + 3, 0)) (putB cur (binOf step x)).length)] (H ++ L) [(.c (.int .i64 ((k + 1 : Nat)))), .c (grV H.length (putB cur (binOf step x)))] (H ++ [grO 62 6 ((putB cur (binOf step x)).map encN)]) := by
      intro L hL
      rw [grV_pos _ (putB_ne _ _), grO_pos _ _ (by simpa using putB_ne cur (binOf step x))]
      refine WkL.pick [3] (by assumption) (Nat.le_refl _) (by simp [hL]) (by simp) (by simp [AObj.pureO, pureL_encN]) ?_ ?_
      · simp [AV.ren, AV.ren1, AC.ren, pickS]
      · simp [AV.ok, AV.ok1, AC.ok]
    have hfin : ∀ y ∈ putB cur (binOf step x), y.bd (1000000 * ((k + 1 : Nat) : Int)) := fun y hy => by have := hp.1 y hy; simp only [Bin.bd] at this ⊢; omega
    have hcb2 : ∀ y ∈ cur, y.bd 4611686018427387903 := fun y hy => by have := hcb y hy; simp only [Bin.bd] at this ⊢; omega
    have hb2 : (binOf step x).bd 4611686018427387903 := by simp only [Bin.bd] at hb ⊢; omega
    have hp2 := hp.2
    clear hp hcb hb
    simp (disch := first | omega | (simp only [go_sem]; first | done | omega)) only [go_sem, ← hxe]
    refine acond_d (fun c => ?_) (fun c => ?_)
    · have e : encN (binOf step x) = [.int .i64 (x.t / step * step), .int .i64 x.v, .int .i64 1, .int .i64 0, .int .i64 x.v, .int .i64 x.v] := by simp [binOf, c]
      simp (disch := first | omega | (simp only [go_sem]; first | done | omega)) only [go_sem, c]
      rw [← e]
      refine put_a H.length cur _ (by first | exact at0 (by simp) | exact at1 (by simp) | exact at2 (by simp) | exact at3 (by simp) | exact at4 (by simp) | exact at5 (by simp) | exact atG 6 (by simp) rfl | exact atG 7 (by simp) rfl | exact atG 8 (by simp) rfl | exact atG 9 (by simp) rfl | exact atG 10 (by simp) rfl | assumption) (by omega) hcb2 hb2 ?_
      simp (disch := first | omega | (simp only [go_sem]; first | done | omega)) only [go_sem]
      refine Next.mk (k + 1, putB cur (binOf step x)) ⟨⟨by omega, hnext.symm, by dsimp only; omega, hfin⟩, by dsimp only; omega⟩ (hlast _ rfl)
    · have e : encN (binOf step x) = [.int .i64 (x.t / step * step), .int .i64 0, .int .i64 0, .int .i64 1, .int .i64 0, .int .i64 0] := by simp [binOf, c]
      simp (disch := first | omega | (simp only [go_sem]; first | done | omega)) only [go_sem, c]
      rw [← e]
      refine put_a H.length cur _ (by first | exact at0 (by simp) | exact at1 (by simp) | exact at2 (by simp) | exact at3 (by simp) | exact at4 (by simp) | exact at5 (by simp) | exact atG 6 (by simp) rfl | exact atG 7 (by simp) rfl | exact atG 8 (by simp) rfl | exact atG 9 (by simp) rfl | exact atG 10 (by simp) rfl | assumption) (by omega) hcb2 hb2 ?_
      simp (disch := first | omega | (simp only [go_sem]; first | done | omega)) only [go_sem]
      refine Next.mk (k + 1, putB cur (binOf step x)) ⟨⟨by omega, hnext.symm, by dsimp only; omega, hfin⟩, by dsimp only; omega⟩ (hlast _ rfl)
  · have e : cur = binsF step l := by rw [hcur, List.take_of_length_le (by omega)]
    rw [← e] at hk
    simp (disch := first | omega | (simp only [go_sem]; first | done | omega)) only [go_sem]
    exact Ret.same (by simp) hk
def binsRes (l : List Smp) (step : Int) : List Bin × Int := if serF l ≠ 0 then ([], serF l) else if isStep step then (binsF step l, 0) else ([], 1)
theorem binsTop_o (l : List Smp) (step : Int) (hn : l.length ≤ 1099511627776)
    (hk : K (.tup [.c (grV H.length (binsRes l step).1), (.c (.int .i64 ((binsRes l step).2)))]) (H ++ [grO 62 6 ((binsRes l step).1.map encN)])) : ACalls Tryz.prog 82 [.c (.lst 3 (l.map encS)), (.c (.int .i64 step))] H K := by
  refine acalls Tryz.func82 rfl (by kernel_rfl) (by simp (disch := first | omega | (simp only [go_sem]; first | done | omega)) only [go_sem]) (fun hH => ?_)
  simp (disch := first | omega | (simp only [go_sem]; first | done | omega)) only [go_sem]
  refine checkSeries_a l hn ?_
  simp (disch := first | omega | (simp only [go_sem]; first | done | omega)) only [go_sem]
  refine acond_d (fun h1 => ?_) (fun h1 => ?_)
  rotate_left
  · simp (disch := first | omega | (simp only [go_sem]; first | done | omega)) only [go_sem]
    rw [show binsRes l step = ([], serF l) by simp [binsRes, h1]] at hk
    exact Ret.pad (Nat.le_refl _) (Ret.same (by simp) hk)
  simp (disch := first | omega | (simp only [go_sem]; first | done | omega)) only [go_sem]
  refine isStep_a _ _ _ ?_
  simp (disch := first | omega | (simp only [go_sem]; first | done | omega)) only [go_sem]
  refine acond_d (fun h2 => ?_) (fun h2 => ?_)
  · simp (disch := first | omega | (simp only [go_sem]; first | done | omega)) only [go_sem]
    obtain ⟨h3, h4⟩ := serF_ok h1
    rw [show binsRes l step = (binsF step l, 0) by simp [binsRes, h1, h2]] at hk
    refine bins_o l step h3 h2.1 h2.2.1 (fun x hx => by have := smp_ok (h4 x hx); omega) ?_
    simp (disch := first | omega | (simp only [go_sem]; first | done | omega)) only [go_sem]
    exact Ret.same (by simp) hk
  · simp (disch := first | omega | (simp only [go_sem]; first | done | omega)) only [go_sem]
    rw [show binsRes l step = ([], 1) by simp only [binsRes, if_neg h2]; simp [h1]] at hk
    exact Ret.pad (Nat.le_refl _) (Ret.same (by simp) hk)
theorem retained_a (hk : K (.c (.bool true)) H) : ACalls Tryz.prog 29 [] H K := by
  have e : binsRes [⟨5, 3, 0⟩] 10 = ([⟨0, 3, 1, 0, 3, 3⟩], 0) := by decide +kernel
  refine acalls Tryz.func29 rfl (by kernel_rfl) (by simp (disch := first | omega | (simp only [go_sem]; first | done | omega)) only [go_sem]) (fun hH => ?_)
  simp (disch := first | omega | (simp only [go_sem]; first | done | omega)) only [go_sem]
  refine ACalls.lit (i := H.length) (ty := 57) (sz := 3) (els := [encS ⟨5, 3, 0⟩]) (own := true) (by first | exact at0 (by simp) | exact at1 (by simp) | exact at2 (by simp) | exact at3 (by simp) | exact at4 (by simp) | exact at5 (by simp) | exact atG 6 (by simp) rfl | exact atG 7 (by simp) rfl | exact atG 8 (by simp) rfl | exact atG 9 (by simp) rfl | exact atG 10 (by simp) rfl | assumption) (by simp [pureL, AC.pure]) (args' := [.c (.lst 3 ([(⟨5, 3, 0⟩ : Smp)].map encS)), (.c (.int .i64 10))]) (by simp [AV.frz1, AC.frz]) (binsTop_o [⟨5, 3, 0⟩] 10 (by simp) ?_)
  rw [e]
  simp only [List.map_cons, List.map_nil, grV, grO]
  simp (disch := first | omega | (simp only [go_sem]; first | done | omega)) only [go_sem]
  (first | refine Ret.sameE (Nat.le_refl _) (by assumption) ?_ | refine Ret.dropE (by assumption) (Nat.le_refl _) (by assumption) (by simp [AV.ok, AV.ok1, AC.ok]) ?_) <;> (first | rfl | (simp only [AV.c.injEq, AC.bool.injEq]; rw [Bool.eq_iff_iff]; simp only [Bool.not_eq_true', decide_eq_true_eq, decide_eq_false_iff_not, Bool.and_eq_true, Bool.or_eq_true]; omega) | grind | (simp [*]; done) | (simp [*]; omega))
end Go.Proofs.YtkmkkjlfnobciaaGreat
