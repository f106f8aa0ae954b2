/- Windows, and the samples in one. Condition: the list is not huge. -/
import Derived.Test.YtbgoaanalfdenaaVScale2
import Derived.Test.YtbgoaanalfdenaaVDel
import Derived.Test.YtbgoaanalfdenaaVUnroll
import Derived.Test.YtbgoaanalfdenaaVErrs
namespace Go.Proofs.Ytbgoaanalfdenaa
open Go Go.RowKit
set_option maxRecDepth 100000
set_option linter.all false
set_option maxHeartbeats 1000000
variable {H : Hp} {K : AV → Hp → Prop}
theorem errGo_pair' {α : Type} (f : Nat → α → α → Int) (p0 : α) (l : List α) (h : errGo f 0 p0 l = 0) : ∀ k (hk : k < l.length), f k (prv p0 l k) l[k] = 0 := by
  have key : ∀ k, k ≤ l.length → errGo f k (prv p0 l k) (l.drop k) = 0 := by
    intro k
    induction k with
    | zero => intro _; exact h
    | succ k ih =>
      intro hk
      have h1 := ih (by omega)
      rw [errGo_step f p0 l k (by omega)] at h1
      split at h1
      · exact h1
      · rename_i h2; exact absurd h1 h2
  intro k hk
  have h1 := key k (by omega)
  rw [errGo_step f p0 l k hk] at h1
  split at h1
  · assumption
  · exact h1
theorem serInc {l : List Smp} (h : serF l = 0) : ∀ (i j : Nat) (hj : j < l.length) (hij : i < j), (l[i]'(by omega)).t < l[j].t := by
  have h1 : errGo serErr 0 ⟨0, 0, 0⟩ l = 0 := by
    unfold serF at h
    split at h
    · cases h
    · exact h
  have h2 := errGo_pair' serErr _ l h1
  have step : ∀ (k : Nat) (hk : k + 1 < l.length), (l[k]'(by omega)).t < l[k + 1].t := by
    intro k hk
    have h3 := h2 (k + 1) hk
    rw [prv_succ _ _ k (by omega)] at h3
    unfold serErr at h3
    split at h3
    · rename_i h4; exact absurd h3 h4
    · split at h3
      · cases h3
      · rename_i h5; omega
  intro i j hj hij
  obtain ⟨d, rfl⟩ : ∃ d, j = i + 1 + d := ⟨j - i - 1, by omega⟩
  induction d with
  | zero => exact step i hj
  | succ d ih =>
    have h4 := ih (by omega) (by omega)
    have h5 := step (i + 1 + d) (by omega)
    have e : i + 1 + (d + 1) = i + 1 + d + 1 := by omega
    simp only [e]
    omega
structure Win where
  a : Int
  b : Int
deriving DecidableEq
def encW (x : Win) : List AC := [.int .i64 x.a, .int .i64 x.b]
attribute [go_sem, simp] encW
theorem pureL_encW (l : List Win) : pureL (l.map encW) = true := by simp [pureL, AC.pure]
theorem pureL_encS' (l : List Smp) : pureL (l.map encS) = true := by simp [pureL, AC.pure]
def winE (w : Win) : Int := if w.a < 0 ∨ w.b < w.a ∨ 345686400000 < w.b then 1 else 0
theorem inW2_a (a b t : Int) (hk : K (.c (.bool (decide (a ≤ t ∧ t < b)))) H) : ACalls Try.prog 74 [.agg [.int .i64 a, .int .i64 b], (.c (.int .i64 t))] H K := by
  refine acalls Try.func74 rfl (by kernel_rfl) (by simp (disch := first | omega | (simp only [go_sem]; first | done | omega)) only [go_sem]) (fun hH => ?_)
  simp (disch := first | omega | (simp only [go_sem]; first | done | omega)) only [go_sem]
  repeat' (first | ((first | refine acond_d ?_ ?_ | refine acond_b ?_ ?_ | refine ag_d ?_ ?_ | refine ag_n ?_ ?_ | refine ag_bt ?_ ?_ | refine ag_bf ?_ ?_) <;> intro c <;> try simp (disch := first | omega | (simp only [go_sem]; first | done | omega)) only [go_sem, c]) | ((first | refine w_draw (by kernel_rfl) (by decide +kernel) ?_) <;> try simp (disch := first | omega | (simp only [go_sem]; first | done | omega)) only [go_sem]))
  all_goals (first | refine Ret.sameE (Nat.le_refl _) (by assumption) ?_ | refine Ret.dropE (by assumption) (Nat.le_refl _) (by assumption) (by simp [AV.ok, AV.ok1, AC.ok]) ?_) <;> (first | rfl | (simp only [AV.c.injEq, AC.bool.injEq]; rw [Bool.eq_iff_iff]; simp only [Bool.not_eq_true', decide_eq_true_eq, decide_eq_false_iff_not, Bool.and_eq_true, Bool.or_eq_true]; omega) | grind | (simp [*]; done) | (simp [*]; omega))
theorem window_a (w : Win) (hk : K (.c (.bool (decide (winE w = 0)))) H) : ACalls Try.prog 73 [.agg (encW w)] H K := by
  refine acalls Try.func73 rfl (by kernel_rfl) (by simp (disch := first | omega | (simp only [go_sem]; first | done | omega)) only [go_sem]) (fun hH => ?_)
  simp (disch := first | omega | (simp only [go_sem]; first | done | omega)) only [go_sem]
  repeat' (first | ((first | refine acond_d ?_ ?_ | refine acond_b ?_ ?_ | refine ag_d ?_ ?_ | refine ag_n ?_ ?_ | refine ag_bt ?_ ?_ | refine ag_bf ?_ ?_) <;> intro c <;> try simp (disch := first | omega | (simp only [go_sem]; first | done | omega)) only [go_sem, c]) | ((first | refine w_draw (by kernel_rfl) (by decide +kernel) ?_ | refine out_a _ _ _ _ _ ?_) <;> try simp (disch := first | omega | (simp only [go_sem]; first | done | omega)) only [go_sem]))
  all_goals exact Ret.dropE hH (Nat.le_refl _) hk trivial (by simp only [AV.c.injEq, AC.bool.injEq, winE]; rw [Bool.eq_iff_iff]; simp only [decide_eq_true_eq, Bool.false_eq_true, false_iff]; grind)
theorem windowFaultR_a (w : Win) (hk : K (.c (.int .i64 (winE w))) H) : ACalls Try.prog 23 [.agg (encW w)] H K := by
  refine acalls Try.func23 rfl (by kernel_rfl) (by simp (disch := first | omega | (simp only [go_sem]; first | done | omega)) only [go_sem]) (fun hH => ?_)
  simp (disch := first | omega | (simp only [go_sem]; first | done | omega)) only [go_sem]
  repeat' (first | ((first | refine acond_d ?_ ?_ | refine acond_b ?_ ?_ | refine ag_d ?_ ?_ | refine ag_n ?_ ?_ | refine ag_bt ?_ ?_ | refine ag_bf ?_ ?_) <;> intro c <;> try simp (disch := first | omega | (simp only [go_sem]; first | done | omega)) only [go_sem, c]) | ((first | refine w_draw (by kernel_rfl) (by decide +kernel) ?_ | refine in_a _ _ _ _ _ ?_) <;> try simp (disch := first | omega | (simp only [go_sem]; first | done | omega)) only [go_sem]))
  all_goals exact Ret.dropE hH (Nat.le_refl _) hk trivial (by simp only [AV.c.injEq, AC.int.injEq, true_and, winE]; grind)
theorem windowFault_a (l : List Smp) (w : Win) (hl : l.length ≤ 1099511627776) (hk : K (.c (.int .i64 (firstE [serF l, winE w]))) H) : ACalls Try.prog 55 [.c (.lst 3 (l.map encS)), .agg (encW w)] H K := by
  refine acalls Try.func55 rfl (by kernel_rfl) (by simp (disch := first | omega | (simp only [go_sem]; first | done | omega)) only [go_sem]) (fun hH => ?_)
  simp (disch := first | omega | (simp only [go_sem]; first | done | omega)) only [go_sem]
  repeat' (first | ((first | refine acond_d ?_ ?_ | refine acond_b ?_ ?_ | refine ag_d ?_ ?_ | refine ag_n ?_ ?_ | refine ag_bt ?_ ?_ | refine ag_bf ?_ ?_) <;> intro c <;> try simp (disch := first | omega | (simp only [go_sem]; first | done | omega)) only [go_sem, c]) | ((first | refine w_draw (by kernel_rfl) (by decide +kernel) ?_ | refine checkSeries_a l hl ?_ | refine window_a w ?_) <;> try simp (disch := first | omega | (simp only [go_sem]; first | done | omega)) only [go_sem]))
  all_goals exact Ret.dropE hH (Nat.le_refl _) hk trivial (by simp only [AV.c.injEq, AC.int.injEq, true_and, firstE]; grind [winE])
def withinF (l : List Smp) (w : Win) : List Smp := l.filter (fun x => decide (w.a ≤ x.t ∧ x.t < w.b))
theorem within_a (l : List Smp) (w : Win) (hlen : l.length ≤ 1000000) (hk : K (.c (.lst 3 ((withinF l w).map encS))) H) : ACalls Try.prog 56 [.c (.lst 3 (l.map encS)), .agg (encW w)] H K := by
  refine acalls Try.func56 rfl (by kernel_rfl) (by simp (disch := first | omega | (simp only [go_sem]; first | done | omega)) only [go_sem]) (fun hH => ?_)
  simp (disch := first | omega | (simp only [go_sem]; first | done | omega)) only [go_sem]
  refine AWp.loop (H.length + 1) [3, 8, 9] [10, 5] (fun (k : Nat) => k ≤ l.length) (fun (k : Nat) => [(10, (.c (.int .i64 k))), (5, .c (grV (H.length + 1) (withinF (l.take k) w)))]) (fun (k : Nat) => H ++ [.row 49 2 [[.int .i64 w.a, .int .i64 w.b]] true, grO 44 3 ((withinF (l.take k) w).map encS)]) (fun (k : Nat) => l.length - k) (by kernel_rfl) (fun _ => rfl) (by kernel_rfl) (by simp) (by first | (simp; done) | (simp; omega)) (by (try simp only [List.forall_mem_cons, List.not_mem_nil, false_implies, implies_true, and_true]); (try simp (disch := first | omega | (simp only [go_sem]; first | done | omega)) only [go_sem]); all_goals first | trivial | (simp [AV.ok, AV.ok1, AC.ok]; done) | (simp [AV.ok, AV.ok1, AC.ok]; omega) | (simp [AV.ok, AV.ok1, AC.ok]; assumption) | ((repeat' apply And.intro) <;> first | trivial | (simp [AV.ok, AV.ok1, AC.ok]; done) | (simp [AV.ok, AV.ok1, AC.ok]; omega) | (simp [AV.ok, AV.ok1, AC.ok]; assumption) | (refine grV_ok ?_ _; first | (simp; done) | (simp; omega) | omega))) ?_ (fun k hkb _ _ => ?_)
  · exact Next.mk 0 (by omega) (by simp (disch := first | omega | (simp only [go_sem]; first | done | omega)) only [go_sem]; exact WkL.padP [_] (by simp))
  have hfl : (withinF (l.take k) w).length ≤ 1000000 := by
    have h1 := List.length_filter_le (fun x : Smp => decide (w.a ≤ x.t ∧ x.t < w.b)) (l.take k)
    have h2 : (l.take k).length ≤ l.length := by rw [List.length_take]; omega
    unfold withinF; omega
  by_cases hlt : k < l.length
  · have hn : withinF (l.take (k + 1)) w = withinF (l.take k) w ++ (if w.a ≤ l[k].t ∧ l[k].t < w.b then [l[k]] else []) := by
      rw [List.take_succ_eq_append_getElem hlt, withinF, List.filter_append]
      congr 1
      by_cases c : w.a ≤ l[k].t ∧ l[k].t < w.b <;> simp [c]
    simp (disch := first | omega | (simp only [go_sem]; first | done | omega)) only [go_sem]
    refine inW2_a w.a w.b l[k].t ?_
    simp (disch := first | omega | (simp only [go_sem]; first | done | omega)) only [go_sem]
    refine acond_d (fun c => ?_) (fun c => ?_)
    · rw [if_pos c] at hn
      simp (disch := first | omega | (simp only [go_sem]; first | done | omega)) only [go_sem]
      (refine app_gr (enc := encS) (e := 44) (sz := 3) (bs := 24) (z := [.int .i64 0, .int .i64 0, .int .i64 0]) (withinF (l.take k) w) (l[k]) (by kernel_rfl) (by kernel_rfl) (by kernel_rfl) (by kernel_rfl) (by first | exact at0 (by simp) | exact at1 (by simp) | exact at2 (by simp) | exact at3 (by simp) | exact at4 (by simp) | exact at5 (by simp) | exact atG 6 (by simp) rfl | exact atG 7 (by simp) rfl | exact atG 8 (by simp) rfl | exact atG 9 (by simp) rfl | exact atG 10 (by simp) rfl | assumption) (by first | (simp (disch := first | omega | (simp only [go_sem]; first | done | omega)) only [go_sem]; done) | (simp (disch := first | omega | (simp only [go_sem]; first | done | omega)) only [go_sem]; rfl) | (simp (disch := first | omega | (simp only [go_sem]; first | done | omega)) only [go_sem]; simp [go_sem]; done) | (simp (disch := first | omega | (simp only [go_sem]; first | done | omega)) only [go_sem]; simp [*]; done)) rfl (by decide) (by omega) (by omega) (by rfl) ?_)
      simp (disch := first | omega | (simp only [go_sem]; first | done | omega)) only [go_sem]
      exact Next.mk (k + 1) ⟨by omega, by omega⟩ (by rw [hn]; ((try simp (disch := first | omega | (simp only [go_sem]; first | done | omega)) only [go_sem]); (first | refine WkL.pickAt [_] [0] ?_ ?_ ?_ rfl ?_ ?_ ?_ ?_ | refine WkL.pickAt [_] [1] ?_ ?_ ?_ rfl ?_ ?_ ?_ ?_ | refine WkL.pickAt [_] [2] ?_ ?_ ?_ rfl ?_ ?_ ?_ ?_ | refine WkL.pickAt [_] [3] ?_ ?_ ?_ rfl ?_ ?_ ?_ ?_ | refine WkL.pickAt [_] [4] ?_ ?_ ?_ rfl ?_ ?_ ?_ ?_ | refine WkL.pickAt [_] [5] ?_ ?_ ?_ rfl ?_ ?_ ?_ ?_ | refine WkL.pickAt [_] [6] ?_ ?_ ?_ rfl ?_ ?_ ?_ ?_ | refine WkL.pickAt [_] [7] ?_ ?_ ?_ rfl ?_ ?_ ?_ ?_ | refine WkL.pickAt [_] [8] ?_ ?_ ?_ rfl ?_ ?_ ?_ ?_ | refine WkL.pickAt [_] [9] ?_ ?_ ?_ rfl ?_ ?_ ?_ ?_ | refine WkL.pickAt [_] [10] ?_ ?_ ?_ rfl ?_ ?_ ?_ ?_ | refine WkL.pickAt [_] [11] ?_ ?_ ?_ rfl ?_ ?_ ?_ ?_ | refine WkL.pickAt [_] [12] ?_ ?_ ?_ rfl ?_ ?_ ?_ ?_ | refine WkL.pickAt [_] [13] ?_ ?_ ?_ rfl ?_ ?_ ?_ ?_ | refine WkL.pickAt [_] [14] ?_ ?_ ?_ rfl ?_ ?_ ?_ ?_ | refine WkL.pickAt [_] [15] ?_ ?_ ?_ rfl ?_ ?_ ?_ ?_ | refine WkL.pickAt [_] [16] ?_ ?_ ?_ rfl ?_ ?_ ?_ ?_ | refine WkL.pickAt [_] [17] ?_ ?_ ?_ rfl ?_ ?_ ?_ ?_) <;> first | assumption | exact HOk.str (by assumption) | (simp; done) | (simp; omega) | (simp [pureO_gr, AObj.pureO, pureL, go_sem, AC.pure]; done) | (simp only [List.all_cons, List.all_nil, Bool.and_true]; exact pureO_gr (pureL_map _ (fun x => by simp [go_sem, AC.pure]))) | ((try simp only [List.map_cons, List.map_nil, av_ren_gr]); simp [AV.ren, AV.ren1, AC.ren, pickS]; first | done | omega) | (simp only [List.forall_mem_cons, List.not_mem_nil, false_implies, implies_true, and_true]; (repeat' apply And.intro) <;> first | trivial | exact grV_ok (by simp) _ | exact okN_grO (fun x => by simp [go_sem, AC.pure]) | exact okN_map (fun x => by simp [go_sem, AC.pure]) | (simp [AV.ok, AV.ok1, AC.ok]; done) | (simp [AV.ok, AV.ok1, AC.ok]; omega) | (simp [AObj.okN, AC.ok]; done)) | (simp [AObj.okN]; done)))
    · rw [if_neg c, List.append_nil] at hn
      simp (disch := first | omega | (simp only [go_sem]; first | done | omega)) only [go_sem]
      exact Next.mk (k + 1) ⟨by omega, by omega⟩ (by rw [hn]; ((try simp (disch := first | omega | (simp only [go_sem]; first | done | omega)) only [go_sem]); (first | refine WkL.pickAt [_] [0] ?_ ?_ ?_ rfl ?_ ?_ ?_ ?_ | refine WkL.pickAt [_] [1] ?_ ?_ ?_ rfl ?_ ?_ ?_ ?_ | refine WkL.pickAt [_] [2] ?_ ?_ ?_ rfl ?_ ?_ ?_ ?_ | refine WkL.pickAt [_] [3] ?_ ?_ ?_ rfl ?_ ?_ ?_ ?_ | refine WkL.pickAt [_] [4] ?_ ?_ ?_ rfl ?_ ?_ ?_ ?_ | refine WkL.pickAt [_] [5] ?_ ?_ ?_ rfl ?_ ?_ ?_ ?_ | refine WkL.pickAt [_] [6] ?_ ?_ ?_ rfl ?_ ?_ ?_ ?_ | refine WkL.pickAt [_] [7] ?_ ?_ ?_ rfl ?_ ?_ ?_ ?_ | refine WkL.pickAt [_] [8] ?_ ?_ ?_ rfl ?_ ?_ ?_ ?_ | refine WkL.pickAt [_] [9] ?_ ?_ ?_ rfl ?_ ?_ ?_ ?_ | refine WkL.pickAt [_] [10] ?_ ?_ ?_ rfl ?_ ?_ ?_ ?_ | refine WkL.pickAt [_] [11] ?_ ?_ ?_ rfl ?_ ?_ ?_ ?_ | refine WkL.pickAt [_] [12] ?_ ?_ ?_ rfl ?_ ?_ ?_ ?_ | refine WkL.pickAt [_] [13] ?_ ?_ ?_ rfl ?_ ?_ ?_ ?_ | refine WkL.pickAt [_] [14] ?_ ?_ ?_ rfl ?_ ?_ ?_ ?_ | refine WkL.pickAt [_] [15] ?_ ?_ ?_ rfl ?_ ?_ ?_ ?_ | refine WkL.pickAt [_] [16] ?_ ?_ ?_ rfl ?_ ?_ ?_ ?_ | refine WkL.pickAt [_] [17] ?_ ?_ ?_ rfl ?_ ?_ ?_ ?_) <;> first | assumption | exact HOk.str (by assumption) | (simp; done) | (simp; omega) | (simp [pureO_gr, AObj.pureO, pureL, go_sem, AC.pure]; done) | (simp only [List.all_cons, List.all_nil, Bool.and_true]; exact pureO_gr (pureL_map _ (fun x => by simp [go_sem, AC.pure]))) | ((try simp only [List.map_cons, List.map_nil, av_ren_gr]); simp [AV.ren, AV.ren1, AC.ren, pickS]; first | done | omega) | (simp only [List.forall_mem_cons, List.not_mem_nil, false_implies, implies_true, and_true]; (repeat' apply And.intro) <;> first | trivial | exact grV_ok (by simp) _ | exact okN_grO (fun x => by simp [go_sem, AC.pure]) | exact okN_map (fun x => by simp [go_sem, AC.pure]) | (simp [AV.ok, AV.ok1, AC.ok]; done) | (simp [AV.ok, AV.ok1, AC.ok]; omega) | (simp [AObj.okN, AC.ok]; done)) | (simp [AObj.okN]; done)))
  · rw [List.take_of_length_le (by omega)]
    simp (disch := first | omega | (simp only [go_sem]; first | done | omega)) only [go_sem]
    exact Ret.frzGr 1 hH (Nat.le_refl _) rfl (pureL_encS' _) (map_grV _ _ _).symm hk
theorem indexNilS_a (f : FuncId) (caps : List (Nat × Nat × Nat)) (hk : K (.c (.int .i64 (-1))) H) : ACalls Try.prog 75 [.c (.lst 3 []), .c (.fn f [] caps)] H K := by
  refine acalls Try.func75 rfl (by kernel_rfl) (by simp (disch := first | omega | (simp only [go_sem]; first | done | omega)) only [go_sem]) (fun hH => ?_)
  simp (disch := first | omega | (simp only [go_sem]; first | done | omega)) only [go_sem]
  refine AWp.rounds 0 (by kernel_rfl) ?_
  simp (disch := first | omega | (simp only [go_sem]; first | done | omega)) only [go_sem]
  exact Ret.same (Nat.le_refl _) hk
theorem deleteNilS_a (f : FuncId) (caps : List (Nat × Nat × Nat)) (hk : K (.c (.lst 3 [])) H) : ACalls Try.prog 60 [.c (.lst 3 []), .c (.fn f [] caps)] H K := by
  refine acalls Try.func60 rfl (by kernel_rfl) (by simp (disch := first | omega | (simp only [go_sem]; first | done | omega)) only [go_sem]) (fun hH => ?_)
  simp (disch := first | omega | (simp only [go_sem]; first | done | omega)) only [go_sem]
  refine indexNilS_a f caps ?_
  simp (disch := first | omega | (simp only [go_sem]; first | done | omega)) only [go_sem]
  exact Ret.same (Nat.le_refl _) hk
/-- what was cloned, or what grew -/
theorem deleteClS_a (f : FuncId) (caps : List (Nat × Nat × Nat)) (p : Smp → Bool) (he : entersB Try.prog f = true) (hc : ∀ (a b c : Nat), (a, b, c) ∈ caps → a < H.length) {i : Nat} (hci : ∀ (a b c : Nat), (a, b, c) ∈ caps → a ≠ i) (l : List Smp) (hi : H[i]? = some (grO 44 3 (l.map encS))) (hf : ∀ (G : Hp) (x : Smp) (K : AV → Hp → Prop), (∀ (a b c : Nat), (a, b, c) ∈ caps → G[a]? = H[a]?) → x ∈ l → K (.c (.bool (p x))) G → ACalls Try.prog f (.agg (encS x) :: caps.map fun q => .c (.ptr (some q))) G K) (hlen : l.length ≤ 1000000)
    (hk : K (.c (.lst 3 ((l.filter (fun x => !p x)).map encS))) (H.set i .dead)) : ACalls Try.prog 60 [.c (clV i 3 (l.map encS)), .c (.fn f [] caps)] H K := by
  cases l with
  | nil =>
    rw [set_same (o := .dead) hi] at hk
    exact deleteNilS_a f caps hk
  | cons x xs => exact deleteS_a f caps p he hc hci (x :: xs) hi (by simp) hf hlen hk
theorem deleteGrS_a (f : FuncId) (caps : List (Nat × Nat × Nat)) (p : Smp → Bool) (he : entersB Try.prog f = true) (hc : ∀ (a b c : Nat), (a, b, c) ∈ caps → a < H.length) {i : Nat} (hci : ∀ (a b c : Nat), (a, b, c) ∈ caps → a ≠ i) (l : List Smp) (hi : H[i]? = some (grO 44 3 (l.map encS))) (hf : ∀ (G : Hp) (x : Smp) (K : AV → Hp → Prop), (∀ (a b c : Nat), (a, b, c) ∈ caps → G[a]? = H[a]?) → x ∈ l → K (.c (.bool (p x))) G → ACalls Try.prog f (.agg (encS x) :: caps.map fun q => .c (.ptr (some q))) G K) (hlen : l.length ≤ 1000000)
    (hk : K (.c (.lst 3 ((l.filter (fun x => !p x)).map encS))) (H.set i .dead)) : ACalls Try.prog 60 [.c (grV i l), .c (.fn f [] caps)] H K := by
  cases l with
  | nil =>
    rw [set_same (o := .dead) hi] at hk
    refine ACalls.nilz [3] (by simp) ?_
    exact deleteNilS_a f caps hk
  | cons x xs => exact deleteS_a f caps p he hc hci (x :: xs) hi (by simp) hf hlen hk
theorem slice1_a {i ty : Nat} {o : Bool} (x : Smp) (w : Win) (hi : H[i]? = some (.row ty 2 [[.int .i64 w.a, .int .i64 w.b]] o)) (hk : K (.c (.bool (decide (x.t < w.a ∨ w.b ≤ x.t)))) H) : ACalls Try.prog 61 [.agg (encS x), .c (.ptr (some (i, 0, 0)))] H K := by
  have hi1 := getElem?_lt hi
  refine acalls Try.func61 rfl (by kernel_rfl) (by simp (disch := first | omega | (simp only [go_sem]; first | done | omega)) only [go_sem]) (fun hH => ?_)
  simp (disch := first | omega | (simp only [go_sem]; first | done | omega)) only [go_sem, hi]
  repeat' (first | ((first | refine acond_d ?_ ?_ | refine acond_b ?_ ?_ | refine ag_d ?_ ?_ | refine ag_n ?_ ?_ | refine ag_bt ?_ ?_ | refine ag_bf ?_ ?_) <;> intro c <;> try simp (disch := first | omega | (simp only [go_sem]; first | done | omega)) only [go_sem, c, hi]) | ((first | refine w_draw (by kernel_rfl) (by decide +kernel) ?_) <;> try simp (disch := first | omega | (simp only [go_sem]; first | done | omega)) only [go_sem, hi]))
  all_goals exact Ret.dropE hH (Nat.le_refl _) hk trivial (by simp only [AV.c.injEq, AC.bool.injEq]; rw [Bool.eq_iff_iff]; simp only [decide_eq_true_eq, Bool.true_eq, Bool.false_eq_true, false_iff, true_iff]; grind)
theorem sliceOf_a (l : List Smp) (w : Win) (hlen : l.length ≤ 1000000) (hk : K (.c (.lst 3 ((withinF l w).map encS))) H) : ACalls Try.prog 25 [.c (.lst 3 (l.map encS)), .agg (encW w)] H K := by
  refine acalls Try.func25 rfl (by kernel_rfl) (by simp (disch := first | omega | (simp only [go_sem]; first | done | omega)) only [go_sem]) (fun hH => ?_)
  simp (disch := first | omega | (simp only [go_sem]; first | done | omega)) only [go_sem]
  refine cloneS_a l (by omega) ?_
  simp (disch := first | omega | (simp only [go_sem]; first | done | omega)) only [go_sem]
  refine deleteClS_a 61 [(H.length, 0, 0)] (fun x => decide (x.t < w.a ∨ w.b ≤ x.t)) (by kernel_rfl) (by intro a b c hm; simp at hm; (try simp); omega) (by intro a b c hm; simp at hm; (try simp); omega) l (by first | exact at0 (by simp) | exact at1 (by simp) | exact at2 (by simp) | exact at3 (by simp) | exact at4 (by simp) | exact at5 (by simp) | exact atG 6 (by simp) rfl | exact atG 7 (by simp) rfl | exact atG 8 (by simp) rfl | exact atG 9 (by simp) rfl | exact atG 10 (by simp) rfl | assumption) (fun G x K hG _ hK => slice1_a x w ((hG _ _ _ (List.Mem.head _)).trans (by first | exact at0 (by simp) | exact at1 (by simp) | exact at2 (by simp) | exact at3 (by simp) | exact at4 (by simp) | exact at5 (by simp) | exact atG 6 (by simp) rfl | exact atG 7 (by simp) rfl | exact atG 8 (by simp) rfl | exact atG 9 (by simp) rfl | exact atG 10 (by simp) rfl | assumption)) hK) (by omega) ?_
  have e : l.filter (fun x => !decide (x.t < w.a ∨ w.b ≤ x.t)) = withinF l w := by
    unfold withinF
    refine List.filter_congr fun x _ => ?_
    rw [Bool.eq_iff_iff]
    simp only [Bool.not_eq_true', decide_eq_false_iff_not, decide_eq_true_eq]
    omega
  rw [e]
  simp (disch := first | omega | (simp only [go_sem]; first | done | omega)) only [go_sem]
  exact Ret.drop hH (Nat.le_refl _) trivial hk
end Go.Proofs.Ytbgoaanalfdenaa
