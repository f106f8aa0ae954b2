/- Several texts in one: The first error of some, and what follows. No condition. -/
import Derived.Test.YtnpdbnkgipkgaaaGreatHVGA
import Derived.Test.YtnpdbnkgipkgaaaGreatHVGB
/- The first error of some. No condition. -/
namespace Go.Proofs.YtnpdbnkgipkgaaaGreat
open Go Go.RowKit
set_option maxRecDepth 100000
set_option linter.all false
set_option maxHeartbeats 1000000
variable {H : Hp} {K : AV → Hp → Prop}
theorem errsGo_a (l : List Int) (hl : l.length ≤ 1000000) (hk : K (.c (.int .i64 (firstE l))) H) : ACalls Tryz.prog 36 [.c (.lst 1 (l.map encI))] H K := by
  refine acalls Tryz.func36 rfl (by kernel_rfl) (by simp (disch := first | omega | (simp only [go_sem]; first | done | omega)) only [go_sem]) (fun hH => ?_)
  simp (disch := first | omega | (simp only [go_sem]; first | done | omega)) only [go_sem]
  refine AWp.loop (H.length) [5, 6] [7] (fun (k : Nat) => k ≤ l.length ∧ firstE (l.drop k) = firstE l) (fun (k : Nat) => [(7, (.c (.int .i64 k)))]) (fun (k : Nat) => H) (fun (k : Nat) => l.length - k) (by kernel_rfl) (fun _ => rfl) (by kernel_rfl) (by first | (simp; done) | omega) (by first | (simp; done) | (simp; omega) | omega) (by (try simp only [List.forall_mem_cons, List.not_mem_nil, false_implies, implies_true, and_true]); (try simp (disch := first | omega | (simp only [go_sem]; first | done | omega)) only [go_sem]); all_goals first | trivial | (simp [AV.ok, AV.ok1, AC.ok]; done) | (simp [AV.ok, AV.ok1, AC.ok]; omega) | (simp [AV.ok, AV.ok1, AC.ok]; assumption) | ((repeat' apply And.intro) <;> first | trivial | (simp [AV.ok, AV.ok1, AC.ok]; done) | (simp [AV.ok, AV.ok1, AC.ok]; omega) | (simp [AV.ok, AV.ok1, AC.ok]; assumption) | (refine grV_ok ?_ _; first | (simp; done) | (simp; omega) | omega))) ?_ (fun k hk1 _ _ => ?_)
  · exact Next.mk 0 (by simp) (by (try simp (disch := first | omega | (simp only [go_sem]; first | done | omega)) only [go_sem]); (first | refine WkL.eq ?_ ?_ | refine WkL.rest (by assumption) ?_ ?_ ?_ | refine WkL.keepL (by assumption) rfl ?_ ?_ ?_ ?_) <;> first | rfl | (simp; done) | (simp; omega) | (simp only [List.cons.injEq, AV.c.injEq, AC.int.injEq, AC.bool.injEq, AC.str.injEq, and_true, true_and, Int.natCast_add, Int.natCast_one, Int.cast_ofNat_Int]; omega) | (simp [AV.ok, AV.ok1, AC.ok]; done) | (simp [AV.ok, AV.ok1, AC.ok]; omega) | (simp only [List.forall_mem_cons, List.not_mem_nil, false_implies, implies_true, and_true]; (repeat' apply And.intro) <;> first | exact okN_map (fun x => by simp [go_sem, AC.pure]) | exact okN_grO (fun x => by simp [go_sem, AC.pure]) | (simp [AObj.okN, AC.ok]; done) | (simp [AObj.okN, AC.ok]; omega)) | (simp [*]; done) | grind)
  · simp (disch := first | omega | (simp only [go_sem]; first | done | omega)) only [go_sem, *]
    repeat' (first | ((first | refine acond_d ?_ ?_ | refine acond_b ?_ ?_ | refine ag_d ?_ ?_ | refine ag_n ?_ ?_ | refine ag_bt ?_ ?_ | refine ag_bf ?_ ?_) <;> intro c <;> try simp (disch := first | omega | (simp only [go_sem]; first | done | omega)) only [go_sem, c]) | ((first | refine w_draw (by kernel_rfl) (by decide +kernel) ?_) <;> try simp (disch := first | omega | (simp only [go_sem]; first | done | omega)) only [go_sem]))
    · have := firstE_drop l k (by omega)
      exact Next.mk (k + 1) ⟨⟨by omega, by grind⟩, by omega⟩ (by (try simp (disch := first | omega | (simp only [go_sem]; first | done | omega)) only [go_sem]); (first | refine WkL.eq ?_ ?_ | refine WkL.rest (by assumption) ?_ ?_ ?_ | refine WkL.keepL (by assumption) rfl ?_ ?_ ?_ ?_) <;> first | rfl | (simp; done) | (simp; omega) | (simp only [List.cons.injEq, AV.c.injEq, AC.int.injEq, AC.bool.injEq, AC.str.injEq, and_true, true_and, Int.natCast_add, Int.natCast_one, Int.cast_ofNat_Int]; omega) | (simp [AV.ok, AV.ok1, AC.ok]; done) | (simp [AV.ok, AV.ok1, AC.ok]; omega) | (simp only [List.forall_mem_cons, List.not_mem_nil, false_implies, implies_true, and_true]; (repeat' apply And.intro) <;> first | exact okN_map (fun x => by simp [go_sem, AC.pure]) | exact okN_grO (fun x => by simp [go_sem, AC.pure]) | (simp [AObj.okN, AC.ok]; done) | (simp [AObj.okN, AC.ok]; omega)) | (simp [*]; done) | grind)
    · have := firstE_drop l k (by omega)
      (first | refine Ret.sameE (Nat.le_refl _) (by assumption) ?_ | refine Ret.dropE (by assumption) (Nat.le_refl _) (by assumption) (by simp [AV.ok, AV.ok1, AC.ok]) ?_) <;> (first | rfl | (simp only [AV.c.injEq, AC.bool.injEq]; rw [Bool.eq_iff_iff]; simp only [Bool.not_eq_true', decide_eq_true_eq, decide_eq_false_iff_not, Bool.and_eq_true, Bool.or_eq_true]; omega) | grind | (simp [*]; done) | (simp [*]; omega))
    · have : l.drop k = [] := List.drop_eq_nil_of_le (by omega)
      have h0 : firstE l = 0 := by rw [← hk1.2, this]; rfl
      (first | refine Ret.sameE (Nat.le_refl _) (by assumption) ?_ | refine Ret.dropE (by assumption) (Nat.le_refl _) (by assumption) (by simp [AV.ok, AV.ok1, AC.ok]) ?_) <;> (first | rfl | (simp only [AV.c.injEq, AC.bool.injEq]; rw [Bool.eq_iff_iff]; simp only [Bool.not_eq_true', decide_eq_true_eq, decide_eq_false_iff_not, Bool.and_eq_true, Bool.or_eq_true]; omega) | grind | (simp [*]; done) | (simp [*]; omega))
theorem errs_lit (a b : Int) {i ty n : Nat} {els : List (List AC)} {own : Bool} (hi : H[i]? = some (.row ty 1 els own)) (he : els = [a, b].map encI) (hn : n = 2) (hk : K (.c (.int .i64 (firstE [a, b]))) (H.set i .dead)) : ACalls Tryz.prog 36 [.c (.sl (some (i, 0)) n)] H K := by
  subst he hn
  exact ACalls.lit hi (by simp [pureL, encI, AC.pure]) (args' := [.c (.lst 1 ([a, b].map encI))]) (by simp [AV.frz1, AC.frz]) (errsGo_a [a, b] (by simp) hk)
end Go.Proofs.YtnpdbnkgipkgaaaGreat
/- The bins of a series, interval by interval: no program in sight. No condition. -/
namespace Go.Proofs.YtnpdbnkgipkgaaaGreat
open Go Go.RowKit
set_option maxRecDepth 100000
set_option linter.all false
def minL : List Int → Int
  | [] => 0
  | x :: t => t.foldl min x
def maxL : List Int → Int
  | [] => 0
  | x :: t => t.foldl max x
theorem minL_snoc (g : List Int) (v : Int) : minL (g ++ [v]) = if g = [] then v else min (minL g) v := by
  cases g with
  | nil => rfl
  | cons x t => simp [minL]
theorem maxL_snoc (g : List Int) (v : Int) : maxL (g ++ [v]) = if g = [] then v else max (maxL g) v := by
  cases g with
  | nil => rfl
  | cons x t => simp [maxL]
def mkB (f : Int) (g : List Int) (m : Int) : Bin := ⟨f, g.sum, g.length, m, minL g, maxL g⟩
theorem div_same {t q step : Int} (h0 : 0 < step) (h1 : q * step ≤ t) (h2 : t < q * step + step) : t / step = q := by
  have a : q ≤ t / step := (Int.le_ediv_iff_mul_le h0).2 h1
  have b : t / step < q + 1 := (Int.ediv_lt_iff_lt_mul h0).2 (by rw [Int.add_mul, Int.one_mul]; exact h2)
  omega
theorem mk_first (step : Int) (x : Smp) : binOf step x = mkB (x.t / step * step) (if x.q = 0 then [x.v] else []) (if x.q = 0 then 0 else 1) := by
  unfold binOf mkB
  split <;> simp [minL, maxL]
theorem put_first {out : List Bin} {b : Bin} (h : ∀ y ∈ out, y.a ≠ b.a) : putB out b = out ++ [b] := by
  unfold putB
  split
  · rename_i h0; rw [List.getLast?_eq_none_iff.1 h0]; rfl
  · rename_i y hy
    rw [if_neg (h y (List.mem_of_getLast? hy))]
theorem put_next (out : List Bin) (f : Int) (g : List Int) (m : Int) (step : Int) (x : Smp) (hf : x.t / step * step = f) (hne : g ≠ [] ∨ m ≠ 0) : putB (out ++ [mkB f g m]) (binOf step x) = out ++ [mkB f (if x.q = 0 then g ++ [x.v] else g) (if x.q = 0 then m else m + 1)] := by
  have h1 : (binOf step x).a = f := by unfold binOf; split <;> exact hf
  unfold putB
  rw [List.getLast?_concat]
  dsimp only
  rw [if_pos (by rw [h1]; rfl), List.dropLast_concat]
  congr 2
  unfold binOf combB
  by_cases hq : x.q = 0
  · rw [if_pos hq, if_pos hq, if_pos hq]
    by_cases hg : g = []
    · subst hg; simp [mkB, minL, maxL]
    · have hl : g.length ≠ 0 := by simpa using hg
      have hl2 : (g.length : Int) ≠ 0 := by omega
      simp only [mkB, minL_snoc, maxL_snoc, if_neg hg, if_neg hl2]
      simp [hg]
  · rw [if_neg hq, if_neg hq, if_neg hq]
    by_cases hg : g = []
    · subst hg; simp [mkB, minL, maxL]
    · have hl : g.length ≠ 0 := by simpa using hg
      have hl2 : (g.length : Int) ≠ 0 := by omega
      simp only [mkB, if_neg hl2]
      simp
theorem binsF_next {l : List Smp} {k : Nat} (step : Int) (h : k < l.length) : binsF step (l.take (k + 1)) = putB (binsF step (l.take k)) (binOf step l[k]) := by
  rw [List.take_succ_eq_append_getElem h, binsF_snoc]
def incS (l : List Smp) : Prop := ∀ (i j : Nat) (hj : j < l.length) (hij : i < j), (l[i]'(by omega)).t < l[j].t
theorem errGo_pair {α : Type} (f : Nat → α → α → Int) (p0 : α) (l : List α) (h : errGo f 0 p0 l = 0) : ∀ k (hk : k < l.length), f k (prv p0 l k) l[k] = 0 := by
  have key : ∀ k, k ≤ l.length → errGo f k (prv p0 l k) (l.drop k) = 0 := by
    intro k
    induction k with
    | zero => intro _; exact h
    | succ k ih =>
      intro hk
      have h1 := ih (by omega)
      rw [errGo_step f p0 l k (by omega)] at h1
      split at h1
      · exact h1
      · rename_i h2; exact absurd h1 h2
  intro k hk
  have h1 := key k (by omega)
  rw [errGo_step f p0 l k hk] at h1
  split at h1
  · assumption
  · exact h1
theorem serF_inc {l : List Smp} (h : serF l = 0) : incS l := by
  have h1 : errGo serErr 0 ⟨0, 0, 0⟩ l = 0 := by
    unfold serF at h
    split at h
    · cases h
    · exact h
  have h2 := errGo_pair serErr _ l h1
  have step : ∀ (k : Nat) (hk : k + 1 < l.length), (l[k]'(by omega)).t < l[k + 1].t := by
    intro k hk
    have h3 := h2 (k + 1) hk
    rw [prv_succ _ _ k (by omega)] at h3
    unfold serErr at h3
    split at h3
    · rename_i h4; exact absurd h3 h4
    · split at h3
      · cases h3
      · omega
  intro i j hj hij
  induction j with
  | zero => omega
  | succ j ih =>
    rcases Nat.lt_or_ge i j with h4 | h4
    · exact Int.lt_trans (ih (by omega) h4) (step j hj)
    · obtain rfl : i = j := by omega
      exact step i hj
end Go.Proofs.YtnpdbnkgipkgaaaGreat
/- Levels that are made to fit stay right ones: no program in sight. No condition. -/
namespace Go.Proofs.YtnpdbnkgipkgaaaGreat
open Go Go.RowKit
set_option maxRecDepth 100000
set_option linter.all false
theorem errGo_of {α : Type} (f : Nat → α → α → Int) (p0 : α) (l : List α) (h : ∀ k (hk : k < l.length), f k (prv p0 l k) l[k] = 0) : errGo f 0 p0 l = 0 := by
  have key : ∀ d k, k + d = l.length → errGo f k (prv p0 l k) (l.drop k) = 0 := by
    intro d
    induction d with
    | zero => intro k hk; exact errGo_end f _ l k (by omega)
    | succ d ih =>
      intro k hk
      rw [errGo_step f p0 l k (by omega), if_pos (h k (by omega))]
      exact ih (k + 1) (by omega)
  have := key l.length 0 (by omega)
  rwa [prv_zero, List.drop_zero] at this
theorem errGo_all0 {α : Type} (f : Nat → α → α → Int) (p0 : α) (l : List α) (h : errGo f 0 p0 l = 0) : ∀ k (hk : k < l.length), f k (prv p0 l k) l[k] = 0 := by
  have key : ∀ k, k ≤ l.length → errGo f k (prv p0 l k) (l.drop k) = 0 := by
    intro k
    induction k with
    | zero => intro _; exact h
    | succ k ih =>
      intro hk
      have h1 := ih (by omega)
      rw [errGo_step f p0 l k (by omega)] at h1
      split at h1
      · exact h1
      · rename_i h2; exact absurd h1 h2
  intro k hk
  have h1 := key k (by omega)
  rw [errGo_step f p0 l k hk] at h1
  split at h1
  · assumption
  · exact h1
theorem lvF_all {l : List Level} (h : lvF l = 0) : ∀ k (hk : k < l.length), lvErr k (prv ⟨0, 0⟩ l k) l[k] = 0 := by
  unfold lvF at h
  split at h
  · cases h
  · split at h
    · cases h
    · exact errGo_all0 _ _ _ h
theorem lvErr_ok {i : Nat} {p x : Level} (h : lvErr i p x = 0) : (x.step ≠ 0 → isStep x.step) ∧ 1 ≤ x.keep ∧ x.keep ≤ 345686400000 ∧ (i = 0 ↔ x.step = 0) ∧ (0 < i → p.step < x.step ∧ p.keep < x.keep) ∧ (1 < i → x.step % p.step = 0) := by
  unfold lvErr at h
  split at h
  · cases h
  · rename_i h1
    split at h
    · cases h
    · rename_i h2
      split at h
      · cases h
      · rename_i h3
        split at h
        · cases h
        · rename_i h4
          refine ⟨fun e => Classical.byContradiction fun n => h1 (.inl ⟨e, n⟩), by omega, by omega, by omega, by omega, by omega⟩
theorem lvErr_of {i : Nat} {p x : Level} (h1 : x.step ≠ 0 → isStep x.step) (h2 : 1 ≤ x.keep) (h3 : x.keep ≤ 345686400000) (h4 : i = 0 ↔ x.step = 0) (h5 : 0 < i → p.step < x.step ∧ p.keep < x.keep) (h6 : 1 < i → x.step % p.step = 0) : lvErr i p x = 0 := by
  unfold lvErr
  rw [if_neg (by rintro (⟨a, b⟩ | h | h); exact b (h1 a); all_goals omega), if_neg (by omega), if_neg (by rintro ⟨a, b⟩; have := h5 a; omega), if_neg (by rintro ⟨a, b⟩; exact b (h6 a))]
theorem lvF_set {l : List Level} {i : Nat} {k' : Int} (hl : lvF l = 0) (hi : i < l.length) (h1 : k' ≤ l[i].keep) (h2 : 1 ≤ k') (h3 : ∀ h : 0 < i, (l[i - 1]'(by omega)).keep < k') : lvF (l.set i ⟨l[i].step, k'⟩) = 0 := by
  have h6 : l.length ≤ 6 := by
    unfold lvF at hl
    split at hl
    · cases hl
    · split at hl
      · cases hl
      · omega
  have hall := lvF_all hl
  unfold lvF
  rw [if_neg (by rw [List.length_set]; omega), if_neg (by rw [List.length_set]; omega)]
  refine errGo_of _ _ _ fun k hk => ?_
  rw [List.length_set] at hk
  obtain ⟨a1, a2, a3, a4, a5, a6⟩ := lvErr_ok (hall k hk)
  have ep : k = 0 ∨ ∃ j, k = j + 1 ∧ j < l.length := by
    cases k with
    | zero => exact .inl rfl
    | succ j => exact .inr ⟨j, rfl, by omega⟩
  by_cases hki : k = i
  · subst hki
    rw [List.getElem_set_self]
    refine lvErr_of a1 h2 (by dsimp only; omega) a4 (fun h => ?_) (fun h => ?_)
    · rcases ep with rfl | ⟨j, rfl, hj⟩
      · omega
      · have h4 := h3 h
        have h5 := a5 h
        rw [prv_succ _ _ _ (by simpa using hj), List.getElem_set_ne (by omega)]
        rw [prv_succ _ _ _ hj] at h5
        exact ⟨h5.1, by simpa using h4⟩
    · rcases ep with rfl | ⟨j, rfl, hj⟩
      · omega
      · have h5 := a6 h
        rw [prv_succ _ _ _ (by simpa using hj), List.getElem_set_ne (by omega)]
        rw [prv_succ _ _ _ hj] at h5
        exact h5
  · rw [List.getElem_set_ne (Ne.symm hki)]
    refine lvErr_of a1 a2 a3 a4 (fun h => ?_) (fun h => ?_)
    · rcases ep with rfl | ⟨j, rfl, hj⟩
      · omega
      · have h5 := a5 h
        rw [prv_succ _ _ _ hj] at h5
        rw [prv_succ _ _ _ (by simpa using hj)]
        by_cases hji : j = i
        · subst hji
          rw [List.getElem_set_self]
          exact ⟨h5.1, by dsimp only; omega⟩
        · rw [List.getElem_set_ne (Ne.symm hji)]; exact h5
    · rcases ep with rfl | ⟨j, rfl, hj⟩
      · omega
      · have h5 := a6 h
        rw [prv_succ _ _ _ hj] at h5
        rw [prv_succ _ _ _ (by simpa using hj)]
        by_cases hji : j = i
        · subst hji
          rw [List.getElem_set_self]
          exact h5
        · rw [List.getElem_set_ne (Ne.symm hji)]; exact h5
/-- the same levels, kept no longer -/
def Down (l l' : List Level) : Prop := l'.length = l.length ∧ ∀ k (h : k < l.length) (h' : k < l'.length), l'[k].step = l[k].step ∧ l'[k].keep ≤ l[k].keep
theorem Down.refl (l : List Level) : Down l l := ⟨rfl, fun _ _ _ => ⟨rfl, Int.le_refl _⟩⟩
theorem fitGo_right (rate quota : Int) : ∀ (n i : Nat) (least : Int) (l : List Level), lvF l = 0 → n + i = l.length → 1 ≤ least → (i = 0 → least = 1) → (∀ h : 0 < i ∧ i - 1 < l.length, least = l[i - 1].keep + 1) → lvF (fitGo rate quota n i least l) = 0 ∧ Down l (fitGo rate quota n i least l)
  | 0, i, least, l, hl, _, _, _, _ => ⟨hl, Down.refl l⟩
  | n + 1, i, least, l, hl, hn, h1, h0, hp => by
    by_cases hc : costs l rate ≤ quota
    · have e : fitGo rate quota (n + 1) i least l = l := by simp [fitGo, hc]
      rw [e]; exact ⟨hl, Down.refl l⟩
    · have hi : i < l.length := by omega
      rw [fitGo_step hc hi]
      have hlow : least ≤ l[i].keep := by
        obtain ⟨a1, a2, a3, a4, a5, a6⟩ := lvErr_ok (lvF_all hl i hi)
        rcases Nat.eq_zero_or_pos i with h | h
        · rw [h0 h]; exact a2
        · have h4 := (a5 h).2
          rw [prv_pos _ _ _ (by omega) h] at h4
          have := hp ⟨h, by omega⟩
          omega
      generalize hk : keepL l l[i] least rate quota = k'
      have hk1 : least ≤ k' ∧ k' ≤ l[i].keep := by
        rw [← hk]; unfold keepL; omega
      have hs := lvF_set hl hi hk1.2 (by omega) (fun h => by have := hp ⟨h, by omega⟩; omega)
      obtain ⟨g1, g2, g3⟩ := fitGo_right rate quota n (i + 1) (k' + 1) (l.set i ⟨l[i].step, k'⟩) hs (by rw [List.length_set]; omega) (by omega) (by omega) (fun h => by simp)
      refine ⟨g1, ?_, fun k h h' => ?_⟩
      · rw [g2, List.length_set]
      · obtain ⟨g4, g5⟩ := g3 k (by rw [List.length_set]; exact h) h'
        rw [g4]
        by_cases hki : k = i
        · subst hki
          rw [List.getElem_set_self] at g5 ⊢
          exact ⟨rfl, by dsimp only at g5; omega⟩
        · rw [List.getElem_set_ne (Ne.symm hki)] at g5 ⊢
          exact ⟨rfl, g5⟩
theorem upDiv_bd {a b : Int} (ha : 0 ≤ a) (hb : 1 ≤ b) : 0 ≤ upDiv a b ∧ upDiv a b ≤ a + b - 1 := by
  unfold upDiv
  exact ⟨Int.ediv_nonneg (by omega) (by omega), Int.ediv_le_self _ (by omega)⟩
/-- with the cost as the quota nothing changes -/
theorem fitRes_same {l : List Level} {rate q : Int} (hr : rateErr l rate = 0) (hq : 1 ≤ q ∧ q ≤ 1000000) (hc : costs l rate ≤ q) : fitRes l rate q = (l, true, 0) := by
  have e : fitGo rate q l.length 0 1 l = l := by
    cases l.length with
    | zero => rfl
    | succ n => simp [fitGo, hc]
  unfold fitRes
  rw [if_neg (by rw [hr]; simp), if_neg (by omega), e, if_neg (by omega)]
/-- either there are levels that fit, or there are none, and all cost too much -/
theorem fitRes_cases {l : List Level} {rate q : Int} (hr : rateErr l rate = 0) (hl : lvF l = 0) (hq : 1 ≤ q ∧ q ≤ 1000000) : (fitRes l rate q = ([], false, 0) ∧ q < costs l rate) ∨ ∃ l', fitRes l rate q = (l', true, 0) ∧ lvF l' = 0 ∧ Down l l' ∧ costs l' rate ≤ q := by
  obtain ⟨g1, g2⟩ := fitGo_right rate q l.length 0 1 l hl (by omega) (by omega) (fun _ => rfl) (fun h => by omega)
  by_cases hc : q < costs (fitGo rate q l.length 0 1 l) rate
  · left
    refine ⟨?_, ?_⟩
    · unfold fitRes
      rw [if_neg (by rw [hr]; simp), if_neg (by omega), if_pos hc]
    · apply Classical.byContradiction
      intro h
      have e : fitGo rate q l.length 0 1 l = l := by
        cases l.length with
        | zero => rfl
        | succ n => simp [fitGo]; omega
      rw [e] at hc
      omega
  · right
    refine ⟨_, ?_, g1, g2, by omega⟩
    unfold fitRes
    rw [if_neg (by rw [hr]; simp), if_neg (by omega), if_neg hc]
end Go.Proofs.YtnpdbnkgipkgaaaGreat
/- What keeps a series right: no program in sight. No condition. -/
namespace Go.Proofs.YtnpdbnkgipkgaaaGreat
open Go Go.RowKit
set_option maxRecDepth 100000
set_option linter.all false
theorem snoc_or {α : Type} (l : List α) : l = [] ∨ ∃ L b, l = L ++ [b] := by
  by_cases h : l = []
  · exact .inl h
  · exact .inr ⟨l.dropLast, l.getLast h, (List.dropLast_concat_getLast h).symm⟩
theorem snoc_ind {α : Type} {P : List α → Prop} (h0 : P []) (h1 : ∀ l x, P l → P (l ++ [x])) (l : List α) : P l := by
  have key : ∀ n, ∀ l : List α, l.length = n → P l := by
    intro n
    induction n with
    | zero => intro l h; rw [List.eq_nil_of_length_eq_zero h]; exact h0
    | succ n ih =>
      intro l h
      rcases snoc_or l with rfl | ⟨L, b, rfl⟩
      · exact h0
      · exact h1 _ _ (ih _ (by simpa using h))
  exact key _ l rfl
theorem incS_iff {l : List Smp} : incS l ↔ l.Pairwise (fun x y => x.t < y.t) := ⟨fun h => List.pairwise_iff_getElem.2 fun i j hi hj hij => h i j hj hij, fun h i j hj hij => List.pairwise_iff_getElem.1 h i j (by omega) hj hij⟩
theorem serF_of {l : List Smp} (h1 : l.length ≤ 5000) (h2 : ∀ x ∈ l, smpErr x = 0) (h3 : incS l) : serF l = 0 := by
  unfold serF
  rw [if_neg (by omega)]
  refine errGo_of _ _ _ fun k hk => ?_
  have hs := h2 l[k] (List.getElem_mem hk)
  unfold serErr
  rw [if_neg (by simp [hs]), if_neg]
  rintro ⟨a, b⟩
  rw [prv_pos _ _ _ (by omega) a] at b
  have := h3 (k - 1) k hk (by omega)
  omega
theorem serF_sub {l l' : List Smp} (h : serF l = 0) (hs : l'.Sublist l) : serF l' = 0 := by
  obtain ⟨h1, h2⟩ := serF_ok h
  exact serF_of (Nat.le_trans hs.length_le h1) (fun x hx => h2 x (hs.mem hx)) (incS_iff.2 ((incS_iff.1 (serF_inc h)).sublist hs))
theorem serF_map {l : List Smp} (f : Smp → Smp) (h : serF l = 0) (ht : ∀ x ∈ l, (f x).t = x.t) (he : ∀ x ∈ l, smpErr (f x) = 0) : serF (l.map f) = 0 := by
  obtain ⟨h1, h2⟩ := serF_ok h
  refine serF_of (by simpa using h1) (fun x hx => ?_) (fun i j hj hij => ?_)
  · obtain ⟨y, hy, rfl⟩ := List.mem_map.1 hx
    exact he y hy
  · rw [List.length_map] at hj
    rw [List.getElem_map, List.getElem_map, ht _ (List.getElem_mem _), ht _ (List.getElem_mem _)]
    exact serF_inc h i j hj hij
end Go.Proofs.YtnpdbnkgipkgaaaGreat
/- The document's bins of a series. Condition: the times rise, numbers are small. -/
namespace Go.Proofs.YtnpdbnkgipkgaaaGreat
open Go Go.RowKit
set_option maxRecDepth 100000
set_option linter.all false
set_option maxHeartbeats 1000000
variable {H : Hp} {K : AV → Hp → Prop}
theorem pureL_encI (l : List Int) : pureL (l.map encI) = true := by simp [pureL, encI, AC.pure]
theorem minI_a (g : List Int) (h0 : g ≠ []) (hl : g.length ≤ 1000000) (hk : K (.c (.int .i64 (minL g))) H) : ACalls Tryz.prog 101 [.c (.lst 1 (g.map encI))] H K := by
  have h1 : 0 < g.length := List.length_pos_iff.2 h0
  have h2 : minL (g.take 1) = g[0] := by cases g with | nil => exact absurd rfl h0 | cons x t => rfl
  refine acalls Tryz.func101 rfl (by kernel_rfl) (by simp (disch := first | omega | (simp only [go_sem]; first | done | omega)) only [go_sem]) (fun hH => ?_)
  simp (disch := first | omega | (simp only [go_sem]; first | done | omega)) only [go_sem]
  refine AWp.loop (H.length) [0] [4, 3] (fun (k : Nat) => 1 ≤ k ∧ k ≤ g.length) (fun (k : Nat) => [(4, (.c (.int .i64 k))), (3, (.c (.int .i64 (minL (g.take k)))))]) (fun (k : Nat) => H) (fun (k : Nat) => g.length - k) (by kernel_rfl) (fun _ => rfl) (by kernel_rfl) (by first | (simp; done) | omega) (by first | (simp; done) | (simp; omega) | omega) (by (try simp only [List.forall_mem_cons, List.not_mem_nil, false_implies, implies_true, and_true]); (try simp (disch := first | omega | (simp only [go_sem]; first | done | omega)) only [go_sem]); all_goals first | trivial | (simp [AV.ok, AV.ok1, AC.ok]; done) | (simp [AV.ok, AV.ok1, AC.ok]; omega) | (simp [AV.ok, AV.ok1, AC.ok]; assumption) | ((repeat' apply And.intro) <;> first | trivial | (simp [AV.ok, AV.ok1, AC.ok]; done) | (simp [AV.ok, AV.ok1, AC.ok]; omega) | (simp [AV.ok, AV.ok1, AC.ok]; assumption) | (refine grV_ok ?_ _; first | (simp; done) | (simp; omega) | omega))) ?_ (fun k hk1 _ _ => ?_)
  · exact Next.mk 1 ⟨by omega, by omega⟩ (by rw [h2]; (try simp (disch := first | omega | (simp only [go_sem]; first | done | omega)) only [go_sem]); (first | refine WkL.eq ?_ ?_ | refine WkL.rest (by assumption) ?_ ?_ ?_ | refine WkL.keepL (by assumption) rfl ?_ ?_ ?_ ?_) <;> first | rfl | (simp; done) | (simp; omega) | (simp only [List.cons.injEq, AV.c.injEq, AC.int.injEq, AC.bool.injEq, AC.str.injEq, and_true, true_and, Int.natCast_add, Int.natCast_one, Int.cast_ofNat_Int]; omega) | (simp [AV.ok, AV.ok1, AC.ok]; done) | (simp [AV.ok, AV.ok1, AC.ok]; omega) | (simp only [List.forall_mem_cons, List.not_mem_nil, false_implies, implies_true, and_true]; (repeat' apply And.intro) <;> first | exact okN_map (fun x => by simp [go_sem, AC.pure]) | exact okN_grO (fun x => by simp [go_sem, AC.pure]) | (simp [AObj.okN, AC.ok]; done) | (simp [AObj.okN, AC.ok]; omega)) | (simp [*]; done) | grind)
  by_cases hlt : k < g.length
  · have h3 : minL (g.take (k + 1)) = min (minL (g.take k)) g[k] := by
      rw [List.take_succ_eq_append_getElem hlt, minL_snoc, if_neg (by intro h; have := congrArg List.length h; rw [List.length_take] at this; simp only [List.length_nil] at this; omega)]
    simp (disch := first | omega | (simp only [go_sem]; first | done | omega)) only [go_sem]
    exact Next.mk (k + 1) ⟨⟨by omega, by omega⟩, by omega⟩ (by rw [h3]; (try simp (disch := first | omega | (simp only [go_sem]; first | done | omega)) only [go_sem]); (first | refine WkL.eq ?_ ?_ | refine WkL.rest (by assumption) ?_ ?_ ?_ | refine WkL.keepL (by assumption) rfl ?_ ?_ ?_ ?_) <;> first | rfl | (simp; done) | (simp; omega) | (simp only [List.cons.injEq, AV.c.injEq, AC.int.injEq, AC.bool.injEq, AC.str.injEq, and_true, true_and, Int.natCast_add, Int.natCast_one, Int.cast_ofNat_Int]; omega) | (simp [AV.ok, AV.ok1, AC.ok]; done) | (simp [AV.ok, AV.ok1, AC.ok]; omega) | (simp only [List.forall_mem_cons, List.not_mem_nil, false_implies, implies_true, and_true]; (repeat' apply And.intro) <;> first | exact okN_map (fun x => by simp [go_sem, AC.pure]) | exact okN_grO (fun x => by simp [go_sem, AC.pure]) | (simp [AObj.okN, AC.ok]; done) | (simp [AObj.okN, AC.ok]; omega)) | (simp [*]; done) | grind)
  · simp (disch := first | omega | (simp only [go_sem]; first | done | omega)) only [go_sem]
    try rw [List.take_of_length_le (by omega)]
    exact Ret.same (Nat.le_refl _) hk
theorem maxI_a (g : List Int) (h0 : g ≠ []) (hl : g.length ≤ 1000000) (hk : K (.c (.int .i64 (maxL g))) H) : ACalls Tryz.prog 102 [.c (.lst 1 (g.map encI))] H K := by
  have h1 : 0 < g.length := List.length_pos_iff.2 h0
  have h2 : maxL (g.take 1) = g[0] := by cases g with | nil => exact absurd rfl h0 | cons x t => rfl
  refine acalls Tryz.func102 rfl (by kernel_rfl) (by simp (disch := first | omega | (simp only [go_sem]; first | done | omega)) only [go_sem]) (fun hH => ?_)
  simp (disch := first | omega | (simp only [go_sem]; first | done | omega)) only [go_sem]
  refine AWp.loop (H.length) [0] [4, 3] (fun (k : Nat) => 1 ≤ k ∧ k ≤ g.length) (fun (k : Nat) => [(4, (.c (.int .i64 k))), (3, (.c (.int .i64 (maxL (g.take k)))))]) (fun (k : Nat) => H) (fun (k : Nat) => g.length - k) (by kernel_rfl) (fun _ => rfl) (by kernel_rfl) (by first | (simp; done) | omega) (by first | (simp; done) | (simp; omega) | omega) (by (try simp only [List.forall_mem_cons, List.not_mem_nil, false_implies, implies_true, and_true]); (try simp (disch := first | omega | (simp only [go_sem]; first | done | omega)) only [go_sem]); all_goals first | trivial | (simp [AV.ok, AV.ok1, AC.ok]; done) | (simp [AV.ok, AV.ok1, AC.ok]; omega) | (simp [AV.ok, AV.ok1, AC.ok]; assumption) | ((repeat' apply And.intro) <;> first | trivial | (simp [AV.ok, AV.ok1, AC.ok]; done) | (simp [AV.ok, AV.ok1, AC.ok]; omega) | (simp [AV.ok, AV.ok1, AC.ok]; assumption) | (refine grV_ok ?_ _; first | (simp; done) | (simp; omega) | omega))) ?_ (fun k hk1 _ _ => ?_)
  · exact Next.mk 1 ⟨by omega, by omega⟩ (by rw [h2]; (try simp (disch := first | omega | (simp only [go_sem]; first | done | omega)) only [go_sem]); (first | refine WkL.eq ?_ ?_ | refine WkL.rest (by assumption) ?_ ?_ ?_ | refine WkL.keepL (by assumption) rfl ?_ ?_ ?_ ?_) <;> first | rfl | (simp; done) | (simp; omega) | (simp only [List.cons.injEq, AV.c.injEq, AC.int.injEq, AC.bool.injEq, AC.str.injEq, and_true, true_and, Int.natCast_add, Int.natCast_one, Int.cast_ofNat_Int]; omega) | (simp [AV.ok, AV.ok1, AC.ok]; done) | (simp [AV.ok, AV.ok1, AC.ok]; omega) | (simp only [List.forall_mem_cons, List.not_mem_nil, false_implies, implies_true, and_true]; (repeat' apply And.intro) <;> first | exact okN_map (fun x => by simp [go_sem, AC.pure]) | exact okN_grO (fun x => by simp [go_sem, AC.pure]) | (simp [AObj.okN, AC.ok]; done) | (simp [AObj.okN, AC.ok]; omega)) | (simp [*]; done) | grind)
  by_cases hlt : k < g.length
  · have h3 : maxL (g.take (k + 1)) = max (maxL (g.take k)) g[k] := by
      rw [List.take_succ_eq_append_getElem hlt, maxL_snoc, if_neg (by intro h; have := congrArg List.length h; rw [List.length_take] at this; simp only [List.length_nil] at this; omega)]
    simp (disch := first | omega | (simp only [go_sem]; first | done | omega)) only [go_sem]
    exact Next.mk (k + 1) ⟨⟨by omega, by omega⟩, by omega⟩ (by rw [h3]; (try simp (disch := first | omega | (simp only [go_sem]; first | done | omega)) only [go_sem]); (first | refine WkL.eq ?_ ?_ | refine WkL.rest (by assumption) ?_ ?_ ?_ | refine WkL.keepL (by assumption) rfl ?_ ?_ ?_ ?_) <;> first | rfl | (simp; done) | (simp; omega) | (simp only [List.cons.injEq, AV.c.injEq, AC.int.injEq, AC.bool.injEq, AC.str.injEq, and_true, true_and, Int.natCast_add, Int.natCast_one, Int.cast_ofNat_Int]; omega) | (simp [AV.ok, AV.ok1, AC.ok]; done) | (simp [AV.ok, AV.ok1, AC.ok]; omega) | (simp only [List.forall_mem_cons, List.not_mem_nil, false_implies, implies_true, and_true]; (repeat' apply And.intro) <;> first | exact okN_map (fun x => by simp [go_sem, AC.pure]) | exact okN_grO (fun x => by simp [go_sem, AC.pure]) | (simp [AObj.okN, AC.ok]; done) | (simp [AObj.okN, AC.ok]; omega)) | (simp [*]; done) | grind)
  · simp (disch := first | omega | (simp only [go_sem]; first | done | omega)) only [go_sem]
    try rw [List.take_of_length_le (by omega)]
    exact Ret.same (Nat.le_refl _) hk
theorem minGr_a (g : List Int) {i : Nat} (hi : H[i]? = some (grO 3 1 (g.map encI))) (h0 : g ≠ []) (hl : g.length ≤ 1000000) (hk : K (.c (.int .i64 (minL g))) H) : ACalls Tryz.prog 101 [.c (grV i g)] H K := by
  rw [← map_grV encI]
  exact ACalls.lendGr (.c (.int .i64 (minL g))) hi (pureL_encI g) rfl rfl rfl (by simp) (fun G J hJ => minI_a g h0 hl hJ) hk
theorem maxGr_a (g : List Int) {i : Nat} (hi : H[i]? = some (grO 3 1 (g.map encI))) (h0 : g ≠ []) (hl : g.length ≤ 1000000) (hk : K (.c (.int .i64 (maxL g))) H) : ACalls Tryz.prog 102 [.c (grV i g)] H K := by
  rw [← map_grV encI]
  exact ACalls.lendGr (.c (.int .i64 (maxL g))) hi (pureL_encI g) rfl rfl rfl (by simp) (fun G J hJ => maxI_a g h0 hl hJ) hk
def Smp.small (x : Smp) : Prop := 0 ≤ x.t ∧ x.t ≤ 345686399999 ∧ -1000000 ≤ x.v ∧ x.v ≤ 1000000
theorem sum_bd : ∀ (g : List Int), (∀ v ∈ g, -1000000 ≤ v ∧ v ≤ 1000000) → -1000000 * (g.length : Int) ≤ g.sum ∧ g.sum ≤ 1000000 * (g.length : Int)
  | [], _ => by simp
  | x :: t, h => by
    have h1 := h x (by simp)
    have h2 := sum_bd t (fun v hv => h v (by simp [hv]))
    simp only [List.sum_cons, List.length_cons]
    omega
end Go.Proofs.YtnpdbnkgipkgaaaGreat
/- Samples that are drawn. No condition. -/
namespace Go.Proofs.YtnpdbnkgipkgaaaGreat
open Go Go.RowKit
set_option maxRecDepth 100000
set_option linter.all false
set_option maxHeartbeats 1000000
variable {H : Hp} {K : AV → Hp → Prop}
theorem odd_a (s : Nat) (zs : List Int) (j lo hi : Int) (hs : Str H s zs j) (hj : j ≤ 1099000000000) (h1 : -1000000000000 ≤ lo) (h2 : lo ≤ hi) (h3 : hi ≤ 1000000000000)
    (hk : ∀ (r j' : Int), j ≤ j' → j' ≤ j + 2 → (lo - 1 ≤ r ∧ r ≤ hi + 1) ∨ r = -1099511627776 ∨ r = 1099511627776 → K (.c (.int .i64 r)) (H.set s (strO zs j'))) : ACalls Tryz.prog 7 [.c (.ptr (some (s, 0, 0))), (.c (.int .i64 lo)), (.c (.int .i64 hi))] H K := by
  have hlt := hs.lt
  have hpos := hs.pos
  have hne : H.length ≠ s := by omega
  refine acalls Tryz.func7 rfl (by kernel_rfl) (by simp (disch := first | omega | (simp only [go_sem]; first | done | omega)) only [go_sem]) (fun hH => ?_)
  simp (disch := first | omega | (simp only [go_sem]; first | done | omega)) only [go_sem]
  refine flip_a s zs j 12 (by first | exact hs | exact hs.app _ | exact hs.set (by omega) (by omega) | exact (hs.set (by omega) (by omega)).app _) (by omega) (by omega) (fun b => ?_)
  simp (disch := first | omega | (simp only [go_sem]; first | done | omega)) only [go_sem]
  refine acond_b (fun c => ?_) (fun c => ?_)
  · simp (disch := first | omega | (simp only [go_sem]; first | done | omega)) only [go_sem]
    refine pick_lit s zs (j + 1) [lo - 1, hi + 1, lo, hi, -1099511627776, 1099511627776] (by first | exact at0 (by simp) | exact at1 (by simp) | exact at2 (by simp) | exact at3 (by simp) | exact at4 (by simp) | exact at5 (by simp) | exact atG 6 (by simp) rfl | exact atG 7 (by simp) rfl | exact atG 8 (by simp) rfl | exact atG 9 (by simp) rfl | exact atG 10 (by simp) rfl | exact atG 11 (by simp) rfl | exact atG 12 (by simp) rfl | exact atG 13 (by simp) rfl | exact atG 14 (by simp) rfl | exact atG 15 (by simp) rfl | assumption) rfl rfl (by first | exact hs | exact hs.app _ | exact hs.set (by omega) (by omega) | exact (hs.set (by omega) (by omega)).app _) (by omega) (by simp) (by simp) (fun r hr => ?_)
    simp only [List.mem_cons, List.not_mem_nil, or_false] at hr
    simp (disch := first | omega | (simp only [go_sem]; first | done | omega)) only [go_sem]
    exact Ret.drop (HOk.str hH) (by simp) trivial (hk r (j + 1 + 1) (by omega) (by omega) (by omega))
  · simp (disch := first | omega | (simp only [go_sem]; first | done | omega)) only [go_sem]
    refine range_a s zs (j + 1) lo hi (by first | exact hs | exact hs.app _ | exact hs.set (by omega) (by omega) | exact (hs.set (by omega) (by omega)).app _) (by omega) (by omega) (by omega) (fun r h4 h5 => ?_)
    simp (disch := first | omega | (simp only [go_sem]; first | done | omega)) only [go_sem]
    exact Ret.same (by simp) (hk r (j + 1 + 1) (by omega) (by omega) (by omega))
theorem oneSample_a (s : Nat) (zs : List Int) (j : Int) (hs : Str H s zs j) (hj : j ≤ 1099000000000)
    (hk : ∀ (x : Smp), (-1 ≤ x.t ∧ x.t ≤ 345686400000) → (-9223372036854775808 ≤ x.v ∧ x.v ≤ 4611686018427387904) → (-1 ≤ x.q ∧ x.q ≤ 3) → K (.agg (encS x)) (H.set s (strO zs (j + 1 + 1 + 1)))) : ACalls Tryz.prog 60 [.c (.ptr (some (s, 0, 0)))] H K := by
  have hlt := hs.lt
  have hpos := hs.pos
  have hne : H.length ≠ s := by omega
  refine acalls Tryz.func60 rfl (by kernel_rfl) (by simp (disch := first | omega | (simp only [go_sem]; first | done | omega)) only [go_sem]) (fun hH => ?_)
  simp (disch := first | omega | (simp only [go_sem]; first | done | omega)) only [go_sem]
  refine pick_lit s zs j [0, 50, 345686399999, 345686400000, -1] (by first | exact at0 (by simp) | exact at1 (by simp) | exact at2 (by simp) | exact at3 (by simp) | exact at4 (by simp) | exact at5 (by simp) | exact atG 6 (by simp) rfl | exact atG 7 (by simp) rfl | exact atG 8 (by simp) rfl | exact atG 9 (by simp) rfl | exact atG 10 (by simp) rfl | exact atG 11 (by simp) rfl | exact atG 12 (by simp) rfl | exact atG 13 (by simp) rfl | exact atG 14 (by simp) rfl | exact atG 15 (by simp) rfl | assumption) rfl rfl (by first | exact hs | exact hs.app _ | exact hs.set (by omega) (by omega) | exact (hs.set (by omega) (by omega)).app _) (by omega) (by simp) (by simp) (fun a ha => ?_)
  simp (disch := first | omega | (simp only [go_sem]; first | done | omega)) only [go_sem]
  refine pick_lit s zs (j + 1) [0, 1, 1000000, -1000000, 1000001, -1000001, 4611686018427387904, -9223372036854775808] (by first | exact at0 (by simp) | exact at1 (by simp) | exact at2 (by simp) | exact at3 (by simp) | exact at4 (by simp) | exact at5 (by simp) | exact atG 6 (by simp) rfl | exact atG 7 (by simp) rfl | exact atG 8 (by simp) rfl | exact atG 9 (by simp) rfl | exact atG 10 (by simp) rfl | exact atG 11 (by simp) rfl | exact atG 12 (by simp) rfl | exact atG 13 (by simp) rfl | exact atG 14 (by simp) rfl | exact atG 15 (by simp) rfl | assumption) rfl rfl (by first | exact hs | exact hs.app _ | exact hs.set (by omega) (by omega) | exact (hs.set (by omega) (by omega)).app _) (by omega) (by simp) (by simp) (fun b hb => ?_)
  simp (disch := first | omega | (simp only [go_sem]; first | done | omega)) only [go_sem]
  refine pick_lit s zs (j + 1 + 1) [0, 1, 2, 3, -1] (by first | exact at0 (by simp) | exact at1 (by simp) | exact at2 (by simp) | exact at3 (by simp) | exact at4 (by simp) | exact at5 (by simp) | exact atG 6 (by simp) rfl | exact atG 7 (by simp) rfl | exact atG 8 (by simp) rfl | exact atG 9 (by simp) rfl | exact atG 10 (by simp) rfl | exact atG 11 (by simp) rfl | exact atG 12 (by simp) rfl | exact atG 13 (by simp) rfl | exact atG 14 (by simp) rfl | exact atG 15 (by simp) rfl | assumption) rfl rfl (by first | exact hs | exact hs.app _ | exact hs.set (by omega) (by omega) | exact (hs.set (by omega) (by omega)).app _) (by omega) (by simp) (by simp) (fun c hc => ?_)
  simp only [List.mem_cons, List.not_mem_nil, or_false] at ha hb hc
  simp (disch := first | omega | (simp only [go_sem]; first | done | omega)) only [go_sem]
  have := hk ⟨a, b, c⟩ (by dsimp only; omega) (by dsimp only; omega) (by dsimp only; omega)
  exact Ret.drop (HOk.str hH) (by simp) (by simp [AV.ok, AV.ok1, AC.ok]) this
/-- series as they are drawn, all right -/
def drawnS (most : Int) (l : List Smp) : Prop := serF l = 0 ∧ l.length ≤ most ∧ ∀ x ∈ l, 0 ≤ x.t ∧ x.t ≤ 90 + 60 * most ∧ -3 ≤ x.v ∧ x.v ≤ 100 ∧ 0 ≤ x.q ∧ x.q ≤ 2
theorem binsF_len (step : Int) (l : List Smp) : (binsF step l).length ≤ l.length := by
  have key : ∀ k, k ≤ l.length → (binsF step (l.take k)).length ≤ k := by
    intro k
    induction k with
    | zero => simp [binsF]
    | succ k ih =>
      intro hk
      have := ih (by omega)
      rw [binsF_next step (by omega)]
      have h2 : (putB (binsF step (l.take k)) (binOf step l[k])).length ≤ (binsF step (l.take k)).length + 1 := by
        unfold putB
        split
        · simp
        · split <;> simp
      omega
  have := key l.length (Nat.le_refl _)
  rwa [List.take_length] at this
theorem binsF_small (step : Int) (l : List Smp) (h1 : 1 ≤ step) (hl : l.length ≤ 100) (hx : ∀ x ∈ l, 0 ≤ x.t ∧ x.t ≤ 345686399999 ∧ -1000000 ≤ x.v ∧ x.v ≤ 1000000) : ∀ y ∈ binsF step l, y.bd 1000000000 ∧ 0 ≤ y.a ∧ y.a ≤ 345686399999 := by
  have key : ∀ k, k ≤ l.length → ∀ y ∈ binsF step (l.take k), y.bd (1000000 * k) ∧ 0 ≤ y.a ∧ y.a ≤ 345686399999 := by
    intro k
    induction k with
    | zero => intro _ y hy; simp [binsF] at hy
    | succ k ih =>
      intro hk y hy
      have ih := ih (by omega)
      have hxk := hx l[k] (List.getElem_mem (by omega))
      have t0 : 0 ≤ l[k].t / step := Int.ediv_nonneg (by omega) (by omega)
      have t1 : l[k].t / step * step ≤ l[k].t := Int.ediv_mul_le _ (by omega)
      have t2 : 0 ≤ l[k].t / step * step := Int.mul_nonneg t0 (by omega)
      have hb : (binOf step l[k]).bd 1000000 ∧ 0 ≤ (binOf step l[k]).a ∧ (binOf step l[k]).a ≤ 345686399999 := by
        unfold binOf
        split <;> (simp only [Bin.bd]; omega)
      rw [binsF_next step (by omega)] at hy
      have h3 := (putB_bd2 (fun z hz => (ih z hz).1) hb.1 (by omega) (by omega)).1 y hy
      refine ⟨by simp only [Bin.bd] at h3 ⊢; omega, ?_⟩
      unfold putB at hy
      split at hy
      · simp at hy; subst hy; exact hb.2
      · rename_i z hz
        have hzz := ih z (List.mem_of_getLast? hz)
        split at hy
        · rcases List.mem_append.1 hy with h | h
          · exact (ih y (List.dropLast_subset _ h)).2
          · simp at h; subst h; exact hzz.2
        · rcases List.mem_append.1 hy with h | h
          · exact (ih y h).2
          · simp at h; subst h; exact hb.2
  intro y hy
  have := key l.length (Nat.le_refl _) y (by rwa [List.take_length])
  simp only [Bin.bd] at this ⊢
  omega
end Go.Proofs.YtnpdbnkgipkgaaaGreat
