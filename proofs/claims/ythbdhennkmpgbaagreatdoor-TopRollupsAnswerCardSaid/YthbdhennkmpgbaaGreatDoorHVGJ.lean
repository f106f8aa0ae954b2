/- Several texts in one: Bins of bins: no program in sight, and what follows. No condition. -/
import Derived.Test.YthbdhennkmpgbaaGreatDoorHVGC
import Derived.Test.YthbdhennkmpgbaaGreatDoorHVGI
import Derived.Test.YthbdhennkmpgbaaGreatDoorHVGF
/- Bins of bins: no program in sight. No condition. -/
namespace Go.Proofs.YthbdhennkmpgbaaGreatDoor
open Go Go.RowKit
set_option maxRecDepth 100000
set_option linter.all false
theorem binsF_fold (step : Int) (l : List Smp) : binsF step l = foldB (l.map (binOf step)) := by simp [binsF, foldB, List.foldl_map]
theorem putB_nil (b : Bin) : putB [] b = [b] := rfl
theorem putB_snoc (xs : List Bin) (y b : Bin) : putB (xs ++ [y]) b = if y.a = b.a then xs ++ [combB y b] else xs ++ [y, b] := by
  unfold putB
  simp
theorem combB_a (x y : Bin) : (combB x y).a = x.a := rfl
theorem combB_n (x y : Bin) : (combB x y).n = x.n + y.n := rfl
theorem combB_assoc {x y z : Bin} (hx : 0 ≤ x.n) (hy : 0 ≤ y.n) (hz : 0 ≤ z.n) : combB (combB x y) z = combB x (combB y z) := by
  obtain ⟨xa, xs, xn, xm, xl, xh⟩ := x
  obtain ⟨ya, ys, yn, ym, yl, yh⟩ := y
  obtain ⟨za, zs, zn, zm, zl, zh⟩ := z
  dsimp only at hx hy hz
  simp only [combB, Bin.mk.injEq]
  refine ⟨trivial, by omega, by omega, by omega, ?_, ?_⟩
  · by_cases h1 : xn = 0 <;> by_cases h2 : yn = 0 <;> by_cases h3 : zn = 0 <;> simp [h1, h2, h3] <;> omega
  · by_cases h1 : xn = 0 <;> by_cases h2 : yn = 0 <;> by_cases h3 : zn = 0 <;> simp [h1, h2, h3] <;> omega
theorem putB_put {R : List Bin} {u v : Bin} (ha : u.a = v.a) (hR : ∀ x ∈ R, 0 ≤ x.n) (hu : 0 ≤ u.n) (hv : 0 ≤ v.n) : putB R (combB u v) = putB (putB R u) v := by
  rcases snoc_or R with rfl | ⟨R', w, rfl⟩
  · have := putB_snoc [] u v
    rw [if_pos ha] at this
    rw [putB_nil, putB_nil]
    exact this.symm
  · rw [putB_snoc, putB_snoc, combB_a]
    by_cases h : w.a = u.a
    · rw [if_pos h, if_pos h, putB_snoc, if_pos (by rw [combB_a]; omega), combB_assoc (hR w (by simp)) hu hv]
    · rw [if_neg h, if_neg h, show R' ++ [w, u] = (R' ++ [w]) ++ [u] by simp, putB_snoc, if_pos ha]
      simp
theorem putP {P : Bin → Prop} (hc : ∀ x y, P x → P y → x.a = y.a → P (combB x y)) {acc : List Bin} {b : Bin} (h1 : ∀ x ∈ acc, P x) (h2 : P b) : ∀ x ∈ putB acc b, P x := by
  rcases snoc_or acc with rfl | ⟨xs, y, rfl⟩
  · intro x hx; simp [putB_nil] at hx; subst hx; exact h2
  · rw [putB_snoc]
    intro x hx
    split at hx
    · rename_i c
      rcases List.mem_append.1 hx with h | h
      · exact h1 x (by simp [h])
      · simp at h; subst h; exact hc _ _ (h1 y (by simp)) h2 c
    · rcases List.mem_append.1 hx with h | h
      · exact h1 x (by simp [h])
      · simp at h
        rcases h with rfl | rfl
        · exact h1 _ (by simp)
        · exact h2
theorem foldP {P : Bin → Prop} (hc : ∀ x y, P x → P y → x.a = y.a → P (combB x y)) : ∀ (l acc : List Bin), (∀ x ∈ acc, P x) → (∀ x ∈ l, P x) → ∀ x ∈ l.foldl putB acc, P x
  | [], _, h1, _ => h1
  | b :: l, acc, h1, h2 => foldP hc l (putB acc b) (putP hc h1 (h2 b (by simp))) (fun x hx => h2 x (by simp [hx]))
theorem fold_n (l acc : List Bin) (h1 : ∀ x ∈ acc, 0 ≤ x.n) (h2 : ∀ x ∈ l, 0 ≤ x.n) : ∀ x ∈ l.foldl putB acc, 0 ≤ x.n :=
  foldP (P := fun x => 0 ≤ x.n) (fun x y hx hy _ => by rw [combB_n]; omega) l acc h1 h2
theorem fold_map (f : Bin → Bin) (hf : ∀ x y, x.a = y.a → f (combB x y) = combB (f x) (f y)) (hfa : ∀ x y, x.a = y.a → (f x).a = (f y).a) (hn : ∀ x, 0 ≤ x.n → 0 ≤ (f x).n) (acc : List Bin) (hacc : ∀ x ∈ acc, 0 ≤ x.n) (l : List Bin) : (∀ x ∈ l, 0 ≤ x.n) → ((foldB l).map f).foldl putB acc = (l.map f).foldl putB acc := by
  refine snoc_ind (P := fun l => (∀ x ∈ l, 0 ≤ x.n) → ((foldB l).map f).foldl putB acc = (l.map f).foldl putB acc) (fun _ => rfl) (fun l b ih hl => ?_) l
  have hl1 : ∀ x ∈ l, 0 ≤ x.n := fun x hx => hl x (by simp [hx])
  have hb := hl b (by simp)
  have ih := ih hl1
  rw [foldB_snoc, List.map_append, List.foldl_append, ← ih]
  simp only [List.map_cons, List.map_nil, List.foldl_cons, List.foldl_nil]
  have hr : ∀ x ∈ foldB l, 0 ≤ x.n := fold_n l [] (by simp) hl1
  rcases snoc_or (foldB l) with h | ⟨xs, y, h⟩
  · rw [h]; rfl
  · rw [h] at hr ⊢
    rw [putB_snoc]
    have hA : ∀ x ∈ (xs.map f).foldl putB acc, 0 ≤ x.n := fold_n _ _ hacc (fun x hx => by
      obtain ⟨z, hz, rfl⟩ := List.mem_map.1 hx
      exact hn z (hr z (by simp [hz])))
    split
    · rename_i c
      simp only [List.map_append, List.map_cons, List.map_nil, List.foldl_append, List.foldl_cons, List.foldl_nil]
      rw [hf y b c]
      exact putB_put (hfa y b c) hA (hn _ (hr y (by simp))) (hn _ hb)
    · simp only [List.map_append, List.map_cons, List.map_nil, List.foldl_append, List.foldl_cons, List.foldl_nil]
theorem putB_sum (g : Bin → Int) (hg : ∀ x y, g (combB x y) = g x + g y) (l : List Bin) (b : Bin) : ((putB l b).map g).sum = (l.map g).sum + g b := by
  rcases snoc_or l with rfl | ⟨xs, y, rfl⟩
  · simp [putB_nil]
  · rw [putB_snoc]
    split
    · simp [hg]; omega
    · simp; omega
theorem foldB_sum (g : Bin → Int) (hg : ∀ x y, g (combB x y) = g x + g y) (l : List Bin) : ((foldB l).map g).sum = (l.map g).sum := by
  refine snoc_ind (P := fun l => ((foldB l).map g).sum = (l.map g).sum) rfl (fun l b ih => ?_) l
  rw [foldB_snoc, putB_sum g hg, ih]
  simp
theorem foldB_sub (l : List Bin) : ((foldB l).map (fun x => x.a)).Sublist (l.map (fun x => x.a)) := by
  refine snoc_ind (P := fun l => ((foldB l).map (fun x => x.a)).Sublist (l.map (fun x => x.a))) (List.Sublist.refl _) (fun l b ih => ?_) l
  rw [foldB_snoc, List.map_append]
  rcases snoc_or (foldB l) with h | ⟨xs, y, h⟩
  · rw [h, putB_nil]
    exact List.sublist_append_right _ _
  · rw [h] at ih ⊢
    rw [putB_snoc]
    split
    · have : (xs ++ [combB y b]).map (fun x => x.a) = (xs ++ [y]).map (fun x => x.a) := by simp [combB_a]
      rw [this]
      exact ih.trans (List.sublist_append_left _ _)
    · rw [show xs ++ [y, b] = (xs ++ [y]) ++ [b] by simp, List.map_append]
      exact ih.append (List.Sublist.refl _)
theorem foldB_lt (l : List Bin) : (l.map (fun x => x.a)).Pairwise (fun a b => a ≤ b) → ((foldB l).map (fun x => x.a)).Pairwise (fun a b => a < b) := by
  refine snoc_ind (P := fun l => (l.map (fun x => x.a)).Pairwise (fun a b => a ≤ b) → ((foldB l).map (fun x => x.a)).Pairwise (fun a b => a < b)) (fun _ => List.Pairwise.nil) (fun l b ih hl => ?_) l
  rw [List.map_append, List.pairwise_append] at hl
  obtain ⟨h1, _, h3⟩ := hl
  have ih := ih h1
  have hsub := foldB_sub l
  rw [foldB_snoc]
  rcases snoc_or (foldB l) with h | ⟨xs, y, h⟩
  · rw [h, putB_nil]; simp
  · rw [h] at ih hsub ⊢
    rw [putB_snoc]
    split
    · have : (xs ++ [combB y b]).map (fun x => x.a) = (xs ++ [y]).map (fun x => x.a) := by simp [combB_a]
      rw [this]
      exact ih
    · rename_i c
      rw [show xs ++ [y, b] = (xs ++ [y]) ++ [b] by simp, List.map_append, List.pairwise_append]
      refine ⟨ih, by simp, fun z hz w hw => ?_⟩
      simp at hw; subst hw
      have hy : y.a ≤ b.a := h3 y.a (hsub.mem (by simp)) b.a (by simp)
      rw [List.map_append, List.pairwise_append] at ih
      rw [List.map_append] at hz
      rcases List.mem_append.1 hz with h4 | h4
      · have := ih.2.2 z h4 y.a (by simp)
        omega
      · simp at h4; omega
/-- sorted bins are left as they are -/
theorem sinkB_id (l : List Bin) (h : (l.map (fun x => x.a)).Pairwise (fun a b => a ≤ b)) (j : Nat) (hj : j < l.length ∨ j = 0) : sinkB j l = l := by
  cases j with
  | zero => rfl
  | succ j =>
    have hj : j + 1 < l.length := by omega
    rw [sinkB_step j l hj, if_neg]
    have := List.pairwise_iff_getElem.1 h j (j + 1) (by simp; omega) (by simpa using hj) (by omega)
    simp at this
    omega
theorem isortB_id (l : List Bin) (h : (l.map (fun x => x.a)).Pairwise (fun a b => a ≤ b)) : isortB l = l := by
  have key : ∀ c i, i + c ≤ l.length → isortGo c i l = l := by
    intro c
    induction c with
    | zero => intro i _; rfl
    | succ c ih =>
      intro i hi
      rw [isortGo, sinkB_id l h i (by omega)]
      exact ih (i + 1) (by omega)
  unfold isortB
  cases l with
  | nil => rfl
  | cons x xs => exact key _ _ (by simp; omega)
theorem mem_le_sum {g : Bin → Int} : ∀ (l : List Bin), (∀ x ∈ l, 0 ≤ g x) → 0 ≤ (l.map g).sum ∧ ∀ b ∈ l, g b ≤ (l.map g).sum
  | [], _ => by simp
  | x :: l, h => by
    obtain ⟨h1, h2⟩ := mem_le_sum (g := g) l (fun y hy => h y (by simp [hy]))
    have hx := h x (by simp)
    rw [List.map_cons, List.sum_cons]
    refine ⟨by omega, fun b hb => ?_⟩
    rcases List.mem_cons.1 hb with rfl | hb
    · omega
    · have := h2 b hb; omega
structure goodB (step : Int) (b : Bin) : Prop where
  a : 0 ≤ b.a ∧ b.a ≤ 345686399999 ∧ b.a % step = 0
  n : 0 ≤ b.n
  m : 0 ≤ b.m
  one : 1 ≤ b.n + b.m
  lo : -1000000 ≤ b.lo ∧ b.lo ≤ 1000000
  hi : -1000000 ≤ b.hi ∧ b.hi ≤ 1000000
  z : b.n = 0 → b.s = 0 ∧ b.lo = 0 ∧ b.hi = 0
  s1 : b.n * b.lo ≤ b.s
  s2 : b.s ≤ b.n * b.hi
theorem goodB_comb {step : Int} (x y : Bin) (hx : goodB step x) (hy : goodB step y) (_ : x.a = y.a) : goodB step (combB x y) := by
  obtain ⟨a1, n1, m1, o1, l1, h1, z1, p1, q1⟩ := hx
  obtain ⟨a2, n2, m2, o2, l2, h2, z2, p2, q2⟩ := hy
  obtain ⟨xa, xs, xn, xm, xl, xh⟩ := x
  obtain ⟨ya, ys, yn, ym, yl, yh⟩ := y
  dsimp only at *
  have e1 : xn * min xl yl ≤ xn * xl := Int.mul_le_mul_of_nonneg_left (by omega) n1
  have e2 : yn * min xl yl ≤ yn * yl := Int.mul_le_mul_of_nonneg_left (by omega) n2
  have e3 : xn * xh ≤ xn * max xh yh := Int.mul_le_mul_of_nonneg_left (by omega) n1
  have e4 : yn * yh ≤ yn * max xh yh := Int.mul_le_mul_of_nonneg_left (by omega) n2
  by_cases c1 : xn = 0
  · subst c1
    obtain ⟨z3, z4, z5⟩ := z1 rfl
    subst z3
    constructor <;> simp only [combB, if_true, Int.zero_add] <;> first | assumption | omega
  · by_cases c2 : yn = 0
    · subst c2
      obtain ⟨z3, z4, z5⟩ := z2 rfl
      subst z3
      constructor <;> simp only [combB, if_true, if_neg c1, Int.add_zero] <;> first | assumption | omega
    · constructor <;> simp only [combB, if_neg c1, if_neg c2, Int.add_mul] <;> first | assumption | omega
theorem goodB_of {step : Int} (hs : 1 ≤ step) {x : Smp} (h : smpErr x = 0) : goodB step (binOf step x) := by
  obtain ⟨⟨t1, t2⟩, _, ⟨v1, v2⟩, _⟩ := smp_ok h
  have d0 : 0 ≤ x.t / step := Int.ediv_nonneg (by omega) (by omega)
  have d1 : x.t / step * step ≤ x.t := Int.ediv_mul_le _ (by omega)
  have d2 : 0 ≤ x.t / step * step := Int.mul_nonneg d0 (by omega)
  have d3 : x.t / step * step % step = 0 := Int.mul_emod_left _ _
  unfold binOf
  split
  · constructor <;> dsimp only <;> omega
  · constructor <;> dsimp only <;> omega
theorem binOf_pw {step : Int} (hs : 1 ≤ step) {l : List Smp} (h : incS l) : ((l.map (binOf step)).map (fun x => x.a)).Pairwise (fun a b => a ≤ b) := by
  rw [List.map_map, List.pairwise_map]
  refine (incS_iff.1 h).imp fun {x y} hxy => ?_
  show (binOf step x).a ≤ (binOf step y).a
  have e : ∀ z : Smp, (binOf step z).a = z.t / step * step := fun z => by unfold binOf; split <;> rfl
  rw [e, e]
  exact Int.mul_le_mul_of_nonneg_right (Int.ediv_le_ediv (by omega) (by omega)) (by omega)
theorem binOf_sum (step : Int) : ∀ l : List Smp, ((l.map (binOf step)).map (fun x => x.n)).sum + ((l.map (binOf step)).map (fun x => x.m)).sum = l.length
  | [] => rfl
  | x :: l => by
    have ih := binOf_sum step l
    have : (binOf step x).n + (binOf step x).m = 1 := by unfold binOf; split <;> rfl
    simp only [List.map_cons, List.sum_cons, List.length_cons]
    omega
theorem binsF_good {step : Int} (hs : 1 ≤ step) {l : List Smp} (h : serF l = 0) : ∀ b ∈ binsF step l, goodB step b := by
  rw [binsF_fold]
  refine foldP (P := goodB step) goodB_comb _ [] (by simp) (fun b hb => ?_)
  obtain ⟨x, hx, rfl⟩ := List.mem_map.1 hb
  exact goodB_of hs ((serF_ok h).2 x hx)
theorem binsF_few {step : Int} (hs : 1 ≤ step) {l : List Smp} (h : serF l = 0) : (∀ b ∈ binsF step l, b.n ≤ l.length ∧ b.m ≤ l.length) := by
  have hg := binsF_good hs h
  have h1 := foldB_sum (fun x => x.n) (fun _ _ => rfl) (l.map (binOf step))
  have h2 := foldB_sum (fun x => x.m) (fun _ _ => rfl) (l.map (binOf step))
  have h3 := binOf_sum step l
  rw [← binsF_fold] at h1 h2
  obtain ⟨g1, g2⟩ := mem_le_sum (g := fun x => x.n) (binsF step l) (fun x hx => (hg x hx).n)
  obtain ⟨g3, g4⟩ := mem_le_sum (g := fun x => x.m) (binsF step l) (fun x hx => (hg x hx).m)
  intro b hb
  have := g2 b hb
  have := g4 b hb
  omega
theorem binsF_lt {step : Int} (hs : 1 ≤ step) {l : List Smp} (h : serF l = 0) : ((binsF step l).map (fun x => x.a)).Pairwise (fun a b => a < b) := by
  rw [binsF_fold]
  exact foldB_lt _ (binOf_pw hs (serF_inc h))
theorem binsF_len' (step : Int) (l : List Smp) : (binsF step l).length ≤ l.length := by
  rw [binsF_fold]
  have := (foldB_sub (l.map (binOf step))).length_le
  simpa using this
theorem bnErr_good {step : Int} {b : Bin} (h : goodB step b) (h1 : b.n ≤ 5000000) (h2 : b.m ≤ 5000000) : bnErr b step = 0 := by
  obtain ⟨⟨a1, a2, a3⟩, n, m, o, l, hi, z, p, q⟩ := h
  unfold bnErr
  rw [if_neg (by omega), if_neg (by omega), if_neg (by omega), if_neg (by rintro ⟨c, d⟩; have := z c; omega), if_neg (by omega)]
/-- bins of a right series are right -/
theorem bnF_binsF {step : Int} (hs : isStep step) {l : List Smp} (h : serF l = 0) : bnF (binsF step l) step = 0 := by
  have hl := (serF_ok h).1
  have h1 := binsF_len' step l
  have hs1 : 1 ≤ step := hs.1
  have hg := binsF_good hs1 h
  have hf := binsF_few hs1 h
  have hp := binsF_lt hs1 h
  unfold bnF
  rw [if_neg (not_not_intro hs), if_neg (by omega)]
  refine errGo_of _ _ _ fun k hk => ?_
  have hm := List.getElem_mem hk
  have he : bnErr (binsF step l)[k] step = 0 := bnErr_good (hg _ hm) (by have := hf _ hm; omega) (by have := hf _ hm; omega)
  unfold bnGo
  rw [if_neg (by simp [he]), if_neg]
  rintro ⟨a, b⟩
  rw [prv_pos _ _ _ (by omega) a] at b
  have := List.pairwise_iff_getElem.1 hp (k - 1) k (by simp; omega) (by simpa using hk) (by omega)
  simp at this
  omega
theorem fitsE_binsF {step : Int} (hs : 1 ≤ step) {l : List Smp} (h : serF l = 0) : fitsE (binsF step l) = 0 := by
  have hl := (serF_ok h).1
  have h1 := binsF_len' step l
  have hf := binsF_few hs h
  unfold fitsE
  rw [if_neg]
  rintro (h2 | h2)
  · omega
  · rw [List.any_eq_true] at h2
    obtain ⟨x, hx, h3⟩ := h2
    have := hf x hx
    unfold bigB at h3
    simp at h3
    omega
theorem div_div_mul {t step to : Int} (h1 : 1 ≤ step) (h2 : 1 ≤ to) (h3 : to % step = 0) : t / step * step / to * to = t / to * to := by
  obtain ⟨k, rfl⟩ : ∃ k, to = step * k := Int.dvd_of_emod_eq_zero h3
  have hk : 0 < k := by
    rcases Int.lt_or_le 0 k with h | h
    · exact h
    · have : step * k ≤ 0 := Int.mul_nonpos_of_nonneg_of_nonpos (by omega) h
      omega
  congr 1
  rw [Int.mul_comm (t / step) step, Int.mul_ediv_mul_of_pos _ _ (by omega), Int.ediv_ediv_of_nonneg (by omega)]
theorem coarse_binsF {step to : Int} (h1 : 1 ≤ step) (h2 : 1 ≤ to) (h3 : to % step = 0) {l : List Smp} (h : serF l = 0) : foldB ((binsF step l).map (toA to)) = binsF to l := by
  have hn : ∀ x ∈ l.map (binOf step), 0 ≤ x.n := fun b hb => by
    obtain ⟨x, hx, rfl⟩ := List.mem_map.1 hb
    exact (goodB_of h1 ((serF_ok h).2 x hx)).n
  have := fold_map (toA to) (fun x y _ => rfl) (fun x y e => by simp only [toA]; rw [e]) (fun x hx => hx) [] (by simp) (l.map (binOf step)) hn
  rw [← binsF_fold] at this
  rw [binsF_fold to]
  refine Eq.trans this ?_
  show foldB _ = _
  rw [List.map_map]
  congr 1
  refine List.map_congr_left fun x hx => ?_
  have e := div_div_mul (t := x.t) h1 h2 h3
  simp only [Function.comp, binOf, toA]
  split <;> simp only [e]
theorem merge_binsF {step : Int} (h1 : 1 ≤ step) {l : List Smp} (h : serF l = 0) (c : Nat) : isortB (binsF step (l.take c) ++ binsF step (l.drop c)) = binsF step (l.take c) ++ binsF step (l.drop c) ∧ foldB (binsF step (l.take c) ++ binsF step (l.drop c)) = binsF step l := by
  have hs : (binsF step (l.take c) ++ binsF step (l.drop c)).map (fun x => x.a) |>.Sublist ((l.map (binOf step)).map (fun x => x.a)) := by
    rw [List.map_append, binsF_fold, binsF_fold]
    have := (foldB_sub ((l.take c).map (binOf step))).append (foldB_sub ((l.drop c).map (binOf step)))
    rw [← List.map_append, ← List.map_append, ← List.map_append, List.take_append_drop] at this
    rw [← List.map_append]
    exact this
  refine ⟨isortB_id _ ((binOf_pw h1 (serF_inc h)).sublist hs), ?_⟩
  have hn : ∀ x ∈ l.map (binOf step), 0 ≤ x.n := fun b hb => by
    obtain ⟨x, hx, rfl⟩ := List.mem_map.1 hb
    exact (goodB_of h1 ((serF_ok h).2 x hx)).n
  have hn1 : ∀ x ∈ (l.take c).map (binOf step), 0 ≤ x.n := fun b hb => by
    obtain ⟨x, hx, rfl⟩ := List.mem_map.1 hb
    exact hn _ (List.mem_map.2 ⟨x, List.mem_of_mem_take hx, rfl⟩)
  have hn2 : ∀ x ∈ (l.drop c).map (binOf step), 0 ≤ x.n := fun b hb => by
    obtain ⟨x, hx, rfl⟩ := List.mem_map.1 hb
    exact hn _ (List.mem_map.2 ⟨x, List.mem_of_mem_drop hx, rfl⟩)
  have k1 := fold_map id (fun _ _ _ => rfl) (fun _ _ e => e) (fun _ hx => hx) [] (by simp) _ hn1
  have k2 := fold_map id (fun _ _ _ => rfl) (fun _ _ e => e) (fun _ hx => hx) (foldB ((l.take c).map (binOf step))) (fold_n _ [] (by simp) hn1) _ hn2
  rw [List.map_id, List.map_id] at k1 k2
  have k3 : foldB (binsF step (l.take c) ++ binsF step (l.drop c)) = (foldB ((l.drop c).map (binOf step))).foldl putB ((foldB ((l.take c).map (binOf step))).foldl putB []) := by
    rw [binsF_fold, binsF_fold, foldB, List.foldl_append]
  rw [k3, k1]
  refine Eq.trans k2 ?_
  show _ = binsF step l
  rw [binsF_fold]
  conv => rhs; rw [← List.take_append_drop c l]
  rw [List.map_append, foldB, foldB, List.foldl_append]
/-- the sums over bins of all are those of the good samples -/
theorem sum_binsF (step : Int) (l : List Smp) : ((binsF step l).map (fun x => x.s)).sum = ((l.filter (fun x => decide (x.q = 0))).map (fun x => x.v)).sum ∧ ((binsF step l).map (fun x => x.n)).sum = (l.filter (fun x => decide (x.q = 0))).length := by
  rw [binsF_fold, foldB_sum _ (fun _ _ => rfl), foldB_sum _ (fun _ _ => rfl)]
  induction l with
  | nil => exact ⟨rfl, rfl⟩
  | cons x l ih =>
    obtain ⟨ih1, ih2⟩ := ih
    simp only [List.map_cons, List.sum_cons, ih1, ih2]
    by_cases h : x.q = 0
    · rw [List.filter_cons_of_pos (by simpa using h)]
      simp [binOf, h]
      omega
    · rw [List.filter_cons_of_neg (by simpa using h)]
      simp [binOf, h]
end Go.Proofs.YthbdhennkmpgbaaGreatDoor
/- The sum over bins in a window: the program. No condition. -/
namespace Go.Proofs.YthbdhennkmpgbaaGreatDoor
open Go Go.RowKit
set_option maxRecDepth 100000
set_option linter.all false
set_option maxHeartbeats 1000000
variable {H : Hp} {K : AV → Hp → Prop}
def sumE (b : List Bin) (step : Int) (w : Win) : Int := if bnF b step ≠ 0 then bnF b step else if winE w ≠ 0 then 1 else if w.a % step ≠ 0 ∨ (w.b % step ≠ 0 ∧ w.b ≠ 345686400000) then 16 else 0
def inB (b : List Bin) (w : Win) : List Bin := b.filter (fun x => decide (w.a ≤ x.a ∧ x.a < w.b))
def sumRes (b : List Bin) (step : Int) (w : Win) : Int × Int × Int := if sumE b step w ≠ 0 then (0, 0, sumE b step w) else (((inB b w).map (fun x => x.s)).sum, ((inB b w).map (fun x => x.n)).sum, 0)
theorem windowFaultB_a (b : List Bin) (step : Int) (w : Win) (hl : b.length ≤ 1099511627776) (hk : K (.c (.int .i64 (sumE b step w))) H) : ACalls Tryz.prog 33 [.c (.lst 6 (b.map encN)), (.c (.int .i64 step)), .agg (encW w)] H K := by
  refine acalls Tryz.func33 rfl (by kernel_rfl) (by simp (disch := first | omega | (simp only [go_sem]; first | done | omega)) only [go_sem]) (fun hH => ?_)
  simp (disch := first | omega | (simp only [go_sem]; first | done | omega)) only [go_sem]
  refine checkBins_a b step hl ?_
  simp (disch := first | omega | (simp only [go_sem]; first | done | omega)) only [go_sem]
  refine acond_d (fun c => ?_) (fun c => ?_)
  rotate_left
  · rw [show sumE b step w = bnF b step by unfold sumE; rw [if_pos c]] at hk
    simp (disch := first | omega | (simp only [go_sem]; first | done | omega)) only [go_sem]
    exact Ret.drop hH (Nat.le_refl _) trivial hk
  have hs := (bnF_ok c).1
  have hs1 : 1 ≤ step := hs.1
  have hs2 : step ≤ 86400000 := hs.2.1
  simp (disch := first | omega | (simp only [go_sem]; first | done | omega)) only [go_sem]
  refine window_a w ?_
  simp (disch := first | omega | (simp only [go_sem]; first | done | omega)) only [go_sem]
  refine acond_d (fun c2 => ?_) (fun c2 => ?_)
  rotate_left
  · rw [show sumE b step w = 1 by unfold sumE; rw [if_neg (by simp [c]), if_pos c2]] at hk
    simp (disch := first | omega | (simp only [go_sem]; first | done | omega)) only [go_sem]
    exact Ret.drop hH (Nat.le_refl _) trivial hk
  have hw : 0 ≤ w.a ∧ w.a ≤ w.b ∧ w.b ≤ 345686400000 := by
    unfold winE at c2
    split at c2 <;> omega
  have e3 : sumE b step w = if w.a % step ≠ 0 ∨ (w.b % step ≠ 0 ∧ w.b ≠ 345686400000) then 16 else 0 := by
    unfold sumE
    rw [if_neg (by simp [c]), if_neg (by simp [c2])]
  simp (disch := first | omega | (simp only [go_sem]; first | done | omega)) only [go_sem]
  by_cases d3 : w.b = 345686400000
  · by_cases d1 : w.a % step = 0 <;> by_cases d2 : (345686400000 : Int) % step = 0
    all_goals simp (disch := first | omega | (simp only [go_sem]; first | done | omega)) only [go_sem, d1, d2, d3]
    all_goals simp only [d1, d3, ne_eq, not_true_eq_false, not_false_eq_true, and_self, and_true, and_false, true_and, false_and, or_self, or_true, or_false, true_or, false_or, if_true, if_false] at e3
    all_goals rw [e3] at hk
    all_goals exact Ret.drop hH (Nat.le_refl _) trivial hk
  · by_cases d1 : w.a % step = 0 <;> by_cases d2 : w.b % step = 0
    all_goals simp (disch := first | omega | (simp only [go_sem]; first | done | omega)) only [go_sem, d1, d2, d3]
    all_goals simp only [d1, d2, d3, ne_eq, not_true_eq_false, not_false_eq_true, and_self, and_true, and_false, true_and, false_and, or_self, or_true, or_false, true_or, false_or, if_true, if_false] at e3
    all_goals rw [e3] at hk
    all_goals exact Ret.drop hH (Nat.le_refl _) trivial hk
theorem inB_next {b : List Bin} {k : Nat} (w : Win) (h : k < b.length) : inB (b.take (k + 1)) w = inB (b.take k) w ++ (if w.a ≤ b[k].a ∧ b[k].a < w.b then [b[k]] else []) := by
  unfold inB
  rw [List.take_succ_eq_append_getElem h, List.filter_append]
  congr 1
  by_cases c : w.a ≤ b[k].a ∧ b[k].a < w.b <;> simp [c]
theorem inB_bd (w : Win) : ∀ b : List Bin, (∀ x ∈ b, x.right) → -5000000000000 * (b.length : Int) ≤ ((inB b w).map (fun x => x.s)).sum ∧ ((inB b w).map (fun x => x.s)).sum ≤ 5000000000000 * (b.length : Int) ∧ 0 ≤ ((inB b w).map (fun x => x.n)).sum ∧ ((inB b w).map (fun x => x.n)).sum ≤ 5000000 * (b.length : Int)
  | [], _ => by simp [inB]
  | x :: b, h => by
    have ih := inB_bd w b (fun y hy => h y (by simp [hy]))
    have hx := h x (by simp)
    simp only [Bin.right] at hx
    unfold inB at *
    by_cases c : w.a ≤ x.a ∧ x.a < w.b
    · rw [List.filter_cons_of_pos (by simpa using c)]
      simp only [List.map_cons, List.sum_cons, List.length_cons]
      omega
    · rw [List.filter_cons_of_neg (by simpa using c)]
      simp only [List.length_cons]
      omega
theorem sum_a (b : List Bin) (step : Int) (w : Win) (hl : b.length ≤ 1099511627776) (hk : K (.tup [(.c (.int .i64 ((sumRes b step w).1))), (.c (.int .i64 ((sumRes b step w).2.1))), (.c (.int .i64 ((sumRes b step w).2.2)))]) H) : ACalls Tryz.prog 10 [.c (.lst 6 (b.map encN)), (.c (.int .i64 step)), .agg (encW w)] H K := by
  refine acalls Tryz.func10 rfl (by kernel_rfl) (by simp (disch := first | omega | (simp only [go_sem]; first | done | omega)) only [go_sem]) (fun hH => ?_)
  simp (disch := first | omega | (simp only [go_sem]; first | done | omega)) only [go_sem]
  refine windowFaultB_a b step w hl ?_
  simp (disch := first | omega | (simp only [go_sem]; first | done | omega)) only [go_sem]
  refine acond_d (fun c => ?_) (fun c => ?_)
  rotate_left
  · rw [show sumRes b step w = (0, 0, sumE b step w) by unfold sumRes; rw [if_pos c]] at hk
    simp (disch := first | omega | (simp only [go_sem]; first | done | omega)) only [go_sem]
    exact Ret.drop hH (Nat.le_refl _) (by simp [AV.ok, AV.ok1, AC.ok]) hk
  have hb : bnF b step = 0 := by
    unfold sumE at c
    split at c
    · exact c
    · rename_i h; simpa using h
  obtain ⟨_, hbl, hbr⟩ := bnF_ok hb
  rw [show sumRes b step w = (((inB b w).map (fun x => x.s)).sum, ((inB b w).map (fun x => x.n)).sum, 0) by unfold sumRes; rw [if_neg (by rw [c]; decide)]] at hk
  simp (disch := first | omega | (simp only [go_sem]; first | done | omega)) only [go_sem]
  refine AWp.loop (H.length + 1) [5, 21, 22] [23, 10, 11] (fun (k : Nat) => k ≤ b.length) (fun (k : Nat) => [(23, (.c (.int .i64 k))), (10, (.c (.int .i64 (((inB (b.take k) w).map (fun x => x.s)).sum)))), (11, (.c (.int .i64 (((inB (b.take k) w).map (fun x => x.n)).sum))))]) (fun (k : Nat) => H ++ [.row 32 2 [encW w] true]) (fun (k : Nat) => b.length - k) (by kernel_rfl) (fun _ => rfl) (by kernel_rfl) (by simp) (by first | (simp; done) | (simp; omega)) (by (try simp only [List.forall_mem_cons, List.not_mem_nil, false_implies, implies_true, and_true]); (try simp (disch := first | omega | (simp only [go_sem]; first | done | omega)) only [go_sem]); all_goals first | trivial | (simp [AV.ok, AV.ok1, AC.ok]; done) | (simp [AV.ok, AV.ok1, AC.ok]; omega) | (simp [AV.ok, AV.ok1, AC.ok]; assumption) | ((repeat' apply And.intro) <;> first | trivial | (simp [AV.ok, AV.ok1, AC.ok]; done) | (simp [AV.ok, AV.ok1, AC.ok]; omega) | (simp [AV.ok, AV.ok1, AC.ok]; assumption) | (refine grV_ok ?_ _; first | (simp; done) | (simp; omega) | omega))) ?_ (fun k hk1 _ _ => ?_)
  · exact Next.mk 0 (by omega) (by (try simp (disch := first | omega | (simp only [go_sem]; first | done | omega)) only [go_sem]); (first | refine WkL.eq ?_ ?_ | refine WkL.rest (by assumption) ?_ ?_ ?_ | refine WkL.keepL (by assumption) rfl ?_ ?_ ?_ ?_) <;> first | rfl | (simp; done) | (simp; omega) | (simp only [List.cons.injEq, AV.c.injEq, AC.int.injEq, AC.bool.injEq, AC.str.injEq, and_true, true_and, Int.natCast_add, Int.natCast_one, Int.cast_ofNat_Int]; omega) | (simp [AV.ok, AV.ok1, AC.ok]; done) | (simp [AV.ok, AV.ok1, AC.ok]; omega) | (simp only [List.forall_mem_cons, List.not_mem_nil, false_implies, implies_true, and_true]; (repeat' apply And.intro) <;> first | exact okN_map (fun x => by simp [go_sem, AC.pure]) | exact okN_grO (fun x => by simp [go_sem, AC.pure]) | (simp [AObj.okN, AC.ok]; done) | (simp [AObj.okN, AC.ok]; omega)) | (simp [*]; done) | grind)
  have hbd := inB_bd w (b.take k) (fun x hx => hbr x (List.mem_of_mem_take hx))
  have htk : (b.take k).length ≤ b.length := by rw [List.length_take]; omega
  by_cases hlt : k < b.length
  · have hnx := inB_next w hlt
    have hx := hbr b[k] (List.getElem_mem hlt)
    simp only [Bin.right] at hx
    have hs1 : ((inB (b.take (k + 1)) w).map (fun x => x.s)).sum = if w.a ≤ b[k].a ∧ b[k].a < w.b then ((inB (b.take k) w).map (fun x => x.s)).sum + b[k].s else ((inB (b.take k) w).map (fun x => x.s)).sum := by
      rw [hnx]; split <;> simp
    have hs2 : ((inB (b.take (k + 1)) w).map (fun x => x.n)).sum = if w.a ≤ b[k].a ∧ b[k].a < w.b then ((inB (b.take k) w).map (fun x => x.n)).sum + b[k].n else ((inB (b.take k) w).map (fun x => x.n)).sum := by
      rw [hnx]; split <;> simp
    clear hnx
    generalize ((inB (b.take k) w).map (fun x => x.s)).sum = S at *
    generalize ((inB (b.take k) w).map (fun x => x.n)).sum = C at *
    simp (disch := first | omega | (simp only [go_sem]; first | done | omega)) only [go_sem]
    refine inW2_a _ _ _ ?_
    simp (disch := first | omega | (simp only [go_sem]; first | done | omega)) only [go_sem]
    refine acond_d (fun c2 => ?_) (fun c2 => ?_)
    · rw [if_pos c2] at hs1 hs2
      simp (disch := first | omega | (simp only [go_sem]; first | done | omega)) only [go_sem]
      exact Next.mk (k + 1) ⟨by omega, by omega⟩ (by rw [hs1, hs2]; (try simp (disch := first | omega | (simp only [go_sem]; first | done | omega)) only [go_sem]); (first | refine WkL.eq ?_ ?_ | refine WkL.rest (by assumption) ?_ ?_ ?_ | refine WkL.keepL (by assumption) rfl ?_ ?_ ?_ ?_) <;> first | rfl | (simp; done) | (simp; omega) | (simp only [List.cons.injEq, AV.c.injEq, AC.int.injEq, AC.bool.injEq, AC.str.injEq, and_true, true_and, Int.natCast_add, Int.natCast_one, Int.cast_ofNat_Int]; omega) | (simp [AV.ok, AV.ok1, AC.ok]; done) | (simp [AV.ok, AV.ok1, AC.ok]; omega) | (simp only [List.forall_mem_cons, List.not_mem_nil, false_implies, implies_true, and_true]; (repeat' apply And.intro) <;> first | exact okN_map (fun x => by simp [go_sem, AC.pure]) | exact okN_grO (fun x => by simp [go_sem, AC.pure]) | (simp [AObj.okN, AC.ok]; done) | (simp [AObj.okN, AC.ok]; omega)) | (simp [*]; done) | grind)
    · rw [if_neg c2] at hs1 hs2
      simp (disch := first | omega | (simp only [go_sem]; first | done | omega)) only [go_sem]
      exact Next.mk (k + 1) ⟨by omega, by omega⟩ (by rw [hs1, hs2]; (try simp (disch := first | omega | (simp only [go_sem]; first | done | omega)) only [go_sem]); (first | refine WkL.eq ?_ ?_ | refine WkL.rest (by assumption) ?_ ?_ ?_ | refine WkL.keepL (by assumption) rfl ?_ ?_ ?_ ?_) <;> first | rfl | (simp; done) | (simp; omega) | (simp only [List.cons.injEq, AV.c.injEq, AC.int.injEq, AC.bool.injEq, AC.str.injEq, and_true, true_and, Int.natCast_add, Int.natCast_one, Int.cast_ofNat_Int]; omega) | (simp [AV.ok, AV.ok1, AC.ok]; done) | (simp [AV.ok, AV.ok1, AC.ok]; omega) | (simp only [List.forall_mem_cons, List.not_mem_nil, false_implies, implies_true, and_true]; (repeat' apply And.intro) <;> first | exact okN_map (fun x => by simp [go_sem, AC.pure]) | exact okN_grO (fun x => by simp [go_sem, AC.pure]) | (simp [AObj.okN, AC.ok]; done) | (simp [AObj.okN, AC.ok]; omega)) | (simp [*]; done) | grind)
  · rw [List.take_of_length_le (by omega)]
    simp (disch := first | omega | (simp only [go_sem]; first | done | omega)) only [go_sem]
    exact Ret.drop hH (Nat.le_refl _) (by simp [AV.ok, AV.ok1, AC.ok]) hk
end Go.Proofs.YthbdhennkmpgbaaGreatDoor
