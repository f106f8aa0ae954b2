/- Whether a level keeps the data of all moments of a window, asked in two ways; the first time at which nothing is kept: no program in sight. Condition: the holds' times are right. -/
import Derived.Test.YtnpdbnkgipkgaaaGreatHVGD
import Derived.Test.YtnpdbnkgipkgaaaGreatHVGE
import Derived.Test.YtnpdbnkgipkgaaaGreatHVGF
namespace Go.Proofs.YtnpdbnkgipkgaaaGreat
open Go Go.RowKit
set_option maxRecDepth 100000
set_option linter.all false
/-- how long the intervals of a level are -/
def longL (x : Level) : Int := max 1 x.step
theorem ivl_eq (x : Level) (m : Int) (h : 0 ≤ x.step) : ivl x m = (m / longL x * longL x, m / longL x * longL x + longL x) := by
  unfold ivl longL
  by_cases h0 : x.step = 0
  · rw [if_pos h0, h0, show max 1 (0 : Int) = 1 from rfl]; simp
  · rw [if_neg h0, show max 1 x.step = x.step by omega]
theorem ivl_of {x : Level} {m a : Int} (h : 0 ≤ x.step) (ha : a % longL x = 0) (h1 : a ≤ m) (h2 : m < a + longL x) : ivl x m = (a, a + longL x) := by
  have hn : 1 ≤ longL x := by unfold longL; omega
  rw [ivl_eq x m h]
  have e : m / longL x * longL x = a := by
    have h3 := Int.emod_add_ediv_mul m (longL x)
    have h4 := Int.emod_nonneg m (b := longL x) (by omega)
    have h5 := Int.emod_lt_of_pos m (b := longL x) (by omega)
    have h6 := Int.emod_add_ediv_mul a (longL x)
    rw [ha] at h6
    generalize longL x = n at *
    have e1 : m / n = a / n := by
      have : (m / n - a / n) * n = m - m % n - a := by rw [Int.sub_mul]; omega
      have h7 : -n < (m / n - a / n) * n ∧ (m / n - a / n) * n < n := by omega
      obtain ⟨d, hd⟩ : ∃ d, m / n - a / n = d := ⟨_, rfl⟩
      rw [hd] at h7
      have : d = 0 := by
        rcases Int.lt_trichotomy d 0 with h | h | h
        · have : d * n ≤ (-1) * n := Int.mul_le_mul_of_nonneg_right (by omega) (by omega)
          omega
        · exact h
        · have : 1 * n ≤ d * n := Int.mul_le_mul_of_nonneg_right (by omega) (by omega)
          omega
      subst this
      have : m / n = a / n + 0 := by omega
      omega
    rw [e1]; omega
  rw [e]
/-- the moment is in an interval that begins there -/
theorem ivl_fst {x : Level} (m : Int) (h : 0 ≤ x.step) : (ivl x m).1 % longL x = 0 ∧ (ivl x m).1 ≤ m ∧ m < (ivl x m).1 + longL x ∧ (ivl x m).2 = (ivl x m).1 + longL x := by
  have hn : 1 ≤ longL x := by unfold longL; omega
  rw [ivl_eq x m h]
  have h3 := Int.emod_add_ediv_mul m (longL x)
  have h4 := Int.emod_nonneg m (b := longL x) (by omega)
  have h5 := Int.emod_lt_of_pos m (b := longL x) (by omega)
  refine ⟨Int.mul_emod_left _ _, by dsimp only; omega, by dsimp only; omega, rfl⟩
theorem foldU_mono : ∀ (l : List Hold) (a b : Int), a ≤ b → l.foldl stepU a ≤ l.foldl stepU b
  | [], a, b, h => h
  | x :: l, a, b, h => by
    rw [List.foldl_cons, List.foldl_cons]
    refine foldU_mono l _ _ ?_
    unfold stepU
    split <;> split <;> omega
theorem filter_eq {α : Type} {p q : α → Bool} : ∀ {l : List α}, (∀ y ∈ l, p y = q y) → l.filter p = l.filter q
  | [], _ => rfl
  | x :: l, h => by
    rw [List.filter_cons, List.filter_cons, h x (by simp), filter_eq (fun y hy => h y (by simp [hy]))]
/-- an interval at which no hold begins or ends for the level: what is kept of the one ahead is kept of it -/
theorem until_next {x : Level} {h : List Hold} {a n : Int} (hv : ∀ y ∈ h, y.t0 < y.t1) (hn : 1 ≤ n) (hno : ∀ y ∈ h, ¬(a ≤ y.t0 ∧ y.t0 < a + n) ∧ ¬(a - n < y.t1 ∧ y.t1 ≤ a)) : untilF x.keep h (a - n) a ≤ untilF x.keep h a (a + n) := by
  unfold untilF
  rw [filter_eq (p := meets (a - n) a) (q := meets a (a + n)) (fun y hy => by
    have h1 := hv y hy
    have h2 := hno y hy
    unfold meets
    rw [Bool.eq_iff_iff, decide_eq_true_eq, decide_eq_true_eq]
    omega)]
  exact foldU_mono _ _ _ (by omega)
/-- kept of all of a window, just if kept of its first moment, and of the intervals where a hold begins or ends -/
theorem all_kept {x : Level} {h : List Hold} {w : Win} {t : Int} (hx : 0 ≤ x.step) (hv : ∀ y ∈ h, y.t0 < y.t1) (ha : w.a % longL x = 0) (hb : w.b % longL x = 0)
    (h0 : keepB x h w.a t = true) (hs : ∀ y ∈ h, ∀ a, a % longL x = 0 → w.a ≤ a → a + longL x ≤ w.b → ((a ≤ y.t0 ∧ y.t0 < a + longL x) ∨ (a - longL x < y.t1 ∧ y.t1 ≤ a)) → keepB x h a t = true) :
    ∀ m, w.a ≤ m → m < w.b → keepB x h m t = true := by
  have hn : 1 ≤ longL x := by unfold longL; omega
  have at_ : ∀ a, a % longL x = 0 → keepB x h a t = decide (t ≤ untilF x.keep h a (a + longL x)) := fun a h1 => by
    unfold keepB
    rw [ivl_of hx h1 (Int.le_refl _) (by omega)]
  have key : ∀ (k : Nat), w.a + k * longL x < w.b → keepB x h (w.a + k * longL x) t = true := by
    intro k
    induction k with
    | zero => intro _; simpa using h0
    | succ k ih =>
      intro hk
      have e : w.a + ((k + 1 : Nat) : Int) * longL x = w.a + k * longL x + longL x := by
        rw [Int.natCast_add, Int.add_mul]; simp; omega
      rw [e] at hk ⊢
      have hal : ∀ k : Nat, (w.a + (k : Int) * longL x) % longL x = 0 := fun k => by rw [Int.add_mul_emod_self_right]; exact ha
      have hal2 : (w.a + (k : Int) * longL x + longL x) % longL x = 0 := by rw [Int.add_emod_right]; exact hal k
      have hle : 0 ≤ (k : Int) * longL x := Int.mul_nonneg (by omega) (by omega)
      have hfit : w.a + (k : Int) * longL x + longL x + longL x ≤ w.b := by
        have h1 := Int.emod_add_ediv_mul w.b (longL x)
        have h2 := Int.emod_add_ediv_mul (w.a + (k : Int) * longL x + longL x) (longL x)
        rw [hb] at h1
        rw [hal2] at h2
        generalize w.b / longL x = p at *
        generalize (w.a + (k : Int) * longL x + longL x) / longL x = q at *
        have h3 : q < p := by
          apply Int.not_le.1
          intro h4
          have := Int.mul_le_mul_of_nonneg_right h4 (show (0 : Int) ≤ longL x by omega)
          omega
        have h4 := Int.mul_le_mul_of_nonneg_right (show q + 1 ≤ p by omega) (show (0 : Int) ≤ longL x by omega)
        rw [Int.add_mul] at h4
        omega
      by_cases hst : ∃ y ∈ h, ((w.a + k * longL x + longL x ≤ y.t0 ∧ y.t0 < w.a + k * longL x + longL x + longL x) ∨ (w.a + k * longL x + longL x - longL x < y.t1 ∧ y.t1 ≤ w.a + k * longL x + longL x))
      · obtain ⟨y, hy, hc⟩ := hst
        exact hs y hy _ hal2 (by omega) hfit hc
      · have ih := ih (by omega)
        rw [at_ _ (hal k)] at ih
        rw [at_ _ hal2]
        have ih := of_decide_eq_true ih
        apply decide_eq_true
        have := until_next (x := x) (h := h) (a := w.a + k * longL x + longL x) (n := longL x) hv hn (fun y hy => by
          have h1 : ¬((w.a + k * longL x + longL x ≤ y.t0 ∧ y.t0 < w.a + k * longL x + longL x + longL x) ∨ (w.a + k * longL x + longL x - longL x < y.t1 ∧ y.t1 ≤ w.a + k * longL x + longL x)) := fun hc => hst ⟨y, hy, hc⟩
          omega)
        rw [show w.a + (k : Int) * longL x + longL x - longL x = w.a + k * longL x by omega] at this
        omega
  intro m h1 h2
  have hf := ivl_fst m hx
  have h3 := Int.emod_add_ediv_mul w.a (longL x)
  rw [ha] at h3
  rw [ivl_eq x m hx] at hf
  dsimp only at hf
  obtain ⟨f1, f2, f3, -⟩ := hf
  have e : m / longL x * longL x = w.a + ((m / longL x - w.a / longL x).toNat : Int) * longL x := by
    have h4 : w.a / longL x ≤ m / longL x := by
      apply Int.not_lt.1
      intro h5
      have h6 := Int.mul_le_mul_of_nonneg_right (show m / longL x + 1 ≤ w.a / longL x by omega) (show (0 : Int) ≤ longL x by omega)
      rw [Int.add_mul] at h6
      omega
    rw [Int.toNat_of_nonneg (by omega), Int.sub_mul]
    omega
  have := key _ (by rw [← e]; omega)
  rw [← e, at_ _ (Int.mul_emod_left _ _)] at this
  unfold keepB
  rw [ivl_eq x m hx]
  exact this
def inW (w : Win) (m : Int) : Bool := decide (w.a ≤ m ∧ m < w.b)
/-- kept of all moments of a window -/
def AllK (x : Level) (h : List Hold) (w : Win) (t : Int) : Prop := ∀ m, w.a ≤ m → m < w.b → keepB x h m t = true
/-- the moments that the program looks at -/
def momsP (x : Level) (h : List Hold) (w : Win) : List Int := [w.a] ++ h.flatMap fun y => [(ivl x y.t0).1, (ivl x y.t0).2, (ivl x y.t1).1, (ivl x y.t1).2]
theorem momsP_all {x : Level} {h : List Hold} {w : Win} {t : Int} (hx : 0 ≤ x.step) (hv : ∀ y ∈ h, y.t0 < y.t1) (hw : w.a < w.b) (ha : w.a % longL x = 0) (hb : w.b % longL x = 0) :
    (momsP x h w).any (fun m => inW w m && !keepB x h m t) = false ↔ AllK x h w t := by
  have hn : 1 ≤ longL x := by unfold longL; omega
  rw [List.any_eq_false]
  constructor
  · intro h1
    have kept : ∀ m ∈ momsP x h w, w.a ≤ m → m < w.b → keepB x h m t = true := fun m hm g1 g2 => by
      have := h1 m hm
      rw [show inW w m = true from decide_eq_true ⟨g1, g2⟩] at this
      simpa using this
    refine all_kept hx hv ha hb (kept _ (by simp [momsP]) (Int.le_refl _) hw) ?_
    intro y hy a g1 g2 g3 g4
    have mem : ∀ z ∈ [(ivl x y.t0).1, (ivl x y.t0).2, (ivl x y.t1).1, (ivl x y.t1).2], z ∈ momsP x h w := fun z hz => List.mem_append_right _ (List.mem_flatMap.2 ⟨y, hy, hz⟩)
    rcases g4 with ⟨g4, g5⟩ | ⟨g4, g5⟩
    · refine kept _ (mem a ?_) g2 (by omega)
      rw [ivl_of hx g1 g4 g5]; simp
    · refine kept _ (mem a ?_) g2 (by omega)
      by_cases e : y.t1 = a
      · rw [ivl_of (m := y.t1) hx g1 (by omega) (by omega)]; simp
      · have g6 : (a - longL x) % longL x = 0 := by rw [Int.sub_emod_right]; exact g1
        rw [ivl_of (m := y.t1) hx g6 (by omega) (by omega)]
        simp
  · intro h1 m hm
    by_cases c : w.a ≤ m ∧ m < w.b
    · rw [h1 m c.1 c.2]; simp
    · rw [show inW w m = false from decide_eq_false c]; simp
/-- the moments that the document's answer looks at -/
def momsH (n : Int) (w : Win) (y : Hold) : List Int := [y.t0 - n, y.t0 - 1, y.t0, y.t1 - 1, y.t1, y.t1 + n].filter (inW w)
def momsA (x : Level) (w : Win) (t : Int) : List Int := [t - x.keep - longL x - 1, t - x.keep - longL x, t - x.keep - 2, t - x.keep - 1, t - x.keep].filter (inW w)
def momsR (x : Level) (h : List Hold) (w : Win) (t : Int) : List Int := [w.a, w.b - 1] ++ h.flatMap (momsH (longL x) w) ++ momsA x w t
theorem momsR_in {x : Level} {h : List Hold} {w : Win} {t m : Int} (hw : w.a < w.b) (hm : m ∈ momsR x h w t) : w.a ≤ m ∧ m < w.b := by
  unfold momsR at hm
  rcases List.mem_append.1 hm with hm | hm
  · rcases List.mem_append.1 hm with hm | hm
    · simp at hm; omega
    · obtain ⟨y, _, hm⟩ := List.mem_flatMap.1 hm
      exact of_decide_eq_true (List.mem_filter.1 hm).2
  · exact of_decide_eq_true (List.mem_filter.1 hm).2
theorem momsR_all {x : Level} {h h' : List Hold} {w : Win} {t : Int} (hx : 0 ≤ x.step) (hv : ∀ y ∈ h, y.t0 < y.t1) (hh : ∀ y ∈ h', y ∈ h) (hw : w.a < w.b) (ha : w.a % longL x = 0) (hb : w.b % longL x = 0) :
    (momsR x h w t).any (fun m => !keepB x h' m t) = false ↔ AllK x h' w t := by
  have hn : 1 ≤ longL x := by unfold longL; omega
  rw [List.any_eq_false]
  constructor
  · intro h1
    have kept : ∀ m ∈ momsR x h w t, keepB x h' m t = true := fun m hm => by simpa using h1 m hm
    refine all_kept hx (fun y hy => hv y (hh y hy)) ha hb (kept _ (by simp [momsR])) ?_
    intro y hy a g1 g2 g3 g4
    have mem : ∀ z ∈ [y.t0 - longL x, y.t0 - 1, y.t0, y.t1 - 1, y.t1, y.t1 + longL x], w.a ≤ z → z < w.b → z ∈ momsR x h w t := fun z hz z1 z2 => List.mem_append_left _ (List.mem_append_right _ (List.mem_flatMap.2 ⟨y, hh y hy, List.mem_filter.2 ⟨hz, decide_eq_true ⟨z1, z2⟩⟩⟩))
    have same : ∀ m, a ≤ m → m < a + longL x → keepB x h' a t = keepB x h' m t := fun m m1 m2 => by
      unfold keepB
      rw [ivl_of (m := m) hx g1 m1 m2, ivl_of (m := a) hx g1 (Int.le_refl _) (by omega)]
    rcases g4 with ⟨g4, g5⟩ | ⟨g4, g5⟩
    · rw [same _ g4 g5]
      exact kept _ (mem _ (by simp) (by omega) (by omega))
    · by_cases e : y.t1 = a
      · rw [same y.t1 (by omega) (by omega)]
        exact kept _ (mem _ (by simp) (by omega) (by omega))
      · rw [same (y.t1 + longL x) (by omega) (by omega)]
        exact kept _ (mem _ (by simp) (by omega) (by omega))
  · intro h1 m hm
    have := momsR_in hw hm
    rw [h1 m this.1 this.2]; simp
/-! ### the first time at which nothing is kept -/
def stepE (tag : ByteArray) (w0 w1 t : Int) (y : Hold) : Int := if hold1 tag w0 w1 t y = true then y.ends else t
/-- all times up to there are held -/
theorem stepE_held {h : List Hold} {tag : ByteArray} {w0 w1 s t : Int} {y : Hold} (hy : y ∈ h) (hi : ∀ u, s ≤ u → u < t → heldB h tag w0 w1 u = true) : ∀ u, s ≤ u → u < stepE tag w0 w1 t y → heldB h tag w0 w1 u = true := by
  intro u h1 h2
  unfold stepE at h2
  split at h2
  · rename_i c
    by_cases h3 : u < t
    · exact hi u h1 h3
    · unfold heldB
      rw [List.any_eq_true]
      refine ⟨y, hy, ?_⟩
      unfold hold1 at c ⊢
      have c := of_decide_eq_true c
      exact decide_eq_true ⟨c.1, c.2.1, c.2.2.1, by omega, h2⟩
  · exact hi u h1 h2
theorem ends_first {x : Level} {h : List Hold} {tag : ByteArray} {w0 w1 t : Int} (hw : w0 < w1) (hv : ∀ y ∈ h, y.t0 < y.t1) (h1 : w1 + x.keep + 1 ≤ t) (h2 : ∀ u, w1 + x.keep + 1 ≤ u → u < t → heldB h tag w0 w1 u = true) (h3 : heldB h tag w0 w1 t = false) : t = untilF x.keep (ofF h tag) w0 w1 + 1 := by
  unfold untilF
  have hS : ∀ y, y ∈ isortG madeLt ((ofF h tag).filter (meets w0 w1)) ↔ y ∈ h ∧ (y.tag = noS ∨ y.tag = tag) ∧ y.t0 < w1 ∧ w0 < y.t1 := by
    intro y
    rw [isortG_mem, List.mem_filter, ofF, List.mem_filter]
    simp only [meets, decide_eq_true_eq]
    constructor
    · rintro ⟨⟨h1, h2⟩, h3⟩; exact ⟨h1, h2, by omega, by omega⟩
    · rintro ⟨h1, h2, h3, h4⟩; have := hv y h1; exact ⟨⟨h1, h2⟩, by omega⟩
  have hsort := isortG_sorted madeLt (fun y => y.made) (fun _ _ => rfl) ((ofF h tag).filter (meets w0 w1))
  generalize isortG madeLt ((ofF h tag).filter (meets w0 w1)) = S at *
  have hheld : ∀ u, heldB h tag w0 w1 u = true ↔ ∃ y ∈ S, y.made ≤ u ∧ u < y.ends := by
    intro u
    unfold heldB
    rw [List.any_eq_true]
    simp only [hold1, decide_eq_true_eq]
    constructor
    · rintro ⟨y, h1, h2, h3, h4, h5, h6⟩; exact ⟨y, (hS y).2 ⟨h1, h2, h3, h4⟩, h5, h6⟩
    · rintro ⟨y, h1, h5, h6⟩
      obtain ⟨h1, h2, h3, h4⟩ := (hS y).1 h1
      exact ⟨y, h1, h2, h3, h4, h5, h6⟩
  have hge := foldU_ge S (w1 + x.keep)
  have hnx := foldU_next S (w1 + x.keep) hsort
  have hall := fun u => foldU_all S (w1 + x.keep) u
  generalize S.foldl stepU (w1 + x.keep) = U at *
  rcases Int.lt_trichotomy t (U + 1) with c | c | c
  · obtain ⟨y, hy, g⟩ := hall t (by omega) (by omega)
    rw [(hheld t).2 ⟨y, hy, g⟩] at h3
    cases h3
  · exact c
  · obtain ⟨y, hy, g⟩ := (hheld _).1 (h2 (U + 1) (by omega) c)
    exact absurd g (hnx y hy)
/-- the greatest of these times -/
def endsR (l : List Level) (h : List Hold) (m : Int) : Int := l.foldl (fun a x => max a (untilL h m x + 1)) 0
theorem endsR_next {l : List Level} {k : Nat} (h : List Hold) (m : Int) (hk : k < l.length) : endsR (l.take (k + 1)) h m = max (endsR (l.take k) h m) (untilF l[k].keep h (ivl l[k] m).1 (ivl l[k] m).2 + 1) := by
  unfold endsR
  rw [List.take_succ_eq_append_getElem hk, List.foldl_append]
  rfl
theorem endsR_shift (h : List Hold) (m : Int) : ∀ (l : List Level) (a : Int), l.foldl (fun a x => max a (untilL h m x + 1)) (a + 1) = l.foldl (fun a x => max a (untilL h m x)) a + 1
  | [], _ => rfl
  | x :: l, a => by
    rw [List.foldl_cons, List.foldl_cons, show max (a + 1) (untilL h m x + 1) = max a (untilL h m x) + 1 by omega]
    exact endsR_shift h m l _
theorem endsR_eq {l : List Level} {h : List Hold} {m : Int} (hl : lvF l = 0) (hm : 0 ≤ m) (hm2 : m ≤ 400000000000) (hn : ∀ y ∈ h, y.near) : endsR l h m = endsLast l h m + 1 := by
  obtain ⟨hx, _, h0⟩ := lvF_ok hl
  cases l with
  | nil => simp at h0
  | cons x0 ls =>
    have hb := untilL_bd (hx x0 (by simp)) hm hm2 hn
    unfold endsR endsLast
    rw [List.foldl_cons, List.foldl_cons, show max 0 (untilL h m x0 + 1) = max 0 (untilL h m x0) + 1 by omega]
    exact endsR_shift h m ls _
end Go.Proofs.YtnpdbnkgipkgaaaGreat
