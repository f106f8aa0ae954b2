/- Several texts in one: Which levels keep data: the program and the document's answer, and what follows. No condition. -/
import Derived.Test.YtnpdbnkgipkgaaaGreatHVGD
import Derived.Test.YtnpdbnkgipkgaaaGreatHVGC
/- Which levels keep data: the program and the document's answer. Condition: few holds, numbers as those of levels. -/
namespace Go.Proofs.YtnpdbnkgipkgaaaGreat
open Go Go.RowKit
set_option maxRecDepth 100000
set_option linter.all false
set_option maxHeartbeats 1000000
variable {H : Hp} {K : AV → Hp → Prop}
def idxG {α : Type} (p : α → Bool) : Nat → List α → List Int
  | _, [] => []
  | i, x :: t => (if p x = true then [(i : Int)] else []) ++ idxG p (i + 1) t
theorem idxG_snoc {α : Type} (p : α → Bool) (x : α) : ∀ (l : List α) (i : Nat), idxG p i (l ++ [x]) = idxG p i l ++ (if p x = true then [((i + l.length : Nat) : Int)] else [])
  | [], i => by simp [idxG]
  | y :: l, i => by
    rw [List.cons_append, idxG, idxG_snoc p x l (i + 1), idxG, List.append_assoc, List.length_cons, show i + 1 + l.length = i + (l.length + 1) by omega]
theorem idxG_next {α : Type} (p : α → Bool) {l : List α} {k : Nat} (h : k < l.length) : idxG p 0 (l.take (k + 1)) = idxG p 0 (l.take k) ++ (if p l[k] = true then [(k : Int)] else []) := by
  rw [List.take_succ_eq_append_getElem h, idxG_snoc, List.length_take, Nat.min_eq_left (Nat.le_of_lt h), Nat.zero_add]
theorem idxG_len {α : Type} (p : α → Bool) : ∀ (l : List α) (i : Nat), (idxG p i l).length ≤ l.length
  | [], _ => by simp [idxG]
  | x :: t, i => by
    have := idxG_len p t (i + 1)
    rw [idxG, List.length_append, List.length_cons]
    split <;> simp <;> omega
theorem errs3_lit (a b c : Int) {i ty n : Nat} {els : List (List AC)} {own : Bool} (hi : H[i]? = some (.row ty 1 els own)) (he : els = [[.int .i64 a], [.int .i64 b], [.int .i64 c]]) (hn : n = 3) (hk : K (.c (.int .i64 (firstE [a, b, c]))) (H.set i .dead)) : ACalls Tryz.prog 36 [.c (.sl (some (i, 0)) n)] H K := by
  subst he hn
  exact ACalls.lit hi (by simp [pureL, AC.pure]) (args' := [.c (.lst 1 ([a, b, c].map encI))]) (by simp [AV.frz1, AC.frz, encI]) (errsGo_a [a, b, c] (by simp) hk)
end Go.Proofs.YtnpdbnkgipkgaaaGreat
/- Which levels keep data: the program. Condition: few holds. -/
namespace Go.Proofs.YtnpdbnkgipkgaaaGreat
open Go Go.RowKit
set_option maxRecDepth 100000
set_option linter.all false
set_option maxHeartbeats 1000000
variable {H : Hp} {K : AV → Hp → Prop}
theorem firstE_two' {a b : Int} (h : firstE [a, b] = 0) : a = 0 ∧ b = 0 := firstE_two h
theorem firstE_three {a b c : Int} (h : firstE [a, b, c] = 0) : a = 0 ∧ b = 0 ∧ c = 0 := by
  simp only [firstE] at h
  split at h
  · split at h
    · split at h <;> omega
    · omega
  · omega
theorem momE_ok {m a : Int} (h : momE m a = 0) : 0 ≤ m ∧ m ≤ 345686399999 ∧ 0 ≤ a ∧ a ≤ 345686399999 ∧ m ≤ a := by
  unfold momE at h
  split at h
  · assumption
  · cases h
def levelsE (l : List Level) (h : List Hold) (tag : ByteArray) (m t : Int) : Int := firstE [firstE [lvF l, hdF h, tagE tag], momE m t]
def levelsRes (l : List Level) (h : List Hold) (tag : ByteArray) (m t : Int) : List Int × Int := if levelsE l h tag m t ≠ 0 then ([], levelsE l h tag m t) else (idxG (fun x => keepB x (ofF h tag) m t) 0 l, 0)
theorem first2_lit (a b : Int) {i ty n : Nat} {els : List (List AC)} {own : Bool} (hi : H[i]? = some (.row ty 1 els own)) (he : els = [[.int .i64 a], [.int .i64 b]]) (hn : n = 2) (hk : K (.c (.int .i64 (firstE [a, b]))) (H.set i .dead)) : ACalls Tryz.prog 76 [.c (.sl (some (i, 0)) n)] H K := by
  subst he hn
  exact ACalls.lit hi (by simp [pureL, AC.pure]) (args' := [.c (.lst 1 ([a, b].map encI))]) (by simp [AV.frz1, AC.frz, encI]) (first_a [a, b] (by simp) hk)
end Go.Proofs.YtnpdbnkgipkgaaaGreat
/- What is kept, and until when: no program in sight. No condition. -/
namespace Go.Proofs.YtnpdbnkgipkgaaaGreat
open Go Go.RowKit
set_option maxRecDepth 100000
set_option linter.all false
theorem idxG_mem {α : Type} (p : α → Bool) : ∀ (l : List α) (i : Nat) (n : Int), n ∈ idxG p i l ↔ ∃ k, ∃ h : k < l.length, n = (i : Int) + k ∧ p l[k] = true
  | [], i, n => by simp [idxG]
  | x :: t, i, n => by
    rw [idxG, List.mem_append, idxG_mem p t (i + 1) n]
    constructor
    · rintro (h | ⟨k, h, h1, h2⟩)
      · split at h
        · rename_i c
          simp at h
          exact ⟨0, by simp, by omega, c⟩
        · cases h
      · exact ⟨k + 1, by simp; omega, by omega, by simpa using h2⟩
    · rintro ⟨k, h, h1, h2⟩
      cases k with
      | zero =>
        left
        rw [List.getElem_cons_zero] at h2
        rw [if_pos h2]
        simp; omega
      | succ k =>
        right
        exact ⟨k, by simpa using h, by omega, by simpa using h2⟩
theorem idxG_zero {α : Type} (p : α → Bool) (x : α) (t : List α) : (0 : Int) ∈ idxG p 0 (x :: t) ↔ p x = true := by
  rw [idxG_mem]
  constructor
  · rintro ⟨k, h, h1, h2⟩
    obtain rfl : k = 0 := by omega
    exact h2
  · intro h
    exact ⟨0, by simp, by omega, h⟩
theorem idxG_ne {α : Type} (p : α → Bool) (l : List α) : 0 < (idxG p 0 l).length ↔ ∃ x ∈ l, p x = true := by
  rw [List.length_pos_iff_exists_mem]
  constructor
  · rintro ⟨n, hn⟩
    obtain ⟨k, h, _, h2⟩ := (idxG_mem p l 0 n).1 hn
    exact ⟨_, List.getElem_mem h, h2⟩
  · rintro ⟨x, hx, h2⟩
    obtain ⟨k, h, rfl⟩ := List.getElem_of_mem hx
    exact ⟨k, (idxG_mem p l 0 k).2 ⟨k, h, by omega, h2⟩⟩
def taB : ByteArray := ⟨#[116, 97]⟩
theorem taB_ok : tagE taB = 0 := by decide +kernel
theorem levels_ok {lv : List Level} {h : List Hold} {tag : ByteArray} {m t : Int} (c1 : lvF lv = 0) (c2 : hdF h = 0) (c3 : tagE tag = 0) (c4 : momE m t = 0) : levelsRes lv h tag m t = (idxG (fun x => keepB x (ofF h tag) m t) 0 lv, 0) := by
  unfold levelsRes levelsE
  rw [c1, c2, c3, c4]
  rfl
theorem momE_of {m t : Int} (h0 : 0 ≤ m) (h1 : m ≤ t) (h2 : t ≤ 345686399999) : momE m t = 0 := by
  unfold momE
  rw [if_pos (by omega)]
def untilL (h : List Hold) (m : Int) (x : Level) : Int := untilF x.keep h (ivl x m).1 (ivl x m).2
def endsLast (l : List Level) (h : List Hold) (m : Int) : Int := l.foldl (fun a x => max a (untilL h m x)) 0
theorem maxF_ge {f : Level → Int} : ∀ (l : List Level) (a : Int), a ≤ l.foldl (fun a x => max a (f x)) a ∧ (∀ x ∈ l, f x ≤ l.foldl (fun a x => max a (f x)) a) ∧ (l.foldl (fun a x => max a (f x)) a = a ∨ ∃ x ∈ l, l.foldl (fun a x => max a (f x)) a = f x)
  | [], a => ⟨Int.le_refl _, by simp, .inl rfl⟩
  | x :: l, a => by
    obtain ⟨h1, h2, h3⟩ := maxF_ge (f := f) l (max a (f x))
    rw [List.foldl_cons]
    refine ⟨by omega, fun y hy => ?_, ?_⟩
    · rcases List.mem_cons.1 hy with rfl | hy
      · omega
      · exact h2 y hy
    · rcases h3 with h3 | ⟨y, hy, h3⟩
      · rcases Int.le_total a (f x) with h4 | h4
        · exact .inr ⟨x, by simp, by omega⟩
        · exact .inl (by omega)
      · exact .inr ⟨y, by simp [hy], h3⟩
theorem untilL_bd {h : List Hold} {m : Int} {x : Level} (hx : x.ok) (hm : 0 ≤ m) (hm2 : m ≤ 400000000000) (hn : ∀ y ∈ h, y.near) : m + 1 ≤ untilL h m x ∧ untilL h m x ≤ 3000000000000 := by
  have hb := ivl_bd x m hx hm hm2
  obtain ⟨_, _, k1, k2⟩ := hx
  unfold untilL untilF
  have h1 := foldU_ge (isortG madeLt (h.filter (meets (ivl x m).1 (ivl x m).2))) ((ivl x m).2 + x.keep)
  have h2 := foldU_bd (isortG madeLt (h.filter (meets (ivl x m).1 (ivl x m).2))) ((ivl x m).2 + x.keep) (fun y hy => hn y (List.mem_filter.1 ((isortG_mem _ _ _).1 hy)).1) (by omega) (by omega)
  omega
theorem ends_is {l : List Level} {h : List Hold} {m : Int} (hl : lvF l = 0) (hm : 0 ≤ m) (hm2 : m ≤ 400000000000) (hn : ∀ y ∈ h, y.near) : (∃ x ∈ l, endsLast l h m = untilL h m x) ∧ (∀ y ∈ l, untilL h m y ≤ endsLast l h m) ∧ m + 1 ≤ endsLast l h m ∧ endsLast l h m ≤ 3000000000000 := by
  obtain ⟨hx, _, h0⟩ := lvF_ok hl
  obtain ⟨g1, g2, g3⟩ := maxF_ge (f := untilL h m) l 0
  cases l with
  | nil => simp at h0
  | cons x0 ls =>
    have hb := untilL_bd (hx x0 (by simp)) hm hm2 hn
    have g4 := g2 x0 (by simp)
    unfold endsLast
    rcases g3 with g3 | ⟨x, hx1, g3⟩
    · omega
    · have hb2 := untilL_bd (hx x hx1) hm hm2 hn
      refine ⟨⟨x, hx1, g3⟩, g2, by omega, by omega⟩
/-- at a time something is kept, just if that is not behind the last one -/
theorem kept_iff {l : List Level} {h : List Hold} {m : Int} (hl : lvF l = 0) (hm : 0 ≤ m) (hm2 : m ≤ 400000000000) (hn : ∀ y ∈ h, y.near) (t : Int) : 0 < (idxG (fun x => keepB x h m t) 0 l).length ↔ t ≤ endsLast l h m := by
  obtain ⟨⟨x, hx, e⟩, g2, _⟩ := ends_is hl hm hm2 hn
  rw [idxG_ne]
  constructor
  · rintro ⟨y, hy, h1⟩
    have h1 : t ≤ untilL h m y := of_decide_eq_true h1
    have := g2 y hy
    omega
  · intro h1
    exact ⟨x, hx, decide_eq_true (by show t ≤ untilL h m x; omega)⟩
theorem kept_sub {l : List Level} {h : List Hold} {m t u : Int} (htu : t ≤ u) : (idxG (fun x => keepB x h m u) 0 l).any (fun i => !decide (i ∈ idxG (fun x => keepB x h m t) 0 l)) = false := by
  rw [List.any_eq_false]
  intro n hn
  obtain ⟨k, hk, e, h2⟩ := (idxG_mem _ _ _ _).1 hn
  have h2 : u ≤ untilL h m l[k] := of_decide_eq_true h2
  have : n ∈ idxG (fun x => keepB x h m t) 0 l := (idxG_mem _ _ _ _).2 ⟨k, hk, e, decide_eq_true (by show t ≤ untilL h m l[k]; omega)⟩
  simpa using this
end Go.Proofs.YtnpdbnkgipkgaaaGreat
/- The first time at which nothing is kept: the program. Condition: few holds, numbers as those of levels. -/
namespace Go.Proofs.YtnpdbnkgipkgaaaGreat
open Go Go.RowKit
set_option maxRecDepth 100000
set_option linter.all false
set_option maxHeartbeats 1000000
variable {H : Hp} {K : AV → Hp → Prop}
def endsRes (l : List Level) (h : List Hold) (tag : ByteArray) (m : Int) : Int × Bool × Int :=
  if firstE [lvF l, hdF h, tagE tag] ≠ 0 then (0, false, firstE [lvF l, hdF h, tagE tag]) else if ¬(0 ≤ m ∧ m ≤ 345686399999) then (0, false, 1)
  else if 345686399999 ≤ endsLast l (ofF h tag) m then (0, false, 0) else (endsLast l (ofF h tag) m + 1, true, 0)
theorem endsLast_next {l : List Level} {k : Nat} (h : List Hold) (m : Int) (hk : k < l.length) : endsLast (l.take (k + 1)) h m = max (endsLast (l.take k) h m) (untilF l[k].keep h (ivl l[k] m).1 (ivl l[k] m).2) := by
  unfold endsLast
  rw [List.take_succ_eq_append_getElem hk, List.foldl_append]
  rfl
theorem endsLast_bd {l : List Level} {h : List Hold} {m : Int} (hx : ∀ x ∈ l, x.ok) (hm : 0 ≤ m) (hm2 : m ≤ 400000000000) (hn : ∀ y ∈ h, y.near) : 0 ≤ endsLast l h m ∧ endsLast l h m ≤ 3000000000000 := by
  obtain ⟨g1, g2, g3⟩ := maxF_ge (f := untilL h m) l 0
  unfold endsLast
  rcases g3 with g3 | ⟨x, hx1, g3⟩
  · omega
  · have := untilL_bd (hx x hx1) hm hm2 hn
    omega
end Go.Proofs.YtnpdbnkgipkgaaaGreat
/- Holds that are drawn. No condition. -/
namespace Go.Proofs.YtnpdbnkgipkgaaaGreat
open Go Go.RowKit
set_option maxRecDepth 100000
set_option linter.all false
set_option maxHeartbeats 1000000
variable {H : Hp} {K : AV → Hp → Prop}
def encT (s : ByteArray) : List AC := [.str s]
attribute [go_sem] encT
theorem some_a (s : Nat) (zs : List Int) (k : Int) (l : List ByteArray) (hs : Str H s zs k) (h0 : 0 < l.length) (h1 : l.length ≤ 1000)
    (hk : ∀ r : ByteArray, r ∈ l → K (.c (.str r)) (H.set s (strO zs (k + 1)))) : ACalls Tryz.prog 33 [.c (.ptr (some (s, 0, 0))), .c (.lst 1 (l.map encT))] H K := by
  refine acalls Tryz.func33 rfl (by kernel_rfl) (by simp (disch := first | omega | (simp only [go_sem]; first | done | omega)) only [go_sem]) (fun hH => ?_)
  simp (disch := first | omega | (simp only [go_sem]; first | done | omega)) only [go_sem]
  repeat' (first | ((first | refine acond_d ?_ ?_ | refine acond_b ?_ ?_ | refine ag_d ?_ ?_ | refine ag_n ?_ ?_ | refine ag_bt ?_ ?_ | refine ag_bf ?_ ?_) <;> intro c <;> try simp (disch := first | omega | (simp only [go_sem]; first | done | omega)) only [go_sem, c]) | ((first | refine w_draw (by kernel_rfl) (by decide +kernel) ?_ | refine next_a s _ _ _ hs (by omega) (by omega) (fun r _ _ => ?_)) <;> try simp (disch := first | omega | (simp only [go_sem]; first | done | omega)) only [go_sem]))
  exact Ret.same (by simp) (hk _ (List.getElem_mem _))
theorem some_lit (s : Nat) (zs : List Int) (k : Int) (l : List ByteArray) {i ty n : Nat} {els : List (List AC)} {own : Bool} (hi : H[i]? = some (.row ty 1 els own)) (he : els = l.map encT) (hn : n = l.length) (hs : Str H s zs k) (hne : i ≠ s) (h0 : 0 < l.length) (h1 : l.length ≤ 1000)
    (hk : ∀ r : ByteArray, r ∈ l → K (.c (.str r)) ((H.set i .dead).set s (strO zs (k + 1)))) : ACalls Tryz.prog 33 [.c (.ptr (some (s, 0, 0))), .c (.sl (some (i, 0)) n)] H K := by
  subst he hn
  refine ACalls.lit hi (by simp [pureL, encT, AC.pure]) (args' := [.c (.ptr (some (s, 0, 0))), .c (.lst 1 (l.map encT))]) ?_ (some_a s zs k l ⟨hs.1, hs.2.1, hs.2.2.1, ?_⟩ h0 h1 hk)
  · simp [AV.frz1, AC.frz]
    rw [List.take_of_length_le (by simp)]
  · rw [List.getElem?_set_ne hne]; exact hs.2.2.2
def keys4 : List ByteArray := [⟨#[104, 97]⟩, ⟨#[104, 98]⟩, ⟨#[104, 99]⟩, ⟨#[104, 100]⟩]
end Go.Proofs.YtnpdbnkgipkgaaaGreat
