/- Several texts in one: Which levels keep data: the program and the document's answer, and what follows. No condition. -/
import Derived.Test.YthgdllfkejlnmaaGreatHVGD
import Derived.Test.YthgdllfkejlnmaaGreatHVGC
/- Which levels keep data: the program and the document's answer. Condition: few holds, numbers as those of levels. -/
namespace Go.Proofs.YthgdllfkejlnmaaGreat
open Go Go.RowKit
set_option maxRecDepth 100000
set_option linter.all false
set_option maxHeartbeats 1000000
variable {H : Hp} {K : AV → Hp → Prop}
def idxG {α : Type} (p : α → Bool) : Nat → List α → List Int
  | _, [] => []
  | i, x :: t => (if p x = true then [(i : Int)] else []) ++ idxG p (i + 1) t
theorem idxG_snoc {α : Type} (p : α → Bool) (x : α) : ∀ (l : List α) (i : Nat), idxG p i (l ++ [x]) = idxG p i l ++ (if p x = true then [((i + l.length : Nat) : Int)] else [])
  | [], i => by simp [idxG]
  | y :: l, i => by
    rw [List.cons_append, idxG, idxG_snoc p x l (i + 1), idxG, List.append_assoc, List.length_cons, show i + 1 + l.length = i + (l.length + 1) by omega]
theorem idxG_next {α : Type} (p : α → Bool) {l : List α} {k : Nat} (h : k < l.length) : idxG p 0 (l.take (k + 1)) = idxG p 0 (l.take k) ++ (if p l[k] = true then [(k : Int)] else []) := by
  rw [List.take_succ_eq_append_getElem h, idxG_snoc, List.length_take, Nat.min_eq_left (Nat.le_of_lt h), Nat.zero_add]
theorem idxG_len {α : Type} (p : α → Bool) : ∀ (l : List α) (i : Nat), (idxG p i l).length ≤ l.length
  | [], _ => by simp [idxG]
  | x :: t, i => by
    have := idxG_len p t (i + 1)
    rw [idxG, List.length_append, List.length_cons]
    split <;> simp <;> omega
theorem fault_a (l : List Level) (h : List Hold) (tag : ByteArray) (hl : l.length ≤ 1000) (hlen : h.length ≤ 1000) (hs : ∀ x ∈ h, x.short) (ht : tag.size ≤ 1000) (hk : K (.c (.int .i64 (firstE [lvF l, hdF h, tagE tag]))) H) : ACalls Tryz.prog 84 [.c (.lst 2 (l.map encL)), .c (.lst 6 (h.map encH)), (.c (.str tag))] H K := by
  refine acalls Tryz.func84 rfl (by kernel_rfl) (by simp (disch := first | omega | (simp only [go_sem]; first | done | omega)) only [go_sem]) (fun hH => ?_)
  simp (disch := first | omega | (simp only [go_sem]; first | done | omega)) only [go_sem]
  refine checkLevels_a l (by omega) ?_
  simp (disch := first | omega | (simp only [go_sem]; first | done | omega)) only [go_sem]
  refine checkHolds_a h (by omega) hs ?_
  simp (disch := first | omega | (simp only [go_sem]; first | done | omega)) only [go_sem]
  refine tagFault_a tag ht ?_
  simp (disch := first | omega | (simp only [go_sem]; first | done | omega)) only [go_sem]
  refine first3_lit (lvF l) (hdF h) (tagE tag) (by first | exact at0 (by simp) | exact at1 (by simp) | exact at2 (by simp) | exact at3 (by simp) | exact at4 (by simp) | exact at5 (by simp) | exact atG 6 (by simp) rfl | exact atG 7 (by simp) rfl | exact atG 8 (by simp) rfl | exact atG 9 (by simp) rfl | exact atG 10 (by simp) rfl | assumption) rfl rfl ?_
  simp (disch := first | omega | (simp only [go_sem]; first | done | omega)) only [go_sem]
  exact Ret.drop hH (Nat.le_refl _) trivial hk
theorem errs3_lit (a b c : Int) {i ty n : Nat} {els : List (List AC)} {own : Bool} (hi : H[i]? = some (.row ty 1 els own)) (he : els = [[.int .i64 a], [.int .i64 b], [.int .i64 c]]) (hn : n = 3) (hk : K (.c (.int .i64 (firstE [a, b, c]))) (H.set i .dead)) : ACalls Tryz.prog 21 [.c (.sl (some (i, 0)) n)] H K := by
  subst he hn
  exact ACalls.lit hi (by simp [pureL, AC.pure]) (args' := [.c (.lst 1 ([a, b, c].map encI))]) (by simp [AV.frz1, AC.frz, encI]) (errsGo_a [a, b, c] (by simp) hk)
theorem rulesFault_a (l : List Level) (h : List Hold) (tag : ByteArray) (hl : l.length ≤ 1000) (hlen : h.length ≤ 1000) (hs : ∀ x ∈ h, x.short) (ht : tag.size ≤ 1000) (hk : K (.c (.int .i64 (firstE [lvF l, hdF h, tagE tag]))) H) : ACalls Tryz.prog 22 [.c (.lst 2 (l.map encL)), .c (.lst 6 (h.map encH)), (.c (.str tag))] H K := by
  refine acalls Tryz.func22 rfl (by kernel_rfl) (by simp (disch := first | omega | (simp only [go_sem]; first | done | omega)) only [go_sem]) (fun hH => ?_)
  simp (disch := first | omega | (simp only [go_sem]; first | done | omega)) only [go_sem]
  refine levelsFault_a l (by omega) ?_
  simp (disch := first | omega | (simp only [go_sem]; first | done | omega)) only [go_sem]
  refine holdsFault_a h (by omega) hs ?_
  simp (disch := first | omega | (simp only [go_sem]; first | done | omega)) only [go_sem]
  refine nameFault_a tag ht ?_
  simp (disch := first | omega | (simp only [go_sem]; first | done | omega)) only [go_sem]
  refine errs3_lit (lvF l) (hdF h) (tagE tag) (by first | exact at0 (by simp) | exact at1 (by simp) | exact at2 (by simp) | exact at3 (by simp) | exact at4 (by simp) | exact at5 (by simp) | exact atG 6 (by simp) rfl | exact atG 7 (by simp) rfl | exact atG 8 (by simp) rfl | exact atG 9 (by simp) rfl | exact atG 10 (by simp) rfl | assumption) rfl rfl ?_
  simp (disch := first | omega | (simp only [go_sem]; first | done | omega)) only [go_sem]
  exact Ret.drop hH (Nat.le_refl _) trivial hk
end Go.Proofs.YthgdllfkejlnmaaGreat
/- Which levels keep data: the program. Condition: few holds. -/
namespace Go.Proofs.YthgdllfkejlnmaaGreat
open Go Go.RowKit
set_option maxRecDepth 100000
set_option linter.all false
set_option maxHeartbeats 1000000
variable {H : Hp} {K : AV → Hp → Prop}
theorem firstE_two' {a b : Int} (h : firstE [a, b] = 0) : a = 0 ∧ b = 0 := firstE_two h
theorem firstE_three {a b c : Int} (h : firstE [a, b, c] = 0) : a = 0 ∧ b = 0 ∧ c = 0 := by
  simp only [firstE] at h
  split at h
  · split at h
    · split at h <;> omega
    · omega
  · omega
theorem momE_ok {m a : Int} (h : momE m a = 0) : 0 ≤ m ∧ m ≤ 345686399999 ∧ 0 ≤ a ∧ a ≤ 345686399999 ∧ m ≤ a := by
  unfold momE at h
  split at h
  · assumption
  · cases h
def levelsE (l : List Level) (h : List Hold) (tag : ByteArray) (m t : Int) : Int := firstE [firstE [lvF l, hdF h, tagE tag], momE m t]
def levelsRes (l : List Level) (h : List Hold) (tag : ByteArray) (m t : Int) : List Int × Int := if levelsE l h tag m t ≠ 0 then ([], levelsE l h tag m t) else (idxG (fun x => keepB x (ofF h tag) m t) 0 l, 0)
theorem first2_lit (a b : Int) {i ty n : Nat} {els : List (List AC)} {own : Bool} (hi : H[i]? = some (.row ty 1 els own)) (he : els = [[.int .i64 a], [.int .i64 b]]) (hn : n = 2) (hk : K (.c (.int .i64 (firstE [a, b]))) (H.set i .dead)) : ACalls Tryz.prog 122 [.c (.sl (some (i, 0)) n)] H K := by
  subst he hn
  exact ACalls.lit hi (by simp [pureL, AC.pure]) (args' := [.c (.lst 1 ([a, b].map encI))]) (by simp [AV.frz1, AC.frz, encI]) (first_a [a, b] (by simp) hk)
end Go.Proofs.YthgdllfkejlnmaaGreat
/- What is kept, and until when: no program in sight. No condition. -/
namespace Go.Proofs.YthgdllfkejlnmaaGreat
open Go Go.RowKit
set_option maxRecDepth 100000
set_option linter.all false
theorem idxG_mem {α : Type} (p : α → Bool) : ∀ (l : List α) (i : Nat) (n : Int), n ∈ idxG p i l ↔ ∃ k, ∃ h : k < l.length, n = (i : Int) + k ∧ p l[k] = true
  | [], i, n => by simp [idxG]
  | x :: t, i, n => by
    rw [idxG, List.mem_append, idxG_mem p t (i + 1) n]
    constructor
    · rintro (h | ⟨k, h, h1, h2⟩)
      · split at h
        · rename_i c
          simp at h
          exact ⟨0, by simp, by omega, c⟩
        · cases h
      · exact ⟨k + 1, by simp; omega, by omega, by simpa using h2⟩
    · rintro ⟨k, h, h1, h2⟩
      cases k with
      | zero =>
        left
        rw [List.getElem_cons_zero] at h2
        rw [if_pos h2]
        simp; omega
      | succ k =>
        right
        exact ⟨k, by simpa using h, by omega, by simpa using h2⟩
theorem idxG_zero {α : Type} (p : α → Bool) (x : α) (t : List α) : (0 : Int) ∈ idxG p 0 (x :: t) ↔ p x = true := by
  rw [idxG_mem]
  constructor
  · rintro ⟨k, h, h1, h2⟩
    obtain rfl : k = 0 := by omega
    exact h2
  · intro h
    exact ⟨0, by simp, by omega, h⟩
theorem idxG_ne {α : Type} (p : α → Bool) (l : List α) : 0 < (idxG p 0 l).length ↔ ∃ x ∈ l, p x = true := by
  rw [List.length_pos_iff_exists_mem]
  constructor
  · rintro ⟨n, hn⟩
    obtain ⟨k, h, _, h2⟩ := (idxG_mem p l 0 n).1 hn
    exact ⟨_, List.getElem_mem h, h2⟩
  · rintro ⟨x, hx, h2⟩
    obtain ⟨k, h, rfl⟩ := List.getElem_of_mem hx
    exact ⟨k, (idxG_mem p l 0 k).2 ⟨k, h, by omega, h2⟩⟩
def taB : ByteArray := ⟨#[116, 97]⟩
theorem taB_ok : tagE taB = 0 := by decide +kernel
theorem levels_ok {lv : List Level} {h : List Hold} {tag : ByteArray} {m t : Int} (c1 : lvF lv = 0) (c2 : hdF h = 0) (c3 : tagE tag = 0) (c4 : momE m t = 0) : levelsRes lv h tag m t = (idxG (fun x => keepB x (ofF h tag) m t) 0 lv, 0) := by
  unfold levelsRes levelsE
  rw [c1, c2, c3, c4]
  rfl
theorem momE_of {m t : Int} (h0 : 0 ≤ m) (h1 : m ≤ t) (h2 : t ≤ 345686399999) : momE m t = 0 := by
  unfold momE
  rw [if_pos (by omega)]
def untilL (h : List Hold) (m : Int) (x : Level) : Int := untilF x.keep h (ivl x m).1 (ivl x m).2
def endsLast (l : List Level) (h : List Hold) (m : Int) : Int := l.foldl (fun a x => max a (untilL h m x)) 0
theorem maxF_ge {f : Level → Int} : ∀ (l : List Level) (a : Int), a ≤ l.foldl (fun a x => max a (f x)) a ∧ (∀ x ∈ l, f x ≤ l.foldl (fun a x => max a (f x)) a) ∧ (l.foldl (fun a x => max a (f x)) a = a ∨ ∃ x ∈ l, l.foldl (fun a x => max a (f x)) a = f x)
  | [], a => ⟨Int.le_refl _, by simp, .inl rfl⟩
  | x :: l, a => by
    obtain ⟨h1, h2, h3⟩ := maxF_ge (f := f) l (max a (f x))
    rw [List.foldl_cons]
    refine ⟨by omega, fun y hy => ?_, ?_⟩
    · rcases List.mem_cons.1 hy with rfl | hy
      · omega
      · exact h2 y hy
    · rcases h3 with h3 | ⟨y, hy, h3⟩
      · rcases Int.le_total a (f x) with h4 | h4
        · exact .inr ⟨x, by simp, by omega⟩
        · exact .inl (by omega)
      · exact .inr ⟨y, by simp [hy], h3⟩
theorem untilL_bd {h : List Hold} {m : Int} {x : Level} (hx : x.ok) (hm : 0 ≤ m) (hm2 : m ≤ 400000000000) (hn : ∀ y ∈ h, y.near) : m + 1 ≤ untilL h m x ∧ untilL h m x ≤ 3000000000000 := by
  have hb := ivl_bd x m hx hm hm2
  obtain ⟨_, _, k1, k2⟩ := hx
  unfold untilL untilF
  have h1 := foldU_ge (isortG madeLt (h.filter (meets (ivl x m).1 (ivl x m).2))) ((ivl x m).2 + x.keep)
  have h2 := foldU_bd (isortG madeLt (h.filter (meets (ivl x m).1 (ivl x m).2))) ((ivl x m).2 + x.keep) (fun y hy => hn y (List.mem_filter.1 ((isortG_mem _ _ _).1 hy)).1) (by omega) (by omega)
  omega
theorem ends_is {l : List Level} {h : List Hold} {m : Int} (hl : lvF l = 0) (hm : 0 ≤ m) (hm2 : m ≤ 400000000000) (hn : ∀ y ∈ h, y.near) : (∃ x ∈ l, endsLast l h m = untilL h m x) ∧ (∀ y ∈ l, untilL h m y ≤ endsLast l h m) ∧ m + 1 ≤ endsLast l h m ∧ endsLast l h m ≤ 3000000000000 := by
  obtain ⟨hx, _, h0⟩ := lvF_ok hl
  obtain ⟨g1, g2, g3⟩ := maxF_ge (f := untilL h m) l 0
  cases l with
  | nil => simp at h0
  | cons x0 ls =>
    have hb := untilL_bd (hx x0 (by simp)) hm hm2 hn
    have g4 := g2 x0 (by simp)
    unfold endsLast
    rcases g3 with g3 | ⟨x, hx1, g3⟩
    · omega
    · have hb2 := untilL_bd (hx x hx1) hm hm2 hn
      refine ⟨⟨x, hx1, g3⟩, g2, by omega, by omega⟩
/-- at a time something is kept, just if that is not behind the last one -/
theorem kept_iff {l : List Level} {h : List Hold} {m : Int} (hl : lvF l = 0) (hm : 0 ≤ m) (hm2 : m ≤ 400000000000) (hn : ∀ y ∈ h, y.near) (t : Int) : 0 < (idxG (fun x => keepB x h m t) 0 l).length ↔ t ≤ endsLast l h m := by
  obtain ⟨⟨x, hx, e⟩, g2, _⟩ := ends_is hl hm hm2 hn
  rw [idxG_ne]
  constructor
  · rintro ⟨y, hy, h1⟩
    have h1 : t ≤ untilL h m y := of_decide_eq_true h1
    have := g2 y hy
    omega
  · intro h1
    exact ⟨x, hx, decide_eq_true (by show t ≤ untilL h m x; omega)⟩
theorem kept_sub {l : List Level} {h : List Hold} {m t u : Int} (htu : t ≤ u) : (idxG (fun x => keepB x h m u) 0 l).any (fun i => !decide (i ∈ idxG (fun x => keepB x h m t) 0 l)) = false := by
  rw [List.any_eq_false]
  intro n hn
  obtain ⟨k, hk, e, h2⟩ := (idxG_mem _ _ _ _).1 hn
  have h2 : u ≤ untilL h m l[k] := of_decide_eq_true h2
  have : n ∈ idxG (fun x => keepB x h m t) 0 l := (idxG_mem _ _ _ _).2 ⟨k, hk, e, decide_eq_true (by show t ≤ untilL h m l[k]; omega)⟩
  simpa using this
end Go.Proofs.YthgdllfkejlnmaaGreat
/- The first time at which nothing is kept: the program. Condition: few holds, numbers as those of levels. -/
namespace Go.Proofs.YthgdllfkejlnmaaGreat
open Go Go.RowKit
set_option maxRecDepth 100000
set_option linter.all false
set_option maxHeartbeats 1000000
variable {H : Hp} {K : AV → Hp → Prop}
def endsRes (l : List Level) (h : List Hold) (tag : ByteArray) (m : Int) : Int × Bool × Int :=
  if firstE [lvF l, hdF h, tagE tag] ≠ 0 then (0, false, firstE [lvF l, hdF h, tagE tag]) else if ¬(0 ≤ m ∧ m ≤ 345686399999) then (0, false, 1)
  else if 345686399999 ≤ endsLast l (ofF h tag) m then (0, false, 0) else (endsLast l (ofF h tag) m + 1, true, 0)
theorem endsLast_next {l : List Level} {k : Nat} (h : List Hold) (m : Int) (hk : k < l.length) : endsLast (l.take (k + 1)) h m = max (endsLast (l.take k) h m) (untilF l[k].keep h (ivl l[k] m).1 (ivl l[k] m).2) := by
  unfold endsLast
  rw [List.take_succ_eq_append_getElem hk, List.foldl_append]
  rfl
theorem endsLast_bd {l : List Level} {h : List Hold} {m : Int} (hx : ∀ x ∈ l, x.ok) (hm : 0 ≤ m) (hm2 : m ≤ 400000000000) (hn : ∀ y ∈ h, y.near) : 0 ≤ endsLast l h m ∧ endsLast l h m ≤ 3000000000000 := by
  obtain ⟨g1, g2, g3⟩ := maxF_ge (f := untilL h m) l 0
  unfold endsLast
  rcases g3 with g3 | ⟨x, hx1, g3⟩
  · omega
  · have := untilL_bd (hx x hx1) hm hm2 hn
    omega
theorem ends_a (l : List Level) (h : List Hold) (tag : ByteArray) (m : Int) (hl : l.length ≤ 1000) (hlen : h.length ≤ 12) (hs : ∀ x ∈ h, x.short) (hn : ∀ y ∈ h, y.near) (ht : tag.size ≤ 1000)
    (hk : K (.tup [(.c (.int .i64 ((endsRes l h tag m).1))), (.c (.bool ((endsRes l h tag m).2.1))), (.c (.int .i64 ((endsRes l h tag m).2.2)))]) H) : ACalls Tryz.prog 20 [.c (.lst 2 (l.map encL)), .c (.lst 6 (h.map encH)), (.c (.str tag)), (.c (.int .i64 m))] H K := by
  refine acalls Tryz.func20 rfl (by kernel_rfl) (by simp (disch := first | omega | (simp only [go_sem]; first | done | omega)) only [go_sem]) (fun hH => ?_)
  simp (disch := first | omega | (simp only [go_sem]; first | done | omega)) only [go_sem]
  refine fault_a l h tag hl (by omega) hs ht ?_
  simp (disch := first | omega | (simp only [go_sem]; first | done | omega)) only [go_sem]
  refine acond_d (fun c => ?_) (fun c => ?_)
  rotate_left
  · rw [show endsRes l h tag m = (0, false, firstE [lvF l, hdF h, tagE tag]) by unfold endsRes; rw [if_pos c]] at hk
    simp (disch := first | omega | (simp only [go_sem]; first | done | omega)) only [go_sem]
    exact Ret.same (Nat.le_refl _) hk
  obtain ⟨c1, c2, c3⟩ := firstE_three c
  simp (disch := first | omega | (simp only [go_sem]; first | done | omega)) only [go_sem]
  refine moment_a _ _ _ ?_
  simp (disch := first | omega | (simp only [go_sem]; first | done | omega)) only [go_sem]
  refine acond_b (fun c6 => ?_) (fun c6 => ?_)
  rotate_left
  · have c7 : ¬(0 ≤ m ∧ m ≤ 345686399999) := by simpa using c6
    rw [show endsRes l h tag m = (0, false, 1) by unfold endsRes; rw [if_neg (by rw [c]; decide), if_pos c7]] at hk
    simp (disch := first | omega | (simp only [go_sem]; first | done | omega)) only [go_sem]
    exact Ret.same (Nat.le_refl _) hk
  have c7 : 0 ≤ m ∧ m ≤ 345686399999 := by simpa using c6
  obtain ⟨hx, h6, h0⟩ := lvF_ok c1
  have hol := ofF_len h tag
  have hon : ∀ y ∈ ofF h tag, y.near := fun y hy => hn y (List.mem_filter.1 hy).1
  simp (disch := first | omega | (simp only [go_sem]; first | done | omega)) only [go_sem]
  refine AWp.loop (H.length) [1, 2, 3, 25, 26] [27, 12] (fun (k : Nat) => k ≤ l.length) (fun (k : Nat) => [(27, (.c (.int .i64 k))), (12, (.c (.int .i64 (endsLast (l.take k) (ofF h tag) m))))]) (fun (k : Nat) => H) (fun (k : Nat) => l.length - k) (by kernel_rfl) (fun _ => rfl) (by kernel_rfl) (by simp) (by first | (simp; done) | (simp; omega)) (by (try simp only [List.forall_mem_cons, List.not_mem_nil, false_implies, implies_true, and_true]); (try simp (disch := first | omega | (simp only [go_sem]; first | done | omega)) only [go_sem]); all_goals first | trivial | (simp [AV.ok, AV.ok1, AC.ok]; done) | (simp [AV.ok, AV.ok1, AC.ok]; omega) | (simp [AV.ok, AV.ok1, AC.ok]; assumption) | ((repeat' apply And.intro) <;> first | trivial | (simp [AV.ok, AV.ok1, AC.ok]; done) | (simp [AV.ok, AV.ok1, AC.ok]; omega) | (simp [AV.ok, AV.ok1, AC.ok]; assumption) | (refine grV_ok ?_ _; first | (simp; done) | (simp; omega) | omega))) ?_ (fun k hkb _ _ => ?_)
  · exact Next.mk 0 (by omega) (by (try simp (disch := first | omega | (simp only [go_sem]; first | done | omega)) only [go_sem]); (first | refine WkL.eq ?_ ?_ | refine WkL.rest (by assumption) ?_ ?_ ?_ | refine WkL.keepL (by assumption) rfl ?_ ?_ ?_ ?_) <;> first | rfl | (simp; done) | (simp; omega) | (simp only [List.cons.injEq, AV.c.injEq, AC.int.injEq, AC.bool.injEq, AC.str.injEq, and_true, true_and, Int.natCast_add, Int.natCast_one, Int.cast_ofNat_Int]; omega) | (simp [AV.ok, AV.ok1, AC.ok]; done) | (simp [AV.ok, AV.ok1, AC.ok]; omega) | (simp only [List.forall_mem_cons, List.not_mem_nil, false_implies, implies_true, and_true]; (repeat' apply And.intro) <;> first | exact okN_map (fun x => by simp [go_sem, AC.pure]) | exact okN_grO (fun x => by simp [go_sem, AC.pure]) | (simp [AObj.okN, AC.ok]; done) | (simp [AObj.okN, AC.ok]; omega)) | (simp [*]; done) | grind)
  have hbd := endsLast_bd (l := l.take k) (h := ofF h tag) (m := m) (fun x hx1 => hx x (List.mem_of_mem_take hx1)) c7.1 (by omega) hon
  by_cases hlt : k < l.length
  · have hnx := endsLast_next (ofF h tag) m hlt
    have hxk := hx _ (List.getElem_mem hlt)
    obtain ⟨x0, x1, x2, x3⟩ := hxk
    have hiv := ivl_bd l[k] m ⟨x0, x1, x2, x3⟩ c7.1 (by omega)
    generalize endsLast (l.take k) (ofF h tag) m = e at *
    simp (disch := first | omega | (simp only [go_sem]; first | done | omega)) only [go_sem]
    repeat' (first | ((first | refine acond_d ?_ ?_ | refine acond_b ?_ ?_ | refine ag_d ?_ ?_ | refine ag_n ?_ ?_ | refine ag_bt ?_ ?_ | refine ag_bf ?_ ?_ | refine agt_d ?_ ?_ | refine agt_n ?_ ?_ | refine agt_bt ?_ ?_ | refine agt_bf ?_ ?_) <;> intro c <;> try simp (disch := first | omega | (simp only [go_sem]; first | done | omega)) only [go_sem, c]) | ((first | refine w_draw (by kernel_rfl) (by decide +kernel) ?_ | refine of_a h tag (by omega) ?_ | refine interval_a l[k] m x0 x1 (by omega) (by omega) c7.1 ?_ | refine until_a l[k] (ofF h tag) _ _ (by omega) hon (by omega) (by omega) ?_ | refine w_tree (.one 0 (.one 2 (.one 3 (.one 6 (.three 1 (.two 4 (.one 5 (.one 7 (.one 8 (.one 9 (.one 10 .done))))) 5 (.one 4 (.one 7 (.one 8 (.one 9 (.one 10 .done)))))) 4 (.one 5 (.two 1 (.one 7 (.one 8 (.one 9 (.one 10 .done)))) 7 (.one 1 (.one 8 (.one 9 (.one 10 .done)))))) 5 (.two 1 (.one 4 (.one 7 (.one 8 (.one 9 (.one 10 .done))))) 4 (.two 1 (.one 7 (.one 8 (.one 9 (.one 10 .done)))) 7 (.one 1 (.one 8 (.one 9 (.one 10 .done))))))))))) (by kernel_rfl) (by decide +kernel) ?_) <;> try simp (disch := first | omega | (simp only [go_sem]; first | done | omega)) only [go_sem]) | (refine And.intro ?_ ?_ <;> try simp (disch := first | omega | (simp only [go_sem]; first | done | omega)) only [go_sem]))
    all_goals exact Next.mk (k + 1) ⟨by omega, by omega⟩ (by rw [hnx]; (try simp (disch := first | omega | (simp only [go_sem]; first | done | omega)) only [go_sem]); (first | refine WkL.eq ?_ ?_ | refine WkL.rest (by assumption) ?_ ?_ ?_ | refine WkL.keepL (by assumption) rfl ?_ ?_ ?_ ?_) <;> first | rfl | (simp; done) | (simp; omega) | (simp only [List.cons.injEq, AV.c.injEq, AC.int.injEq, AC.bool.injEq, AC.str.injEq, and_true, true_and, Int.natCast_add, Int.natCast_one, Int.cast_ofNat_Int]; omega) | (simp [AV.ok, AV.ok1, AC.ok]; done) | (simp [AV.ok, AV.ok1, AC.ok]; omega) | (simp only [List.forall_mem_cons, List.not_mem_nil, false_implies, implies_true, and_true]; (repeat' apply And.intro) <;> first | exact okN_map (fun x => by simp [go_sem, AC.pure]) | exact okN_grO (fun x => by simp [go_sem, AC.pure]) | (simp [AObj.okN, AC.ok]; done) | (simp [AObj.okN, AC.ok]; omega)) | (simp [*]; done) | grind)
  · rw [List.take_of_length_le (by omega)] at hbd ⊢
    by_cases c8 : 345686399999 ≤ endsLast l (ofF h tag) m
    · rw [show endsRes l h tag m = (0, false, 0) by unfold endsRes; rw [if_neg (by rw [c]; decide), if_neg (by simpa using c7), if_pos c8]] at hk
      simp (disch := first | omega | (simp only [go_sem]; first | done | omega)) only [go_sem]
      exact Ret.same (Nat.le_refl _) hk
    · rw [show endsRes l h tag m = (endsLast l (ofF h tag) m + 1, true, 0) by unfold endsRes; rw [if_neg (by rw [c]; decide), if_neg (by simpa using c7), if_neg c8]] at hk
      simp (disch := first | omega | (simp only [go_sem]; first | done | omega)) only [go_sem]
      exact Ret.same (Nat.le_refl _) hk
end Go.Proofs.YthgdllfkejlnmaaGreat
/- Holds that are drawn. No condition. -/
namespace Go.Proofs.YthgdllfkejlnmaaGreat
open Go Go.RowKit
set_option maxRecDepth 100000
set_option linter.all false
set_option maxHeartbeats 1000000
variable {H : Hp} {K : AV → Hp → Prop}
def encT (s : ByteArray) : List AC := [.str s]
attribute [go_sem] encT
theorem some_a (s : Nat) (zs : List Int) (k : Int) (l : List ByteArray) (hs : Str H s zs k) (h0 : 0 < l.length) (h1 : l.length ≤ 1000)
    (hk : ∀ r : ByteArray, r ∈ l → K (.c (.str r)) (H.set s (strO zs (k + 1)))) : ACalls Tryz.prog 9 [.c (.ptr (some (s, 0, 0))), .c (.lst 1 (l.map encT))] H K := by
  refine acalls Tryz.func9 rfl (by kernel_rfl) (by simp (disch := first | omega | (simp only [go_sem]; first | done | omega)) only [go_sem]) (fun hH => ?_)
  simp (disch := first | omega | (simp only [go_sem]; first | done | omega)) only [go_sem]
  repeat' (first | ((first | refine acond_d ?_ ?_ | refine acond_b ?_ ?_ | refine ag_d ?_ ?_ | refine ag_n ?_ ?_ | refine ag_bt ?_ ?_ | refine ag_bf ?_ ?_) <;> intro c <;> try simp (disch := first | omega | (simp only [go_sem]; first | done | omega)) only [go_sem, c]) | ((first | refine w_draw (by kernel_rfl) (by decide +kernel) ?_ | refine next_a s _ _ _ hs (by omega) (by omega) (fun r _ _ => ?_)) <;> try simp (disch := first | omega | (simp only [go_sem]; first | done | omega)) only [go_sem]))
  exact Ret.same (by simp) (hk _ (List.getElem_mem _))
theorem some_lit (s : Nat) (zs : List Int) (k : Int) (l : List ByteArray) {i ty n : Nat} {els : List (List AC)} {own : Bool} (hi : H[i]? = some (.row ty 1 els own)) (he : els = l.map encT) (hn : n = l.length) (hs : Str H s zs k) (hne : i ≠ s) (h0 : 0 < l.length) (h1 : l.length ≤ 1000)
    (hk : ∀ r : ByteArray, r ∈ l → K (.c (.str r)) ((H.set i .dead).set s (strO zs (k + 1)))) : ACalls Tryz.prog 9 [.c (.ptr (some (s, 0, 0))), .c (.sl (some (i, 0)) n)] H K := by
  subst he hn
  refine ACalls.lit hi (by simp [pureL, encT, AC.pure]) (args' := [.c (.ptr (some (s, 0, 0))), .c (.lst 1 (l.map encT))]) ?_ (some_a s zs k l ⟨hs.1, hs.2.1, hs.2.2.1, ?_⟩ h0 h1 hk)
  · simp [AV.frz1, AC.frz]
    rw [List.take_of_length_le (by simp)]
  · rw [List.getElem?_set_ne hne]; exact hs.2.2.2
theorem retainTime_a (s : Nat) (zs : List Int) (j : Int) (hs : Str H s zs j) (hj : j ≤ 1099000000000)
    (hk : ∀ (r : Int), r ∈ [60, 100, 120, 150, 200, 300, 400, 600, 1000, -1, 345686400000] → K (.c (.int .i64 r)) (H.set s (strO zs (j + 1)))) : ACalls Tryz.prog 11 [.c (.ptr (some (s, 0, 0)))] H K := by
  have hlt := hs.lt
  have hpos := hs.pos
  have hne : H.length ≠ s := by omega
  refine acalls Tryz.func11 rfl (by kernel_rfl) (by simp (disch := first | omega | (simp only [go_sem]; first | done | omega)) only [go_sem]) (fun hH => ?_)
  simp (disch := first | omega | (simp only [go_sem]; first | done | omega)) only [go_sem]
  refine pick_lit s zs j [60, 100, 120, 150, 200, 300, 400, 600, 1000, -1, 345686400000] (by first | exact at0 (by simp) | exact at1 (by simp) | exact at2 (by simp) | exact at3 (by simp) | exact at4 (by simp) | exact at5 (by simp) | exact atG 6 (by simp) rfl | exact atG 7 (by simp) rfl | exact atG 8 (by simp) rfl | exact atG 9 (by simp) rfl | exact atG 10 (by simp) rfl | assumption) rfl rfl (by first | exact hs | exact hs.app _ | exact hs.set (by omega) (by omega) | exact (hs.set (by omega) (by omega)).app _) (by omega) (by simp) (by simp) (fun r hr => ?_)
  simp (disch := first | omega | (simp only [go_sem]; first | done | omega)) only [go_sem]
  exact Ret.drop (HOk.str hH) (by simp) trivial (hk r hr)
def keys4 : List ByteArray := [⟨#[104, 97]⟩, ⟨#[104, 98]⟩, ⟨#[104, 99]⟩, ⟨#[104, 100]⟩]
theorem holds_a (s : Nat) (zs : List Int) (j : Int) (hs : Str H s zs j) (hj : j ≤ 1000000000)
    (hk : ∀ (l : List Hold) (j' : Int), j ≤ j' → j' ≤ j + 80 → l.length ≤ 4 → (∀ x ∈ l, x.short ∧ x.near) → K (.c (.lst 6 (l.map encH))) (H.set s (strO zs j'))) :
    ACalls Tryz.prog 8 [.c (.ptr (some (s, 0, 0)))] H K := by
  have hlt := hs.lt
  have hpos := hs.pos
  have hne : H.length ≠ s := by omega
  have hk4 : ∀ x ∈ keys4, x.size ≤ 1000 := by decide
  refine acalls Tryz.func8 rfl (by kernel_rfl) (by simp (disch := first | omega | (simp only [go_sem]; first | done | omega)) only [go_sem]) (fun hH => ?_)
  simp (disch := first | omega | (simp only [go_sem]; first | done | omega)) only [go_sem]
  refine AWp.loop (H.length + 1) [0, 9, 10] [11, 3] (fun (q : Nat × List Hold × Int) => q.1 ≤ 4 ∧ q.2.1.length ≤ q.1 ∧ (∀ x ∈ q.2.1, x.short ∧ x.near) ∧ j ≤ q.2.2 ∧ q.2.2 ≤ j + 18 * q.1) (fun (q : Nat × List Hold × Int) => [(11, (.c (.int .i64 (q.1)))), (3, .c (grV (H.length + 1) q.2.1))]) (fun (q : Nat × List Hold × Int) => H.set s (strO zs q.2.2) ++ [.row 9 1 (keys4.map encT) true, grO 130 6 (q.2.1.map encH)]) (fun (q : Nat × List Hold × Int) => 4 - q.1) (by kernel_rfl) (fun _ => rfl) (by kernel_rfl) (by simp) (by first | (simp; done) | (simp; omega)) (by (try simp only [List.forall_mem_cons, List.not_mem_nil, false_implies, implies_true, and_true]); (try simp (disch := first | omega | (simp only [go_sem]; first | done | omega)) only [go_sem]); all_goals first | trivial | (simp [AV.ok, AV.ok1, AC.ok]; done) | (simp [AV.ok, AV.ok1, AC.ok]; omega) | (simp [AV.ok, AV.ok1, AC.ok]; assumption) | ((repeat' apply And.intro) <;> first | trivial | (simp [AV.ok, AV.ok1, AC.ok]; done) | (simp [AV.ok, AV.ok1, AC.ok]; omega) | (simp [AV.ok, AV.ok1, AC.ok]; assumption) | (refine grV_ok ?_ _; first | (simp; done) | (simp; omega) | omega))) ?_ (fun q hq _ _ => ?_)
  · refine Next.mk (0, [], j) ⟨by simp, by simp, by simp, by simp, by simp⟩ ?_
    simp (disch := first | omega | (simp only [go_sem]; first | done | omega)) only [go_sem]
    rw [set_same hs.2.2.2]
    exact WkL.padP [_] (by simp)
  obtain ⟨k, l, j1⟩ := q
  obtain ⟨q1, q2, q3, q4, q5⟩ := hq
  dsimp only at q1 q2 q3 q4 q5
  by_cases hk3 : k < 4
  · have hkl : k < keys4.length := hk3
    have hkey := hk4 keys4[k] (List.getElem_mem hkl)
    simp (disch := first | omega | (simp only [go_sem]; first | done | omega)) only [go_sem]
    refine flip_a s zs j1 3 (by first | exact hs | exact hs.app _ | exact hs.set (by omega) (by omega) | exact (hs.set (by omega) (by omega)).app _) (by omega) (by omega) (fun b => ?_)
    simp (disch := first | omega | (simp only [go_sem]; first | done | omega)) only [go_sem]
    refine acond_b (fun c => ?_) (fun c => ?_)
    · simp (disch := first | omega | (simp only [go_sem]; first | done | omega)) only [go_sem]
      exact Next.mk (k + 1, l, j1 + 1) ⟨⟨by dsimp only; omega, by dsimp only; omega, q3, by dsimp only; omega, by dsimp only; omega⟩, by dsimp only; omega⟩ (by (try simp (disch := first | omega | (simp only [go_sem]; first | done | omega)) only [go_sem]); (first | refine WkL.eq ?_ ?_ | refine WkL.rest (by assumption) ?_ ?_ ?_ | refine WkL.keepL (by assumption) rfl ?_ ?_ ?_ ?_) <;> first | rfl | (simp; done) | (simp; omega) | (simp only [List.cons.injEq, AV.c.injEq, AC.int.injEq, AC.bool.injEq, AC.str.injEq, and_true, true_and, Int.natCast_add, Int.natCast_one, Int.cast_ofNat_Int]; omega) | (simp [AV.ok, AV.ok1, AC.ok]; done) | (simp [AV.ok, AV.ok1, AC.ok]; omega) | (simp only [List.forall_mem_cons, List.not_mem_nil, false_implies, implies_true, and_true]; (repeat' apply And.intro) <;> first | exact okN_map (fun x => by simp [go_sem, AC.pure]) | exact okN_grO (fun x => by simp [go_sem, AC.pure]) | (simp [AObj.okN, AC.ok]; done) | (simp [AObj.okN, AC.ok]; omega)) | (simp [*]; done) | grind)
    · simp (disch := first | omega | (simp only [go_sem]; first | done | omega)) only [go_sem]
      refine pick_lit s zs (j1 + 1) [0, 5, 50, 100] (by first | exact at0 (by simp) | exact at1 (by simp) | exact at2 (by simp) | exact at3 (by simp) | exact at4 (by simp) | exact at5 (by simp) | exact atG 6 (by simp) rfl | exact atG 7 (by simp) rfl | exact atG 8 (by simp) rfl | exact atG 9 (by simp) rfl | exact atG 10 (by simp) rfl | assumption) rfl rfl (by first | exact hs | exact hs.app _ | exact hs.set (by omega) (by omega) | exact (hs.set (by omega) (by omega)).app _) (by omega) (by simp) (by simp) (fun r1 h1 => ?_)
      simp only [List.mem_cons, List.not_mem_nil, or_false] at h1
      simp (disch := first | omega | (simp only [go_sem]; first | done | omega)) only [go_sem]
      refine pick_lit s zs (j1 + 1 + 1) [0, 50, 100, 150, 200, 300] (by first | exact at0 (by simp) | exact at1 (by simp) | exact at2 (by simp) | exact at3 (by simp) | exact at4 (by simp) | exact at5 (by simp) | exact atG 6 (by simp) rfl | exact atG 7 (by simp) rfl | exact atG 8 (by simp) rfl | exact atG 9 (by simp) rfl | exact atG 10 (by simp) rfl | assumption) rfl rfl (by first | exact hs | exact hs.app _ | exact hs.set (by omega) (by omega) | exact (hs.set (by omega) (by omega)).app _) (by omega) (by simp) (by simp) (fun r2 h2 => ?_)
      simp only [List.mem_cons, List.not_mem_nil, or_false] at h2
      simp (disch := first | omega | (simp only [go_sem]; first | done | omega)) only [go_sem]
      refine some_lit s zs (j1 + 1 + 1 + 1) [noS, ⟨#[116, 97]⟩, ⟨#[116, 97]⟩, ⟨#[116, 98]⟩] (by first | exact at0 (by simp) | exact at1 (by simp) | exact at2 (by simp) | exact at3 (by simp) | exact at4 (by simp) | exact at5 (by simp) | exact atG 6 (by simp) rfl | exact atG 7 (by simp) rfl | exact atG 8 (by simp) rfl | exact atG 9 (by simp) rfl | exact atG 10 (by simp) rfl | assumption) rfl rfl (by first | exact hs | exact hs.app _ | exact hs.set (by omega) (by omega) | exact (hs.set (by omega) (by omega)).app _) (by omega) (by simp) (by simp) (fun r3 h3 => ?_)
      have h3s : r3.size ≤ 1000 := by
        have : ∀ x ∈ [noS, ⟨#[116, 97]⟩, ⟨#[116, 97]⟩, ⟨#[116, 98]⟩], x.size ≤ 1000 := by decide
        exact this r3 h3
      simp (disch := first | omega | (simp only [go_sem]; first | done | omega)) only [go_sem]
      refine pick_lit s zs (j1 + 1 + 1 + 1 + 1) [1, 10, 60, 500] (by first | exact at0 (by simp) | exact at1 (by simp) | exact at2 (by simp) | exact at3 (by simp) | exact at4 (by simp) | exact at5 (by simp) | exact atG 6 (by simp) rfl | exact atG 7 (by simp) rfl | exact atG 8 (by simp) rfl | exact atG 9 (by simp) rfl | exact atG 10 (by simp) rfl | assumption) rfl rfl (by first | exact hs | exact hs.app _ | exact hs.set (by omega) (by omega) | exact (hs.set (by omega) (by omega)).app _) (by omega) (by simp) (by simp) (fun r4 h4 => ?_)
      simp only [List.mem_cons, List.not_mem_nil, or_false] at h4
      simp (disch := first | omega | (simp only [go_sem]; first | done | omega)) only [go_sem]
      refine pick_lit s zs (j1 + 1 + 1 + 1 + 1 + 1) [1, 50, 100, 300] (by first | exact at0 (by simp) | exact at1 (by simp) | exact at2 (by simp) | exact at3 (by simp) | exact at4 (by simp) | exact at5 (by simp) | exact atG 6 (by simp) rfl | exact atG 7 (by simp) rfl | exact atG 8 (by simp) rfl | exact atG 9 (by simp) rfl | exact atG 10 (by simp) rfl | assumption) rfl rfl (by first | exact hs | exact hs.app _ | exact hs.set (by omega) (by omega) | exact (hs.set (by omega) (by omega)).app _) (by omega) (by simp) (by simp) (fun r5 h5 => ?_)
      simp only [List.mem_cons, List.not_mem_nil, or_false] at h5
      simp (disch := first | omega | (simp only [go_sem]; first | done | omega)) only [go_sem]
      refine flip_a s zs (j1 + 1 + 1 + 1 + 1 + 1 + 1) 60 (by first | exact hs | exact hs.app _ | exact hs.set (by omega) (by omega) | exact (hs.set (by omega) (by omega)).app _) (by omega) (by omega) (fun b => ?_)
      simp (disch := first | omega | (simp only [go_sem]; first | done | omega)) only [go_sem]
      refine acond_b (fun c => ?_) (fun c => ?_)
      · simp (disch := first | omega | (simp only [go_sem]; first | done | omega)) only [go_sem]
        refine some_lit s zs (j1 + 1 + 1 + 1 + 1 + 1 + 1 + 1) [noS, keys4[k], ⟨#[104, 97]⟩] (by first | exact at0 (by simp) | exact at1 (by simp) | exact at2 (by simp) | exact at3 (by simp) | exact at4 (by simp) | exact at5 (by simp) | exact atG 6 (by simp) rfl | exact atG 7 (by simp) rfl | exact atG 8 (by simp) rfl | exact atG 9 (by simp) rfl | exact atG 10 (by simp) rfl | assumption) rfl rfl (by first | exact hs | exact hs.app _ | exact hs.set (by omega) (by omega) | exact (hs.set (by omega) (by omega)).app _) (by omega) (by simp) (by simp) (fun r6 h6 => ?_)
        have h6s : r6.size ≤ 1000 := by
          simp only [List.mem_cons, List.not_mem_nil, or_false] at h6
          rcases h6 with rfl | rfl | rfl
          · decide
          · exact hkey
          · decide
        simp (disch := first | omega | (simp only [go_sem]; first | done | omega)) only [go_sem]
        refine some_lit s zs (j1 + 1 + 1 + 1 + 1 + 1 + 1 + 1 + 1) [⟨#[65]⟩, noS] (by first | exact at0 (by simp) | exact at1 (by simp) | exact at2 (by simp) | exact at3 (by simp) | exact at4 (by simp) | exact at5 (by simp) | exact atG 6 (by simp) rfl | exact atG 7 (by simp) rfl | exact atG 8 (by simp) rfl | exact atG 9 (by simp) rfl | exact atG 10 (by simp) rfl | assumption) rfl rfl (by first | exact hs | exact hs.app _ | exact hs.set (by omega) (by omega) | exact (hs.set (by omega) (by omega)).app _) (by omega) (by simp) (by simp) (fun r7 h7 => ?_)
        have h7s : r7.size ≤ 1000 := by
          have : ∀ x ∈ [⟨#[65]⟩, noS], x.size ≤ 1000 := by decide
          exact this r7 h7
        simp (disch := first | omega | (simp only [go_sem]; first | done | omega)) only [go_sem]
        refine odd_a s zs (j1 + 1 + 1 + 1 + 1 + 1 + 1 + 1 + 1 + 1) 0 50 (by first | exact hs | exact hs.app _ | exact hs.set (by omega) (by omega) | exact (hs.set (by omega) (by omega)).app _) (by omega) (by omega) (by omega) (by omega) (fun r8 j2 g1 g2 h8 => ?_)
        simp (disch := first | omega | (simp only [go_sem]; first | done | omega)) only [go_sem]
        refine odd_a s zs j2 1 90 (by first | exact hs | exact hs.app _ | exact hs.set (by omega) (by omega) | exact (hs.set (by omega) (by omega)).app _) (by omega) (by omega) (by omega) (by omega) (fun r9 j3 g3 g4 h9 => ?_)
        simp (disch := first | omega | (simp only [go_sem]; first | done | omega)) only [go_sem]
        refine odd_a s zs j3 0 100 (by first | exact hs | exact hs.app _ | exact hs.set (by omega) (by omega) | exact (hs.set (by omega) (by omega)).app _) (by omega) (by omega) (by omega) (by omega) (fun r10 j4 g5 g6 h10 => ?_)
        simp (disch := first | omega | (simp only [go_sem]; first | done | omega)) only [go_sem]
        refine pick_lit s zs j4 [1, 100, 200, 345686400000, 345686400001] (by first | exact at0 (by simp) | exact at1 (by simp) | exact at2 (by simp) | exact at3 (by simp) | exact at4 (by simp) | exact at5 (by simp) | exact atG 6 (by simp) rfl | exact atG 7 (by simp) rfl | exact atG 8 (by simp) rfl | exact atG 9 (by simp) rfl | exact atG 10 (by simp) rfl | assumption) rfl rfl (by first | exact hs | exact hs.app _ | exact hs.set (by omega) (by omega) | exact (hs.set (by omega) (by omega)).app _) (by omega) (by simp) (by simp) (fun r11 h11 => ?_)
        simp only [List.mem_cons, List.not_mem_nil, or_false] at h11
        simp (disch := first | omega | (simp only [go_sem]; first | done | omega)) only [go_sem]
        (refine app_gr (enc := encH) (e := 130) (sz := 6) (bs := 64) (z := [.str ⟨#[]⟩, .str ⟨#[]⟩, .int .i64 0, .int .i64 0, .int .i64 0, .int .i64 0]) (l) (⟨r6, r7, r8, r9, r10, r11⟩) (by kernel_rfl) (by kernel_rfl) (by kernel_rfl) (by kernel_rfl) (by first | exact at0 (by simp) | exact at1 (by simp) | exact at2 (by simp) | exact at3 (by simp) | exact at4 (by simp) | exact at5 (by simp) | exact atG 6 (by simp) rfl | exact atG 7 (by simp) rfl | exact atG 8 (by simp) rfl | exact atG 9 (by simp) rfl | exact atG 10 (by simp) rfl | assumption) (by first | (simp (disch := first | omega | (simp only [go_sem]; first | done | omega)) only [go_sem]; done) | (simp (disch := first | omega | (simp only [go_sem]; first | done | omega)) only [go_sem]; rfl) | (simp (disch := first | omega | (simp only [go_sem]; first | done | omega)) only [go_sem]; simp [go_sem]; done) | (simp (disch := first | omega | (simp only [go_sem]; first | done | omega)) only [go_sem]; simp [*]; done)) rfl (by decide) (by omega) (by omega) (by rfl) ?_)
        simp (disch := first | omega | (simp only [go_sem]; first | done | omega)) only [go_sem]
        refine Next.mk (k + 1, l ++ [⟨r6, r7, r8, r9, r10, r11⟩], j4 + 1) ?_ ?_
        · refine ⟨⟨by dsimp only; omega, by simp; omega, fun x hx => ?_, by dsimp only; omega, by dsimp only; omega⟩, by dsimp only; omega⟩
          rcases List.mem_append.1 hx with h | h
          · exact q3 x h
          · simp at h; subst h
            exact ⟨⟨h6s, h7s⟩, by simp only [Hold.near]; omega⟩
        · ((try simp (disch := first | omega | (simp only [go_sem]; first | done | omega)) only [go_sem]); (first | refine WkL.pickAt [_] [0] ?_ ?_ ?_ rfl ?_ ?_ ?_ ?_ | refine WkL.pickAt [_] [1] ?_ ?_ ?_ rfl ?_ ?_ ?_ ?_ | refine WkL.pickAt [_] [2] ?_ ?_ ?_ rfl ?_ ?_ ?_ ?_ | refine WkL.pickAt [_] [3] ?_ ?_ ?_ rfl ?_ ?_ ?_ ?_ | refine WkL.pickAt [_] [4] ?_ ?_ ?_ rfl ?_ ?_ ?_ ?_ | refine WkL.pickAt [_] [5] ?_ ?_ ?_ rfl ?_ ?_ ?_ ?_ | refine WkL.pickAt [_] [6] ?_ ?_ ?_ rfl ?_ ?_ ?_ ?_ | refine WkL.pickAt [_] [7] ?_ ?_ ?_ rfl ?_ ?_ ?_ ?_ | refine WkL.pickAt [_] [8] ?_ ?_ ?_ rfl ?_ ?_ ?_ ?_ | refine WkL.pickAt [_] [9] ?_ ?_ ?_ rfl ?_ ?_ ?_ ?_ | refine WkL.pickAt [_] [10] ?_ ?_ ?_ rfl ?_ ?_ ?_ ?_ | refine WkL.pickAt [_] [11] ?_ ?_ ?_ rfl ?_ ?_ ?_ ?_ | refine WkL.pickAt [_] [12] ?_ ?_ ?_ rfl ?_ ?_ ?_ ?_ | refine WkL.pickAt [_] [13] ?_ ?_ ?_ rfl ?_ ?_ ?_ ?_ | refine WkL.pickAt [_] [14] ?_ ?_ ?_ rfl ?_ ?_ ?_ ?_ | refine WkL.pickAt [_] [15] ?_ ?_ ?_ rfl ?_ ?_ ?_ ?_ | refine WkL.pickAt [_] [16] ?_ ?_ ?_ rfl ?_ ?_ ?_ ?_ | refine WkL.pickAt [_] [17] ?_ ?_ ?_ rfl ?_ ?_ ?_ ?_) <;> first | assumption | exact HOk.str (by assumption) | (simp; done) | (simp; omega) | (simp [pureO_gr, AObj.pureO, pureL, go_sem, AC.pure]; done) | (simp only [List.all_cons, List.all_nil, Bool.and_true]; exact pureO_gr (pureL_map _ (fun x => by simp [go_sem, AC.pure]))) | ((try simp only [List.map_cons, List.map_nil, av_ren_gr]); simp [AV.ren, AV.ren1, AC.ren, pickS]; first | done | omega) | (simp only [List.forall_mem_cons, List.not_mem_nil, false_implies, implies_true, and_true]; (repeat' apply And.intro) <;> first | trivial | exact grV_ok (by simp) _ | exact okN_grO (fun x => by simp [go_sem, AC.pure]) | exact okN_map (fun x => by simp [go_sem, AC.pure]) | (simp [AV.ok, AV.ok1, AC.ok]; done) | (simp [AV.ok, AV.ok1, AC.ok]; omega) | (simp [AObj.okN, AC.ok]; done)) | (simp [AObj.okN]; done))
      · simp (disch := first | omega | (simp only [go_sem]; first | done | omega)) only [go_sem]
        (refine app_gr (enc := encH) (e := 130) (sz := 6) (bs := 64) (z := [.str ⟨#[]⟩, .str ⟨#[]⟩, .int .i64 0, .int .i64 0, .int .i64 0, .int .i64 0]) (l) (⟨keys4[k], r3, r1, r1 + r4, r2, r2 + r5⟩) (by kernel_rfl) (by kernel_rfl) (by kernel_rfl) (by kernel_rfl) (by first | exact at0 (by simp) | exact at1 (by simp) | exact at2 (by simp) | exact at3 (by simp) | exact at4 (by simp) | exact at5 (by simp) | exact atG 6 (by simp) rfl | exact atG 7 (by simp) rfl | exact atG 8 (by simp) rfl | exact atG 9 (by simp) rfl | exact atG 10 (by simp) rfl | assumption) (by first | (simp (disch := first | omega | (simp only [go_sem]; first | done | omega)) only [go_sem]; done) | (simp (disch := first | omega | (simp only [go_sem]; first | done | omega)) only [go_sem]; rfl) | (simp (disch := first | omega | (simp only [go_sem]; first | done | omega)) only [go_sem]; simp [go_sem]; done) | (simp (disch := first | omega | (simp only [go_sem]; first | done | omega)) only [go_sem]; simp [*]; done)) rfl (by decide) (by omega) (by omega) (by rfl) ?_)
        simp (disch := first | omega | (simp only [go_sem]; first | done | omega)) only [go_sem]
        refine Next.mk (k + 1, l ++ [⟨keys4[k], r3, r1, r1 + r4, r2, r2 + r5⟩], j1 + 1 + 1 + 1 + 1 + 1 + 1 + 1) ?_ ?_
        · refine ⟨⟨by dsimp only; omega, by simp; omega, fun x hx => ?_, by dsimp only; omega, by dsimp only; omega⟩, by dsimp only; omega⟩
          rcases List.mem_append.1 hx with h | h
          · exact q3 x h
          · simp at h; subst h
            exact ⟨⟨hkey, h3s⟩, by simp only [Hold.near]; omega⟩
        · ((try simp (disch := first | omega | (simp only [go_sem]; first | done | omega)) only [go_sem]); (first | refine WkL.pickAt [_] [0] ?_ ?_ ?_ rfl ?_ ?_ ?_ ?_ | refine WkL.pickAt [_] [1] ?_ ?_ ?_ rfl ?_ ?_ ?_ ?_ | refine WkL.pickAt [_] [2] ?_ ?_ ?_ rfl ?_ ?_ ?_ ?_ | refine WkL.pickAt [_] [3] ?_ ?_ ?_ rfl ?_ ?_ ?_ ?_ | refine WkL.pickAt [_] [4] ?_ ?_ ?_ rfl ?_ ?_ ?_ ?_ | refine WkL.pickAt [_] [5] ?_ ?_ ?_ rfl ?_ ?_ ?_ ?_ | refine WkL.pickAt [_] [6] ?_ ?_ ?_ rfl ?_ ?_ ?_ ?_ | refine WkL.pickAt [_] [7] ?_ ?_ ?_ rfl ?_ ?_ ?_ ?_ | refine WkL.pickAt [_] [8] ?_ ?_ ?_ rfl ?_ ?_ ?_ ?_ | refine WkL.pickAt [_] [9] ?_ ?_ ?_ rfl ?_ ?_ ?_ ?_ | refine WkL.pickAt [_] [10] ?_ ?_ ?_ rfl ?_ ?_ ?_ ?_ | refine WkL.pickAt [_] [11] ?_ ?_ ?_ rfl ?_ ?_ ?_ ?_ | refine WkL.pickAt [_] [12] ?_ ?_ ?_ rfl ?_ ?_ ?_ ?_ | refine WkL.pickAt [_] [13] ?_ ?_ ?_ rfl ?_ ?_ ?_ ?_ | refine WkL.pickAt [_] [14] ?_ ?_ ?_ rfl ?_ ?_ ?_ ?_ | refine WkL.pickAt [_] [15] ?_ ?_ ?_ rfl ?_ ?_ ?_ ?_ | refine WkL.pickAt [_] [16] ?_ ?_ ?_ rfl ?_ ?_ ?_ ?_ | refine WkL.pickAt [_] [17] ?_ ?_ ?_ rfl ?_ ?_ ?_ ?_) <;> first | assumption | exact HOk.str (by assumption) | (simp; done) | (simp; omega) | (simp [pureO_gr, AObj.pureO, pureL, go_sem, AC.pure]; done) | (simp only [List.all_cons, List.all_nil, Bool.and_true]; exact pureO_gr (pureL_map _ (fun x => by simp [go_sem, AC.pure]))) | ((try simp only [List.map_cons, List.map_nil, av_ren_gr]); simp [AV.ren, AV.ren1, AC.ren, pickS]; first | done | omega) | (simp only [List.forall_mem_cons, List.not_mem_nil, false_implies, implies_true, and_true]; (repeat' apply And.intro) <;> first | trivial | exact grV_ok (by simp) _ | exact okN_grO (fun x => by simp [go_sem, AC.pure]) | exact okN_map (fun x => by simp [go_sem, AC.pure]) | (simp [AV.ok, AV.ok1, AC.ok]; done) | (simp [AV.ok, AV.ok1, AC.ok]; omega) | (simp [AObj.okN, AC.ok]; done)) | (simp [AObj.okN]; done))
  · simp (disch := first | omega | (simp only [go_sem]; first | done | omega)) only [go_sem]
    exact Ret.frzGr 1 (HOk.str hH) (by simp) rfl (pureL_encH _) (by rw [map_grV]; simp) (hk l j1 q4 (by omega) (by omega) q3)
end Go.Proofs.YthgdllfkejlnmaaGreat
