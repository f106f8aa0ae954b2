/- TagsOrdered: what the law's function answers for all numbers it is given. No condition. -/
import Derived.Test.YtagoolooikpabaaGreatDoorHVCld
import Derived.Test.YtagoolooikpabaaGreatDoorHVEvT
import Derived.Test.YtagoolooikpabaaGreatDoorHVFar
import Derived.Test.YtagoolooikpabaaGreatDoorHVAfQ
import Derived.Test.YtagoolooikpabaaGreatDoorHVClQ
import Derived.Test.YtagoolooikpabaaGreatDoorHVOrQ
set_option linter.all false
namespace Go.Proofs.YtagoolooikpabaaGreatDoor
open Go Go.RowKit
set_option maxRecDepth 100000
set_option maxHeartbeats 4000000
variable {H : Hp} {K : AV → Hp → Prop}
theorem equalSe_a (l m : List ByteArray) (hl : l.length ≤ 1099511627776) (hm : m.length ≤ 1099511627776) (hk : K (.c (.bool (decide (l = m)))) H) : ACalls Tryz.prog 18 [.c (.lst 1 (l.map encSs)), .c (.lst 1 (m.map encSs))] H K := by
 by_cases hlen : l.length = m.length
 ·refine acalls Tryz.func18 rfl (by kernel_rfl) (by simp (disch := first | omega | (simp only [go_sem]; try omega)) only [go_sem]) (fun hH => ?_)
  simp (disch := first | omega | (simp only [go_sem]; try omega)) only [go_sem]
  refine AWp.loop (H.length) [0, 1, 12] [13] (fun (k : Nat) => k ≤ l.length ∧ ∀ (j : Nat) (x y : ByteArray), j < k → l[j]? = some x → m[j]? = some y → x = y) (fun (k : Nat) => [(13, (.c (.int .i64 k)))]) (fun (k : Nat) => H) (fun (k : Nat) => l.length - k) (by kernel_rfl) (fun _ => rfl) (by kernel_rfl) (by first | (simp; done) | omega) (by first | (simp; done) | (simp; omega) | omega) kl ?_ (fun k hk1 _ _ => ?_)
  ·exact Next.mk 0 (by simp) wk
  obtain ⟨hk1, hk2⟩ := hk1
  by_cases hlt : k < l.length
  ·simp (disch := first | omega | (simp only [go_sem]; try omega)) only [go_sem]
   refine w_draw (by kernel_rfl) (by decide +kernel) ?_
   simp (disch := first | omega | (simp only [go_sem]; try omega)) only [go_sem]
   refine acond_b (fun c => ?_) (fun c => ?_)
   ·simp (disch := first | omega | (simp only [go_sem]; try omega)) only [go_sem]
    exact Next.mk (k + 1) ⟨⟨by omega, fun j x y hj hx hy => by
     rcases Nat.lt_or_ge j k with h | h
     ·exact hk2 j x y h hx hy
     ·obtain rfl : j = k := by omega
      rw [List.getElem?_eq_getElem hlt] at hx
      rw [List.getElem?_eq_getElem (by omega)] at hy
      injection hx with hx; injection hy with hy; rw [← hx, ← hy]; revert c; generalize l[j] = u; generalize m[j] = v; first | (simp; done) | (cases u; cases v; simp)⟩, by omega⟩ wk
   ·simp (disch := first | omega | (simp only [go_sem]; try omega)) only [go_sem]
    have : l ≠ m := by rintro rfl; simp at c
    (first | refine Ret.sameE (Nat.le_refl _) (by assumption) ?_ | refine Ret.dropE (by assumption) (Nat.le_refl _) (by assumption) (by simp [AV.ok, AV.ok1, AC.ok]) ?_) <;> simp [this]
  ·simp (disch := first | omega | (simp only [go_sem]; try omega)) only [go_sem]
   have : l = m := by
    apply List.ext_getElem hlen
    intro j h1 h2
    exact hk2 j _ _ (by omega) (List.getElem?_eq_getElem h1) (List.getElem?_eq_getElem h2)
   (first | refine Ret.sameE (Nat.le_refl _) (by assumption) ?_ | refine Ret.dropE (by assumption) (Nat.le_refl _) (by assumption) (by simp [AV.ok, AV.ok1, AC.ok]) ?_) <;> simp [this]
 ·have : l ≠ m := by rintro rfl; exact hlen rfl
  refine acalls Tryz.func18 rfl (by kernel_rfl) (by simp (disch := first | omega | (simp only [go_sem]; try omega)) only [go_sem]) (fun hH => ?_)
  simp (disch := first | omega | (simp only [go_sem]; try omega)) only [go_sem]
  (first | refine Ret.sameE (Nat.le_refl _) (by assumption) ?_ | refine Ret.dropE (by assumption) (Nat.le_refl _) (by assumption) (by simp [AV.ok, AV.ok1, AC.ok]) ?_) <;> simp [this]
theorem eqNil_a (hk : K (.c (.bool true)) H) : ACalls Tryz.prog 18 [.c (.lst 1 []), .c (.sl none 0)] H K := by
 refine ACalls.nilz [0, 1] (by simp) ?_
 exact equalSe_a [] [] (by simp) (by simp) hk
theorem closG_len {kids : Nme → List Nme} {n : Nat} {x : Nme} : ∀ (f : Nat) (row : List Nme) (last : Nme) (l : List Nme), closG kids n f row x last = some l → l.length = row.length + f
 | 0, row, last, l, h => by
  unfold closG at h
  split at h
  ·injection h with h; rw [← h]; rfl
  ·cases h
 | f + 1, row, last, l, h => by
  unfold closG at h
  obtain ⟨k, _, g⟩ := List.exists_of_findSome?_eq_some h
  split at g
  ·have := closG_len f _ _ _ g
   rw [List.length_append, List.length_singleton] at this
   omega
  ·cases g
theorem cycG_len (N : List Nme) (kids : Nme → List Nme) : (cycG N kids).length ≤ N.length + 1 := by
 unfold cycG
 cases h : (List.range' 1 N.length).findSome? fun n => cycN N kids n with
 | none => simp
 | some l =>
  obtain ⟨n, hn, g⟩ := List.exists_of_findSome?_eq_some h
  unfold cycN at g
  obtain ⟨x, _, g⟩ := List.exists_of_findSome?_eq_some g
  have h1 := closG_len _ _ _ _ g
  rw [List.mem_range'_1] at hn
  simp only [Option.getD_some, List.length_singleton] at h1 ⊢
  omega
theorem tagsOrdered_a (zs : List Int) (hz : zs.length ≤ 9223372036854775807) (hk : K (.c (.bool true)) H) : ACalls Tryz.prog 3 [.c (.lst 1 (zs.map encI))] H K := by
 have st : ∀ (k : Int) (L : Hp), 0 ≤ k → k ≤ 1000000000 → Str (H ++ strO zs k :: L) H.length zs k := fun k L h1 h2 => ⟨hz, h1, by omega, by simp⟩
 refine acalls Tryz.func3 rfl (by kernel_rfl) (by simp (disch := first | omega | (simp only [go_sem]; try omega)) only [go_sem]) (fun hH => ?_)
 simp (disch := first | omega | (simp only [go_sem]; try omega)) only [go_sem]
 refine calcs_a H.length zs 0 (st _ _ (by omega) (by omega)) (by omega) (fun cs j1 g1 g2 g3 g4 => ?_)
 have hs : ∀ x ∈ cs, x.fine := fun x hx => by
  have := g4 x hx
  exact ⟨by omega, by show (tL x.ex).length ≤ 1000000; have h2 : (tL x.ex).length = x.ex.size := rfl; omega⟩
 simp (disch := first | omega | (simp only [go_sem]; try omega)) only [go_sem]
 refine someS_lit H.length zs j1 [⟨#[97]⟩, ⟨#[98]⟩, ⟨#[117]⟩, ⟨#[118]⟩, ⟨#[119]⟩, ⟨#[122, 122]⟩, ⟨#[65]⟩] (i := H.length + 1) (by first | ((repeat first | exact at0 (by simp) | refine atS ?_); done) | assumption) rfl rfl (st _ _ (by omega) (by omega)) (by omega) (by simp) (by simp) (fun t ht => ?_)
 have hts : t.size ≤ 2 := by
  simp only [List.mem_cons, List.not_mem_nil, or_false] at ht
  rcases ht with rfl | rfl | rfl | rfl | rfl | rfl | rfl <;> decide
 clear ht
 have hol : ∀ o, orderG (nmC cs) (kidC cs) = some o → o.length ≤ 1000 := fun o ho => by
  have := (orderG_ok ho).2
  unfold nmC at this
  rw [List.length_map] at this
  omega
 have hcl2 := cycG_len (nmC cs) (kidC cs)
 have hnl : (nmC cs).length = cs.length := by unfold nmC; rw [List.length_map]
 have hal : (affR t cs).length ≤ 1000 := by
  have := List.length_filter_le (fun x => decide (x ∈ affG t cs)) (nmC cs)
  unfold affR
  omega
 by_cases hF : clF cs = 0
 ·simp (disch := first | omega | (simp only [go_sem]; try omega)) only [go_sem]
  refine orderTop_a cs (by omega) hs (fun h => absurd hF h) (fun _ => ?_)
  cases hO : orderG (nmC cs) (kidC cs) with
  | none =>
   simp only [ordE]
   simp (disch := first | omega | (simp only [go_sem]; try omega)) only [go_sem]
   refine cycle_a cs (by omega) hs (fun h => absurd hF h) (fun _ => ?_)
   simp (disch := first | omega | (simp only [go_sem]; try omega)) only [go_sem]
   by_cases hkey : isKey t
   ·have ht0 : tagE t = 0 := if_pos hkey
    refine affects_a cs (by omega) hs t (by omega) (fun h => absurd hF h) (fun _ h => absurd hkey h) (fun _ _ => ?_)
    simp (disch := first | omega | (simp only [go_sem]; try omega)) only [go_sem]
    refine calcsFault_a cs (by omega) hs ?_
    rw [hF]
    simp (disch := first | omega | (simp only [go_sem]; try omega)) only [go_sem]
    refine nameFault_a t (by omega) ?_
    rw [ht0]
    simp (disch := first | omega | (simp only [go_sem]; try omega)) only [go_sem]
    refine errs_lit 0 0 (by first | ((repeat first | exact at0 (by simp) | refine atS ?_); done) | assumption) rfl rfl ?_
    rw [show firstE [0, 0] = 0 from rfl]
    simp (disch := first | omega | (simp only [go_sem]; try omega)) only [go_sem]
    refine orderOf_a hF hs ?_
    rw [hO]
    simp only [ordW]
    simp (disch := first | omega | (simp only [go_sem]; try omega)) only [go_sem]
    refine cycleOf_a hF hs ?_
    simp (disch := first | omega | (simp only [go_sem]; try omega)) only [go_sem]
    refine affectsOf_a hF hs t ?_
    simp (disch := first | omega | (simp only [go_sem]; try omega)) only [go_sem]
    refine checkCalcs_a cs (by omega) hs ?_
    rw [hF]
    simp (disch := first | omega | (simp only [go_sem]; try omega)) only [go_sem]
    refine equalSe_a [] [] (by simp) (by simp) ?_
    simp only [decide_true]
    simp (disch := first | omega | (simp only [go_sem]; try omega)) only [go_sem]
    refine equalSe_a _ _ (by omega) (by omega) ?_
    simp only [decide_true]
    simp (disch := first | omega | (simp only [go_sem]; try omega)) only [go_sem]
    refine equalSe_a _ _ (by omega) (by omega) ?_
    simp only [decide_true]
    simp (disch := first | omega | (simp only [go_sem]; try omega)) only [go_sem]
    refine reckonedW_a ?_
    simp (disch := first | omega | (simp only [go_sem]; try omega)) only [go_sem]
    exact Ret.drop hH (Nat.le_refl _) trivial hk
   ·have ht0 : tagE t = 5 := if_neg hkey
    refine affects_a cs (by omega) hs t (by omega) (fun h => absurd hF h) (fun _ _ => ?_) (fun _ h => absurd h hkey)
    simp (disch := first | omega | (simp only [go_sem]; try omega)) only [go_sem]
    refine calcsFault_a cs (by omega) hs ?_
    rw [hF]
    simp (disch := first | omega | (simp only [go_sem]; try omega)) only [go_sem]
    refine nameFault_a t (by omega) ?_
    rw [ht0]
    simp (disch := first | omega | (simp only [go_sem]; try omega)) only [go_sem]
    refine errs_lit 0 5 (by first | ((repeat first | exact at0 (by simp) | refine atS ?_); done) | assumption) rfl rfl ?_
    rw [show firstE [0, 5] = 5 from rfl]
    simp (disch := first | omega | (simp only [go_sem]; try omega)) only [go_sem]
    refine orderOf_a hF hs ?_
    rw [hO]
    simp only [ordW]
    simp (disch := first | omega | (simp only [go_sem]; try omega)) only [go_sem]
    refine cycleOf_a hF hs ?_
    simp (disch := first | omega | (simp only [go_sem]; try omega)) only [go_sem]
    refine checkCalcs_a cs (by omega) hs ?_
    rw [hF]
    simp (disch := first | omega | (simp only [go_sem]; try omega)) only [go_sem]
    refine equalSe_a [] [] (by simp) (by simp) ?_
    simp only [decide_true]
    simp (disch := first | omega | (simp only [go_sem]; try omega)) only [go_sem]
    refine equalSe_a _ _ (by omega) (by omega) ?_
    simp only [decide_true]
    simp (disch := first | omega | (simp only [go_sem]; try omega)) only [go_sem]
    refine eqNil_a ?_
    simp (disch := first | omega | (simp only [go_sem]; try omega)) only [go_sem]
    refine reckonedW_a ?_
    simp (disch := first | omega | (simp only [go_sem]; try omega)) only [go_sem]
    exact Ret.drop hH (Nat.le_refl _) trivial hk
  | some o =>
   have hol1 := hol o hO
   simp only [ordE]
   simp (disch := first | omega | (simp only [go_sem]; try omega)) only [go_sem]
   refine cycle_a cs (by omega) hs (fun h => absurd hF h) (fun _ => ?_)
   simp (disch := first | omega | (simp only [go_sem]; try omega)) only [go_sem]
   by_cases hkey : isKey t
   ·have ht0 : tagE t = 0 := if_pos hkey
    refine affects_a cs (by omega) hs t (by omega) (fun h => absurd hF h) (fun _ h => absurd hkey h) (fun _ _ => ?_)
    simp (disch := first | omega | (simp only [go_sem]; try omega)) only [go_sem]
    refine calcsFault_a cs (by omega) hs ?_
    rw [hF]
    simp (disch := first | omega | (simp only [go_sem]; try omega)) only [go_sem]
    refine nameFault_a t (by omega) ?_
    rw [ht0]
    simp (disch := first | omega | (simp only [go_sem]; try omega)) only [go_sem]
    refine errs_lit 0 0 (by first | ((repeat first | exact at0 (by simp) | refine atS ?_); done) | assumption) rfl rfl ?_
    rw [show firstE [0, 0] = 0 from rfl]
    simp (disch := first | omega | (simp only [go_sem]; try omega)) only [go_sem]
    refine orderOf_a hF hs ?_
    rw [hO]
    simp only [ordW]
    simp (disch := first | omega | (simp only [go_sem]; try omega)) only [go_sem]
    refine cycleOf_a hF hs ?_
    simp (disch := first | omega | (simp only [go_sem]; try omega)) only [go_sem]
    refine affectsOf_a hF hs t ?_
    simp (disch := first | omega | (simp only [go_sem]; try omega)) only [go_sem]
    refine checkCalcs_a cs (by omega) hs ?_
    rw [hF]
    simp (disch := first | omega | (simp only [go_sem]; try omega)) only [go_sem]
    refine equalSe_a o o (by omega) (by omega) ?_
    simp only [decide_true]
    simp (disch := first | omega | (simp only [go_sem]; try omega)) only [go_sem]
    refine equalSe_a _ _ (by omega) (by omega) ?_
    simp only [decide_true]
    simp (disch := first | omega | (simp only [go_sem]; try omega)) only [go_sem]
    refine equalSe_a _ _ (by omega) (by omega) ?_
    simp only [decide_true]
    simp (disch := first | omega | (simp only [go_sem]; try omega)) only [go_sem]
    refine reckonedW_a ?_
    simp (disch := first | omega | (simp only [go_sem]; try omega)) only [go_sem]
    exact Ret.drop hH (Nat.le_refl _) trivial hk
   ·have ht0 : tagE t = 5 := if_neg hkey
    refine affects_a cs (by omega) hs t (by omega) (fun h => absurd hF h) (fun _ _ => ?_) (fun _ h => absurd h hkey)
    simp (disch := first | omega | (simp only [go_sem]; try omega)) only [go_sem]
    refine calcsFault_a cs (by omega) hs ?_
    rw [hF]
    simp (disch := first | omega | (simp only [go_sem]; try omega)) only [go_sem]
    refine nameFault_a t (by omega) ?_
    rw [ht0]
    simp (disch := first | omega | (simp only [go_sem]; try omega)) only [go_sem]
    refine errs_lit 0 5 (by first | ((repeat first | exact at0 (by simp) | refine atS ?_); done) | assumption) rfl rfl ?_
    rw [show firstE [0, 5] = 5 from rfl]
    simp (disch := first | omega | (simp only [go_sem]; try omega)) only [go_sem]
    refine orderOf_a hF hs ?_
    rw [hO]
    simp only [ordW]
    simp (disch := first | omega | (simp only [go_sem]; try omega)) only [go_sem]
    refine cycleOf_a hF hs ?_
    simp (disch := first | omega | (simp only [go_sem]; try omega)) only [go_sem]
    refine checkCalcs_a cs (by omega) hs ?_
    rw [hF]
    simp (disch := first | omega | (simp only [go_sem]; try omega)) only [go_sem]
    refine equalSe_a o o (by omega) (by omega) ?_
    simp only [decide_true]
    simp (disch := first | omega | (simp only [go_sem]; try omega)) only [go_sem]
    refine equalSe_a _ _ (by omega) (by omega) ?_
    simp only [decide_true]
    simp (disch := first | omega | (simp only [go_sem]; try omega)) only [go_sem]
    refine eqNil_a ?_
    simp (disch := first | omega | (simp only [go_sem]; try omega)) only [go_sem]
    refine reckonedW_a ?_
    simp (disch := first | omega | (simp only [go_sem]; try omega)) only [go_sem]
    exact Ret.drop hH (Nat.le_refl _) trivial hk
 ·simp (disch := first | omega | (simp only [go_sem]; try omega)) only [go_sem]
  refine orderTop_a cs (by omega) hs (fun _ => ?_) (fun h => absurd h hF)
  simp (disch := first | omega | (simp only [go_sem]; try omega)) only [go_sem]
  refine cycle_a cs (by omega) hs (fun _ => ?_) (fun h => absurd h hF)
  simp (disch := first | omega | (simp only [go_sem]; try omega)) only [go_sem]
  refine affects_a cs (by omega) hs t (by omega) (fun _ => ?_) (fun h _ => absurd h hF) (fun h _ => absurd h hF)
  simp (disch := first | omega | (simp only [go_sem]; try omega)) only [go_sem]
  refine calcsFault_a cs (by omega) hs ?_
  simp (disch := first | omega | (simp only [go_sem]; try omega)) only [go_sem]
  refine nameFault_a t (by omega) ?_
  simp (disch := first | omega | (simp only [go_sem]; try omega)) only [go_sem]
  refine errs_lit (clF cs) (tagE t) (by first | ((repeat first | exact at0 (by simp) | refine atS ?_); done) | assumption) rfl rfl ?_
  have e : firstE [clF cs, tagE t] = clF cs := by simp [firstE, hF]
  rw [e]
  simp (disch := first | omega | (simp only [go_sem]; try omega)) only [go_sem, hF]
  refine checkCalcs_a cs (by omega) hs ?_
  simp (disch := first | omega | (simp only [go_sem]; try omega)) only [go_sem]
  refine eqNil_a ?_
  simp (disch := first | omega | (simp only [go_sem]; try omega)) only [go_sem]
  refine eqNil_a ?_
  simp (disch := first | omega | (simp only [go_sem]; try omega)) only [go_sem]
  refine eqNil_a ?_
  simp (disch := first | omega | (simp only [go_sem]; try omega)) only [go_sem]
  refine reckonedW_a ?_
  simp (disch := first | omega | (simp only [go_sem]; try omega)) only [go_sem]
  exact Ret.drop hH (Nat.le_refl _) trivial hk
end Go.Proofs.YtagoolooikpabaaGreatDoor
