/- TagsEvaluated: what the law's function answers for all numbers it is given. No condition. -/
import Derived.Test.YtagoolooikpabaaGreatDoorHVValQ
import Derived.Test.YtagoolooikpabaaGreatDoorHVDeep
import Derived.Test.YtagoolooikpabaaGreatDoorHVCld
import Derived.Test.YtagoolooikpabaaGreatDoorHVSrl
import Derived.Test.YtagoolooikpabaaGreatDoorHVOrQ
set_option linter.all false
namespace Go.Proofs.YtagoolooikpabaaGreatDoor
open Go Go.RowKit
set_option maxRecDepth 100000
set_option maxHeartbeats 4000000
variable {H : Hp} {K : AV → Hp → Prop}
theorem equalPr_a (l m : List Pr) (hl : l.length ≤ 1099511627776) (hm : m.length ≤ 1099511627776) (hk : K (.c (.bool (decide (l = m)))) H) : ACalls Tryz.prog 30 [.c (.lst 2 (l.map encPr)), .c (.lst 2 (m.map encPr))] H K := by
 by_cases hlen : l.length = m.length
 ·refine acalls Tryz.func30 rfl kRf gT (fun hH => ?_)
  refine gO ?_
  refine AWp.loop (H.length) [0, 1, 12] [13] (fun (k : Nat) => k ≤ l.length ∧ ∀ (j : Nat) (x y : Pr), j < k → l[j]? = some x → m[j]? = some y → x = y) (fun (k : Nat) => [(13, (.c (.int .i64 k)))]) (fun (k : Nat) => H) (fun (k : Nat) => l.length - k) kRf (fun _ => rfl) kRf sOo sOm kl ?_ (fun k hk1 _ _ => ?_)
  ·exact Next.mk 0 sMp wk
  obtain ⟨hk1, hk2⟩ := hk1
  by_cases hlt : k < l.length
  ·refine gO ?_
   refine w_draw kRf dKn ?_
   refine gO ?_
   refine acond_b (fun c => ?_) (fun c => ?_)
   ·refine gO ?_
    exact Next.mk (k + 1) ⟨⟨by omega, fun j x y hj hx hy => by
     rcases Nat.lt_or_ge j k with h | h
     ·exact hk2 j x y h hx hy
     ·obtain rfl : j = k := by omega
      rw [List.getElem?_eq_getElem hlt] at hx
      rw [List.getElem?_eq_getElem oMg] at hy
      injection hx with hx; injection hy with hy; rw [← hx, ← hy]; revert c; generalize l[j] = u; generalize m[j] = v; first | (simp; done) | (cases u; cases v; simp)⟩, by omega⟩ wk
   ·refine gO ?_
    have : l ≠ m := by rintro rfl; simp at c
    (first | refine Ret.sameE lRf (by assumption) ?_ | refine Ret.dropE (by assumption) lRf (by assumption) oKs ?_) <;> simp [this]
  ·refine gO ?_
   have : l = m := by
    apply List.ext_getElem hlen
    intro j h1 h2
    exact hk2 j _ _ oMg (List.getElem?_eq_getElem h1) (List.getElem?_eq_getElem h2)
   (first | refine Ret.sameE lRf (by assumption) ?_ | refine Ret.dropE (by assumption) lRf (by assumption) oKs ?_) <;> simp [this]
 ·have : l ≠ m := by rintro rfl; exact hlen rfl
  refine acalls Tryz.func30 rfl kRf gT (fun hH => ?_)
  refine gO ?_
  (first | refine Ret.sameE lRf (by assumption) ?_ | refine Ret.dropE (by assumption) lRf (by assumption) oKs ?_) <;> simp [this]
theorem eqNilPr_a (hk : K (.c (.bool true)) H) : ACalls Tryz.prog 30 [.c (.lst 2 []), .c (.sl none 0)] H K := by
 refine ACalls.nilz [0, 2] sMp ?_
 exact equalPr_a [] [] sMp sMp hk
theorem calcTimeT_a (s : Nat) (zs : List Int) (j : Int) (hs : Str H s zs j) (hj : j ≤ 1090000000000) (hk : ∀ r : Int, K (.c (.int .i64 r)) (H.set s (strO zs (j + 1)))) : ACalls Tryz.prog 21 [.c (.ptr (some (s, 0, 0)))] H K := by
 have hlt := hs.lt
 have hpos := hs.pos
 refine acalls Tryz.func21 rfl kRf gT (fun hH => ?_)
 refine gO ?_
 refine pick_lit s zs j [0, 10, 20, 50, 120, 300, -1, 345686399999, 345686400000] aTT rfl rfl (by first | exact hs | exact hs.app _ | exact hs.set oMg oMg | exact (hs.set oMg oMg).app _) oMg sMp sMp (fun r _ => ?_)
 refine gO ?_
 exact Ret.drop (HOk.str hH) sMp trivial (hk r)
theorem errs3T (a b c : Int) {i ty n : Nat} {els : List (List AC)} {own : Bool} (hi : H[i]? = some (.row ty 1 els own)) (he : els = [[.int .i64 a], [.int .i64 b], [.int .i64 c]]) (hn : n = 3) (hk : K (.c (.int .i64 (firstE [a, b, c]))) (H.set i .dead)) : ACalls Tryz.prog 12 [.c (.sl (some (i, 0)) n)] H K := by
 subst he hn
 exact ACalls.lit hi (by simp [pureL, AC.pure]) (args' := [.c (.lst 1 ([a, b, c].map encI))]) (by simp [AV.frz1, AC.frz, encI]) (errsGo_a [a, b, c] sMp hk)
def lpF (cs : List Cal) : Int := match orderG (nmC cs) (kidC cs) with
 | some _ => 0
 | none => 14
theorem loopFault_a {cs : List Cal} (hF : clF cs = 0) (hs : ∀ x ∈ cs, x.fine) (hk : K (.c (.int .i64 (lpF cs))) H) : ACalls Tryz.prog 26 [.c (.lst 2 (cs.map encCl))] H K := by
 unfold lpF at hk
 refine acalls Tryz.func26 rfl kRf gT (fun hH => ?_)
 refine gO ?_
 refine orderOf_a hF hs ?_
 cases ho : orderG (nmC cs) (kidC cs) with
 | none =>
  rw [ho] at hk
  simp only [ordW]
  refine gO ?_
  exact Ret.same lRf hk
 | some o =>
  rw [ho] at hk
  simp only [ordW]
  refine gO ?_
  exact Ret.same lRf hk
theorem tagsEvaluated_a (zs : List Int) (hz : zs.length ≤ 9223372036854775807) (hk : K (.c (.bool true)) H) : ACalls Tryz.prog 4 [.c (.lst 1 (zs.map encI))] H K := by
 have st : ∀ (k : Int) (L : Hp), 0 ≤ k → k ≤ 1000000000 → Str (H ++ strO zs k :: L) H.length zs k := fun k L h1 h2 => ⟨hz, h1, by omega, by simp⟩
 refine acallsS Tryz.func4 rfl gT (fun hH => ?_)
 (refine SWp.go kRf ?_; refine gO ?_)
 (refine SWp.go kRf ?_; refine gO ?_)
 refine SWp.go kRf ?_
 refine gO ?_
 refine calcs_a H.length zs 0 (st _ _ oMg oMg) oMg (fun cs0 j1 g1 g2 g3 g4 => ?_)
 refine gO ?_
 refine seriesList_a H.length zs j1 (st _ _ oMg oMg) oMg (fun ss j2 g5 g6 g7 g8 => ?_)
 refine gO ?_
 refine calcTimeT_a H.length zs j2 (st _ _ oMg oMg) oMg (fun m => ?_)
 refine gO ?_
 refine SWp.cut (H.length + 1) [3, 5, 6] [4] (fun (u : List Cal × Int) => u.1.length ≤ 11 ∧ (∀ x ∈ u.1, x.tg.size ≤ 10 ∧ x.ex.size ≤ 250) ∧ 0 ≤ u.2 ∧ u.2 ≤ 100000) (fun (u : List Cal × Int) => [(4, .c (.lst 2 (u.1.map encCl)))]) (fun (u : List Cal × Int) => H ++ [strO zs u.2]) (fun _ => rfl) kRf sOo sOm kl ?_ (fun u hu _ _ => ?_)
 ·refine SWp.of kRf ?_
  refine gO ?_
  refine flip_a H.length zs (j2 + 1) 25 (st _ _ oMg oMg) oMg oMg (fun b => ?_)
  refine gO ?_
  refine acond_b (fun c => ?_) (fun c => ?_)
  ·refine gO ?_
   refine pick_lit H.length zs (j2 + 1 + 1) [3, 9, 10, 11] (i := H.length + 1) aTT rfl rfl (st _ _ oMg oMg) oMg sMp sMp (fun r hr => ?_)
   have hr2 : 0 ≤ r ∧ r ≤ 11 := by
    simp only [List.mem_cons, List.not_mem_nil, or_false] at hr
    omega
   refine gO ?_
   refine deepCalcs_a r hr2 (fun l q1 q2 => ?_)
   refine gO ?_
   refine Next.mk (l, j2 + 1 + 1 + 1) ⟨q1, q2, by dsimp only; omega, by dsimp only; omega⟩ ?_
   exact wk
  ·refine gO ?_
   refine Next.mk (cs0, j2 + 1 + 1) ⟨by dsimp only; omega, g4, by dsimp only; omega, by dsimp only; omega⟩ ?_
   exact wk
 obtain ⟨cs, j3⟩ := u
 obtain ⟨u1, u2, u3, u4⟩ := hu
 dsimp only at u1 u2 u3 u4 ⊢
 have hs : ∀ x ∈ cs, x.fine := fun x hx => by
  have := u2 x hx
  exact ⟨by omega, by show (tL x.ex).length ≤ 1000000; have h2 : (tL x.ex).length = x.ex.size := rfl; omega⟩
 have hss : ∀ x ∈ ss, x.fine := fun x hx => (g8 x hx).1
 refine SWp.of kRf ?_
 refine gO ?_
 refine values_a cs ss m oMg hs oMg hss ?_
 unfold valsF
 by_cases hF : clF cs = 0
 case neg =>
  rw [if_pos hF]
  refine gO1 hF ?_
  refine calcsFault_a cs oMg hs ?_
  refine gO1 hF ?_
  refine eqNilPr_a ?_
  refine gO ?_
  refine reckonedW_a ?_
  refine gO ?_
  exact Ret.drop hH lRf trivial hk
 rw [if_neg (by simpa using hF)]
 cases ho : orderG (nmC cs) (kidC cs) with
 | none =>
  have hlp : lpF cs = 14 := by unfold lpF; rw [ho]
  refine gO ?_
  refine calcsFault_a cs oMg hs ?_
  rw [hF]
  refine gO ?_
  refine loopFault_a hF hs ?_
  rw [hlp]
  refine gO ?_
  refine listFault_a ss oMg hss ?_
  refine gO ?_
  refine momentFaultR_a m ?_
  refine gO ?_
  refine errs3T 14 (slF ss) _ aTT rfl rfl ?_
  rw [show ∀ a b, firstE [14, a, b] = 14 from fun _ _ => rfl]
  refine gO ?_
  refine eqNilPr_a ?_
  refine gO ?_
  refine reckonedW_a ?_
  refine gO ?_
  exact Ret.drop hH lRf trivial hk
 | some o =>
  have hlp : lpF cs = 0 := by unfold lpF; rw [ho]
  have hpl : (cs.map (prV cs ss m)).length ≤ 1000 := by rw [List.length_map]; omega
  dsimp only
  by_cases hS : slF ss = 0
  case neg =>
   rw [if_pos hS]
   have hfe : ∀ b, firstE [0, slF ss, b] = slF ss := fun b => by simp [firstE, hS]
   refine gO ?_
   refine calcsFault_a cs oMg hs ?_
   rw [hF]
   refine gO ?_
   refine loopFault_a hF hs ?_
   rw [hlp]
   refine gO ?_
   refine listFault_a ss oMg hss ?_
   refine gO ?_
   refine momentFaultR_a m ?_
   refine gO ?_
   refine errs3T 0 (slF ss) _ aTT rfl rfl ?_
   rw [hfe]
   refine gO1 hS ?_
   refine eqNilPr_a ?_
   refine gO ?_
   refine reckonedW_a ?_
   refine gO ?_
   exact Ret.drop hH lRf trivial hk
  rw [if_neg (by simpa using hS)]
  by_cases hm : 0 ≤ m ∧ m ≤ 345686399999
  case neg =>
   rw [if_pos hm]
   refine gO ?_
   refine calcsFault_a cs oMg hs ?_
   rw [hF]
   refine gO ?_
   refine loopFault_a hF hs ?_
   rw [hlp]
   refine gO ?_
   refine listFault_a ss oMg hss ?_
   rw [hS]
   refine gO ?_
   refine momentFaultR_a m ?_
   rw [if_neg hm]
   refine gO ?_
   refine errs3T 0 0 1 aTT rfl rfl ?_
   rw [show firstE [0, 0, 1] = 1 from rfl]
   refine gO ?_
   refine eqNilPr_a ?_
   refine gO ?_
   refine reckonedW_a ?_
   refine gO ?_
   exact Ret.drop hH lRf trivial hk
  rw [if_neg (by simpa using hm)]
  cases hR : shR cs o with
  | none =>
   dsimp only
   refine gO ?_
   refine calcsFault_a cs oMg hs ?_
   rw [hF]
   refine gO ?_
   refine loopFault_a hF hs ?_
   rw [hlp]
   refine gO ?_
   refine listFault_a ss oMg hss ?_
   rw [hS]
   refine gO ?_
   refine momentFaultR_a m ?_
   rw [if_pos hm]
   refine gO ?_
   refine errs3T 0 0 0 aTT rfl rfl ?_
   rw [show firstE [0, 0, 0] = 0 from rfl]
   refine gO ?_
   refine valuesOf_a hF hs hS ho m hm (fun _ => ?_) (fun R h => by rw [hR] at h; cases h)
   refine gO ?_
   refine equalPr_a [] [] sMp sMp ?_
   simp only [decide_true]
   refine gO ?_
   refine reckonedW_a ?_
   refine gO ?_
   exact Ret.drop hH lRf trivial hk
  | some R =>
   dsimp only
   refine gO ?_
   refine calcsFault_a cs oMg hs ?_
   rw [hF]
   refine gO ?_
   refine loopFault_a hF hs ?_
   rw [hlp]
   refine gO ?_
   refine listFault_a ss oMg hss ?_
   rw [hS]
   refine gO ?_
   refine momentFaultR_a m ?_
   rw [if_pos hm]
   refine gO ?_
   refine errs3T 0 0 0 aTT rfl rfl ?_
   rw [show firstE [0, 0, 0] = 0 from rfl]
   refine gO ?_
   refine valuesOf_a hF hs hS ho m hm (fun h => by rw [hR] at h; cases h) (fun _ _ => ?_)
   generalize cs.map (prV cs ss m) = us at *
   refine gO ?_
   refine equalPr_a us us oMg oMg ?_
   simp only [decide_true]
   refine gO ?_
   refine reckonedW_a ?_
   refine gO ?_
   exact Ret.drop hH lRf trivial hk
end Go.Proofs.YtagoolooikpabaaGreatDoor
