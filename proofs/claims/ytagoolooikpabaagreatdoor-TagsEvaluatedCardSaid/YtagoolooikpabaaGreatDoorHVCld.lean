/- Calculated tags that are drawn: how many, how long. No condition. -/
import Derived.Test.YtagoolooikpabaaGreatDoorHVCal
import Derived.Test.YtagoolooikpabaaGreatDoorHVExpD
set_option linter.all false
namespace Go.Proofs.YtagoolooikpabaaGreatDoor
open Go Go.RowKit
set_option maxRecDepth 100000
set_option maxHeartbeats 4000000
variable {H : Hp} {K : AV → Hp → Prop}
def nm5 : List ByteArray := [⟨#[117]⟩, ⟨#[118]⟩, ⟨#[119]⟩, ⟨#[120]⟩, ⟨#[121]⟩]
theorem nm5_1 : ∀ x ∈ nm5, x.size = 1 := by decide
theorem okN_nm (l : List ByteArray) (n : Nat) : (AObj.row 9 1 (l.map encSs) true).okN n := okN_pure (pureL_map _ (fun x => rfl)) (by simp [encSs]) _
theorem calcs_a (s : Nat) (zs : List Int) (j : Int) (hs : Str H s zs j) (hj : j ≤ 900000000)
  (hk : ∀ (l : List Cal) (j' : Int), j ≤ j' → j' ≤ j + 1000 → l.length ≤ 5 → (∀ x ∈ l, x.tg.size ≤ 10 ∧ x.ex.size ≤ 250) → K (.c (.lst 2 (l.map encCl))) (H.set s (strO zs j'))) :
  ACalls Tryz.prog 6 [.c (.ptr (some (s, 0, 0)))] H K := by
 have hlt := hs.lt
 have hpos := hs.pos
 have hne : H.length ≠ s := by omega
 refine acalls Tryz.func6 rfl kRf gT (fun hH => ?_)
 refine gO ?_
 refine AWp.loop (H.length + 1) [0, 10, 11] [12, 3] (fun (q : Nat × List Cal × Int) => q.1 ≤ 5 ∧ q.2.1.length ≤ q.1 ∧ (∀ x ∈ q.2.1, x.tg.size ≤ 10 ∧ x.ex.size ≤ 250) ∧ j ≤ q.2.2 ∧ q.2.2 ≤ j + 120 * q.1) (fun (q : Nat × List Cal × Int) => [(12, (.c (.int .i64 (q.1)))), (3, .c (grV (H.length + 1) q.2.1))]) (fun (q : Nat × List Cal × Int) => H.set s (strO zs q.2.2) ++ [.row 9 1 (nm5.map encSs) true, grO 60 2 (q.2.1.map encCl)]) (fun (q : Nat × List Cal × Int) => 5 - q.1) kRf (fun _ => rfl) kRf sOo sOm kl ?_ (fun q hq _ _ => ?_)
 ·refine Next.mk (0, [], j) ⟨by dsimp only; omega, by simp, by simp, by dsimp only; omega, by dsimp only; omega⟩ ?_
  dsimp only
  rw [set_same hs.2.2.2]
  exact WkL.padP [_] sMp
 obtain ⟨k, l, j1⟩ := q
 obtain ⟨q1, q2, q3, q4, q5⟩ := hq
 dsimp only at q1 q2 q3 q4 q5 ⊢
 have hml : nm5.length = 5 := rfl
 have hP : ∀ o ∈ [AObj.row 9 1 (nm5.map encSs) true], o.okN (H.length + [AObj.row 9 1 (nm5.map encSs) true].length) := by
  intro o ho
  simp only [List.mem_singleton] at ho
  subst ho
  exact okN_nm _ _
 by_cases hk2 : k < 5
 ·have hm1 := nm5_1 nm5[k] (List.getElem_mem oMg)
  refine gO2 hk2 hml ?_
  refine flip_a s zs j1 4 (by first | exact hs | exact hs.app _ | exact hs.set oMg oMg | exact (hs.set oMg oMg).app _) oMg oMg (fun b => ?_)
  refine gO ?_
  refine acond_b (fun c => ?_) (fun c => ?_)
  ·refine gO ?_
   refine Next.mk (k + 1, l, j1 + 1) ⟨⟨by dsimp only; omega, by dsimp only; omega, q3, by dsimp only; omega, by dsimp only; omega⟩, by dsimp only; omega⟩ ?_
   ((try refine gO ?_); (first | refine WkL.pickAt [_] [0] ?_ ?_ ?_ rfl ?_ ?_ ?_ ?_ | refine WkL.pickAt [_] [1] ?_ ?_ ?_ rfl ?_ ?_ ?_ ?_ | refine WkL.pickAt [_] [2] ?_ ?_ ?_ rfl ?_ ?_ ?_ ?_ | refine WkL.pickAt [_] [3] ?_ ?_ ?_ rfl ?_ ?_ ?_ ?_ | refine WkL.pickAt [_] [4] ?_ ?_ ?_ rfl ?_ ?_ ?_ ?_ | refine WkL.pickAt [_] [5] ?_ ?_ ?_ rfl ?_ ?_ ?_ ?_ | refine WkL.pickAt [_] [6] ?_ ?_ ?_ rfl ?_ ?_ ?_ ?_ | refine WkL.pickAt [_] [7] ?_ ?_ ?_ rfl ?_ ?_ ?_ ?_ | refine WkL.pickAt [_] [8] ?_ ?_ ?_ rfl ?_ ?_ ?_ ?_) <;> exact cLs)
  ·refine gO ?_
   refine someS_lit s zs (j1 + 1) [⟨#[97]⟩, ⟨#[98]⟩, ⟨#[117]⟩] aTT rfl rfl (by first | exact hs | exact hs.app _ | exact hs.set oMg oMg | exact (hs.set oMg oMg).app _) oMg sMp sMp (fun r1 hr1 => ?_)
   refine gO ?_
   refine someS_lit s zs (j1 + 1 + 1) [⟨#[98]⟩, ⟨#[99]⟩, ⟨#[118]⟩] aTT rfl rfl (by first | exact hs | exact hs.app _ | exact hs.set oMg oMg | exact (hs.set oMg oMg).app _) oMg sMp sMp (fun r2 hr2 => ?_)
   have hz : ∀ x ∈ ([⟨#[120]⟩, r1, ⟨#[121]⟩, r2] : List ByteArray), x.size = 1 := by
    have h1 : r1.size = 1 := (by decide : ∀ x ∈ ([⟨#[97]⟩, ⟨#[98]⟩, ⟨#[117]⟩] : List ByteArray), x.size = 1) r1 hr1
    have h2 : r2.size = 1 := (by decide : ∀ x ∈ ([⟨#[98]⟩, ⟨#[99]⟩, ⟨#[118]⟩] : List ByteArray), x.size = 1) r2 hr2
    intro x hx
    simp only [List.mem_cons, List.not_mem_nil, or_false] at hx
    rcases hx with rfl | rfl | rfl | rfl
    ·rfl
    ·exact h1
    ·rfl
    ·exact h2
   refine gO ?_
   refine newRp_lit [⟨#[120]⟩, r1, ⟨#[121]⟩, r2] rfl aTT rfl rfl ?_
   refine gO ?_
   rw [show H.length + 5 + 1 = H.length + 6 from rfl]
   refine range_a s zs (j1 + 1 + 1 + 1) 0 2 (by first | exact hs | exact hs.app _ | exact hs.set oMg oMg | exact (hs.set oMg oMg).app _) oMg oMg oMg (fun d d0 d1 => ?_)
   obtain ⟨e0, rfl⟩ : ∃ e : Nat, d = e := ⟨d.toNat, by omega⟩
   have he0 : e0 ≤ 2 := by omega
   have hJ := eJ_le (d := e0) oMg
   have hB : eB e0 ≤ 250 := by
    have : e0 = 0 ∨ e0 = 1 ∨ e0 = 2 := by omega
    rcases this with rfl | rfl | rfl <;> decide
   refine gO ?_
   refine expr_a e0 oMg _ s zs (j1 + 1 + 1 + 1 + 1) (by first | exact hs | exact hs.app _ | exact hs.set oMg oMg | exact (hs.set oMg oMg).app _) oMg (fun r j2 g1 g2 g3 => ?_)
   refine gO ?_
   refine replAll_a r oMg (fun t1 ht1 => ?_)
   refine gO ?_
   refine replRp_a (i := H.length + 6) (j := H.length + 5) [⟨#[120]⟩, r1, ⟨#[121]⟩, r2] rfl hz aTT aTT t1 oMg (fun t ht => ?_)
   refine gO ?_
   have hts : t.size ≤ 250 := by omega
   clear hz ht ht1 g3 hr1 hr2
   have hnx : ∀ (t2 : ByteArray) (j3 : Int), t2.size ≤ 250 → j2 ≤ j3 → j3 ≤ j2 + 1 → ((k + 1 ≤ 5 ∧ (l ++ [(⟨nm5[k], t2⟩ : Cal)]).length ≤ k + 1 ∧ (∀ x ∈ l ++ [(⟨nm5[k], t2⟩ : Cal)], x.tg.size ≤ 10 ∧ x.ex.size ≤ 250) ∧ j ≤ j3 ∧ j3 ≤ j + 120 * ((k + 1 : Nat) : Int)) ∧ 5 - (k + 1) < 5 - k) := fun t2 j3 h1 h2 h3 => by
    refine ⟨⟨by omega, by rw [List.length_append, List.length_singleton]; omega, fun x hx => ?_, by omega, by omega⟩, by omega⟩
    rcases List.mem_append.1 hx with h | h
    ·exact q3 x h
    ·rw [List.mem_singleton.1 h]
     exact ⟨by dsimp only; omega, h1⟩
   by_cases hk0 : k = 0
   ·subst hk0
    refine gO ?_
    refine AWp.rounds 2 kRf ?_
    refine gO ?_
    refine replaced_a t _ _ oMg rfl rfl (fun t2 ht2 => ?_)
    refine gO ?_
    refine replaced_a t2 _ _ oMg rfl rfl (fun t3 ht3 => ?_)
    refine gO ?_
    (refine app_gr (enc := encCl) (e := 60) (sz := 2) (bs := 32) (z := [.str ⟨#[]⟩, .str ⟨#[]⟩]) (l) (⟨nm5[0], t3⟩) kRf kRf kRf kRf aTT (by first | (refine gO ?_; done) | (refine gO ?_; rfl) | (refine gO ?_; simp [go_sem]; done) | (refine gO ?_; simp [*]; done)) rfl (by decide) oMg oMg (by rfl) ?_)
    refine gO ?_
    refine Next.mk (0 + 1, l ++ [⟨nm5[0], t3⟩], j2) (hnx t3 (j2) oMg oMg oMg) ?_
    ((try refine gO ?_); (first | refine WkL.pickAt [_] [0] ?_ ?_ ?_ rfl ?_ ?_ ?_ ?_ | refine WkL.pickAt [_] [1] ?_ ?_ ?_ rfl ?_ ?_ ?_ ?_ | refine WkL.pickAt [_] [2] ?_ ?_ ?_ rfl ?_ ?_ ?_ ?_ | refine WkL.pickAt [_] [3] ?_ ?_ ?_ rfl ?_ ?_ ?_ ?_ | refine WkL.pickAt [_] [4] ?_ ?_ ?_ rfl ?_ ?_ ?_ ?_ | refine WkL.pickAt [_] [5] ?_ ?_ ?_ rfl ?_ ?_ ?_ ?_ | refine WkL.pickAt [_] [6] ?_ ?_ ?_ rfl ?_ ?_ ?_ ?_ | refine WkL.pickAt [_] [7] ?_ ?_ ?_ rfl ?_ ?_ ?_ ?_ | refine WkL.pickAt [_] [8] ?_ ?_ ?_ rfl ?_ ?_ ?_ ?_) <;> exact cLs)
   ·refine gO1 hk0 ?_
    refine flip_a s zs j2 8 (by first | exact hs | exact hs.app _ | exact hs.set oMg oMg | exact (hs.set oMg oMg).app _) oMg oMg (fun b => ?_)
    refine gO ?_
    refine acond_b (fun c => ?_) (fun c => ?_)
    ·refine gO ?_
     (refine app_gr (enc := encCl) (e := 60) (sz := 2) (bs := 32) (z := [.str ⟨#[]⟩, .str ⟨#[]⟩]) (l) (⟨nm5[k], t⟩) kRf kRf kRf kRf aTT (by first | (refine gO ?_; done) | (refine gO ?_; rfl) | (refine gO ?_; simp [go_sem]; done) | (refine gO ?_; simp [*]; done)) rfl (by decide) oMg oMg (by rfl) ?_)
     refine gO ?_
     refine Next.mk (k + 1, l ++ [⟨nm5[k], t⟩], j2 + 1) (hnx t (j2 + 1) oMg oMg oMg) ?_
     ((try refine gO ?_); (first | refine WkL.pickAt [_] [0] ?_ ?_ ?_ rfl ?_ ?_ ?_ ?_ | refine WkL.pickAt [_] [1] ?_ ?_ ?_ rfl ?_ ?_ ?_ ?_ | refine WkL.pickAt [_] [2] ?_ ?_ ?_ rfl ?_ ?_ ?_ ?_ | refine WkL.pickAt [_] [3] ?_ ?_ ?_ rfl ?_ ?_ ?_ ?_ | refine WkL.pickAt [_] [4] ?_ ?_ ?_ rfl ?_ ?_ ?_ ?_ | refine WkL.pickAt [_] [5] ?_ ?_ ?_ rfl ?_ ?_ ?_ ?_ | refine WkL.pickAt [_] [6] ?_ ?_ ?_ rfl ?_ ?_ ?_ ?_ | refine WkL.pickAt [_] [7] ?_ ?_ ?_ rfl ?_ ?_ ?_ ?_ | refine WkL.pickAt [_] [8] ?_ ?_ ?_ rfl ?_ ?_ ?_ ?_) <;> exact cLs)
    ·by_cases hk1 : k = 1
     ·subst hk1
      refine gO ?_
      refine AWp.rounds 1 kRf ?_
      refine gO ?_
      refine replaced_a t _ _ oMg rfl rfl (fun t2 ht2 => ?_)
      refine gO ?_
      (refine app_gr (enc := encCl) (e := 60) (sz := 2) (bs := 32) (z := [.str ⟨#[]⟩, .str ⟨#[]⟩]) (l) (⟨nm5[1], t2⟩) kRf kRf kRf kRf aTT (by first | (refine gO ?_; done) | (refine gO ?_; rfl) | (refine gO ?_; simp [go_sem]; done) | (refine gO ?_; simp [*]; done)) rfl (by decide) oMg oMg (by rfl) ?_)
      refine gO ?_
      refine Next.mk (1 + 1, l ++ [⟨nm5[1], t2⟩], j2 + 1) (hnx t2 (j2 + 1) oMg oMg oMg) ?_
      ((try refine gO ?_); (first | refine WkL.pickAt [_] [0] ?_ ?_ ?_ rfl ?_ ?_ ?_ ?_ | refine WkL.pickAt [_] [1] ?_ ?_ ?_ rfl ?_ ?_ ?_ ?_ | refine WkL.pickAt [_] [2] ?_ ?_ ?_ rfl ?_ ?_ ?_ ?_ | refine WkL.pickAt [_] [3] ?_ ?_ ?_ rfl ?_ ?_ ?_ ?_ | refine WkL.pickAt [_] [4] ?_ ?_ ?_ rfl ?_ ?_ ?_ ?_ | refine WkL.pickAt [_] [5] ?_ ?_ ?_ rfl ?_ ?_ ?_ ?_ | refine WkL.pickAt [_] [6] ?_ ?_ ?_ rfl ?_ ?_ ?_ ?_ | refine WkL.pickAt [_] [7] ?_ ?_ ?_ rfl ?_ ?_ ?_ ?_ | refine WkL.pickAt [_] [8] ?_ ?_ ?_ rfl ?_ ?_ ?_ ?_) <;> exact cLs)
     ·have hmx : max (0 : Int) (2 - (k : Int)) = 0 := by omega
      refine gO1 hmx ?_
      refine ⟨.inl trivial, ?_⟩
      refine gO ?_
      refine AWp.rounds 0 kRf ?_
      refine gO ?_
      (refine app_gr (enc := encCl) (e := 60) (sz := 2) (bs := 32) (z := [.str ⟨#[]⟩, .str ⟨#[]⟩]) (l) (⟨nm5[k], t⟩) kRf kRf kRf kRf aTT (by first | (refine gO ?_; done) | (refine gO ?_; rfl) | (refine gO ?_; simp [go_sem]; done) | (refine gO ?_; simp [*]; done)) rfl (by decide) oMg oMg (by rfl) ?_)
      refine gO ?_
      refine Next.mk (k + 1, l ++ [⟨nm5[k], t⟩], j2 + 1) (hnx t (j2 + 1) oMg oMg oMg) ?_
      ((try refine gO ?_); (first | refine WkL.pickAt [_] [0] ?_ ?_ ?_ rfl ?_ ?_ ?_ ?_ | refine WkL.pickAt [_] [1] ?_ ?_ ?_ rfl ?_ ?_ ?_ ?_ | refine WkL.pickAt [_] [2] ?_ ?_ ?_ rfl ?_ ?_ ?_ ?_ | refine WkL.pickAt [_] [3] ?_ ?_ ?_ rfl ?_ ?_ ?_ ?_ | refine WkL.pickAt [_] [4] ?_ ?_ ?_ rfl ?_ ?_ ?_ ?_ | refine WkL.pickAt [_] [5] ?_ ?_ ?_ rfl ?_ ?_ ?_ ?_ | refine WkL.pickAt [_] [6] ?_ ?_ ?_ rfl ?_ ?_ ?_ ?_ | refine WkL.pickAt [_] [7] ?_ ?_ ?_ rfl ?_ ?_ ?_ ?_ | refine WkL.pickAt [_] [8] ?_ ?_ ?_ rfl ?_ ?_ ?_ ?_) <;> exact cLs)
 ·have hfin : ∀ (l2 : List Cal) (j2 : Int) {G : Hp}, l2.length = l.length → (∀ x ∈ l2, x.tg.size ≤ 10 ∧ x.ex.size ≤ 250) → j1 ≤ j2 → j2 ≤ j1 + 10 → Ret H.length (.c (grV (H.length + 1) l2)) (H.set s (strO zs j2) ++ (.row 9 1 (nm5.map encSs) true :: grO 60 2 (l2.map encCl) :: G)) K := fun l2 j2 {G} h1 h2 h3 h4 => by
   refine Ret.frzGr (l := l2.map encCl) 1 (HOk.str hH) sMp rfl (pureL_map _ pUr) ?_ (hk l2 j2 oMg oMg oMg h2)
   rw [map_grV, List.length_set]
  refine gO2 hk2 hml ?_
  by_cases hl0 : 0 < l.length
  ·refine gO1 hl0 ?_
   refine flip_a s zs j1 12 (by first | exact hs | exact hs.app _ | exact hs.set oMg oMg | exact (hs.set oMg oMg).app _) oMg oMg (fun b => ?_)
   refine gO ?_
   refine acond_b (fun c => ?_) (fun c => ?_)
   ·refine gO ?_
    refine next_a s zs (j1 + 1) l.length (by first | exact hs | exact hs.app _ | exact hs.set oMg oMg | exact (hs.set oMg oMg).app _) oMg oMg (fun x x0 x1 => ?_)
    refine gO ?_
    obtain ⟨n, rfl⟩ : ∃ n : Nat, x = n := ⟨x.toNat, by omega⟩
    have hn : n < l.length := by omega
    refine w_tree (.one 0 (.one 1 (.one 2 (.one 3 (.one 4 (.one 5 (.one 6 (.one 7 (.one 8 (.one 9 (.one 10 (.one 13 (.two 11 (.two 12 (.one 14 (.one 15 (.one 16 (.one 17 (.one 18 (.one 19 (.one 20 (.one 21 .done)))))))) 14 (.one 12 (.one 15 (.one 16 (.one 17 (.one 18 (.one 19 (.one 20 (.one 21 .done))))))))) 14 (.one 11 (.one 12 (.one 15 (.one 16 (.one 17 (.one 18 (.one 19 (.one 20 (.one 21 .done)))))))))))))))))))))) kRf dKn ?_
    simp (disch := first | omega | (simp only [go_sem]; try omega)) only [go_sem, hn]
    have h7 : ∀ r ∈ ([l[n].tg, l[n].tg, ⟨#[97, 45, 98]⟩, ⟨#[109, 105, 110]⟩, ⟨#[]⟩, ⟨#[65]⟩, ⟨#[117]⟩] : List ByteArray), r.size ≤ 10 := by
     have h0 := (q3 l[n] (List.getElem_mem hn)).1
     have h1 : ∀ r ∈ ([⟨#[97, 45, 98]⟩, ⟨#[109, 105, 110]⟩, ⟨#[]⟩, ⟨#[65]⟩, ⟨#[117]⟩] : List ByteArray), r.size ≤ 10 := by decide
     intro r hr
     rcases List.mem_cons.1 hr with h | hr
     ·rw [h]; exact h0
     ·rcases List.mem_cons.1 hr with h | hr
      ·rw [h]; exact h0
      ·exact h1 r hr
    have h6 : ∀ r ∈ ([⟨#[119]⟩, ⟨#[121, 64, 49, 48]⟩, ⟨#[120, 32, 43, 32, 119]⟩, ⟨#[97, 32, 43]⟩, ⟨#[]⟩, ⟨#[117]⟩] : List ByteArray), r.size ≤ 10 := by decide
    repeat' first
     | (refine someS_lit s zs _ [l[n].tg, l[n].tg, ⟨#[97, 45, 98]⟩, ⟨#[109, 105, 110]⟩, ⟨#[]⟩, ⟨#[65]⟩, ⟨#[117]⟩] aTT rfl rfl (by first | exact hs | exact hs.app _ | exact hs.set oMg oMg | exact (hs.set oMg oMg).app _) oMg sMp sMp (fun r7 hr => ?_); have g7 := h7 r7 hr; clear hr; refine gO1 hn ?_)
     | (refine someS_lit s zs _ [⟨#[119]⟩, ⟨#[121, 64, 49, 48]⟩, ⟨#[120, 32, 43, 32, 119]⟩, ⟨#[97, 32, 43]⟩, ⟨#[]⟩, ⟨#[117]⟩] (by first | ((repeat first | exact at0 (by simp) | refine atS ?_); done) | assumption) rfl rfl (by first | exact hs | exact hs.app _ | exact hs.set (by omega) (by omega) | exact (hs.set (by omega) (by omega)).app _) (by omega) (by simp) (by simp) (fun r6 hr => ?_); have g6 := h6 r6 hr; clear hr; simp (disch := first | omega | (simp only [go_sem]; try omega)) only [go_sem, hn])
     | apply And.intro
    all_goals
     have hq := hfin (l.set n ⟨r7, r6⟩) (j1 + 1 + 1 + 1 + 1) (G := [.dead, .dead]) (List.length_set ..) (fun x hx => by
      rcases List.mem_or_eq_of_mem_set hx with h | h
      ·exact q3 x h
      ·rw [h]; exact ⟨g7, by dsimp only; omega⟩) (by omega) (by omega)
     have hne0 : l ≠ [] := fun e => by rw [e] at hl0; exact absurd hl0 (by decide)
     rw [grO_pos _ _ (by simpa using hne0), List.map_set, grV_pos _ (by simpa using hne0), List.length_set] at hq
     rw [grV_pos _ hne0]
     exact hq
   ·refine gO ?_
    exact hfin l (j1 + 1) rfl q3 oMg oMg
  ·refine gO1 hl0 ?_
   exact hfin l j1 rfl q3 oMg oMg
end Go.Proofs.YtagoolooikpabaaGreatDoor
