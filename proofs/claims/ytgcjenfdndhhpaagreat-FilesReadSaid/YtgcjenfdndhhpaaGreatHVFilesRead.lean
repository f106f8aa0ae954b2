/- FilesRead: what the law's function answers for all numbers it is given. No condition. -/
import Derived.Test.YtgcjenfdndhhpaaGreatHVEqB
import Derived.Test.YtgcjenfdndhhpaaGreatHVQryR
import Derived.Test.YtgcjenfdndhhpaaGreatHVFileD
import Derived.Test.YtgcjenfdndhhpaaGreatHVGF
import Derived.Test.YtgcjenfdndhhpaaGreatHVBentD
import Derived.Test.YtgcjenfdndhhpaaGreatHVArch
import Derived.Test.YtgcjenfdndhhpaaGreatHVGD
namespace Go.Proofs.YtgcjenfdndhhpaaGreat
open Go Go.RowKit
set_option maxRecDepth 100000
set_option linter.all false
set_option maxHeartbeats 2000000
variable {H : Hp} {K : AV → Hp → Prop}
theorem equalSq_a (l m : List Smp) (hl : l.length ≤ 1099511627776) (hm : m.length ≤ 1099511627776) (hk : K (.c (.bool (decide (l = m)))) H) : ACalls Tryz.prog 38 [.c (.lst 3 (l.map encS)), .c (.lst 3 (m.map encS))] H K := by
  by_cases hlen : l.length = m.length
  · refine acalls Tryz.func38 rfl (by kernel_rfl) (by simp (disch := first | omega | (simp only [go_sem]; first | done | omega)) only [go_sem]) (fun hH => ?_)
    simp (disch := first | omega | (simp only [go_sem]; first | done | omega)) only [go_sem]
    refine AWp.loop (H.length) [0, 1, 12] [13] (fun (k : Nat) => k ≤ l.length ∧ ∀ (j : Nat) (x y : Smp), j < k → l[j]? = some x → m[j]? = some y → x = y) (fun (k : Nat) => [(13, (.c (.int .i64 k)))]) (fun (k : Nat) => H) (fun (k : Nat) => l.length - k) (by kernel_rfl) (fun _ => rfl) (by kernel_rfl) (by first | (simp; done) | omega) (by first | (simp; done) | (simp; omega) | omega) kl ?_ (fun k hk1 _ _ => ?_)
    · exact Next.mk 0 (by simp) wk
    obtain ⟨hk1, hk2⟩ := hk1
    by_cases hlt : k < l.length
    · simp (disch := first | omega | (simp only [go_sem]; first | done | omega)) only [go_sem]
      refine w_draw (by kernel_rfl) (by decide +kernel) ?_
      simp (disch := first | omega | (simp only [go_sem]; first | done | omega)) only [go_sem]
      refine acond_b (fun c => ?_) (fun c => ?_)
      · simp (disch := first | omega | (simp only [go_sem]; first | done | omega)) only [go_sem]
        exact Next.mk (k + 1) ⟨⟨by omega, fun j x y hj hx hy => by
          rcases Nat.lt_or_ge j k with h | h
          · exact hk2 j x y h hx hy
          · obtain rfl : j = k := by omega
            rw [List.getElem?_eq_getElem hlt] at hx
            rw [List.getElem?_eq_getElem (by omega)] at hy
            injection hx with hx; injection hy with hy; rw [← hx, ← hy]; revert c; generalize l[j] = u; generalize m[j] = v; first | (simp; done) | (cases u; cases v; simp)⟩, by omega⟩ wk
      · simp (disch := first | omega | (simp only [go_sem]; first | done | omega)) only [go_sem]
        have : l ≠ m := by rintro rfl; simp at c
        (first | refine Ret.sameE (Nat.le_refl _) (by assumption) ?_ | refine Ret.dropE (by assumption) (Nat.le_refl _) (by assumption) (by simp [AV.ok, AV.ok1, AC.ok]) ?_) <;> simp [this]
    · simp (disch := first | omega | (simp only [go_sem]; first | done | omega)) only [go_sem]
      have : l = m := by
        apply List.ext_getElem hlen
        intro j h1 h2
        exact hk2 j _ _ (by omega) (List.getElem?_eq_getElem h1) (List.getElem?_eq_getElem h2)
      (first | refine Ret.sameE (Nat.le_refl _) (by assumption) ?_ | refine Ret.dropE (by assumption) (Nat.le_refl _) (by assumption) (by simp [AV.ok, AV.ok1, AC.ok]) ?_) <;> simp [this]
  · have : l ≠ m := by rintro rfl; exact hlen rfl
    refine acalls Tryz.func38 rfl (by kernel_rfl) (by simp (disch := first | omega | (simp only [go_sem]; first | done | omega)) only [go_sem]) (fun hH => ?_)
    simp (disch := first | omega | (simp only [go_sem]; first | done | omega)) only [go_sem]
    (first | refine Ret.sameE (Nat.le_refl _) (by assumption) ?_ | refine Ret.dropE (by assumption) (Nat.le_refl _) (by assumption) (by simp [AV.ok, AV.ok1, AC.ok]) ?_) <;> simp [this]
theorem one_tg (b : List UInt8) (tag : ByteArray) (w : Win) : firstE [(par b).2.2, tagE tag, winE w] = if tgE b tag ≠ 0 then tgE b tag else winE w := by
  simp only [firstE]
  by_cases h : (par b).2.2 = 0
  · by_cases h2 : isKey tag
    · rw [show tgE b tag = 0 by unfold tgE; rw [if_neg (by simpa using h), if_pos h2], show tagE tag = 0 from if_pos h2, if_pos h, if_pos rfl, if_neg (by decide : ¬ ((0 : Int) ≠ 0))]
      split <;> simp_all
    · rw [show tgE b tag = 5 by unfold tgE; rw [if_neg (by simpa using h), if_neg h2], show tagE tag = 5 from if_neg h2, if_pos h, if_pos (by decide : (5 : Int) ≠ 0)]
      rfl
  · rw [show tgE b tag = (par b).2.2 by unfold tgE; rw [if_pos h], if_neg h, if_pos h]
theorem winE_01 (w : Win) : winE w = 0 ∨ winE w = 1 := by unfold winE; split <;> simp
theorem one_ways {b : List UInt8} {tag : ByteArray} {w : Win} {E : Int} (hE : E = if tgE b tag ≠ 0 then tgE b tag else winE w) : (tgE b tag ≠ 0 ∧ E = tgE b tag) ∨ (tgE b tag = 0 ∧ winE w = 0 ∧ E = 0) ∨ (tgE b tag = 0 ∧ winE w = 1 ∧ E = 1) := by
  by_cases h : tgE b tag = 0
  · rw [if_neg (by simpa using h)] at hE
    rcases winE_01 w with h2 | h2
    · exact .inr (.inl ⟨h, h2, by rw [hE, h2]⟩)
    · exact .inr (.inr ⟨h, h2, by rw [hE, h2]⟩)
  · rw [if_pos h] at hE
    exact .inl ⟨h, hE⟩
theorem f_e (b : List UInt8) (tag : ByteArray) (w : Win) : fRes b tag w = if firstE [(par b).2.2, tagE tag, winE w] = 0 then (((par b).1.map (·.b)).filter fun x => !fnoB tag w.a w.b x, 0) else ([], firstE [(par b).2.2, tagE tag, winE w]) := by
  have hE := one_tg b tag w
  generalize firstE [(par b).2.2, tagE tag, winE w] = E at *
  unfold fRes
  rcases one_ways hE with ⟨h, e⟩ | ⟨h, h2, e⟩ | ⟨h, h2, e⟩
  · rw [if_pos h, if_neg (by rw [e]; exact h), e]
  · rw [if_neg (by rw [h]; decide), if_neg (by rw [h2]; decide), if_pos e, find_same (tgE_0 h).1 h2]
  · rw [if_neg (by rw [h]; decide), if_pos (by rw [h2]; decide), if_neg (by rw [e]; decide), e]
theorem q_e (b : List UInt8) (tag : ByteArray) (w : Win) : qRes b tag w = if firstE [(par b).2.2, tagE tag, winE w] = 0 then (if 5000 < (qryF (par b).1 tag w.a w.b).length then [] else qryF (par b).1 tag w.a w.b, if 5000 < (qryF (par b).1 tag w.a w.b).length then 2 else 0) else ([], firstE [(par b).2.2, tagE tag, winE w]) := by
  have hE := one_tg b tag w
  generalize firstE [(par b).2.2, tagE tag, winE w] = E at *
  unfold qRes
  rcases one_ways hE with ⟨h, e⟩ | ⟨h, h2, e⟩ | ⟨h, h2, e⟩
  · rw [if_pos h, if_neg (by rw [e]; exact h), e]
  · rw [if_neg (by rw [h]; decide), if_neg (by rw [h2]; decide), if_pos e]
    split <;> rfl
  · rw [if_neg (by rw [h]; decide), if_pos (by rw [h2]; decide), if_neg (by rw [e]; decide), e]
theorem one_par {b : List UInt8} {tag : ByteArray} {w : Win} (h : firstE [(par b).2.2, tagE tag, winE w] = 0) : (par b).2.2 = 0 := by
  simp only [firstE] at h
  by_cases e : (par b).2.2 = 0
  · exact e
  · rw [if_neg e] at h; exact absurd h e
theorem filesRead_a (zs : List Int) (hz : zs.length ≤ 9223372036854775807) (hk : K (.c (.bool true)) H) : ACalls Tryz.prog 4 [.c (.lst 1 (zs.map encI))] H K := by
  have st : ∀ (k : Int) (L : Hp), 0 ≤ k → k ≤ 1000000000 → Str (H ++ strO zs k :: L) H.length zs k := fun k L h1 h2 => ⟨hz, h1, by omega, by simp⟩
  refine acallsS Tryz.func4 rfl (by simp (disch := first | omega | (simp only [go_sem]; first | done | omega)) only [go_sem]) (fun hH => ?_)
  (refine SWp.go (by kernel_rfl) ?_; simp (disch := first | omega | (simp only [go_sem]; first | done | omega)) only [go_sem])
  (refine SWp.go (by kernel_rfl) ?_; simp (disch := first | omega | (simp only [go_sem]; first | done | omega)) only [go_sem])
  (refine SWp.go (by kernel_rfl) ?_; simp (disch := first | omega | (simp only [go_sem]; first | done | omega)) only [go_sem])
  refine aFile_f H.length zs 0 (st _ _ (by omega) (by omega)) (by omega) (fun f j1 g1 g2 g3 _ => ?_)
  simp (disch := first | omega | (simp only [go_sem]; first | done | omega)) only [go_sem]
  refine bent_a H.length zs j1 f (st _ _ (by omega) (by omega)) (by omega) (by omega) (fun b j2 g4 g5 g6 => ?_)
  simp (disch := first | omega | (simp only [go_sem]; first | done | omega)) only [go_sem]
  refine some_lit H.length zs j2 [⟨#[116, 97]⟩, ⟨#[116, 97]⟩, ⟨#[116, 98]⟩, ⟨#[116, 99]⟩, ⟨#[65]⟩] (by first | ((repeat first | exact at0 (by simp) | refine atS ?_); done) | assumption) rfl rfl (st _ _ (by omega) (by omega)) (by omega) (by simp) (by simp) (fun tag htag => ?_)
  have ht : tag.size ≤ 1000 := by
    simp only [List.mem_cons, List.not_mem_nil, or_false] at htag
    rcases htag with rfl | rfl | rfl | rfl | rfl <;> decide
  clear htag
  simp (disch := first | omega | (simp only [go_sem]; first | done | omega)) only [go_sem]
  refine samples_a H.length zs (j2 + 1) 6 (st _ _ (by omega) (by omega)) (by omega) (by omega) (by omega) (fun a0 j3 g7 g8 g9 => ?_)
  simp (disch := first | omega | (simp only [go_sem]; first | done | omega)) only [go_sem]
  refine aWindow_a H.length zs j3 (st _ _ (by omega) (by omega)) (by omega) (fun w => ?_)
  simp (disch := first | omega | (simp only [go_sem]; first | done | omega)) only [go_sem]
  have hbl : b.length ≤ 200002 := by omega
  have hj3 : 0 ≤ j3 ∧ j3 ≤ 10000 := by omega
  have ha0 : a0.length ≤ 205 := by omega
  clear g1 g2 g3 g4 g5 g6 g7 g8 g9
  refine SWp.cut (H.length + 3) [3, 4, 5, 7] [6] (fun (s : List Smp × Int) => s.1.length ≤ 205 ∧ 0 ≤ s.2 ∧ s.2 ≤ 100000) (fun (s : List Smp × Int) => [(6, .c (.lst 3 (s.1.map encS)))]) (fun (s : List Smp × Int) => H ++ [strO zs s.2, .dead, .row 45 2 [encW w] true]) (fun _ => rfl) (by kernel_rfl) (by first | (simp; done) | omega) (by first | (simp; done) | (simp; omega) | omega) kl ?_ (fun s hs _ _ => ?_)
  · refine SWp.of (by kernel_rfl) ?_
    simp (disch := first | omega | (simp only [go_sem]; first | done | omega)) only [go_sem]
    refine flip_a H.length zs (j3 + 2) 20 (st _ _ (by omega) (by omega)) (by omega) (by omega) (fun bb => ?_)
    simp (disch := first | omega | (simp only [go_sem]; first | done | omega)) only [go_sem]
    refine acond_b (fun c => ?_) (fun c => ?_)
    · simp (disch := first | omega | (simp only [go_sem]; first | done | omega)) only [go_sem]
      refine manySamples_a H.length zs (j3 + 2 + 1) (st _ _ (by omega) (by omega)) (by omega) (fun a2 j4 g4 g5 g6 => ?_)
      simp (disch := first | omega | (simp only [go_sem]; first | done | omega)) only [go_sem]
      refine Next.mk (a2, j4) ⟨g6, by dsimp only; omega, by dsimp only; omega⟩ ?_
      exact wk
    · simp (disch := first | omega | (simp only [go_sem]; first | done | omega)) only [go_sem]
      refine Next.mk (a0, j3 + 2 + 1) ⟨ha0, by dsimp only; omega, by dsimp only; omega⟩ ?_
      exact wk
  obtain ⟨a, j⟩ := s
  obtain ⟨i1, i2, i3⟩ := hs
  dsimp only at i1 i2 i3 ⊢
  clear ha0 hj3
  obtain ⟨A, hA⟩ : ∃ A, A = appRes b tag a := ⟨_, rfl⟩
  obtain ⟨F, hF⟩ : ∃ F, F = fRes b tag w := ⟨_, rfl⟩
  obtain ⟨Q, hQ⟩ : ∃ Q, Q = qRes b tag w := ⟨_, rfl⟩
  have hA1 : A.1.length ≤ 200000 := by
    rw [hA]; unfold appRes
    split
    · simp
    · split
      · simp
      · split
        · simp
        · split
          · simp
          · dsimp only; omega
  have hpl := par_len b
  (refine SWp.go (by kernel_rfl) ?_; simp (disch := first | omega | (simp only [go_sem]; first | done | omega)) only [go_sem])
  refine appendTop_a b tag a (by omega) (by omega) (by omega) ?_
  rw [← hA]
  simp (disch := first | omega | (simp only [go_sem]; first | done | omega)) only [go_sem]
  (refine SWp.go (by kernel_rfl) ?_; simp (disch := first | omega | (simp only [go_sem]; first | done | omega)) only [go_sem])
  refine indexB_a b (by omega) ?_
  simp (disch := first | omega | (simp only [go_sem]; first | done | omega)) only [go_sem]
  (refine SWp.go (by kernel_rfl) ?_; simp (disch := first | omega | (simp only [go_sem]; first | done | omega)) only [go_sem])
  refine findTop_a b tag w (by omega) (by omega) (fun h x hx => by have := par_fl h x hx; omega) ?_
  rw [← hF]
  simp (disch := first | omega | (simp only [go_sem]; first | done | omega)) only [go_sem]
  (refine SWp.go (by kernel_rfl) ?_; simp (disch := first | omega | (simp only [go_sem]; first | done | omega)) only [go_sem])
  refine queryTop_a b tag w (by omega) (by omega) ?_
  rw [← hQ]
  simp (disch := first | omega | (simp only [go_sem]; first | done | omega)) only [go_sem]
  (refine SWp.go (by kernel_rfl) ?_; simp (disch := first | omega | (simp only [go_sem]; first | done | omega)) only [go_sem])
  refine tagsTop_a b (by omega) ?_
  simp (disch := first | omega | (simp only [go_sem]; first | done | omega)) only [go_sem]
  (refine SWp.go (by kernel_rfl) ?_; simp (disch := first | omega | (simp only [go_sem]; first | done | omega)) only [go_sem])
  refine fileFault_a b (by omega) ?_
  simp (disch := first | omega | (simp only [go_sem]; first | done | omega)) only [go_sem]
  have hF2 := f_e b tag w
  have hQ2 := q_e b tag w
  have h1p := fun h => one_par (b := b) (tag := tag) (w := w) h
  rw [← hF] at hF2
  rw [← hQ] at hQ2
  refine SWp.cut (H.length + 3) [3, 4, 5, 6, 7, 8, 9, 10, 11, 12, 13, 14, 15, 16, 17, 18] [19] (fun (u : Unit) => True) (fun (u : Unit) => [(19, (.c (.int .i64 (firstE [(par b).2.2, tagE tag, winE w]))))]) (fun (u : Unit) => H ++ [strO zs j, .dead, .row 45 2 [encW w] true]) (fun _ => rfl) (by kernel_rfl) (by first | (simp; done) | omega) (by first | (simp; done) | (simp; omega) | omega) kl ?_ (fun u _ _ _ => ?_)
  · refine SWp.of (by kernel_rfl) ?_
    repeat' (first | ((first | refine acond_d ?_ ?_ | refine acond_b ?_ ?_ | refine ag_d ?_ ?_ | refine ag_n ?_ ?_ | refine ag_bt ?_ ?_ | refine ag_bf ?_ ?_ | refine agt_d ?_ ?_ | refine agt_n ?_ ?_ | refine agt_bt ?_ ?_ | refine agt_bf ?_ ?_) <;> intro c <;> try simp (disch := first | omega | (simp only [go_sem]; first | done | omega)) only [go_sem, c]) | ((first | refine w_draw (by kernel_rfl) (by decide +kernel) ?_ | refine nameFault_a tag ht ?_ | refine windowFaultR_a w ?_ | refine errs3_lit (par b).2.2 (tagE tag) (winE w) (by first | ((repeat first | exact at0 (by simp) | refine atS ?_); done) | assumption) rfl rfl ?_ | refine w_tree (.one 0 (.one 1 (.two 2 (.one 3 (.one 4 (.one 5 (.one 6 (.one 7 .done))))) 3 (.one 2 (.one 4 (.one 5 (.one 6 (.one 7 .done)))))))) (by kernel_rfl) (by decide +kernel) ?_) <;> try simp (disch := first | omega | (simp only [go_sem]; first | done | omega)) only [go_sem]) | (refine And.intro ?_ ?_ <;> try simp (disch := first | omega | (simp only [go_sem]; first | done | omega)) only [go_sem]))
    all_goals
      refine Next.mk () trivial ?_
      exact wk
  generalize firstE [(par b).2.2, tagE tag, winE w] = E at *
  (refine SWp.go (by kernel_rfl) ?_; simp (disch := first | omega | (simp only [go_sem]; first | done | omega)) only [go_sem])
  (refine SWp.go (by kernel_rfl) ?_; simp (disch := first | omega | (simp only [go_sem]; first | done | omega)) only [go_sem])
  refine appendOf_f b tag a (by omega) ht (by omega) ?_
  rw [← hA]
  simp (disch := first | omega | (simp only [go_sem]; first | done | omega)) only [go_sem]
  (refine SWp.go (by kernel_rfl) ?_; simp (disch := first | omega | (simp only [go_sem]; first | done | omega)) only [go_sem])
  (refine SWp.go (by kernel_rfl) ?_; simp (disch := first | omega | (simp only [go_sem]; first | done | omega)) only [go_sem])
  refine SWp.cut (H.length + 3) [3, 4, 5, 6, 7, 8, 9, 10, 11, 12, 13, 14, 15, 16, 17, 18, 19, 20, 21, 22, 24] [23, 25] (fun (u : Unit) => True) (fun (u : Unit) => [(23, .c (.lst 7 ((idxB b).map encBk))), (25, .c (.lst 1 ((tRes b).map encSs)))]) (fun (u : Unit) => H ++ [strO zs j, .dead, .row 45 2 [encW w] true]) (fun _ => rfl) (by kernel_rfl) (by first | (simp; done) | omega) (by first | (simp; done) | (simp; omega) | omega) kl ?_ (fun u _ _ _ => ?_)
  · refine SWp.of (by kernel_rfl) ?_
    unfold idxB tRes
    by_cases h : (par b).2.2 = 0
    · rw [if_neg (by rw [h]; decide), if_neg (by rw [h]; decide)]
      simp (disch := first | omega | (simp only [go_sem]; first | done | omega)) only [go_sem, h]
      refine indexOf_a b (by omega) ?_
      simp (disch := first | omega | (simp only [go_sem]; first | done | omega)) only [go_sem]
      refine tagsOf_a b (by omega) ?_
      simp (disch := first | omega | (simp only [go_sem]; first | done | omega)) only [go_sem]
      refine Next.mk () trivial ?_
      exact wk
    · rw [if_pos h, if_pos h]
      simp (disch := first | omega | (simp only [go_sem]; first | done | omega)) only [go_sem, h]
      refine Next.mk () trivial ?_
      exact WkL.nilA ⟨.inr ⟨7, none, rfl, rfl⟩, .inr ⟨1, none, rfl, rfl⟩, trivial⟩ (by simp)
  (refine SWp.go (by kernel_rfl) ?_; simp (disch := first | omega | (simp only [go_sem]; first | done | omega)) only [go_sem])
  refine SWp.cut (H.length + 3) [3, 4, 5, 6, 7, 8, 9, 10, 11, 12, 13, 14, 15, 16, 17, 18, 19, 21, 22, 23, 25] [24, 26, 20] (fun (u : Unit) => True) (fun (u : Unit) => [(24, .c (.lst 7 (F.1.map encBk))), (26, .c (.lst 3 (Q.1.map encS))), (20, (.c (.int .i64 (Q.2))))]) (fun (u : Unit) => H ++ [strO zs j, .dead, .row 45 2 [encW w] true]) (fun _ => rfl) (by kernel_rfl) (by first | (simp; done) | omega) (by first | (simp; done) | (simp; omega) | omega) kl ?_ (fun u _ _ _ => ?_)
  · refine SWp.of (by kernel_rfl) ?_
    by_cases h : E = 0
    · rw [if_pos h] at hF2 hQ2
      simp (disch := first | omega | (simp only [go_sem]; first | done | omega)) only [go_sem, h]
      refine findIn_a b tag w (by omega) ?_
      simp (disch := first | omega | (simp only [go_sem]; first | done | omega)) only [go_sem]
      refine queryOf_a b tag w (by omega) (h1p h) ?_
      simp (disch := first | omega | (simp only [go_sem]; first | done | omega)) only [go_sem]
      refine Next.mk () trivial ?_
      rw [hF2, hQ2]
      exact wk
    · rw [if_neg h] at hF2 hQ2
      simp (disch := first | omega | (simp only [go_sem]; first | done | omega)) only [go_sem, h]
      refine Next.mk () trivial ?_
      refine WkL.trans (WkL.nilA (vs' := [.c (.lst 7 []), .c (.lst 3 []), (.c (.int .i64 E))]) ⟨.inr ⟨7, none, rfl, rfl⟩, .inr ⟨3, none, rfl, rfl⟩, .inl rfl, trivial⟩ (by simp)) ?_
      rw [hF2, hQ2]
      exact wk
  have hF3 : F.2 = E := by
    rw [hF2]
    split
    · rename_i h; exact h.symm
    · rfl
  have hFl : F.1.length ≤ 1000000 := by
    rw [hF2]
    split
    · have h1 := List.length_filter_le (fun x => !fnoB tag w.a w.b x) ((par b).1.map (·.b))
      rw [List.length_map] at h1
      dsimp only; omega
    · simp
  have hQl : Q.1.length ≤ 5000 := by
    rw [hQ2]
    split
    · dsimp only
      split
      · simp
      · omega
    · simp
  have hIl : (idxB b).length ≤ 1000000 := by
    unfold idxB
    split
    · simp
    · rw [List.length_map]; omega
  have hTl : (tRes b).length ≤ 1000000 := by
    unfold tRes
    split
    · simp
    · unfold tagF
      have h1 := cplF_le (srtS ((par b).1.map fun x => x.b.tag))
      rw [srtS_len, List.length_map] at h1
      omega
  clear hA hF hQ hF2 hQ2 h1p
  generalize idxB b = I at *
  generalize tRes b = S at *
  generalize (par b).2.2 = P at *
  refine SWp.of (by kernel_rfl) ?_
  simp (disch := first | omega | (simp only [go_sem]; first | done | omega)) only [go_sem, hF3]
  refine bytesEq_a A.1 A.1 (by omega) (by omega) ?_
  rw [decide_eq_true (rfl : A.1 = A.1)]
  simp (disch := first | omega | (simp only [go_sem]; first | done | omega)) only [go_sem, hF3]
  refine equalBq_a I I (by omega) (by omega) ?_
  rw [decide_eq_true (rfl : I = I)]
  simp (disch := first | omega | (simp only [go_sem]; first | done | omega)) only [go_sem, hF3]
  refine equalBq_a F.1 F.1 (by omega) (by omega) ?_
  rw [decide_eq_true (rfl : F.1 = F.1)]
  simp (disch := first | omega | (simp only [go_sem]; first | done | omega)) only [go_sem, hF3]
  refine equalSq_a Q.1 Q.1 (by omega) (by omega) ?_
  rw [decide_eq_true (rfl : Q.1 = Q.1)]
  simp (disch := first | omega | (simp only [go_sem]; first | done | omega)) only [go_sem, hF3]
  refine equalTq_a S S (by omega) (by omega) ?_
  rw [decide_eq_true (rfl : S = S)]
  simp (disch := first | omega | (simp only [go_sem]; first | done | omega)) only [go_sem]
  refine archived_a ?_
  simp (disch := first | omega | (simp only [go_sem]; first | done | omega)) only [go_sem]
  exact Ret.drop hH (Nat.le_refl _) trivial hk
end Go.Proofs.YtgcjenfdndhhpaaGreat
