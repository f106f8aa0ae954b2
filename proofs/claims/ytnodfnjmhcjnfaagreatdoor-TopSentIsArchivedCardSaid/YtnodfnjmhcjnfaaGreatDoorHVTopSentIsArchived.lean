/- TopSentIsArchived: what the law's function answers for all numbers it is given. No condition. -/
import Derived.Test.YtnodfnjmhcjnfaaGreatDoorHVSentM
import Derived.Test.YtnodfnjmhcjnfaaGreatDoorHVStoA
import Derived.Test.YtnodfnjmhcjnfaaGreatDoorHVClkB
import Derived.Test.YtnodfnjmhcjnfaaGreatDoorHVCpkM
import Derived.Test.YtnodfnjmhcjnfaaGreatDoorHVBlkC
import Derived.Test.YtnodfnjmhcjnfaaGreatDoorHVBlkA
namespace Go.Proofs.YtnodfnjmhcjnfaaGreatDoor
open Go Go.RowKit
set_option maxRecDepth 100000
set_option linter.all false
set_option maxHeartbeats 2000000
variable {H : Hp} {K : AV → Hp → Prop}
theorem equalT_a (l m : List Smp) (hl : l.length ≤ 1099511627776) (hm : m.length ≤ 1099511627776) (hk : K (.c (.bool (decide (l = m)))) H) : ACalls Tryz.prog 18 [.c (.lst 3 (l.map encS)), .c (.lst 3 (m.map encS))] H K := by
  by_cases hlen : l.length = m.length
  · refine acalls Tryz.func18 rfl (by kernel_rfl) (by simp (disch := first | omega | (simp only [go_sem]; first | done | omega)) only [go_sem]) (fun hH => ?_)
    simp (disch := first | omega | (simp only [go_sem]; first | done | omega)) only [go_sem]
    refine AWp.loop (H.length) [0, 1, 12] [13] (fun (k : Nat) => k ≤ l.length ∧ ∀ (j : Nat) (x y : Smp), j < k → l[j]? = some x → m[j]? = some y → x = y) (fun (k : Nat) => [(13, (.c (.int .i64 k)))]) (fun (k : Nat) => H) (fun (k : Nat) => l.length - k) (by kernel_rfl) (fun _ => rfl) (by kernel_rfl) (by first | (simp; done) | omega) (by first | (simp; done) | (simp; omega) | omega) kl ?_ (fun k hk1 _ _ => ?_)
    · exact Next.mk 0 (by simp) wk
    obtain ⟨hk1, hk2⟩ := hk1
    by_cases hlt : k < l.length
    · simp (disch := first | omega | (simp only [go_sem]; first | done | omega)) only [go_sem]
      refine w_draw (by kernel_rfl) (by decide +kernel) ?_
      simp (disch := first | omega | (simp only [go_sem]; first | done | omega)) only [go_sem]
      refine acond_b (fun c => ?_) (fun c => ?_)
      · simp (disch := first | omega | (simp only [go_sem]; first | done | omega)) only [go_sem]
        exact Next.mk (k + 1) ⟨⟨by omega, fun j x y hj hx hy => by
          rcases Nat.lt_or_ge j k with h | h
          · exact hk2 j x y h hx hy
          · obtain rfl : j = k := by omega
            rw [List.getElem?_eq_getElem hlt] at hx
            rw [List.getElem?_eq_getElem (by omega)] at hy
            injection hx with hx; injection hy with hy; rw [← hx, ← hy]; revert c; generalize l[j] = u; generalize m[j] = v; first | (simp; done) | (cases u; cases v; simp)⟩, by omega⟩ wk
      · simp (disch := first | omega | (simp only [go_sem]; first | done | omega)) only [go_sem]
        have : l ≠ m := by rintro rfl; simp at c
        (first | refine Ret.sameE (Nat.le_refl _) (by assumption) ?_ | refine Ret.dropE (by assumption) (Nat.le_refl _) (by assumption) (by simp [AV.ok, AV.ok1, AC.ok]) ?_) <;> simp [this]
    · simp (disch := first | omega | (simp only [go_sem]; first | done | omega)) only [go_sem]
      have : l = m := by
        apply List.ext_getElem hlen
        intro j h1 h2
        exact hk2 j _ _ (by omega) (List.getElem?_eq_getElem h1) (List.getElem?_eq_getElem h2)
      (first | refine Ret.sameE (Nat.le_refl _) (by assumption) ?_ | refine Ret.dropE (by assumption) (Nat.le_refl _) (by assumption) (by simp [AV.ok, AV.ok1, AC.ok]) ?_) <;> simp [this]
  · have : l ≠ m := by rintro rfl; exact hlen rfl
    refine acalls Tryz.func18 rfl (by kernel_rfl) (by simp (disch := first | omega | (simp only [go_sem]; first | done | omega)) only [go_sem]) (fun hH => ?_)
    simp (disch := first | omega | (simp only [go_sem]; first | done | omega)) only [go_sem]
    (first | refine Ret.sameE (Nat.le_refl _) (by assumption) ?_ | refine Ret.dropE (by assumption) (Nat.le_refl _) (by assumption) (by simp [AV.ok, AV.ok1, AC.ok]) ?_) <;> simp [this]
theorem topSentIsArchived_a (zs : List Int) (hz : zs.length ≤ 9223372036854775807) (hk : K (.c (.bool true)) H) : ACalls Tryz.prog 7 [.c (.lst 1 (zs.map encI))] H K := by
  have st : ∀ (k : Int) (L : Hp), 0 ≤ k → k ≤ 1000000000 → Str (H ++ strO zs k :: L) H.length zs k := fun k L h1 h2 => ⟨hz, h1, by omega, by simp⟩
  refine acalls Tryz.func7 rfl (by kernel_rfl) (by simp (disch := first | omega | (simp only [go_sem]; first | done | omega)) only [go_sem]) (fun hH => ?_)
  simp (disch := first | omega | (simp only [go_sem]; first | done | omega)) only [go_sem]
  refine rightSamplesF_a H.length zs 0 8 (st _ _ (by omega) (by omega)) (by omega) (by omega) (by omega) (fun a j1 g1 g2 g3 => ?_)
  obtain ⟨hser, hal, _⟩ := g3
  have hal : a.length ≤ 8 := by omega
  have hsm := ((serP_iff a).1 hser).2.1
  have hP : ∀ k, ∀ o ∈ [strO zs k], o.okN (H.length + [strO zs k].length) := by
    intro k o ho
    simp only [List.mem_singleton] at ho
    subst ho
    exact okN_pure (by simp [pureL, AC.pure]) (by simp) _
  simp (disch := first | omega | (simp only [go_sem]; first | done | omega)) only [go_sem]
  refine AWp.loop (H.length + 1) [3, 4, 25, 26] [27, 5] (fun (q : Nat × List Stp × Int) => q.1 ≤ a.length ∧ SentI (a.take q.1) q.2.1 ∧ (0 ≤ q.2.2 ∧ q.2.2 ≤ j1 + 10 * q.1)) (fun (q : Nat × List Stp × Int) => [(27, (.c (.int .i64 (q.1)))), (5, .c (grV (H.length + 1) q.2.1))]) (fun (q : Nat × List Stp × Int) => H ++ [strO zs q.2.2, grO 88 7 (q.2.1.map encStp)]) (fun (q : Nat × List Stp × Int) => a.length - q.1) (by kernel_rfl) (fun _ => rfl) (by kernel_rfl) (by first | (simp; done) | omega) (by first | (simp; done) | (simp; omega) | omega) kl ?_ (fun q hq _ _ => ?_)
  · refine Next.mk (0, [], j1) ⟨Nat.zero_le _, SentI.nil, by dsimp only; omega, by dsimp only; omega⟩ ?_
    simp (disch := first | omega | (simp only [go_sem]; first | done | omega)) only [go_sem]
    exact WkL.padP [_] (by simp)
  obtain ⟨k, l, j⟩ := q
  obtain ⟨q1, q2, q3, q4⟩ := hq
  dsimp only at q1 q2 q3 q4 ⊢
  have hPj := hP (j + 1)
  have hPj2 := hP (j + 2)
  have hPj3 := hP (j + 3)
  have hll : l.length ≤ 24 := by
    have := q2.len
    rw [List.length_take] at this
    omega
  by_cases hlt : k < a.length
  · obtain ⟨x, hx⟩ : ∃ x, x = a[k] := ⟨_, rfl⟩
    have hxs : smpErr x = 0 := hsm x (hx ▸ List.getElem_mem hlt)
    have htk : a.take (k + 1) = a.take k ++ [x] := by rw [List.take_succ_eq_append_getElem hlt, ← hx]
    have hnx := fun (c : Option Int) (hc : ∀ n, c = some n → 1 ≤ n ∧ n ≤ 3) (r : Bool) => q2.next (by rw [List.length_take]; omega) hxs hc r
    rw [← htk] at hnx
    clear q2
    simp (disch := first | omega | (simp only [go_sem]; first | done | omega)) only [go_sem, hlt, ← hx]
    obtain ⟨l1, hl1⟩ : ∃ l1, l1 = l ++ [(⟨1, 0, 0, ⟨#[116, 97]⟩, x⟩ : Stp)] := ⟨_, rfl⟩
    have h1 : l1.length ≤ 25 := by rw [hl1, List.length_append]; simp; omega
    (refine app_gr (enc := encStp) (e := 88) (sz := 7) (bs := 64) (z := [.int .i64 0, .int .i64 0, .int .i64 0, .str ⟨#[]⟩, .int .i64 0, .int .i64 0, .int .i64 0]) (l) (⟨1, 0, 0, ⟨#[116, 97]⟩, x⟩) (by kernel_rfl) (by kernel_rfl) (by kernel_rfl) (by kernel_rfl) (by first | ((repeat first | exact at0 (by simp) | refine atS ?_); done) | assumption) (by first | (simp (disch := first | omega | (simp only [go_sem]; first | done | omega)) only [go_sem]; done) | (simp (disch := first | omega | (simp only [go_sem]; first | done | omega)) only [go_sem]; rfl) | (simp (disch := first | omega | (simp only [go_sem]; first | done | omega)) only [go_sem]; simp [go_sem]; done) | (simp (disch := first | omega | (simp only [go_sem]; first | done | omega)) only [go_sem]; simp [*]; done)) rfl (by decide) (by omega) (by omega) (by rfl) ?_)
    rw [← hl1]
    simp (disch := first | omega | (simp only [go_sem]; first | done | omega)) only [go_sem]
    refine flip_a H.length zs j 3 (st _ _ (by omega) (by omega)) (by omega) (by omega) (fun b1 => ?_)
    simp (disch := first | omega | (simp only [go_sem]; first | done | omega)) only [go_sem]
    refine acond_b (fun c1 => ?_) (fun c1 => ?_)
    · simp (disch := first | omega | (simp only [go_sem]; first | done | omega)) only [go_sem]
      refine range_a H.length zs (j + 1) 1 3 (st _ _ (by omega) (by omega)) (by omega) (by omega) (by omega) (fun n n0 n1 => ?_)
      simp (disch := first | omega | (simp only [go_sem]; first | done | omega)) only [go_sem]
      obtain ⟨l2, hl2⟩ : ∃ l2, l2 = l1 ++ [(⟨2, n, 0, ⟨#[]⟩, ⟨0, 0, 0⟩⟩ : Stp)] := ⟨_, rfl⟩
      have h2 : l2.length ≤ 26 := by rw [hl2, List.length_append]; simp; omega
      (refine app_gr (enc := encStp) (e := 88) (sz := 7) (bs := 64) (z := [.int .i64 0, .int .i64 0, .int .i64 0, .str ⟨#[]⟩, .int .i64 0, .int .i64 0, .int .i64 0]) (l1) (⟨2, n, 0, ⟨#[]⟩, ⟨0, 0, 0⟩⟩) (by kernel_rfl) (by kernel_rfl) (by kernel_rfl) (by kernel_rfl) (by first | ((repeat first | exact at0 (by simp) | refine atS ?_); done) | assumption) (by first | (simp (disch := first | omega | (simp only [go_sem]; first | done | omega)) only [go_sem]; done) | (simp (disch := first | omega | (simp only [go_sem]; first | done | omega)) only [go_sem]; rfl) | (simp (disch := first | omega | (simp only [go_sem]; first | done | omega)) only [go_sem]; simp [go_sem]; done) | (simp (disch := first | omega | (simp only [go_sem]; first | done | omega)) only [go_sem]; simp [*]; done)) rfl (by decide) (by omega) (by omega) (by rfl) ?_)
      rw [← hl2]
      simp (disch := first | omega | (simp only [go_sem]; first | done | omega)) only [go_sem]
      refine flip_a H.length zs (j + 1 + 1) 4 (st _ _ (by omega) (by omega)) (by omega) (by omega) (fun b2 => ?_)
      simp (disch := first | omega | (simp only [go_sem]; first | done | omega)) only [go_sem]
      refine acond_b (fun c2 => ?_) (fun c2 => ?_)
      · simp (disch := first | omega | (simp only [go_sem]; first | done | omega)) only [go_sem]
        obtain ⟨l3, hl3⟩ : ∃ l3, l3 = l2 ++ [(⟨4, 0, 0, ⟨#[]⟩, ⟨0, 0, 0⟩⟩ : Stp)] := ⟨_, rfl⟩
        (refine app_gr (enc := encStp) (e := 88) (sz := 7) (bs := 64) (z := [.int .i64 0, .int .i64 0, .int .i64 0, .str ⟨#[]⟩, .int .i64 0, .int .i64 0, .int .i64 0]) (l2) (⟨4, 0, 0, ⟨#[]⟩, ⟨0, 0, 0⟩⟩) (by kernel_rfl) (by kernel_rfl) (by kernel_rfl) (by kernel_rfl) (by first | ((repeat first | exact at0 (by simp) | refine atS ?_); done) | assumption) (by first | (simp (disch := first | omega | (simp only [go_sem]; first | done | omega)) only [go_sem]; done) | (simp (disch := first | omega | (simp only [go_sem]; first | done | omega)) only [go_sem]; rfl) | (simp (disch := first | omega | (simp only [go_sem]; first | done | omega)) only [go_sem]; simp [go_sem]; done) | (simp (disch := first | omega | (simp only [go_sem]; first | done | omega)) only [go_sem]; simp [*]; done)) rfl (by decide) (by omega) (by omega) (by rfl) ?_)
        rw [← hl3]
        simp (disch := first | omega | (simp only [go_sem]; first | done | omega)) only [go_sem]
        have he : l3 = l ++ moreS x (some n) true := by rw [hl3, hl2, hl1]; simp [moreS, sendO, sPut, sSend, sReset, tgS, noS]
        refine Next.mk (k + 1, l3, j + 1 + 1 + 1) ⟨⟨by dsimp only; omega, by dsimp only; rw [he]; exact hnx _ (by intro m hm; injection hm with hm; omega) true, by dsimp only; omega, by dsimp only; omega⟩, by dsimp only; omega⟩ ?_
        ((try simp (disch := first | omega | (simp only [go_sem]; first | done | omega)) only [go_sem]); (first | refine WkL.pickAt [_] [0] ?_ ?_ ?_ rfl ?_ ?_ ?_ ?_ | refine WkL.pickAt [_] [1] ?_ ?_ ?_ rfl ?_ ?_ ?_ ?_ | refine WkL.pickAt [_] [2] ?_ ?_ ?_ rfl ?_ ?_ ?_ ?_ | refine WkL.pickAt [_] [3] ?_ ?_ ?_ rfl ?_ ?_ ?_ ?_ | refine WkL.pickAt [_] [4] ?_ ?_ ?_ rfl ?_ ?_ ?_ ?_ | refine WkL.pickAt [_] [5] ?_ ?_ ?_ rfl ?_ ?_ ?_ ?_ | refine WkL.pickAt [_] [6] ?_ ?_ ?_ rfl ?_ ?_ ?_ ?_ | refine WkL.pickAt [_] [7] ?_ ?_ ?_ rfl ?_ ?_ ?_ ?_ | refine WkL.pickAt [_] [8] ?_ ?_ ?_ rfl ?_ ?_ ?_ ?_ | refine WkL.pickAt [_] [9] ?_ ?_ ?_ rfl ?_ ?_ ?_ ?_ | refine WkL.pickAt [_] [10] ?_ ?_ ?_ rfl ?_ ?_ ?_ ?_ | refine WkL.pickAt [_] [11] ?_ ?_ ?_ rfl ?_ ?_ ?_ ?_ | refine WkL.pickAt [_] [12] ?_ ?_ ?_ rfl ?_ ?_ ?_ ?_ | refine WkL.pickAt [_] [13] ?_ ?_ ?_ rfl ?_ ?_ ?_ ?_ | refine WkL.pickAt [_] [14] ?_ ?_ ?_ rfl ?_ ?_ ?_ ?_ | refine WkL.pickAt [_] [15] ?_ ?_ ?_ rfl ?_ ?_ ?_ ?_ | refine WkL.pickAt [_] [16] ?_ ?_ ?_ rfl ?_ ?_ ?_ ?_ | refine WkL.pickAt [_] [17] ?_ ?_ ?_ rfl ?_ ?_ ?_ ?_) <;> first | assumption | exact HOk.str (by assumption) | (simp; done) | (simp; omega) | (simp [pureO_gr, AObj.pureO, pureL, go_sem, AC.pure]; done) | (simp only [List.all_cons, List.all_nil, Bool.and_true]; exact pureO_gr (pureL_map _ (fun x => by simp [go_sem, AC.pure]))) | ((try simp only [List.map_cons, List.map_nil, av_ren_gr]); simp [AV.ren, AV.ren1, AC.ren, renP, pickS]; first | done | omega) | (simp only [List.forall_mem_cons, List.not_mem_nil, false_implies, implies_true, and_true]; (repeat' apply And.intro) <;> first | trivial | exact grV_ok (by simp) _ | exact okN_grO (fun x => by simp [go_sem, AC.pure]) | exact okN_map (fun x => by simp [go_sem, AC.pure]) | (simp [AV.ok, AV.ok1, AC.ok]; done) | (simp [AV.ok, AV.ok1, AC.ok]; omega) | (simp [AObj.okN, AC.ok]; done)) | (simp [AObj.okN]; done))
      · have he : l2 = l ++ moreS x (some n) false := by rw [hl2, hl1]; simp [moreS, sendO, sPut, sSend, sReset, tgS, noS]
        simp (disch := first | omega | (simp only [go_sem]; first | done | omega)) only [go_sem]
        refine Next.mk (k + 1, l2, j + 1 + 1 + 1) ⟨⟨by dsimp only; omega, by dsimp only; rw [he]; exact hnx _ (by intro m hm; injection hm with hm; omega) false, by dsimp only; omega, by dsimp only; omega⟩, by dsimp only; omega⟩ ?_
        ((try simp (disch := first | omega | (simp only [go_sem]; first | done | omega)) only [go_sem]); (first | refine WkL.pickAt [_] [0] ?_ ?_ ?_ rfl ?_ ?_ ?_ ?_ | refine WkL.pickAt [_] [1] ?_ ?_ ?_ rfl ?_ ?_ ?_ ?_ | refine WkL.pickAt [_] [2] ?_ ?_ ?_ rfl ?_ ?_ ?_ ?_ | refine WkL.pickAt [_] [3] ?_ ?_ ?_ rfl ?_ ?_ ?_ ?_ | refine WkL.pickAt [_] [4] ?_ ?_ ?_ rfl ?_ ?_ ?_ ?_ | refine WkL.pickAt [_] [5] ?_ ?_ ?_ rfl ?_ ?_ ?_ ?_ | refine WkL.pickAt [_] [6] ?_ ?_ ?_ rfl ?_ ?_ ?_ ?_ | refine WkL.pickAt [_] [7] ?_ ?_ ?_ rfl ?_ ?_ ?_ ?_ | refine WkL.pickAt [_] [8] ?_ ?_ ?_ rfl ?_ ?_ ?_ ?_ | refine WkL.pickAt [_] [9] ?_ ?_ ?_ rfl ?_ ?_ ?_ ?_ | refine WkL.pickAt [_] [10] ?_ ?_ ?_ rfl ?_ ?_ ?_ ?_ | refine WkL.pickAt [_] [11] ?_ ?_ ?_ rfl ?_ ?_ ?_ ?_ | refine WkL.pickAt [_] [12] ?_ ?_ ?_ rfl ?_ ?_ ?_ ?_ | refine WkL.pickAt [_] [13] ?_ ?_ ?_ rfl ?_ ?_ ?_ ?_ | refine WkL.pickAt [_] [14] ?_ ?_ ?_ rfl ?_ ?_ ?_ ?_ | refine WkL.pickAt [_] [15] ?_ ?_ ?_ rfl ?_ ?_ ?_ ?_ | refine WkL.pickAt [_] [16] ?_ ?_ ?_ rfl ?_ ?_ ?_ ?_ | refine WkL.pickAt [_] [17] ?_ ?_ ?_ rfl ?_ ?_ ?_ ?_) <;> first | assumption | exact HOk.str (by assumption) | (simp; done) | (simp; omega) | (simp [pureO_gr, AObj.pureO, pureL, go_sem, AC.pure]; done) | (simp only [List.all_cons, List.all_nil, Bool.and_true]; exact pureO_gr (pureL_map _ (fun x => by simp [go_sem, AC.pure]))) | ((try simp only [List.map_cons, List.map_nil, av_ren_gr]); simp [AV.ren, AV.ren1, AC.ren, renP, pickS]; first | done | omega) | (simp only [List.forall_mem_cons, List.not_mem_nil, false_implies, implies_true, and_true]; (repeat' apply And.intro) <;> first | trivial | exact grV_ok (by simp) _ | exact okN_grO (fun x => by simp [go_sem, AC.pure]) | exact okN_map (fun x => by simp [go_sem, AC.pure]) | (simp [AV.ok, AV.ok1, AC.ok]; done) | (simp [AV.ok, AV.ok1, AC.ok]; omega) | (simp [AObj.okN, AC.ok]; done)) | (simp [AObj.okN]; done))
    · simp (disch := first | omega | (simp only [go_sem]; first | done | omega)) only [go_sem]
      refine flip_a H.length zs (j + 1) 4 (st _ _ (by omega) (by omega)) (by omega) (by omega) (fun b2 => ?_)
      simp (disch := first | omega | (simp only [go_sem]; first | done | omega)) only [go_sem]
      refine acond_b (fun c2 => ?_) (fun c2 => ?_)
      · simp (disch := first | omega | (simp only [go_sem]; first | done | omega)) only [go_sem]
        obtain ⟨l3, hl3⟩ : ∃ l3, l3 = l1 ++ [(⟨4, 0, 0, ⟨#[]⟩, ⟨0, 0, 0⟩⟩ : Stp)] := ⟨_, rfl⟩
        (refine app_gr (enc := encStp) (e := 88) (sz := 7) (bs := 64) (z := [.int .i64 0, .int .i64 0, .int .i64 0, .str ⟨#[]⟩, .int .i64 0, .int .i64 0, .int .i64 0]) (l1) (⟨4, 0, 0, ⟨#[]⟩, ⟨0, 0, 0⟩⟩) (by kernel_rfl) (by kernel_rfl) (by kernel_rfl) (by kernel_rfl) (by first | ((repeat first | exact at0 (by simp) | refine atS ?_); done) | assumption) (by first | (simp (disch := first | omega | (simp only [go_sem]; first | done | omega)) only [go_sem]; done) | (simp (disch := first | omega | (simp only [go_sem]; first | done | omega)) only [go_sem]; rfl) | (simp (disch := first | omega | (simp only [go_sem]; first | done | omega)) only [go_sem]; simp [go_sem]; done) | (simp (disch := first | omega | (simp only [go_sem]; first | done | omega)) only [go_sem]; simp [*]; done)) rfl (by decide) (by omega) (by omega) (by rfl) ?_)
        rw [← hl3]
        simp (disch := first | omega | (simp only [go_sem]; first | done | omega)) only [go_sem]
        have he : l3 = l ++ moreS x none true := by rw [hl3, hl1]; simp [moreS, sendO, sPut, sSend, sReset, tgS, noS]
        refine Next.mk (k + 1, l3, j + 1 + 1) ⟨⟨by dsimp only; omega, by dsimp only; rw [he]; exact hnx _ (by intro m hm; cases hm) true, by dsimp only; omega, by dsimp only; omega⟩, by dsimp only; omega⟩ ?_
        ((try simp (disch := first | omega | (simp only [go_sem]; first | done | omega)) only [go_sem]); (first | refine WkL.pickAt [_] [0] ?_ ?_ ?_ rfl ?_ ?_ ?_ ?_ | refine WkL.pickAt [_] [1] ?_ ?_ ?_ rfl ?_ ?_ ?_ ?_ | refine WkL.pickAt [_] [2] ?_ ?_ ?_ rfl ?_ ?_ ?_ ?_ | refine WkL.pickAt [_] [3] ?_ ?_ ?_ rfl ?_ ?_ ?_ ?_ | refine WkL.pickAt [_] [4] ?_ ?_ ?_ rfl ?_ ?_ ?_ ?_ | refine WkL.pickAt [_] [5] ?_ ?_ ?_ rfl ?_ ?_ ?_ ?_ | refine WkL.pickAt [_] [6] ?_ ?_ ?_ rfl ?_ ?_ ?_ ?_ | refine WkL.pickAt [_] [7] ?_ ?_ ?_ rfl ?_ ?_ ?_ ?_ | refine WkL.pickAt [_] [8] ?_ ?_ ?_ rfl ?_ ?_ ?_ ?_ | refine WkL.pickAt [_] [9] ?_ ?_ ?_ rfl ?_ ?_ ?_ ?_ | refine WkL.pickAt [_] [10] ?_ ?_ ?_ rfl ?_ ?_ ?_ ?_ | refine WkL.pickAt [_] [11] ?_ ?_ ?_ rfl ?_ ?_ ?_ ?_ | refine WkL.pickAt [_] [12] ?_ ?_ ?_ rfl ?_ ?_ ?_ ?_ | refine WkL.pickAt [_] [13] ?_ ?_ ?_ rfl ?_ ?_ ?_ ?_ | refine WkL.pickAt [_] [14] ?_ ?_ ?_ rfl ?_ ?_ ?_ ?_ | refine WkL.pickAt [_] [15] ?_ ?_ ?_ rfl ?_ ?_ ?_ ?_ | refine WkL.pickAt [_] [16] ?_ ?_ ?_ rfl ?_ ?_ ?_ ?_ | refine WkL.pickAt [_] [17] ?_ ?_ ?_ rfl ?_ ?_ ?_ ?_) <;> first | assumption | exact HOk.str (by assumption) | (simp; done) | (simp; omega) | (simp [pureO_gr, AObj.pureO, pureL, go_sem, AC.pure]; done) | (simp only [List.all_cons, List.all_nil, Bool.and_true]; exact pureO_gr (pureL_map _ (fun x => by simp [go_sem, AC.pure]))) | ((try simp only [List.map_cons, List.map_nil, av_ren_gr]); simp [AV.ren, AV.ren1, AC.ren, renP, pickS]; first | done | omega) | (simp only [List.forall_mem_cons, List.not_mem_nil, false_implies, implies_true, and_true]; (repeat' apply And.intro) <;> first | trivial | exact grV_ok (by simp) _ | exact okN_grO (fun x => by simp [go_sem, AC.pure]) | exact okN_map (fun x => by simp [go_sem, AC.pure]) | (simp [AV.ok, AV.ok1, AC.ok]; done) | (simp [AV.ok, AV.ok1, AC.ok]; omega) | (simp [AObj.okN, AC.ok]; done)) | (simp [AObj.okN]; done))
      · have he : l1 = l ++ moreS x none false := by rw [hl1]; simp [moreS, sendO, sPut, sSend, sReset, tgS, noS]
        simp (disch := first | omega | (simp only [go_sem]; first | done | omega)) only [go_sem]
        refine Next.mk (k + 1, l1, j + 1 + 1) ⟨⟨by dsimp only; omega, by dsimp only; rw [he]; exact hnx _ (by intro m hm; cases hm) false, by dsimp only; omega, by dsimp only; omega⟩, by dsimp only; omega⟩ ?_
        ((try simp (disch := first | omega | (simp only [go_sem]; first | done | omega)) only [go_sem]); (first | refine WkL.pickAt [_] [0] ?_ ?_ ?_ rfl ?_ ?_ ?_ ?_ | refine WkL.pickAt [_] [1] ?_ ?_ ?_ rfl ?_ ?_ ?_ ?_ | refine WkL.pickAt [_] [2] ?_ ?_ ?_ rfl ?_ ?_ ?_ ?_ | refine WkL.pickAt [_] [3] ?_ ?_ ?_ rfl ?_ ?_ ?_ ?_ | refine WkL.pickAt [_] [4] ?_ ?_ ?_ rfl ?_ ?_ ?_ ?_ | refine WkL.pickAt [_] [5] ?_ ?_ ?_ rfl ?_ ?_ ?_ ?_ | refine WkL.pickAt [_] [6] ?_ ?_ ?_ rfl ?_ ?_ ?_ ?_ | refine WkL.pickAt [_] [7] ?_ ?_ ?_ rfl ?_ ?_ ?_ ?_ | refine WkL.pickAt [_] [8] ?_ ?_ ?_ rfl ?_ ?_ ?_ ?_ | refine WkL.pickAt [_] [9] ?_ ?_ ?_ rfl ?_ ?_ ?_ ?_ | refine WkL.pickAt [_] [10] ?_ ?_ ?_ rfl ?_ ?_ ?_ ?_ | refine WkL.pickAt [_] [11] ?_ ?_ ?_ rfl ?_ ?_ ?_ ?_ | refine WkL.pickAt [_] [12] ?_ ?_ ?_ rfl ?_ ?_ ?_ ?_ | refine WkL.pickAt [_] [13] ?_ ?_ ?_ rfl ?_ ?_ ?_ ?_ | refine WkL.pickAt [_] [14] ?_ ?_ ?_ rfl ?_ ?_ ?_ ?_ | refine WkL.pickAt [_] [15] ?_ ?_ ?_ rfl ?_ ?_ ?_ ?_ | refine WkL.pickAt [_] [16] ?_ ?_ ?_ rfl ?_ ?_ ?_ ?_ | refine WkL.pickAt [_] [17] ?_ ?_ ?_ rfl ?_ ?_ ?_ ?_) <;> first | assumption | exact HOk.str (by assumption) | (simp; done) | (simp; omega) | (simp [pureO_gr, AObj.pureO, pureL, go_sem, AC.pure]; done) | (simp only [List.all_cons, List.all_nil, Bool.and_true]; exact pureO_gr (pureL_map _ (fun x => by simp [go_sem, AC.pure]))) | ((try simp only [List.map_cons, List.map_nil, av_ren_gr]); simp [AV.ren, AV.ren1, AC.ren, renP, pickS]; first | done | omega) | (simp only [List.forall_mem_cons, List.not_mem_nil, false_implies, implies_true, and_true]; (repeat' apply And.intro) <;> first | trivial | exact grV_ok (by simp) _ | exact okN_grO (fun x => by simp [go_sem, AC.pure]) | exact okN_map (fun x => by simp [go_sem, AC.pure]) | (simp [AV.ok, AV.ok1, AC.ok]; done) | (simp [AV.ok, AV.ok1, AC.ok]; omega) | (simp [AObj.okN, AC.ok]; done)) | (simp [AObj.okN]; done))
  · have hkl : k = a.length := by omega
    subst hkl
    rw [List.take_length] at q2
    clear hPj hPj2 hPj3
    obtain ⟨w1, w2, w3, w4⟩ := sent_all q2 (by omega)
    obtain ⟨L, hL⟩ : ∃ L, L = l ++ [(⟨4, 0, 0, ⟨#[]⟩, ⟨0, 0, 0⟩⟩ : Stp), ⟨2, 2000, 0, ⟨#[]⟩, ⟨0, 0, 0⟩⟩] := ⟨_, rfl⟩
    have hL2 : L = l ++ [sReset, sSend 2000] := hL
    rw [← hL2] at w1 w2 w3 w4
    simp (disch := first | omega | (simp only [go_sem]; first | done | omega)) only [go_sem]
    refine app_grR (enc := encStp) (e := 88) (sz := 7) (bs := 64) (z := [.int .i64 0, .int .i64 0, .int .i64 0, .str ⟨#[]⟩, .int .i64 0, .int .i64 0, .int .i64 0]) l [(⟨4, 0, 0, ⟨#[]⟩, ⟨0, 0, 0⟩⟩ : Stp), ⟨2, 2000, 0, ⟨#[]⟩, ⟨0, 0, 0⟩⟩] (by kernel_rfl) (by kernel_rfl) (by kernel_rfl) (by kernel_rfl) (by first | ((repeat first | exact at0 (by simp) | refine atS ?_); done) | assumption) (by first | (simp (disch := first | omega | (simp only [go_sem]; first | done | omega)) only [go_sem]; done) | (simp (disch := first | omega | (simp only [go_sem]; first | done | omega)) only [go_sem]; rfl)) (by simp) rfl (by decide) (by simp; omega) (by simp; omega) ?_
    rw [← hL]
    have hLt : ∀ x ∈ L, x.tag.size ≤ 1099511627776 := fun x hx => by have := stpErr_tag ((stpF_all w1).2 x hx); omega
    have hbf : bfE 20 1 L = 0 := by unfold bfE; rw [if_neg (by omega), if_neg (by omega)]; exact w1
    have hLl : L.length ≤ 1099511627776 := by have := (stpF_all w1).1; omega
    generalize hout : (playF 20 1 L).out = out at *
    simp (disch := first | omega | (simp only [go_sem]; first | done | omega)) only [go_sem]
    have hLn : L ≠ [] := by rw [hL]; simp
    have hLn2 : L.map encStp ≠ [] := by simpa using hLn
    rw [grV_pos _ hLn, grO_pos _ _ hLn2]
    refine ACalls.lit (i := H.length + 3) (ty := 88) (sz := 7) (els := L.map encStp) (own := true) (by simp) (pureL_map _ (fun x => by simp [go_sem, AC.pure])) (args' := [(.c (.int .i64 20)), (.c (.int .i64 1)), .c (.lst 7 (L.map encStp))]) (by simp [AV.frz1, AC.frz, List.take_of_length_le]) ?_
    refine sent_a 20 1 L hLl hLt ?_
    rw [if_pos hbf, hbf, hout]
    have hol : out.length ≤ 32 := by omega
    clear hL hL2 hLt hbf hLl hout hLn hLn2
    simp (disch := first | omega | (simp only [go_sem]; first | done | omega)) only [go_sem]
    refine AWp.loop (H.length + 1) [4, 9, 61, 62] [63, 10] (fun (k : Nat) => k ≤ out.length) (fun (k : Nat) => [(63, (.c (.int .i64 k))), (10, .c (grV (H.length + 1) (arrsF (out.take k))))]) (fun (k : Nat) => H ++ [strO zs j, grO 97 7 ((arrsF (out.take k)).map encAr)]) (fun (k : Nat) => out.length - k) (by kernel_rfl) (fun _ => rfl) (by kernel_rfl) (by first | (simp; done) | omega) (by first | (simp; done) | (simp; omega) | omega) kl ?_ (fun k hk1 _ _ => ?_)
    · refine Next.mk 0 (Nat.zero_le _) ?_
      rw [List.take_zero, show arrsF [] = [] from rfl]
      simp (disch := first | omega | (simp only [go_sem]; first | done | omega)) only [go_sem]
      rw [show grV (H.length + 1) ([] : List Arr) = .sl none 0 from rfl, show grO 97 7 ([] : List (List AC)) = .dead from rfl]
      have e : ∀ a b c d : AObj, H ++ [a, b, c, d] = (H ++ [a] ++ [b]) ++ [c, d] := fun a b c d => by simp
      have e2 : ∀ a b : AObj, H ++ [a, b] = H ++ [a] ++ [b] := fun a b => by simp
      rw [e, e2]
      exact WkL.drop (HOk.app (HOk.app hH (hP j _ (by simp))) trivial) (by simp) (by simp [AV.ok, AV.ok1, AC.ok])
    by_cases hlt : k < out.length
    · obtain ⟨q, hq⟩ : ∃ q, q = out[k] := ⟨_, rfl⟩
      have hnx := arrsF_snoc out hlt
      rw [← hq] at hnx
      obtain ⟨A, hA⟩ : ∃ A, A = arrsF (out.take k) := ⟨_, rfl⟩
      have hAl : A.length ≤ 32 := by rw [hA, arrsF_len, List.length_take]; omega
      rw [← hA] at hnx ⊢
      simp (disch := first | omega | (simp only [go_sem]; first | done | omega)) only [go_sem, hlt, ← hq]
      (refine app_gr (enc := encAr) (e := 97) (sz := 7) (bs := 72) (z := [.str ⟨#[]⟩, .int .i64 0, .int .i64 0, .str ⟨#[]⟩, .int .i64 0, .int .i64 0, .int .i64 0]) (A) (⟨⟨#[110]⟩, 1000 + (k : Int), q⟩) (by kernel_rfl) (by kernel_rfl) (by kernel_rfl) (by kernel_rfl) (by first | ((repeat first | exact at0 (by simp) | refine atS ?_); done) | assumption) (by first | (simp (disch := first | omega | (simp only [go_sem]; first | done | omega)) only [go_sem]; done) | (simp (disch := first | omega | (simp only [go_sem]; first | done | omega)) only [go_sem]; rfl) | (simp (disch := first | omega | (simp only [go_sem]; first | done | omega)) only [go_sem]; simp [go_sem]; done) | (simp (disch := first | omega | (simp only [go_sem]; first | done | omega)) only [go_sem]; simp [*]; done)) rfl (by decide) (by omega) (by omega) (by rfl) ?_)
      simp (disch := first | omega | (simp only [go_sem]; first | done | omega)) only [go_sem]
      refine Next.mk (k + 1) ⟨by omega, by omega⟩ ?_
      rw [hnx]
      have hPj := hP j
      ((try simp (disch := first | omega | (simp only [go_sem]; first | done | omega)) only [go_sem]); (first | refine WkL.pickAt [_] [0] ?_ ?_ ?_ rfl ?_ ?_ ?_ ?_ | refine WkL.pickAt [_] [1] ?_ ?_ ?_ rfl ?_ ?_ ?_ ?_ | refine WkL.pickAt [_] [2] ?_ ?_ ?_ rfl ?_ ?_ ?_ ?_ | refine WkL.pickAt [_] [3] ?_ ?_ ?_ rfl ?_ ?_ ?_ ?_ | refine WkL.pickAt [_] [4] ?_ ?_ ?_ rfl ?_ ?_ ?_ ?_ | refine WkL.pickAt [_] [5] ?_ ?_ ?_ rfl ?_ ?_ ?_ ?_ | refine WkL.pickAt [_] [6] ?_ ?_ ?_ rfl ?_ ?_ ?_ ?_ | refine WkL.pickAt [_] [7] ?_ ?_ ?_ rfl ?_ ?_ ?_ ?_ | refine WkL.pickAt [_] [8] ?_ ?_ ?_ rfl ?_ ?_ ?_ ?_ | refine WkL.pickAt [_] [9] ?_ ?_ ?_ rfl ?_ ?_ ?_ ?_ | refine WkL.pickAt [_] [10] ?_ ?_ ?_ rfl ?_ ?_ ?_ ?_ | refine WkL.pickAt [_] [11] ?_ ?_ ?_ rfl ?_ ?_ ?_ ?_ | refine WkL.pickAt [_] [12] ?_ ?_ ?_ rfl ?_ ?_ ?_ ?_ | refine WkL.pickAt [_] [13] ?_ ?_ ?_ rfl ?_ ?_ ?_ ?_ | refine WkL.pickAt [_] [14] ?_ ?_ ?_ rfl ?_ ?_ ?_ ?_ | refine WkL.pickAt [_] [15] ?_ ?_ ?_ rfl ?_ ?_ ?_ ?_ | refine WkL.pickAt [_] [16] ?_ ?_ ?_ rfl ?_ ?_ ?_ ?_ | refine WkL.pickAt [_] [17] ?_ ?_ ?_ rfl ?_ ?_ ?_ ?_) <;> first | assumption | exact HOk.str (by assumption) | (simp; done) | (simp; omega) | (simp [pureO_gr, AObj.pureO, pureL, go_sem, AC.pure]; done) | (simp only [List.all_cons, List.all_nil, Bool.and_true]; exact pureO_gr (pureL_map _ (fun x => by simp [go_sem, AC.pure]))) | ((try simp only [List.map_cons, List.map_nil, av_ren_gr]); simp [AV.ren, AV.ren1, AC.ren, renP, pickS]; first | done | omega) | (simp only [List.forall_mem_cons, List.not_mem_nil, false_implies, implies_true, and_true]; (repeat' apply And.intro) <;> first | trivial | exact grV_ok (by simp) _ | exact okN_grO (fun x => by simp [go_sem, AC.pure]) | exact okN_map (fun x => by simp [go_sem, AC.pure]) | (simp [AV.ok, AV.ok1, AC.ok]; done) | (simp [AV.ok, AV.ok1, AC.ok]; omega) | (simp [AObj.okN, AC.ok]; done)) | (simp [AObj.okN]; done))
    · have hkl : k = out.length := by omega
      subst hkl
      rw [List.take_length]
      obtain ⟨v1, v2, v3⟩ := stT_sent hser (by omega) w2 w3 (by omega)
      obtain ⟨A, hA⟩ : ∃ A, A = arrsF out := ⟨_, rfl⟩
      have hAl : A.length ≤ 32 := by rw [hA, arrsF_len]; omega
      have hAs : ∀ x ∈ A, x.nd.size ≤ 1099511627776 ∧ x.p.tag.size ≤ 1099511627776 := by
        intro x hx
        rw [hA] at hx
        obtain ⟨e1, e2⟩ := arrsF_mem hx
        obtain ⟨i, hi, e3⟩ := pksA_mem.1 (w2 _ e2)
        rw [e1, e3]
        exact ⟨by decide, by dsimp only; decide⟩
      rw [← hA] at v1 v2 v3 ⊢
      have hst : stT A [] tgS = (a, (stR A [] tgS).2, 0) := by
        unfold stT
        rw [v3, show nkF [] = 0 from rfl, if_neg (by decide), if_pos key_tgS, v1]
      have hstl : (stR A [] tgS).2.length ≤ 32 := by
        have := stP_len A [] tgS A.length
        unfold stR
        dsimp only
        omega
      have hres := FGood.nil.res (by omega) key_tgS hser (by omega)
      have hapk := keep_same (f := []) (tag := tgS) (l := a) (by rw [hres])
      have hG := FGood.nil.app (l := a) (tag := tgS) (by omega) (by rw [hres])
      rw [hres] at hapk hG
      dsimp only at hapk hG
      have hqr : qryF (par (appB [] tgS a)).1 tgS 0 345686400000 = a := by
        unfold qryF
        rw [hapk, show (par []).1.flatMap (flatQ tgS 0 345686400000) = [] from rfl, List.nil_append]
        exact ser_idem ((serP_iff a).1 hser).2.2
      obtain ⟨b, hb⟩ : ∃ b, b = appB [] tgS a := ⟨_, rfl⟩
      rw [← hb] at hres hG hqr
      have hbl : b.length ≤ 16000 := by have := hG.2.1; omega
      have hq : qRes b tgS ⟨0, 345686400000⟩ = (a, 0) := by
        unfold qRes
        rw [show tgE b tgS = 0 by unfold tgE; rw [if_neg (by simpa using hG.1), if_pos key_tgS], show winE ⟨0, 345686400000⟩ = 0 by decide, if_neg (by decide), if_neg (by decide), hqr, if_neg (by omega)]
      clear hapk hqr hG hb w1 w2 w3
      simp (disch := first | omega | (simp only [go_sem]; first | done | omega)) only [go_sem]
      refine ACalls.litGr (by first | ((repeat first | exact at0 (by simp) | refine atS ?_); done) | assumption) (by simp) (pureL_map _ (fun x => by simp [go_sem, AC.pure])) rfl ?_
      refine ACalls.nilz [0, 2, 0] (by simp) ?_
      refine stored_b A [] tgS (by decide) hAs (by omega) (by omega) (by simp) (by simp) ?_
      rw [hst]
      generalize (stR A [] tgS).2 = lf at *
      simp (disch := first | omega | (simp only [go_sem]; first | done | omega)) only [go_sem]
      refine ACalls.nilz [1, 0, 0] (by simp) ?_
      refine appendTop_a [] tgS a (by simp) (by decide) (by omega) ?_
      rw [hres]
      simp (disch := first | omega | (simp only [go_sem]; first | done | omega)) only [go_sem]
      refine queryTop_a b tgS ⟨0, 345686400000⟩ (by omega) (by decide) ?_
      rw [hq]
      simp (disch := first | omega | (simp only [go_sem]; first | done | omega)) only [go_sem]
      refine equalT_a a a (by omega) (by omega) ?_
      rw [decide_eq_true rfl]
      simp (disch := first | omega | (simp only [go_sem]; first | done | omega)) only [go_sem]
      refine equalT_a a a (by omega) (by omega) ?_
      rw [decide_eq_true rfl]
      simp (disch := first | omega | (simp only [go_sem]; first | done | omega)) only [go_sem]
      refine facts_a ?_
      simp (disch := first | omega | (simp only [go_sem]; first | done | omega)) only [go_sem]
      exact Ret.drop hH (Nat.le_refl _) trivial hk
end Go.Proofs.YtnodfnjmhcjnfaaGreatDoor
