/- slices.Concat of bytes. Condition: not huge. -/
import Derived.Test.YtnodfnjmhcjnfaaGreatDoorHVBytes
namespace Go.Proofs.YtnodfnjmhcjnfaaGreatDoor
open Go Go.RowKit
set_option maxRecDepth 100000
set_option linter.all false
set_option maxHeartbeats 1000000
variable {H : Hp} {K : AV → Hp → Prop}
theorem growU_a (n : Nat) (h1 : n ≤ 1000000000) (hk0 : n = 0 → K (.c (.sl none 0)) H) (hk : 0 < n → K (.c (.sl (some (H.length, 0)) 0)) (H ++ [.row 5 1 (List.replicate n [.int .u8 0]) true])) : ACalls Tryz.prog 210 [.c (.sl none 0), (.c (.int .i64 n))] H K := by
  rcases Nat.eq_zero_or_pos n with rfl | h0
  · refine acalls Tryz.func210 rfl (by kernel_rfl) (by simp (disch := first | omega | (simp only [go_sem]; first | done | omega)) only [go_sem]) (fun hH => ?_)
    simp (disch := first | omega | (simp only [go_sem]; first | done | omega)) only [go_sem]
    exact Ret.same (Nat.le_refl _) (hk0 rfl)
  refine acalls Tryz.func210 rfl (by kernel_rfl) (by simp (disch := first | omega | (simp only [go_sem]; first | done | omega)) only [go_sem]) (fun hH => ?_)
  simp (disch := first | omega | (simp only [go_sem]; first | done | omega)) only [go_sem]
  have hs : szT Tryz.prog 5 = 1 := by kernel_rfl
  have hb : Tryz.prog.bytesOf 5 = 1 := by kernel_rfl
  refine app_zer (e := 5) (z := [.int .u8 0]) (by kernel_rfl) (by kernel_rfl) (by kernel_rfl) (by rw [hs]; rfl) (by rw [hs]; decide) h0 (by rw [hb]; omega) (by omega) ?_
  rw [hs]
  simp (disch := first | omega | (simp only [go_sem]; first | done | omega)) only [go_sem, or_self, true_or, or_true]
  exact Ret.same (by simp) (hk h0)
def encUL (m : List UInt8) : List AC := [.lst 1 (m.map encU)]
attribute [go_sem] encUL
theorem flat_step {ms : List (List UInt8)} {k : Nat} (h : k < ms.length) : (ms.take (k + 1)).flatten = (ms.take k).flatten ++ ms[k] := by
  rw [List.take_succ_eq_append_getElem h, List.flatten_append]; simp
theorem flat_le (ms : List (List UInt8)) (k : Nat) : (ms.take k).flatten.length ≤ ms.flatten.length := by
  conv => rhs; rw [← List.take_append_drop k ms, List.flatten_append, List.length_append]
  omega
theorem concatU_o (ms : List (List UInt8)) (hm : ms.length ≤ 1000) (hl : ms.flatten.length ≤ 1000000000) (hk : K (.c (grV H.length ms.flatten)) (H ++ [grO 5 1 (ms.flatten.map encU)])) : ACalls Tryz.prog 124 [.c (.lst 1 (ms.map encUL))] H K := by
  refine acalls Tryz.func124 rfl (by kernel_rfl) (by simp (disch := first | omega | (simp only [go_sem]; first | done | omega)) only [go_sem]) (fun hH => ?_)
  simp (disch := first | omega | (simp only [go_sem]; first | done | omega)) only [go_sem]
  refine AWp.upto (H.length) [0, 9, 10] [11, 3] (ms.length) (fun k => [(11, (.c (.int .i64 k))), (3, (.c (.int .i64 (((ms.take k).flatten.length : Nat)))))]) (fun k => H) (by kernel_rfl) (fun _ => rfl) (by kernel_rfl) (by first | (simp; done) | omega) (by first | (simp; done) | (simp; omega) | omega) kl ?_ (fun k hk1 _ _ => ?_)
  · exact Next.mk 0 rfl wk
  have hfl := flat_le ms k
  by_cases hlt : k < ms.length
  · have hst := flat_step hlt
    have hfl2 := flat_le ms (k + 1)
    have hsl : (ms.take (k + 1)).flatten.length = (ms.take k).flatten.length + ms[k].length := by rw [hst, List.length_append]
    simp (disch := first | omega | (simp only [go_sem]; first | done | omega)) only [go_sem, hlt]
    refine Next.mk (k + 1) (by first | rfl | exact ⟨rfl, hlt⟩) ?_
    rw [hsl]
    exact wk
  have : k = ms.length := by omega
  subst this
  rw [List.take_of_length_le (Nat.le_refl _)]
  simp (disch := first | omega | (simp only [go_sem]; first | done | omega)) only [go_sem, hlt]
  refine growU_a ms.flatten.length hl (fun h0 => ?_) (fun h0 => ?_)
  · have hall : ∀ m ∈ ms, m = [] := fun m hm => by
      have : ms.flatten = [] := List.length_eq_zero_iff.1 h0
      exact (List.flatten_eq_nil_iff.1 this) m hm
    simp (disch := first | omega | (simp only [go_sem]; first | done | omega)) only [go_sem]
    refine AWp.upto (H.length) [25, 26] [27, 6] (ms.length) (fun k => [(27, (.c (.int .i64 k))), (6, .c (.sl none 0))]) (fun k => H) (by kernel_rfl) (fun _ => rfl) (by kernel_rfl) (by first | (simp; done) | omega) (by first | (simp; done) | (simp; omega) | omega) kl ?_ (fun k hk1 _ _ => ?_)
    · exact Next.mk 0 rfl wk
    by_cases hlt : k < ms.length
    · have hem : ms[k] = [] := hall _ (List.getElem_mem _)
      simp (disch := first | omega | (simp only [go_sem]; first | done | omega)) only [go_sem, hlt, hem]
      refine app_lst ?_
      simp (disch := first | omega | (simp only [go_sem]; first | done | omega)) only [go_sem]
      exact Next.mk (k + 1) (by first | rfl | exact ⟨rfl, hlt⟩) wk
    · simp (disch := first | omega | (simp only [go_sem]; first | done | omega)) only [go_sem, hlt]
      have : ms.flatten = [] := List.length_eq_zero_iff.1 h0
      rw [this] at hk
      exact Ret.pad (Nat.le_refl _) (Ret.same (by simp) hk)
  simp (disch := first | omega | (simp only [go_sem]; first | done | omega)) only [go_sem]
  have hrep : List.replicate ms.flatten.length [AC.int .u8 0] = (List.replicate ms.flatten.length (0 : UInt8)).map encU := by rw [List.map_replicate]; rfl
  rw [hrep]
  refine AWp.loop (H.length) [25, 26] [27, 6] (fun (s : Nat × List UInt8) => s.1 ≤ ms.length ∧ (ms.take s.1).flatten.length ≤ s.2.length ∧ s.2.take (ms.take s.1).flatten.length = (ms.take s.1).flatten ∧ s.2.length ≤ ms.flatten.length) (fun (s : Nat × List UInt8) => [(27, (.c (.int .i64 (s.1)))), (6, .c (.sl (some (H.length, 0)) (ms.take s.1).flatten.length))]) (fun (s : Nat × List UInt8) => H ++ [.row 5 1 (s.2.map encU) true]) (fun (s : Nat × List UInt8) => ms.length - s.1) (by kernel_rfl) (fun _ => rfl) (by kernel_rfl) (by first | (simp; done) | omega) (by first | (simp; done) | (simp; omega) | omega) kl ?_ (fun s hs _ _ => ?_)
  · refine Next.mk (0, List.replicate ms.flatten.length 0) ⟨by simp, by simp, by simp, by simp⟩ ?_
    simp (disch := first | omega | (simp only [go_sem]; first | done | omega)) only [go_sem]
    exact WkL.refl (by simp)
  obtain ⟨k, us⟩ := s
  obtain ⟨i1, i2, i3, i4⟩ := hs
  dsimp only at i1 i2 i3 i4 ⊢
  by_cases hlt : k < ms.length
  · have hst := flat_step hlt
    have hfl := flat_le ms (k + 1)
    have hsl : (ms.take (k + 1)).flatten.length = (ms.take k).flatten.length + ms[k].length := by rw [hst, List.length_append]
    obtain ⟨P, hP⟩ : ∃ P, P = (ms.take k).flatten := ⟨_, rfl⟩
    rw [← hP] at hst hsl i2 i3 ⊢
    by_cases hem : ms[k] = []
    · rw [hem, List.append_nil] at hst
      simp (disch := first | omega | (simp only [go_sem]; first | done | omega)) only [go_sem, hlt, hem]
      refine app_lst ?_
      simp (disch := first | omega | (simp only [go_sem]; first | done | omega)) only [go_sem]
      refine Next.mk (k + 1, us) ⟨⟨by dsimp only; omega, by dsimp only; rw [hst]; exact i2, by dsimp only; rw [hst]; exact i3, i4⟩, by dsimp only; omega⟩ ?_
      (try dsimp only)
      rw [hst]
      exact wk
    · obtain ⟨x, xs, hx⟩ : ∃ x xs, ms[k] = x :: xs := List.exists_cons_of_ne_nil hem
      rw [hx] at hst hsl
      have hpl : P.length + (xs.length + 1) ≤ ms.flatten.length := by simp only [List.length_cons] at hsl; omega
      simp (disch := first | omega | (simp only [go_sem]; first | done | omega)) only [go_sem, hlt, hx]
      refine app_lst ?_
      simp (disch := first | omega | (simp only [go_sem]; first | done | omega)) only [go_sem]
      refine Next.mk (k + 1, P ++ x :: xs) ⟨⟨by dsimp only; omega, by dsimp only; rw [hst]; exact Nat.le_refl _, by dsimp only; rw [hst]; exact List.take_of_length_le (Nat.le_refl _), by dsimp only; rw [List.length_append, List.length_cons]; exact hpl⟩, by dsimp only; omega⟩ ?_
      (try dsimp only)
      rw [hst]
      have e : (us.map encU).take P.length = P.map encU := by rw [← List.map_take, i3]
      simp (disch := first | omega | (simp only [go_sem]; first | done | omega)) only [go_sem]
      rw [e]
      have e2 : P.map encU ++ [AC.int .u8 (x.toNat : Int)] :: xs.map encU = (P ++ x :: xs).map encU := by simp [encU]
      rw [e2]
      ((try simp (disch := first | omega | (simp only [go_sem]; first | done | omega)) only [go_sem]); (refine WkL.pick [1] ?_ ?_ rfl ?_ ?_ ?_ ?_) <;> first | (simp only [List.map_cons, List.map_nil, av_ren_gr]; (try simp only [AV.ren, AV.ren1, AC.ren, renP]); (try simp only [pickS_add, pickS_zero]); rfl) | (simp only [List.all_cons, List.all_nil, Bool.and_true, Bool.and_eq_true]; (repeat' apply And.intro) <;> first | exact pureO_gr (pureL_map _ (fun x => by simp [go_sem, AC.pure])) | (simp [AObj.pureO, pureL, go_sem, AC.pure]; done)) | assumption | exact HOk.str (by assumption) | (simp; done) | (simp; omega) | (simp [pureO_gr, AObj.pureO, pureL, go_sem, AC.pure]; done) | (simp only [List.all_cons, List.all_nil, Bool.and_true]; exact pureO_gr (pureL_map _ (fun x => by simp [go_sem, AC.pure]))) | ((try simp only [List.map_cons, List.map_nil, av_ren_gr]); simp [AV.ren, AV.ren1, AC.ren, renP, pickS]; first | done | omega) | (simp only [List.forall_mem_cons, List.not_mem_nil, false_implies, implies_true, and_true]; (repeat' apply And.intro) <;> first | trivial | exact grV_ok (by simp) _ | exact okN_grO (fun x => by simp [go_sem, AC.pure]) | exact okN_map (fun x => by simp [go_sem, AC.pure]) | (simp [AV.ok, AV.ok1, AC.ok]; done) | (simp [AV.ok, AV.ok1, AC.ok]; omega) | (simp [AObj.okN, AC.ok]; done)) | (simp [AObj.okN]; done))
  · have : k = ms.length := by omega
    subst this
    rw [List.take_of_length_le (Nat.le_refl _)] at i2 i3 ⊢
    have hus : us = ms.flatten := by rw [← i3]; exact (List.take_of_length_le i4).symm
    subst hus
    simp (disch := first | omega | (simp only [go_sem]; first | done | omega)) only [go_sem, hlt]
    have hne : ms.flatten ≠ [] := by intro h; rw [h] at h0; simp at h0
    rw [grV_pos _ hne, grO_pos _ _ (by simpa using hne)] at hk
    exact Ret.same (by simp) hk
end Go.Proofs.YtnodfnjmhcjnfaaGreatDoor
