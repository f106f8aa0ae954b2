/- Texts of bins that are drawn. No condition. -/
import Derived.Test.YtebhpfhichdgaaaGreatDoorHVBtxT
import Derived.Test.YtebhpfhichdgaaaGreatDoorHVTxtL
import Derived.Test.YtebhpfhichdgaaaGreatDoorHVChg
namespace Go.Proofs.YtebhpfhichdgaaaGreatDoor
open Go Go.RowKit
set_option maxRecDepth 100000
set_option linter.all false
set_option maxHeartbeats 4000000
variable {H : Hp} {K : AV → Hp → Prop}
theorem binsOfG_a (l : List Smp) (step : Int) (h1 : serF l = 0) (h2 : isStep step) (hk : K (.c (.lst 6 ((binsF step l).map encN))) H) : ACalls Tryz.prog 71 [.c (.lst 3 (l.map encS)), (.c (.int .i64 step))] H K := by
  obtain ⟨h3, h4⟩ := serF_ok h1
  refine ACalls.postR (binsOf_o l step h3 h2.1 h2.2.1 (fun x hx => by have := smp_ok (h4 x hx); simp only [Smp.small]; omega) (serF_inc h1) (K := fun v G => v = .c (grV H.length (binsF step l)) ∧ G = H ++ [grO 39 6 ((binsF step l).map encN)]) ⟨rfl, rfl⟩) ?_
  rintro hH _ _ ⟨rfl, rfl⟩
  exact Ret.frzGr 0 hH (Nat.le_refl _) rfl (pureL_encN _) (map_grV _ _ _).symm hk
theorem binsF_lh (step : Int) (l : List Smp) (hx : ∀ x ∈ l, -1000000 ≤ x.v ∧ x.v ≤ 1000000) : ∀ y ∈ binsF step l, -1000000 ≤ y.lo ∧ y.lo ≤ 1000000 ∧ -1000000 ≤ y.hi ∧ y.hi ≤ 1000000 := by
  have key : ∀ k, k ≤ l.length → ∀ y ∈ binsF step (l.take k), -1000000 ≤ y.lo ∧ y.lo ≤ 1000000 ∧ -1000000 ≤ y.hi ∧ y.hi ≤ 1000000 := by
    intro k
    induction k with
    | zero => intro _ y hy; simp [binsF] at hy
    | succ k ih =>
      intro hk y hy
      have ih := ih (by omega)
      have hxk := hx l[k] (List.getElem_mem (by omega))
      have hb : -1000000 ≤ (binOf step l[k]).lo ∧ (binOf step l[k]).lo ≤ 1000000 ∧ -1000000 ≤ (binOf step l[k]).hi ∧ (binOf step l[k]).hi ≤ 1000000 := by
        unfold binOf
        split <;> (dsimp only; omega)
      rw [binsF_next step (by omega)] at hy
      unfold putB at hy
      split at hy
      · simp at hy; subst hy; exact hb
      · rename_i z hz
        have hzz := ih z (List.mem_of_getLast? hz)
        split at hy
        · rcases List.mem_append.1 hy with h | h
          · exact ih y (List.dropLast_subset _ h)
          · simp at h
            subst h
            simp only [combB]
            refine ⟨?_, ?_, ?_, ?_⟩ <;> (repeat' split) <;> omega
        · rcases List.mem_append.1 hy with h | h
          · exact ih y h
          · simp at h; subst h; exact hb
  intro y hy
  have := key l.length (Nat.le_refl _) y (by rwa [List.take_length])
  exact this
theorem binsF_ok6 (step : Int) (l : List Smp) (h1 : 1 ≤ step) (hl : l.length ≤ 100) (hx : ∀ x ∈ l, 0 ≤ x.t ∧ x.t ≤ 345686399999 ∧ -1000000 ≤ x.v ∧ x.v ≤ 1000000) : ∀ y ∈ binsF step l, y.ok6 := by
  intro y hy n hn
  obtain ⟨h2, h3, h4⟩ := binsF_small step l h1 hl hx y hy
  have h5 := binsF_lh step l (fun x h => (hx x h).2.2) y hy
  simp only [Bin.bd] at h2
  simp only [sixB, List.mem_cons, List.not_mem_nil, or_false] at hn
  rcases hn with rfl | rfl | rfl | rfl | rfl | rfl <;> omega
theorem binsF_len6 (step : Int) : ∀ (l : List Smp), (binsF step l).length ≤ l.length := by
  intro l
  have key : ∀ k, k ≤ l.length → (binsF step (l.take k)).length ≤ k := by
    intro k
    induction k with
    | zero => intro _; simp [binsF]
    | succ k ih =>
      intro hk
      have := ih (by omega)
      rw [binsF_next step (by omega)]
      unfold putB
      split
      · simp
      · split
        · rw [List.length_append, List.length_dropLast]; simp; omega
        · simp; omega
  have := key l.length (Nat.le_refl _)
  rwa [List.take_length] at this
def wBin : ByteArray := ⟨#[32, 10, 48, 45, 57, 53]⟩
theorem wBin_bd : ∀ i, i < 6 → 0 ≤ byteAt wBin i ∧ byteAt wBin i < 128 := by decide
theorem binText_a (s : Nat) (zs : List Int) (j step : Int) (hs : Str H s zs j) (hj : j ≤ 1000000000) (hst : -10 ≤ step ∧ step ≤ 172800000)
    (hk : ∀ (t : List UInt8) (j' : Int), j ≤ j' → j' ≤ j + 60 → t.length ≤ 1000 → K (.c (.str (tB t))) (H.set s (strO zs j'))) : ACalls Tryz.prog 12 [.c (.ptr (some (s, 0, 0))), (.c (.int .i64 step))] H K := by
  have hlt := hs.lt
  have hpos := hs.pos
  have hne : H.length ≠ s := by omega
  obtain ⟨q, hq⟩ : ∃ q : Int, q = if isStep step then step else 10 := ⟨_, rfl⟩
  have hqs : isStep q := by
    rw [hq]
    split
    · assumption
    · decide
  have hq1 : 1 ≤ q := hqs.1
  refine acalls Tryz.func12 rfl (by kernel_rfl) (by simp (disch := first | omega | (simp only [go_sem]; first | done | omega)) only [go_sem]) (fun hH => ?_)
  simp (disch := first | omega | (simp only [go_sem]; first | done | omega)) only [go_sem]
  refine stepFault_a _ _ _ ?_
  by_cases h0 : isStep step
  · rw [if_pos h0] at hq ⊢
    subst hq
    simp (disch := first | omega | (simp only [go_sem]; first | done | omega)) only [go_sem]
    refine rightSamplesT_a s zs j 6 (by first | exact hs | exact hs.app _ | exact hs.set (by omega) (by omega) | exact (hs.set (by omega) (by omega)).app _) (by omega) (by omega) (by omega) (fun l j1 h1 h2 h3 => ?_)
    obtain ⟨h4, h5, h6⟩ := h3
    have hok := binsF_ok6 q l hq1 (by omega) (fun x hx => by have := h6 x hx; omega)
    have hbl := binsF_len6 q l
    simp (disch := first | omega | (simp only [go_sem]; first | done | omega)) only [go_sem]
    refine binsOfG_a l q h4 hqs ?_
    generalize binsF q l = B at *
    have hml : (B.map encN).length = B.length := List.length_map ..
    obtain ⟨m, hm⟩ : ∃ m : Nat, m = min B.length 3 := ⟨_, rfl⟩
    have hTl := textBn_len (B.take m) (fun x hx => hok x (List.mem_of_mem_take hx))
    rw [List.length_take] at hTl
    simp (disch := first | omega | (simp only [go_sem]; first | done | omega)) only [go_sem, hml]
    rw [show (min (B.length : Int) 3).toNat - 0 = m by omega, ← List.map_take]
    refine binLines_a (B.take m) (by rw [List.length_take]; omega) (fun x hx => hok x (List.mem_of_mem_take hx)) ?_
    generalize textBn (B.take m) = T at *
    have hTz := tB_size T
    simp (disch := first | omega | (simp only [go_sem]; first | done | omega)) only [go_sem]
    refine pick_lit s zs j1 [0, 0, 1, 2] (by first | ((repeat first | exact at0 (by simp) | refine atS ?_); done) | assumption) rfl rfl (by first | exact hs | exact hs.app _ | exact hs.set (by omega) (by omega) | exact (hs.set (by omega) (by omega)).app _) (by omega) (by simp) (by simp) (fun n hn => ?_)
    simp only [List.mem_cons, List.not_mem_nil, or_false] at hn
    have hnb : 0 ≤ n ∧ n ≤ 2 := by omega
    simp (disch := first | omega | (simp only [go_sem]; first | done | omega)) only [go_sem]
    have hokS : ∀ j', HOk (H.set s (strO zs j')) := fun j' => HOk.str hH
    refine AWp.loop (H.length) [0, 22] [6, 23] (fun (r : Nat × ByteArray × Int) => (r.1 : Int) ≤ n ∧ r.2.1.size ≤ 400 + 6 * r.1 ∧ j ≤ r.2.2 ∧ r.2.2 ≤ j + 30 + 3 * r.1) (fun (r : Nat × ByteArray × Int) => [(6, .c (.str r.2.1)), (23, (.c (.int .i64 (r.1))))]) (fun (r : Nat × ByteArray × Int) => H.set s (strO zs r.2.2)) (fun (r : Nat × ByteArray × Int) => n.toNat - r.1) (by kernel_rfl) (fun _ => rfl) (by kernel_rfl) (by first | (simp; done) | omega) (by first | (simp; done) | (simp; omega) | omega) kl ?_ (fun r hr _ _ => ?_)
    · refine Next.mk (0, tB T, j1 + 1) ⟨by dsimp only; omega, by dsimp only; omega, by dsimp only; omega, by dsimp only; omega⟩ ?_
      dsimp only
      simp (disch := first | omega | (simp only [go_sem]; first | done | omega)) only [go_sem]
      exact WkL.rest (hokS _) (by simp) rfl (by intro x hx; simp only [List.mem_cons, List.not_mem_nil, or_false] at hx; rcases hx with rfl | rfl <;> simp [AV.ok, AV.ok1, AC.ok])
    obtain ⟨k, t, j2⟩ := r
    obtain ⟨q1, q2, q3, q4⟩ := hr
    dsimp only at q1 q2 q3 q4 ⊢
    by_cases hlt2 : (k : Int) < n
    · simp (disch := first | omega | (simp only [go_sem]; first | done | omega)) only [go_sem, hlt2]
      refine changedG_a wBin 6 rfl (by omega) wBin_bd s zs j2 t ⟨hs.1, by omega, by omega, List.getElem?_set_self hlt⟩ (by omega) (by omega) (fun t' j3 h7 h8 h9 => ?_)
      simp (disch := first | omega | (simp only [go_sem]; first | done | omega)) only [go_sem]
      refine Next.mk (k + 1, t', j3) ⟨⟨by dsimp only; omega, by dsimp only; omega, by dsimp only; omega, by dsimp only; omega⟩, by dsimp only; omega⟩ ?_
      dsimp only
      exact wk
    · simp (disch := first | omega | (simp only [go_sem]; first | done | omega)) only [go_sem, hlt2]
      have := hk (tL t) j2 (by omega) (by omega) (by rw [tL_len]; omega)
      rw [tB_tL] at this
      exact Ret.same (by simp) this
  · rw [if_neg h0] at hq ⊢
    subst hq
    simp (disch := first | omega | (simp only [go_sem]; first | done | omega)) only [go_sem]
    refine rightSamplesT_a s zs j 6 (by first | exact hs | exact hs.app _ | exact hs.set (by omega) (by omega) | exact (hs.set (by omega) (by omega)).app _) (by omega) (by omega) (by omega) (fun l j1 h1 h2 h3 => ?_)
    obtain ⟨h4, h5, h6⟩ := h3
    have hok := binsF_ok6 10 l hq1 (by omega) (fun x hx => by have := h6 x hx; omega)
    have hbl := binsF_len6 10 l
    simp (disch := first | omega | (simp only [go_sem]; first | done | omega)) only [go_sem]
    refine binsOfG_a l 10 h4 hqs ?_
    generalize binsF 10 l = B at *
    have hml : (B.map encN).length = B.length := List.length_map ..
    obtain ⟨m, hm⟩ : ∃ m : Nat, m = min B.length 3 := ⟨_, rfl⟩
    have hTl := textBn_len (B.take m) (fun x hx => hok x (List.mem_of_mem_take hx))
    rw [List.length_take] at hTl
    simp (disch := first | omega | (simp only [go_sem]; first | done | omega)) only [go_sem, hml]
    rw [show (min (B.length : Int) 3).toNat - 0 = m by omega, ← List.map_take]
    refine binLines_a (B.take m) (by rw [List.length_take]; omega) (fun x hx => hok x (List.mem_of_mem_take hx)) ?_
    generalize textBn (B.take m) = T at *
    have hTz := tB_size T
    simp (disch := first | omega | (simp only [go_sem]; first | done | omega)) only [go_sem]
    refine pick_lit s zs j1 [0, 0, 1, 2] (by first | ((repeat first | exact at0 (by simp) | refine atS ?_); done) | assumption) rfl rfl (by first | exact hs | exact hs.app _ | exact hs.set (by omega) (by omega) | exact (hs.set (by omega) (by omega)).app _) (by omega) (by simp) (by simp) (fun n hn => ?_)
    simp only [List.mem_cons, List.not_mem_nil, or_false] at hn
    have hnb : 0 ≤ n ∧ n ≤ 2 := by omega
    simp (disch := first | omega | (simp only [go_sem]; first | done | omega)) only [go_sem]
    have hokS : ∀ j', HOk (H.set s (strO zs j')) := fun j' => HOk.str hH
    refine AWp.loop (H.length) [0, 22] [6, 23] (fun (r : Nat × ByteArray × Int) => (r.1 : Int) ≤ n ∧ r.2.1.size ≤ 400 + 6 * r.1 ∧ j ≤ r.2.2 ∧ r.2.2 ≤ j + 30 + 3 * r.1) (fun (r : Nat × ByteArray × Int) => [(6, .c (.str r.2.1)), (23, (.c (.int .i64 (r.1))))]) (fun (r : Nat × ByteArray × Int) => H.set s (strO zs r.2.2)) (fun (r : Nat × ByteArray × Int) => n.toNat - r.1) (by kernel_rfl) (fun _ => rfl) (by kernel_rfl) (by first | (simp; done) | omega) (by first | (simp; done) | (simp; omega) | omega) kl ?_ (fun r hr _ _ => ?_)
    · refine Next.mk (0, tB T, j1 + 1) ⟨by dsimp only; omega, by dsimp only; omega, by dsimp only; omega, by dsimp only; omega⟩ ?_
      dsimp only
      simp (disch := first | omega | (simp only [go_sem]; first | done | omega)) only [go_sem]
      exact WkL.rest (hokS _) (by simp) rfl (by intro x hx; simp only [List.mem_cons, List.not_mem_nil, or_false] at hx; rcases hx with rfl | rfl <;> simp [AV.ok, AV.ok1, AC.ok])
    obtain ⟨k, t, j2⟩ := r
    obtain ⟨q1, q2, q3, q4⟩ := hr
    dsimp only at q1 q2 q3 q4 ⊢
    by_cases hlt2 : (k : Int) < n
    · simp (disch := first | omega | (simp only [go_sem]; first | done | omega)) only [go_sem, hlt2]
      refine changedG_a wBin 6 rfl (by omega) wBin_bd s zs j2 t ⟨hs.1, by omega, by omega, List.getElem?_set_self hlt⟩ (by omega) (by omega) (fun t' j3 h7 h8 h9 => ?_)
      simp (disch := first | omega | (simp only [go_sem]; first | done | omega)) only [go_sem]
      refine Next.mk (k + 1, t', j3) ⟨⟨by dsimp only; omega, by dsimp only; omega, by dsimp only; omega, by dsimp only; omega⟩, by dsimp only; omega⟩ ?_
      dsimp only
      exact wk
    · simp (disch := first | omega | (simp only [go_sem]; first | done | omega)) only [go_sem, hlt2]
      have := hk (tL t) j2 (by omega) (by omega) (by rw [tL_len]; omega)
      rw [tB_tL] at this
      exact Ret.same (by simp) this
end Go.Proofs.YtebhpfhichdgaaaGreatDoor
