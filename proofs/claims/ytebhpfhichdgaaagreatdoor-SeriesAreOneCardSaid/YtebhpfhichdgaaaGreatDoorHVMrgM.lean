/- The order of samples: what it comes to; samples joined. No condition. -/
import Derived.Sort.Statements
import Derived.Test.YtebhpfhichdgaaaGreatDoorHVCptS
import Derived.Test.YtebhpfhichdgaaaGreatDoorHVMoment
namespace Go.Proofs.YtebhpfhichdgaaaGreatDoor
open Go Go.RowKit
set_option maxRecDepth 100000
set_option linter.all false
set_option maxHeartbeats 1000000
variable {H : Hp} {K : AV → Hp → Prop}
theorem growS_a (n : Nat) (h1 : n ≤ 1000000) (hk0 : n = 0 → K (.c (.sl none 0)) H) (hk : 0 < n → K (.c (.sl (some (H.length, 0)) 0)) (H ++ [.row 49 3 (List.replicate n [.int .i64 0, .int .i64 0, .int .i64 0]) true])) : ACalls Tryz.prog 156 [.c (.sl none 0), (.c (.int .i64 n))] H K := by
  rcases Nat.eq_zero_or_pos n with rfl | h0
  · refine acalls Tryz.func156 rfl (by kernel_rfl) (by simp (disch := first | omega | (simp only [go_sem]; first | done | omega)) only [go_sem]) (fun hH => ?_)
    simp (disch := first | omega | (simp only [go_sem]; first | done | omega)) only [go_sem]
    exact Ret.same (Nat.le_refl _) (hk0 rfl)
  refine acalls Tryz.func156 rfl (by kernel_rfl) (by simp (disch := first | omega | (simp only [go_sem]; first | done | omega)) only [go_sem]) (fun hH => ?_)
  simp (disch := first | omega | (simp only [go_sem]; first | done | omega)) only [go_sem]
  have hs : szT Tryz.prog 49 = 3 := by kernel_rfl
  have hb : Tryz.prog.bytesOf 49 = 24 := by kernel_rfl
  refine app_zer (e := 49) (z := [.int .i64 0, .int .i64 0, .int .i64 0]) (by kernel_rfl) (by kernel_rfl) (by kernel_rfl) (by rw [hs]; rfl) (by rw [hs]; decide) h0 (by rw [hb]; omega) (by omega) ?_
  rw [hs]
  simp (disch := first | omega | (simp only [go_sem]; first | done | omega)) only [go_sem, or_self, true_or, or_true]
  exact Ret.same (by simp) (hk h0)
theorem concatS_a (l m : List Smp) (hl : l.length ≤ 100000) (hm : m.length ≤ 100000) (hk : K (.c (grV H.length (l ++ m))) (H ++ [grO 49 3 ((l ++ m).map encS)])) : ACalls Tryz.prog 63 [.c (.lst 1 [[.lst 3 (l.map encS)], [.lst 3 (m.map encS)]])] H K := by
  refine acalls Tryz.func63 rfl (by kernel_rfl) (by simp (disch := first | omega | (simp only [go_sem]; first | done | omega)) only [go_sem]) (fun hH => ?_)
  simp (disch := first | omega | (simp only [go_sem]; first | done | omega)) only [go_sem]
  refine AWp.loop (H.length) [0, 9, 10] [11, 3] (fun (q : Nat × Nat) => (q.1 = 0 ∧ q.2 = 0) ∨ (q.1 = 1 ∧ q.2 = l.length) ∨ (q.1 = 2 ∧ q.2 = l.length + m.length)) (fun (q : Nat × Nat) => [(11, (.c (.int .i64 (q.1)))), (3, (.c (.int .i64 (q.2))))]) (fun (q : Nat × Nat) => H) (fun (q : Nat × Nat) => 2 - q.1) (by kernel_rfl) (fun _ => rfl) (by kernel_rfl) (by first | (simp; done) | omega) (by first | (simp; done) | (simp; omega) | omega) kl ?_ (fun q hq _ _ => ?_)
  · exact Next.mk (0, 0) (by simp) wk
  obtain ⟨k, n⟩ := q
  dsimp only at hq
  rcases hq with ⟨rfl, rfl⟩ | ⟨rfl, rfl⟩ | ⟨rfl, rfl⟩
  · simp (disch := first | omega | (simp only [go_sem]; first | done | omega)) only [go_sem]
    exact Next.mk (1, l.length) ⟨by simp, by simp⟩ wk
  · simp (disch := first | omega | (simp only [go_sem]; first | done | omega)) only [go_sem]
    exact Next.mk (2, l.length + m.length) ⟨by simp, by simp⟩ wk
  simp (disch := first | omega | (simp only [go_sem]; first | done | omega)) only [go_sem]
  refine growS_a (l.length + m.length) (by omega) (fun h0 => ?_) (fun h0 => ?_)
  · have hl0 : l = [] := List.length_eq_zero_iff.1 (by omega)
    have hm0 : m = [] := List.length_eq_zero_iff.1 (by omega)
    subst hl0; subst hm0
    simp (disch := first | omega | (simp only [go_sem]; first | done | omega)) only [go_sem]
    refine AWp.loop (H.length) [25, 26] [27, 6] (fun (k : Nat) => k ≤ 2) (fun (k : Nat) => [(27, (.c (.int .i64 k))), (6, .c (.sl none 0))]) (fun (k : Nat) => H) (fun (k : Nat) => 2 - k) (by kernel_rfl) (fun _ => rfl) (by kernel_rfl) (by first | (simp; done) | omega) (by first | (simp; done) | (simp; omega) | omega) kl ?_ (fun k hq _ _ => ?_)
    · exact Next.mk 0 (by simp) wk
    have : k = 0 ∨ k = 1 ∨ k = 2 := by omega
    rcases this with rfl | rfl | rfl
    · simp (disch := first | omega | (simp only [go_sem]; first | done | omega)) only [go_sem]
      refine app_lst ?_
      simp (disch := first | omega | (simp only [go_sem]; first | done | omega)) only [go_sem]
      exact Next.mk 1 ⟨by simp, by simp⟩ wk
    · simp (disch := first | omega | (simp only [go_sem]; first | done | omega)) only [go_sem]
      refine app_lst ?_
      simp (disch := first | omega | (simp only [go_sem]; first | done | omega)) only [go_sem]
      exact Next.mk 2 ⟨by simp, by simp⟩ wk
    · simp (disch := first | omega | (simp only [go_sem]; first | done | omega)) only [go_sem]
      exact Ret.pad (Nat.le_refl _) (Ret.same (by simp) hk)
  simp (disch := first | omega | (simp only [go_sem]; first | done | omega)) only [go_sem]
  refine AWp.loop (H.length) [25, 26] [27, 6] (fun (q : Nat × Nat × List (List AC)) => (q.1 = 0 ∧ q.2.1 = 0 ∧ q.2.2 = List.replicate (l.length + m.length) [.int .i64 0, .int .i64 0, .int .i64 0]) ∨ (q.1 = 1 ∧ q.2.1 = l.length ∧ ((l = [] ∧ q.2.2 = List.replicate (l.length + m.length) [.int .i64 0, .int .i64 0, .int .i64 0]) ∨ (l ≠ [] ∧ q.2.2 = l.map encS))) ∨ (q.1 = 2 ∧ q.2.1 = l.length + m.length ∧ q.2.2 = (l ++ m).map encS)) (fun (q : Nat × Nat × List (List AC)) => [(27, (.c (.int .i64 (q.1)))), (6, .c (.sl (some (H.length, 0)) q.2.1))]) (fun (q : Nat × Nat × List (List AC)) => H ++ [.row 49 3 q.2.2 true]) (fun (q : Nat × Nat × List (List AC)) => 2 - q.1) (by kernel_rfl) (fun _ => rfl) (by kernel_rfl) (by first | (simp; done) | omega) (by first | (simp; done) | (simp; omega) | omega) kl ?_ (fun q hq _ _ => ?_)
  · exact Next.mk (0, 0, List.replicate (l.length + m.length) [.int .i64 0, .int .i64 0, .int .i64 0]) (by simp) (by exact ow)
  obtain ⟨k, n, els⟩ := q
  dsimp only at hq
  rcases hq with ⟨rfl, rfl, rfl⟩ | ⟨rfl, rfl, hq⟩ | ⟨rfl, rfl, rfl⟩
  · by_cases hl0 : l = []
    · subst hl0
      simp (disch := first | omega | (simp only [go_sem]; first | done | omega)) only [go_sem]
      refine app_lst ?_
      simp (disch := first | omega | (simp only [go_sem]; first | done | omega)) only [go_sem]
      refine Next.mk (1, 0, List.replicate (0 + m.length) [.int .i64 0, .int .i64 0, .int .i64 0]) ⟨by simp, by simp⟩ (by exact ow)
    · obtain ⟨x, xs, rfl⟩ : ∃ x xs, l = x :: xs := List.exists_cons_of_ne_nil hl0
      simp (disch := first | omega | (simp only [go_sem]; first | done | omega)) only [go_sem]
      refine app_lst ?_
      simp only [List.length_cons] at hl
      simp (disch := first | omega | (simp only [go_sem]; first | done | omega)) only [go_sem]
      refine Next.mk (1, xs.length + 1, (x :: xs).map encS) ⟨by simp, by simp⟩ ?_
      exact ow
  · rcases hq with ⟨rfl, rfl⟩ | ⟨hl0, rfl⟩
    · have hm0 : m ≠ [] := by rintro rfl; simp at h0
      obtain ⟨x, xs, rfl⟩ : ∃ x xs, m = x :: xs := List.exists_cons_of_ne_nil hm0
      simp only [List.length_cons] at hm
      simp (disch := first | omega | (simp only [go_sem]; first | done | omega)) only [go_sem]
      refine app_lst ?_
      simp (disch := first | omega | (simp only [go_sem]; first | done | omega)) only [go_sem]
      refine Next.mk (2, xs.length + 1, (x :: xs).map encS) ⟨by simp, by simp⟩ ?_
      exact ow
    · by_cases hm0 : m = []
      · subst hm0
        simp (disch := first | omega | (simp only [go_sem]; first | done | omega)) only [go_sem]
        refine app_lst ?_
        simp (disch := first | omega | (simp only [go_sem]; first | done | omega)) only [go_sem]
        refine Next.mk (2, l.length, l.map encS) ⟨by simp, by simp⟩ ?_
        exact ow
      · obtain ⟨x, xs, rfl⟩ : ∃ x xs, m = x :: xs := List.exists_cons_of_ne_nil hm0
        simp only [List.length_cons] at hm
        simp (disch := first | omega | (simp only [go_sem]; first | done | omega)) only [go_sem]
        refine app_lst ?_
        simp (disch := first | omega | (simp only [go_sem]; first | done | omega)) only [go_sem]
        refine Next.mk (2, l.length + (xs.length + 1), (l.map encS).take l.length ++ (x :: xs).map encS) ⟨by simp [List.take_of_length_le], by simp⟩ ?_
        exact ow
  · have hne : l ++ m ≠ [] := by
      intro h
      obtain ⟨rfl, rfl⟩ := List.append_eq_nil_iff.1 h
      simp at h0
    have hne2 : (l ++ m).map encS ≠ [] := by simpa using hne
    have hpos : 0 < l.length + m.length := h0
    rw [grV_pos _ hne, grO_pos _ _ hne2, List.length_append] at hk
    simp (disch := first | omega | (simp only [go_sem]; first | done | omega)) only [go_sem]
    exact Ret.same (by simp) hk
def ltM (a b : Smp) : Bool := decide (momC a b < 0)
theorem momC_eq (a b : Smp) : momC a b = if a.t < b.t then -1 else if b.t < a.t then 1 else if a.q < b.q then -1 else if b.q < a.q then 1 else if b.v < a.v then -1 else if a.v < b.v then 1 else 0 := by
  unfold momC cmpI
  by_cases h1 : a.t < b.t
  · simp [firstE, h1]
  by_cases h2 : b.t < a.t
  · simp [firstE, h1, h2]
  by_cases h3 : a.q < b.q
  · simp [firstE, h1, h2, h3]
  by_cases h4 : b.q < a.q
  · simp [firstE, h1, h2, h3, h4]
  by_cases h5 : b.v < a.v
  · simp [firstE, h1, h2, h3, h4, h5]
  by_cases h6 : a.v < b.v
  · simp [firstE, h1, h2, h3, h4, h5, h6]
  · simp [firstE, h1, h2, h3, h4, h5, h6]
theorem ltM_iff (a b : Smp) : ltM a b = true ↔ (a.t < b.t ∨ (a.t = b.t ∧ (a.q < b.q ∨ (a.q = b.q ∧ b.v < a.v)))) := by
  unfold ltM
  rw [decide_eq_true_eq, momC_eq]
  repeat' split
  all_goals omega
theorem swoM : Go.Sort.SWO ltM where
  irrefl := fun x => by
    rw [Bool.eq_false_iff, ne_eq, ltM_iff]; omega
  trans := fun x y z h1 h2 => by
    rw [ltM_iff] at *; omega
  ntrans := fun x y z h1 h2 => by
    rw [Bool.eq_false_iff, ne_eq, ltM_iff] at *; omega
def sameT (x y : Smp) : Bool := decide (x.t = y.t)
theorem eqM : EqA 151 sameT where
  he := by kernel_rfl
  hf := fun x y H K hk => by
    refine acalls Tryz.func151 rfl (by kernel_rfl) (by simp (disch := first | omega | (simp only [go_sem]; first | done | omega)) only [go_sem]) (fun hH => ?_)
    simp (disch := first | omega | (simp only [go_sem]; first | done | omega)) only [go_sem]
    exact Ret.drop hH (Nat.le_refl _) trivial hk
end Go.Proofs.YtebhpfhichdgaaaGreatDoor
