/- Several texts in one: Arrivals without those that are there twice: the same is stored, missing and merged, and what follows. No condition. -/
import Derived.Test.YtflklkijfkmeiaaGreatDoorHVGO
import Derived.Test.YtflklkijfkmeiaaGreatDoorHVGC
import Derived.Test.YtflklkijfkmeiaaGreatDoorHVGA
import Derived.Test.YtflklkijfkmeiaaGreatDoorHVGD
import Derived.Test.YtflklkijfkmeiaaGreatDoorHVArrK
import Derived.Test.YtflklkijfkmeiaaGreatDoorHVGB
/- Arrivals without those that are there twice: the same is stored, missing and merged. No program in sight. -/
namespace Go.Proofs.YtflklkijfkmeiaaGreatDoor
open Go Go.RowKit
set_option maxRecDepth 100000
set_option linter.all false
set_option maxHeartbeats 1000000
def ltA (a b : Arr) : Prop := arLt a b = true
theorem arS_zero {p : Option Arr} {a : Arr} : arS p a = 0 ↔ arrErr a = 0 ∧ ∀ b, p = some b → ltA b a := by
  have hf : ∀ b, ¬ arrC a b ≤ 0 ↔ ltA b a := fun b => by
    have := arrC_flip a b
    unfold ltA arLt
    rw [decide_eq_true_eq]
    omega
  unfold arS
  by_cases he : arrErr a = 0
  · rw [if_neg (by simp [he])]
    cases p with
    | none => simp [he]
    | some b =>
      dsimp only
      by_cases h : arrC a b ≤ 0
      · rw [if_pos h]
        simp only [he, true_and]
        constructor
        · intro h2; omega
        · intro h2; exact absurd h ((hf b).2 (h2 b rfl))
      · rw [if_neg h]
        simp only [he, true_and, true_iff]
        intro c hc
        injection hc with hc
        subst hc
        exact (hf b).1 h
  · rw [if_pos he]
    constructor
    · intro h; exact absurd h he
    · rintro ⟨h, _⟩; exact h
theorem arGo_iff : ∀ (l : List Arr) (p : Option Arr), arGo p l = 0 ↔ (∀ x ∈ l, arrErr x = 0) ∧ l.Pairwise ltA ∧ ∀ b, p = some b → ∀ x ∈ l, ltA b x
  | [], p => by simp [arGo]
  | a :: t, p => by
    have ih := arGo_iff t (some a)
    unfold arGo
    by_cases h : arS p a = 0
    · rw [if_neg (by simp [h]), ih, List.pairwise_cons]
      obtain ⟨h1, h2⟩ := arS_zero.1 h
      constructor
      · rintro ⟨g1, g2, g3⟩
        refine ⟨?_, ⟨fun x hx => g3 a rfl x hx, g2⟩, ?_⟩
        · intro x hx
          rcases List.mem_cons.1 hx with rfl | hx
          · exact h1
          · exact g1 x hx
        · intro b hb x hx
          rcases List.mem_cons.1 hx with rfl | hx
          · exact h2 b hb
          · exact arLt_trans _ _ _ (h2 b hb) (g3 a rfl x hx)
      · rintro ⟨g1, ⟨g2, g3⟩, g4⟩
        refine ⟨fun x hx => g1 x (List.mem_cons_of_mem _ hx), g3, ?_⟩
        intro b hb x hx
        injection hb with hb
        subst hb
        exact g2 x hx
    · rw [if_pos h]
      constructor
      · intro h2; exact absurd h2 h
      · rintro ⟨g1, g2, g3⟩
        exact absurd (arS_zero.2 ⟨g1 a (by simp), fun b hb => g3 b hb a (by simp)⟩) h
theorem arF_iff (l : List Arr) : arF l = 0 ↔ l.length ≤ 2000 ∧ (∀ x ∈ l, arrErr x = 0) ∧ l.Pairwise ltA ∧ (nodesF l).length ≤ 50 ∧ cfF [] l = false := by
  have hg := arGo_iff l none
  unfold arF
  by_cases h1 : 2000 < l.length
  · rw [if_pos h1]
    constructor
    · intro h; omega
    · rintro ⟨h, _⟩; omega
  rw [if_neg h1]
  by_cases h2 : arGo none l = 0
  · rw [if_neg (by simp [h2])]
    obtain ⟨g1, g2, _⟩ := hg.1 h2
    by_cases h3 : 50 < (nodesF l).length
    · rw [if_pos h3]
      constructor
      · intro h; omega
      · rintro ⟨_, _, _, h, _⟩; omega
    · rw [if_neg h3]
      cases h4 : cfF [] l with
      | true => simp
      | false => simp; exact ⟨by omega, g1, g2, by omega⟩
  · rw [if_pos h2]
    constructor
    · intro h; exact absurd h h2
    · rintro ⟨_, g1, g2, _⟩
      exact absurd (hg.2 ⟨g1, g2, fun b hb => by cases hb⟩) h2
end Go.Proofs.YtflklkijfkmeiaaGreatDoor
/- Arrivals that are drawn right, and parts of a list. No condition. -/
namespace Go.Proofs.YtflklkijfkmeiaaGreatDoor
open Go Go.RowKit
set_option maxRecDepth 100000
set_option linter.all false
set_option maxHeartbeats 2000000
variable {H : Hp} {K : AV → Hp → Prop}
theorem rightArrivals_a (s : Nat) (zs : List Int) (j many : Int) (hs : Str H s zs j) (hj : j ≤ 900000000) (hm0 : 0 ≤ many) (hm1 : many ≤ 10)
    (hk : ∀ (l : List Arr) (j' : Int), j ≤ j' → j' ≤ j + 1600 → l.length ≤ 10 → (∀ x ∈ l, arFine x) → arF l = 0 → K (.c (.lst 7 (l.map encAr))) (H.set s (strO zs j'))) :
    ACalls Tryz.prog 86 [.c (.ptr (some (s, 0, 0))), (.c (.int .i64 many))] H K := by
  have hlt := hs.lt
  have hpos := hs.pos
  refine acalls Tryz.func86 rfl (by kernel_rfl) (by simp (disch := first | omega | (simp only [go_sem]; first | done | omega)) only [go_sem]) (fun hH => ?_)
  simp (disch := first | omega | (simp only [go_sem]; first | done | omega)) only [go_sem]
  refine AWp.loop (H.length) [0, 1] [6] (fun (q : Nat × Int) => q.1 ≤ 8 ∧ j ≤ q.2 ∧ q.2 ≤ j + 200 * q.1) (fun (q : Nat × Int) => [(6, (.c (.int .i64 (q.1))))]) (fun (q : Nat × Int) => H.set s (strO zs q.2)) (fun (q : Nat × Int) => 8 - q.1) (by kernel_rfl) (fun _ => rfl) (by kernel_rfl) (by first | (simp; done) | omega) (by first | (simp; done) | (simp; omega) | omega) kl ?_ (fun q hq _ _ => ?_)
  · refine Next.mk (0, j) ⟨by dsimp only; omega, by dsimp only; omega, by dsimp only; omega⟩ ?_
    dsimp only
    rw [set_same hs.2.2.2]
    exact wk
  obtain ⟨k, j1⟩ := q
  obtain ⟨q1, q2, q3⟩ := hq
  dsimp only at q1 q2 q3 ⊢
  by_cases hkl : k < 8
  · have hkl' : (k : Int) < 8 := by omega
    simp (disch := first | omega | (simp only [go_sem]; first | done | omega)) only [go_sem, hkl']
    refine arrivals_a s zs j1 many (by first | exact hs | exact hs.app _ | exact hs.set (by omega) (by omega) | exact (hs.set (by omega) (by omega)).app _) (by omega) hm0 hm1 (fun l j2 g1 g2 g3 g4 => ?_)
    have hsz : ∀ x ∈ l, x.nd.size ≤ 1099511627776 ∧ x.p.tag.size ≤ 1099511627776 := fun x hx => by
      obtain ⟨h1, h2, _⟩ := g4 x hx
      omega
    simp (disch := first | omega | (simp only [go_sem]; first | done | omega)) only [go_sem]
    refine arrivalsFault_a l hsz (by omega) ?_
    by_cases he : arF l = 0
    · simp (disch := first | omega | (simp only [go_sem]; first | done | omega)) only [go_sem, he]
      exact Ret.same (by simp) (hk l j2 (by omega) (by omega) (by omega) g4 he)
    · simp (disch := first | omega | (simp only [go_sem]; first | done | omega)) only [go_sem, he]
      refine Next.mk (k + 1, j2) ⟨⟨by dsimp only; omega, by dsimp only; omega, by dsimp only; omega⟩, by dsimp only; omega⟩ ?_
      exact wk
  · have hkl' : ¬ (k : Int) < 8 := by omega
    simp (disch := first | omega | (simp only [go_sem]; first | done | omega)) only [go_sem, hkl']
    have e0 : arF [] = 0 := (arF_iff []).2 ⟨by simp, by simp, List.Pairwise.nil, by decide, rfl⟩
    exact Ret.nil [7] (by simp) (Ret.same (by simp) (hk [] j1 q2 (by omega) (by simp) (by simp) e0))
end Go.Proofs.YtflklkijfkmeiaaGreatDoor
