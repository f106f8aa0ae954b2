/- The reference reads lines, and a text of samples. -/
import Derived.Test.YtflklkijfkmeiaaGreatDoorHVTxtI
namespace Go.Proofs.YtflklkijfkmeiaaGreatDoor
open Go Go.RowKit
set_option maxRecDepth 100000
set_option linter.all false
set_option maxHeartbeats 2000000
variable {H : Hp} {K : AV → Hp → Prop}
theorem lns_step {l : List UInt8} (h : l ≠ []) : (∃ a b, l = a ++ 10 :: b ∧ (10 : UInt8) ∉ a ∧ lnsF l = a :: lnsF b ∧ remF l = remF b) ∨ ((10 : UInt8) ∉ l ∧ lnsF l = [] ∧ remF l = l) := by
  rcases cut_cases 10 l with h1 | ⟨a, b, rfl, h1⟩
  · exact .inr ⟨h1, lns_no h1⟩
  · exact .inl ⟨a, b, rfl, h1, lns_cut b h1⟩
theorem linesQ_a {A : Hp} (hA : HOk A) (f tc te sz : Nat) (l : List UInt8) (hl : l.length ≤ 990000) (good : List UInt8 → Bool) (ss : Nat → List (List AC)) (hs0 : ss 0 = []) (hp : ∀ k, pureL (ss k) = true) (hpo : ∀ k n, (grO te sz (ss k)).okN n) (hent : entersB Tryz.prog f = true)
    (hf1 : ∀ k x, (lnsF l)[k]? = some x → good x = true → ∀ K' : AV → Hp → Prop, K' (.c (.bool true)) (A ++ [.row tc 1 [[grV (A.length + 2) (ss (k + 1))]] true, .dead, grO te sz (ss (k + 1))]) → ACalls Tryz.prog f [.c (.str (tB x)), .c (.ptr (some (A.length, 0, 0)))] (A ++ accO tc te sz (A.length + 1) (ss k)) K')
    (hf2 : ∀ k x, (lnsF l)[k]? = some x → good x = false → ∀ K' : AV → Hp → Prop, (∀ G, 1 ≤ G.length → K' (.c (.bool false)) (A ++ G)) → ACalls Tryz.prog f [.c (.str (tB x)), .c (.ptr (some (A.length, 0, 0)))] (A ++ accO tc te sz (A.length + 1) (ss k)) K')
    (hk1 : okC good (lnsF l) = (lnsF l).length → endsB l = true → K (.tup [(.c (.int .i64 0)), (.c (.bool true))]) (A ++ accO tc te sz (A.length + 1) (ss (lnsF l).length)))
    (hk2 : ¬ (okC good (lnsF l) = (lnsF l).length ∧ endsB l = true) → ∀ G, 1 ≤ G.length → K (.tup [(.c (.int .i64 (okC good (lnsF l)))), (.c (.bool false))]) (A ++ G)) :
    ACalls Tryz.prog 101 [(.c (.str (tB l))), .c (.fn f [] [(A.length, 0, 0)])] (A ++ [.row tc 1 [[.sl none 0]] true]) K := by
  have hle := okC_le good (lnsF l)
  have hlen := lns_len l
  refine acalls Tryz.func101 rfl (by kernel_rfl) (by simp (disch := first | omega | (simp only [go_sem]; first | done | omega)) only [go_sem]) (fun hH => ?_)
  simp (disch := first | omega | (simp only [go_sem]; first | done | omega)) only [go_sem]
  refine AWp.loop (A.length + 1) [1] [0, 6] (fun (q : Nat × List UInt8) => q.1 ≤ okC good (lnsF l) ∧ lnsF q.2 = (lnsF l).drop q.1 ∧ remF q.2 = remF l ∧ q.2.length ≤ 990000) (fun (q : Nat × List UInt8) => [(0, .c (.str (tB q.2))), (6, (.c (.int .i64 (q.1))))]) (fun (q : Nat × List UInt8) => A ++ accO tc te sz (A.length + 1) (ss q.1)) (fun (q : Nat × List UInt8) => q.2.length) (by kernel_rfl) (fun _ => rfl) (by kernel_rfl) (by first | (simp; done) | omega) (by first | (simp; done) | (simp; omega) | omega) kl ?_ (fun q hq _ _ => ?_)
  · refine Next.mk (0, l) ⟨Nat.zero_le _, rfl, rfl, hl⟩ ?_
    dsimp only
    rw [hs0]
    exact WkL.padP [_] (by simp)
  obtain ⟨k, r⟩ := q
  obtain ⟨q1, q2, q3, q4⟩ := hq
  dsimp only at q1 q2 q3 q4 ⊢
  by_cases h0 : r = []
  · subst h0
    have hd : (lnsF l).drop k = [] := q2.symm
    have hk : (lnsF l).length ≤ k := List.drop_eq_nil_iff.1 hd
    have hke : k = (lnsF l).length := by omega
    have he : endsB l = true := decide_eq_true q3.symm
    simp (disch := first | omega | (simp only [go_sem]; first | done | omega)) only [go_sem, tB_noS]
    rw [hke]
    exact Ret.same (by simp [accO]) (hk1 (by omega) he)
  · rcases lns_step h0 with ⟨a, b, rfl, ha, hl1, hl2⟩ | ⟨hn, hl1, hl2⟩
    · rw [hl1] at q2
      have hak : (lnsF l)[k]? = some a := by
        have := congrArg List.head? q2
        rw [List.head?_drop] at this
        exact this.symm
      have hkm := getElem?_lt hak
      have hga : (lnsF l)[k] = a := by rw [List.getElem?_eq_getElem hkm] at hak; exact Option.some.inj hak
      have hnx := okC_next good (lnsF l) k hkm q1
      rw [hga] at hnx
      have hb2 : lnsF b = (lnsF l).drop (k + 1) := by
        have := congrArg List.tail q2
        rw [List.tail_drop] at this
        exact this
      rw [hl2] at q3
      rw [List.length_append, List.length_cons] at q4
      simp (disch := first | omega | (simp only [go_sem]; first | done | omega)) only [go_sem, tB_noS, h0]
      refine cut1_a (a ++ 10 :: b) 10 (by rw [List.length_append, List.length_cons]; omega) ?_
      rw [cutR_at ha]
      simp (disch := first | omega | (simp only [go_sem]; first | done | omega)) only [go_sem, hent]
      cases hgd : good a with
      | true =>
        refine hf1 k a hak hgd _ ?_
        simp (disch := first | omega | (simp only [go_sem]; first | done | omega)) only [go_sem]
        refine Next.mk (k + 1, b) ⟨⟨hnx.1 hgd, hb2, q3, by dsimp only; omega⟩, by simp only [List.length_append, List.length_cons]; omega⟩ ?_
        dsimp only
        unfold accO
        refine WkL.pickR [0, 2] 1 hA (by simp) (by simp) (by simp) ?_ (by decide) ?_ ?_ ?_
        · simp only [List.map_cons, List.map_nil, row_ren, grV_ren]
          rw [grO_ren _ _ _ (hp _), pickS_add]
          rfl
        · intro o ho
          simp only [List.mem_cons, List.not_mem_nil, or_false] at ho
          rcases ho with rfl | rfl
          · intro e he
            simp only [List.mem_cons, List.not_mem_nil, or_false] at he
            subst he
            refine ⟨rfl, fun x hx => ?_⟩
            simp only [List.mem_cons, List.not_mem_nil, or_false] at hx
            subst hx
            exact grV_ok (by simp) _
          · exact hpo (k + 1) _
        · simp (disch := first | omega | (simp only [go_sem]; first | done | omega)) only [go_sem]
          rw [show ((k : Int) + 1) = ((k + 1 : Nat) : Int) by omega]
          rfl
        · simp (disch := first | omega | (simp only [go_sem]; first | done | omega)) only [go_sem]
          intro x hx
          simp only [List.mem_cons, List.not_mem_nil, or_false] at hx
          rcases hx with rfl | rfl <;> simp [AV.ok, AV.ok1, AC.ok]
      | false =>
        have hb := hnx.2 hgd
        rw [hb] at hk2
        refine hf2 k a hak hgd _ (fun G hG => ?_)
        simp (disch := first | omega | (simp only [go_sem]; first | done | omega)) only [go_sem]
        exact Ret.same (by rw [List.length_append]; omega) (hk2 (fun e => by omega) G hG)
    · have hd : (lnsF l).drop k = [] := by rw [← q2, hl1]
      have hk : (lnsF l).length ≤ k := List.drop_eq_nil_iff.1 hd
      have hb : okC good (lnsF l) = k := by omega
      have hne : ¬ endsB l = true := fun e => h0 (by rw [← hl2, q3]; exact of_decide_eq_true e)
      rw [hb] at hk2
      simp (disch := first | omega | (simp only [go_sem]; first | done | omega)) only [go_sem, tB_noS, h0]
      refine cut1_a r 10 (by omega) ?_
      rw [cutR_no hn]
      simp (disch := first | omega | (simp only [go_sem]; first | done | omega)) only [go_sem]
      exact Ret.same (by simp [accO]) (hk2 (fun e => hne e.2) _ (by simp [accO]))
end Go.Proofs.YtflklkijfkmeiaaGreatDoor
