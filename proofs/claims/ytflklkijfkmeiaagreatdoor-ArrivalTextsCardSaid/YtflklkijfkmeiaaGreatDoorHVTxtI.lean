/- The reference reads samples. -/
import Derived.Test.YtflklkijfkmeiaaGreatDoorHVTxtH
import Derived.Test.YtflklkijfkmeiaaGreatDoorHCoreDrawN
namespace Go.Proofs.YtflklkijfkmeiaaGreatDoor
open Go Go.RowKit
set_option maxRecDepth 100000
set_option linter.all false
set_option maxHeartbeats 2000000
variable {H : Hp} {K : AV → Hp → Prop}
theorem rdW_and (a b c : List UInt8) : (rdW [a, b, c]).isSome = (([a, b].all fun w => (numF w 15).isSome) && (wordQ c).isSome) := by
  unfold rdW
  simp only [List.all_cons, List.all_nil, Bool.and_true]
  cases numF a 15 <;> cases numF b 15 <;> cases wordQ c <;> rfl
def ix3 (s a b c : ByteArray) : Int := if s = a then 0 else if s = b then 1 else if s = c then 2 else -1
def domIx (f : FuncId) : Bool := Nat.beq f 165 || Nat.beq f 174
def spIx (f : FuncId) (args : List AV) : Option AV := match args with
  | [] => if Nat.beq f 165 = true then some (.c (.lst 1 ([wGood, wUnc, wBad].map encTx))) else none
  | [.c (.lst 1 [[.str a], [.str b], [.str c]]), .c (.str s)] => if Nat.beq f 174 = true then some (.c (.int .i64 (ix3 s a b c))) else none
  | _ => none
@[go_sem] theorem domIx_q : domIx 165 = true := (rfl)
@[go_sem] theorem domIx_i : domIx 174 = true := (rfl)
@[go_sem] theorem spIx_q : spIx 165 [] = some (.c (.lst 1 ([wGood, wUnc, wBad].map encTx))) := (rfl)
@[go_sem] theorem spIx_i (a b c s : ByteArray) : spIx 174 [.c (.lst 1 [[.str a], [.str b], [.str c]]), .c (.str s)] = some (.c (.int .i64 (ix3 s a b c))) := (rfl)
theorem ix3_of (s a b c : ByteArray) (r : Int) (h : tL s ∉ [tL a, tL b, tL c] ∧ r = -1 ∨ ∃ k : Nat, [tL a, tL b, tL c][k]? = some (tL s) ∧ r = k ∧ ∀ j : Nat, j < k → [tL a, tL b, tL c][j]? ≠ some (tL s)) : r = ix3 s a b c := by
  have hin : ∀ x y : ByteArray, tL x = tL y ↔ x = y := fun x y => ⟨tL_inj, fun h => by rw [h]⟩
  unfold ix3
  rcases h with ⟨h, rfl⟩ | ⟨k, h1, rfl, h2⟩
  · rw [if_neg (fun e => h (by simp [e])), if_neg (fun e => h (by simp [e])), if_neg (fun e => h (by simp [e]))]
  · match k, h1, h2 with
    | 0, h1, _ => injection h1 with h1; rw [if_pos ((hin _ _).1 h1.symm)]; rfl
    | 1, h1, h2 =>
      injection h1 with h1
      rw [if_neg (fun e => h2 0 (by omega) (by rw [e]; rfl)), if_pos ((hin _ _).1 h1.symm)]; rfl
    | 2, h1, h2 =>
      injection h1 with h1
      rw [if_neg (fun e => h2 0 (by omega) (by rw [e]; rfl)), if_neg (fun e => h2 1 (by omega) (by rw [e]; rfl)), if_pos ((hin _ _).1 h1.symm)]; rfl
    | k + 3, h1, _ => simp at h1
theorem specIx_ok : SpecOk Tryz.prog domIx spIx := by
  intro f args v H K hd hs hk
  unfold spIx at hs
  split at hs
  · split at hs
    · rename_i hw
      have hf := Nat.eq_of_beq_eq_true hw
      subst hf
      injection hs with hs
      subst hs
      exact ⟨by kernel_rfl, rfl, words3_a hk⟩
    · cases hs
  · rename_i a b c s
    split at hs
    · rename_i hw
      have hf := Nat.eq_of_beq_eq_true hw
      subst hf
      injection hs with hs
      subst hs
      refine ⟨by kernel_rfl, rfl, ?_⟩
      exact indexW_a [tL a, tL b, tL c] (tL s) (by simp) (fun r hr => by rw [ix3_of s a b c r hr]; exact hk)
    · cases hs
  · cases hs
theorem ix3_Q (c : List UInt8) : (wordQ c = none ∧ ix3 (tB c) (tB wGood) (tB wUnc) (tB wBad) = -1) ∨ (wordQ c = some (ix3 (tB c) (tB wGood) (tB wUnc) (tB wBad)) ∧ 0 ≤ ix3 (tB c) (tB wGood) (tB wUnc) (tB wBad)) := by
  unfold ix3 wordQ
  simp only [tB_inj]
  split
  · exact .inr ⟨rfl, by decide⟩
  · split
    · exact .inr ⟨rfl, by decide⟩
    · split
      · exact .inr ⟨rfl, by decide⟩
      · exact .inl ⟨rfl, rfl⟩
theorem sampleIn_a (ws : List (List UInt8)) (hw : ws.length ≤ 1000000) (hl : ∀ w ∈ ws, w.length ≤ 1000000) (hk : ∀ y : Smp, (∀ s, rdW ws = some s → y = s) → K (.tup [.agg (encS y), (.c (.bool ((rdW ws).isSome)))]) H) : ACalls Tryz.prog 105 [.c (.lst 1 (ws.map encTx))] H K := by
  have hml : (ws.map encTx).length = ws.length := List.length_map ..
  by_cases h3 : ws.length = 3
  · obtain ⟨a, b, c, rfl⟩ := three h3
    have hra := rdW_and a b c
    refine acalls Tryz.func105 rfl (by kernel_rfl) (by simp (disch := first | omega | (simp only [go_sem]; first | done | omega)) only [go_sem]) (fun hH => ?_)
    simp (disch := first | omega | (simp only [go_sem]; first | done | omega)) only [go_sem]
    refine numsQ_a [a, b] (by simp) (by intro w hm; simp at hm; rcases hm with rfl | rfl; exact hl _ (by simp); exact hl _ (by simp)) (fun vs hv1 hv2 => ?_)
    obtain ⟨u, v, rfl⟩ : ∃ u v, vs = [u, v] := by
      match vs, hv1 with
      | [u, v], _ => exact ⟨u, v, rfl⟩
    have hu : ∀ n, numF a 15 = some n → u = n := fun n hn => by have := hv2 0 a n rfl hn; exact Option.some.inj this
    have hvv : ∀ n, numF b 15 = some n → v = n := fun n hn => by have := hv2 1 b n rfl hn; exact Option.some.inj this
    have hy : ∀ r : Int, (∀ q, wordQ c = some q → r = q) → ∀ s, rdW [a, b, c] = some s → (⟨u, v, r⟩ : Smp) = s := by
      intro r hr s hs
      unfold rdW at hs
      simp only at hs
      split at hs
      · rename_i t v' q e1 e2 e3
        injection hs with hs
        rw [hu _ e1, hvv _ e2, hr _ e3, hs]
      · cases hs
    generalize ([a, b].all fun w => (numF w 15).isSome) = bb at *
    simp (disch := first | omega | (simp only [go_sem]; first | done | omega)) only [go_sem]
    refine w_drawN (dom := domIx) (sp := spIx) (P := Tryz.prog) specIx_ok (by kernel_rfl) (by decide +kernel) ?_
    simp (disch := first | omega | (simp only [go_sem]; first | done | omega)) only [go_sem]
    have hix := ix3_Q c
    generalize ix3 (tB c) (tB wGood) (tB wUnc) (tB wBad) = r at *
    have hfin : ∀ (bq : Bool) (G : Hp), (rdW [a, b, c]).isSome = bq → Ret H.length (.tup [.agg [.int .i64 u, .int .i64 v, .int .i64 r], (.c (.bool bq))]) (H ++ G) K := fun bq G he => by
      have h1 := hk ⟨u, v, r⟩ (hy r (fun q hq => by
        rcases hix with ⟨h1, _⟩ | ⟨h1, _⟩
        · rw [h1] at hq; cases hq
        · rw [h1] at hq; exact Option.some.inj hq))
      rw [he] at h1
      exact Ret.drop hH (Nat.le_refl _) (by simp [AV.ok, AV.ok1, AC.ok]) h1
    refine w_tree (.one 0 (.one 1 (.one 2 (.one 3 (.two 4 (.one 5 (.one 6 (.one 7 (.one 8 .done)))) 7 (.one 4 (.one 5 (.one 6 (.one 8 .done))))))))) (by kernel_rfl) (by decide +kernel) ?_
    cases bb with
    | false =>
      simp (disch := first | omega | (simp only [go_sem]; first | done | omega)) only [go_sem]
      exact hfin false _ (by rw [hra]; rfl)
    | true =>
      rcases hix with ⟨h1, rfl⟩ | ⟨h1, h2⟩
      · simp (disch := first | omega | (simp only [go_sem]; first | done | omega)) only [go_sem]
        exact hfin false _ (by rw [hra, h1]; rfl)
      · simp (disch := first | omega | (simp only [go_sem]; first | done | omega)) only [go_sem, h2]
        exact hfin true _ (by rw [hra, h1]; rfl)
  · have hr : rdW ws = none := by
      cases h : rdW ws with
      | none => rfl
      | some y => exact absurd (rdW_ne h).1 h3
    have h3' : ¬ (ws.length : Int) = 3 := by omega
    rw [hr] at hk
    refine acalls Tryz.func105 rfl (by kernel_rfl) (by simp (disch := first | omega | (simp only [go_sem]; first | done | omega)) only [go_sem]) (fun hH => ?_)
    simp (disch := first | omega | (simp only [go_sem]; first | done | omega)) only [go_sem, hml, h3']
    exact Ret.drop hH (Nat.le_refl _) (by simp [AV.ok, AV.ok1, AC.ok]) (hk ⟨0, 0, 0⟩ (fun s hs => by cases hs))
end Go.Proofs.YtflklkijfkmeiaaGreatDoor
