/- Lines of a text: base.Lines, base.Each; the reference's Lines. -/
import Derived.Test.YtflklkijfkmeiaaGreatDoorHVTxtW
namespace Go.Proofs.YtflklkijfkmeiaaGreatDoor
open Go Go.RowKit
set_option maxRecDepth 100000
set_option linter.all false
set_option maxHeartbeats 2000000
variable {H : Hp} {K : AV → Hp → Prop}
theorem splitL_snoc (c : UInt8) : ∀ b : List UInt8, splitL c (b ++ [c]) = splitL c b ++ [[]]
  | [] => by rw [List.nil_append, splitL_cons, if_pos rfl]; rfl
  | x :: t => by
    have ih := splitL_snoc c t
    rw [List.cons_append, splitL_cons, splitL_cons, ih]
    have h0 := splitL_ne c t
    cases hs : splitL c t with
    | nil => exact absurd hs h0
    | cons y r =>
      split <;> simp
theorem rem_snoc (b : List UInt8) : lnsF (b ++ [10]) = splitL 10 b ∧ remF (b ++ [10]) = [] := by
  unfold lnsF remF
  rw [splitL_snoc]
  simp
theorem splitL_lr (l : List UInt8) : splitL 10 l = lnsF l ++ [remF l] := by
  unfold lnsF remF
  have h0 := splitL_ne 10 l
  generalize splitL 10 l = s at *
  rcases List.eq_nil_or_concat s with h | ⟨t, b, rfl⟩
  · exact absurd h h0
  · rw [List.concat_eq_append]; simp
theorem rem_ne : ∀ l : List UInt8, l ≠ [] → l.getLast? ≠ some 10 → remF l ≠ []
  | [], h, _ => absurd rfl h
  | x :: t, _, h => by
    rcases cut_cases 10 (x :: t) with h1 | ⟨a, b, e, h1⟩
    · rw [(lns_no h1).2]; simp
    · rw [e] at h ⊢
      rw [(lns_cut b h1).2]
      have hb : b ≠ [] := fun e => by subst e; simp at h
      have hl : b.length < (x :: t).length := by rw [e]; simp; omega
      exact rem_ne b hb (by rw [List.getLast?_append] at h; cases b with | nil => exact absurd rfl hb | cons y r => simpa using h)
termination_by l => l.length
def endsB (l : List UInt8) : Bool := decide (remF l = [])
def lnsP (l : List UInt8) : List (List UInt8) := lnsF l ++ if endsB l then [] else [remF l]
theorem lnsP_nil : lnsP [] = [] ∧ endsB [] = true := ⟨rfl, rfl⟩
theorem lnsP_end (b : List UInt8) : lnsP (b ++ [10]) = splitL 10 b ∧ endsB (b ++ [10]) = true := by
  have h := rem_snoc b
  unfold lnsP endsB
  rw [h.1, h.2]
  simp
theorem lnsP_open {l : List UInt8} (h0 : l ≠ []) (h1 : l.getLast? ≠ some 10) : lnsP l = splitL 10 l ∧ endsB l = false := by
  have h := rem_ne l h0 h1
  have he : endsB l = false := decide_eq_false h
  unfold lnsP
  rw [he, splitL_lr]
  simp
theorem linesP_a (l : List UInt8) (hl : l.length ≤ 1000000) (hk : K (.tup [.c (.lst 1 ((lnsP l).map encTx)), (.c (.bool (endsB l)))]) H) : ACalls Tryz.prog 166 [(.c (.str (tB l)))] H K := by
  by_cases h0 : l = []
  · subst h0
    rw [lnsP_nil.1, lnsP_nil.2] at hk
    refine acalls Tryz.func166 rfl (by kernel_rfl) (by simp (disch := first | omega | (simp only [go_sem]; first | done | omega)) only [go_sem]) (fun hH => ?_)
    simp (disch := first | omega | (simp only [go_sem]; first | done | omega)) only [go_sem, tB_noS]
    have := Ret.nilT (G := []) (sz := 1) hH (Nat.le_refl _) rfl hk
    rwa [List.append_nil] at this
  refine acalls Tryz.func166 rfl (by kernel_rfl) (by simp (disch := first | omega | (simp only [go_sem]; first | done | omega)) only [go_sem]) (fun hH => ?_)
  simp (disch := first | omega | (simp only [go_sem]; first | done | omega)) only [go_sem, tB_noS, h0]
  refine cutSfx_a l 10 hl ?_
  by_cases h1 : l.getLast? = some 10
  · obtain ⟨b, rfl⟩ : ∃ b, l = b ++ [10] := by
      rcases List.eq_nil_or_concat l with rfl | ⟨t, b, rfl⟩
      · exact absurd rfl h0
      · rw [List.concat_eq_append] at h1 ⊢
        simp at h1
        exact ⟨t, by rw [h1]⟩
    rw [(lnsP_end b).1, (lnsP_end b).2] at hk
    rw [if_pos h1, decide_eq_true h1, List.dropLast_concat]
    simp (disch := first | omega | (simp only [go_sem]; first | done | omega)) only [go_sem]
    refine splitS_a b 10 (by rw [List.length_append] at hl; omega) ?_
    simp (disch := first | omega | (simp only [go_sem]; first | done | omega)) only [go_sem]
    exact Ret.same (Nat.le_refl _) hk
  · rw [(lnsP_open h0 h1).1, (lnsP_open h0 h1).2] at hk
    rw [if_neg h1, decide_eq_false h1]
    simp (disch := first | omega | (simp only [go_sem]; first | done | omega)) only [go_sem]
    refine splitS_a l 10 hl ?_
    simp (disch := first | omega | (simp only [go_sem]; first | done | omega)) only [go_sem]
    exact Ret.same (Nat.le_refl _) hk
def accO (tc te sz n : Nat) (l : List (List AC)) : Hp := [.row tc 1 [[grV n l]] true, grO te sz l]
def okC (good : List UInt8 → Bool) (L : List (List UInt8)) : Nat := (L.takeWhile good).length
theorem okC_le (good : List UInt8 → Bool) (L : List (List UInt8)) : okC good L ≤ L.length := by
  unfold okC
  have := (List.takeWhile_sublist good (l := L)).length_le
  exact this
theorem okC_next (good : List UInt8 → Bool) : ∀ (L : List (List UInt8)) (k : Nat) (h : k < L.length), k ≤ okC good L → (good L[k] = true → k + 1 ≤ okC good L) ∧ (good L[k] = false → okC good L = k)
  | x :: t, 0, _, _ => by
    unfold okC
    rw [List.takeWhile_cons]
    refine ⟨fun h => ?_, fun h => ?_⟩
    · rw [if_pos (by simpa using h)]; simp
    · rw [if_neg (by simpa using h)]; rfl
  | x :: t, k + 1, h, hk => by
    unfold okC at hk ⊢
    rw [List.takeWhile_cons] at hk ⊢
    by_cases hx : good x = true
    · rw [if_pos hx, List.length_cons] at hk ⊢
      have := okC_next good t k (by simpa using h) (by unfold okC; omega)
      unfold okC at this
      rw [List.getElem_cons_succ]
      exact ⟨fun h => by have := this.1 h; omega, fun h => by rw [this.2 h]⟩
    · rw [if_neg hx] at hk
      simp at hk
theorem each_a {A : Hp} (hA : HOk A) (f tc te sz : Nat) (l : List UInt8) (hl : l.length ≤ 1000000) (good : List UInt8 → Bool) (ss : Nat → List (List AC)) (hs0 : ss 0 = []) (hp : ∀ k, pureL (ss k) = true) (hpo : ∀ k n, (grO te sz (ss k)).okN n) (hent : entersB Tryz.prog f = true)
    (hf1 : ∀ k x, (lnsF l)[k]? = some x → good x = true → ∀ K' : AV → Hp → Prop, K' (.c (.bool true)) (A ++ [.row tc 1 [[grV (A.length + 2) (ss (k + 1))]] true, .dead, grO te sz (ss (k + 1))]) → ACalls Tryz.prog f [.c (.str (tB x)), .c (.ptr (some (A.length, 0, 0)))] (A ++ accO tc te sz (A.length + 1) (ss k)) K')
    (hf2 : ∀ k x, (lnsF l)[k]? = some x → good x = false → ∀ K' : AV → Hp → Prop, (∀ G, 1 ≤ G.length → K' (.c (.bool false)) (A ++ G)) → ACalls Tryz.prog f [.c (.str (tB x)), .c (.ptr (some (A.length, 0, 0)))] (A ++ accO tc te sz (A.length + 1) (ss k)) K')
    (hk1 : okC good (lnsF l) = (lnsF l).length → endsB l = true → K (.tup [(.c (.int .i64 0)), (.c (.bool true))]) (A ++ accO tc te sz (A.length + 1) (ss (lnsF l).length)))
    (hk2 : ¬ (okC good (lnsF l) = (lnsF l).length ∧ endsB l = true) → ∀ G, 1 ≤ G.length → K (.tup [(.c (.int .i64 (okC good (lnsF l)))), (.c (.bool false))]) (A ++ G)) :
    ACalls Tryz.prog 98 [(.c (.str (tB l))), .c (.fn f [] [(A.length, 0, 0)])] (A ++ [.row tc 1 [[.sl none 0]] true]) K := by
  refine acalls Tryz.func98 rfl (by kernel_rfl) (by simp (disch := first | omega | (simp only [go_sem]; first | done | omega)) only [go_sem]) (fun hH => ?_)
  simp (disch := first | omega | (simp only [go_sem]; first | done | omega)) only [go_sem]
  refine linesP_a l hl ?_
  have hPl : (lnsP l).length = (lnsF l).length + if endsB l then 0 else 1 := by
    unfold lnsP
    rw [List.length_append]
    split <;> rfl
  have hPg : ∀ (k : Nat) (h : k < (lnsF l).length) (h2 : k < (lnsP l).length), (lnsP l)[k] = (lnsF l)[k] := fun k h h2 => by
    have e : (lnsP l)[k]? = (lnsF l)[k]? := by
      unfold lnsP
      rw [List.getElem?_append_left h]
    rw [List.getElem?_eq_getElem h2, List.getElem?_eq_getElem h] at e
    exact Option.some.inj e
  have hle := okC_le good (lnsF l)
  have hlen : (lnsP l).length ≤ 1000001 := by
    have h1 : (lnsF l).length + 1 = (splitL 10 l).length := by rw [splitL_lr, List.length_append, List.length_singleton]
    have h2 := splitL_len 10 l
    have h3 := List.length_filter_le (fun x => decide (x = 10)) l
    rw [hPl]
    split <;> omega
  generalize lnsP l = P at *
  generalize lnsF l = M at *
  have hml : (P.map encTx).length = P.length := List.length_map ..
  simp (disch := first | omega | (simp only [go_sem]; first | done | omega)) only [go_sem, hml]
  refine AWp.loop (A.length + 1) [1, 6, 7, 15, 16] [17] (fun (k : Nat) => k ≤ P.length ∧ k ≤ okC good M) (fun (k : Nat) => [(17, (.c (.int .i64 k)))]) (fun (k : Nat) => A ++ accO tc te sz (A.length + 1) (ss k)) (fun (k : Nat) => P.length - k) (by kernel_rfl) (fun _ => rfl) (by kernel_rfl) (by first | (simp; done) | omega) (by first | (simp; done) | (simp; omega) | omega) kl ?_ (fun k q _ _ => ?_)
  · refine Next.mk 0 ⟨Nat.zero_le _, Nat.zero_le _⟩ ?_
    rw [hs0]
    exact WkL.padP [_] (by simp)
  obtain ⟨q1, q2⟩ := q
  by_cases hlt : k < P.length
  · by_cases hend : endsB l = true
    · rw [if_pos hend] at hPl
      have hkm : k < M.length := by omega
      have hn := okC_next good M k hkm q2
      have hg : (P.map encTx)[k]'(by rw [hml]; exact hlt) = [.str (tB M[k])] := by rw [getElem_tx hlt, hPg k hkm hlt]
      simp (disch := first | omega | (simp only [go_sem]; first | done | omega)) only [go_sem, hml, hlt, hend, hg, hent]
      rw [hPg k hkm hlt]
      cases hgd : good M[k] with
      | true =>
        refine hf1 k M[k] (List.getElem?_eq_getElem hkm) hgd _ ?_
        simp (disch := first | omega | (simp only [go_sem]; first | done | omega)) only [go_sem]
        refine Next.mk (k + 1) ⟨⟨by omega, hn.1 hgd⟩, by omega⟩ ?_
        unfold accO
        refine WkL.pickR [0, 2] 1 hA (by simp) (by simp) (by simp) ?_ (by decide) ?_ ?_ ?_
        · simp only [List.map_cons, List.map_nil, row_ren, grV_ren]
          rw [grO_ren _ _ _ (hp _), pickS_add]
          rfl
        · intro o ho
          simp only [List.mem_cons, List.not_mem_nil, or_false] at ho
          rcases ho with rfl | rfl
          · intro e he
            simp only [List.mem_cons, List.not_mem_nil, or_false] at he
            subst he
            refine ⟨rfl, fun x hx => ?_⟩
            simp only [List.mem_cons, List.not_mem_nil, or_false] at hx
            subst hx
            exact grV_ok (by simp) _
          · exact hpo (k + 1) _
        · simp (disch := first | omega | (simp only [go_sem]; first | done | omega)) only [go_sem]
          rw [show ((k : Int) + 1) = ((k + 1 : Nat) : Int) by omega]
          rfl
        · simp (disch := first | omega | (simp only [go_sem]; first | done | omega)) only [go_sem]
          intro x hx
          rw [List.mem_singleton] at hx
          subst hx
          simp [AV.ok, AV.ok1, AC.ok]
      | false =>
        have hb := hn.2 hgd
        rw [hb] at hk2
        refine hf2 k M[k] (List.getElem?_eq_getElem hkm) hgd _ (fun G hG => ?_)
        simp (disch := first | omega | (simp only [go_sem]; first | done | omega)) only [go_sem]
        exact Ret.same (by rw [List.length_append]; omega) (hk2 (fun e => by omega) G hG)
    · have hend' : endsB l = false := by simpa using hend
      rw [if_neg hend] at hPl
      by_cases hkm : k < M.length
      · have hn := okC_next good M k hkm q2
        have hg : (P.map encTx)[k]'(by rw [hml]; exact hlt) = [.str (tB M[k])] := by rw [getElem_tx hlt, hPg k hkm hlt]
        have hne : ¬ (k : Int) = (P.length : Int) - 1 := by omega
        simp (disch := first | omega | (simp only [go_sem]; first | done | omega)) only [go_sem, hml, hlt, hend', hg, hent, hne]
        rw [hPg k hkm hlt]
        cases hgd : good M[k] with
        | true =>
          refine hf1 k M[k] (List.getElem?_eq_getElem hkm) hgd _ ?_
          simp (disch := first | omega | (simp only [go_sem]; first | done | omega)) only [go_sem]
          refine Next.mk (k + 1) ⟨⟨by omega, hn.1 hgd⟩, by omega⟩ ?_
          unfold accO
          refine WkL.pickR [0, 2] 1 hA (by simp) (by simp) (by simp) ?_ (by decide) ?_ ?_ ?_
          · simp only [List.map_cons, List.map_nil, row_ren, grV_ren]
            rw [grO_ren _ _ _ (hp _), pickS_add]
            rfl
          · intro o ho
            simp only [List.mem_cons, List.not_mem_nil, or_false] at ho
            rcases ho with rfl | rfl
            · intro e he
              simp only [List.mem_cons, List.not_mem_nil, or_false] at he
              subst he
              refine ⟨rfl, fun x hx => ?_⟩
              simp only [List.mem_cons, List.not_mem_nil, or_false] at hx
              subst hx
              exact grV_ok (by simp) _
            · exact hpo (k + 1) _
          · simp (disch := first | omega | (simp only [go_sem]; first | done | omega)) only [go_sem]
            rw [show ((k : Int) + 1) = ((k + 1 : Nat) : Int) by omega]
            rfl
          · simp (disch := first | omega | (simp only [go_sem]; first | done | omega)) only [go_sem]
            intro x hx
            rw [List.mem_singleton] at hx
            subst hx
            simp [AV.ok, AV.ok1, AC.ok]
        | false =>
          have hb := hn.2 hgd
          rw [hb] at hk2
          refine hf2 k M[k] (List.getElem?_eq_getElem hkm) hgd _ (fun G hG => ?_)
          simp (disch := first | omega | (simp only [go_sem]; first | done | omega)) only [go_sem]
          exact Ret.same (by rw [List.length_append]; omega) (hk2 (fun e => by omega) G hG)
      · have hkl : k = M.length := by omega
        have hne : (k : Int) = (P.length : Int) - 1 := by omega
        have hb : okC good M = k := by omega
        rw [hb] at hk2
        simp (disch := first | omega | (simp only [go_sem]; first | done | omega)) only [go_sem, hml, hlt, hend', hent, hne]
        rw [show (P.length : Int) - 1 = (k : Int) by omega]
        exact Ret.same (by simp [accO]) (hk2 (fun e => hend e.2) _ (by simp [accO]))
  · have hkl : k = P.length := by omega
    simp (disch := first | omega | (simp only [go_sem]; first | done | omega)) only [go_sem, hml, hlt]
    by_cases hend : endsB l = true
    · rw [if_pos hend] at hPl
      have hkm : k = M.length := by omega
      rw [hkm]
      exact Ret.same (by simp [accO]) (hk1 (by omega) hend)
    · rw [if_neg hend] at hPl
      omega
end Go.Proofs.YtflklkijfkmeiaaGreatDoor
