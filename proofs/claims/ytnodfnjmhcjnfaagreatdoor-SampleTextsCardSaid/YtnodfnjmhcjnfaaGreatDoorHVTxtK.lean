/- The reference reads lines, and a text of samples. -/
import Derived.Test.YtnodfnjmhcjnfaaGreatDoorHVTxtI
namespace Go.Proofs.YtnodfnjmhcjnfaaGreatDoor
open Go Go.RowKit
set_option maxRecDepth 100000
set_option linter.all false
set_option maxHeartbeats 2000000
variable {H : Hp} {K : AV → Hp → Prop}
theorem readQ_a {A : Hp} (hA : HOk A) (l : List Smp) (x : List UInt8) (hx : x.length ≤ 999000) (hl : l.length ≤ 1000001)
    (hk1 : goodL x = true → K (.c (.bool true)) (A ++ [.row 26 1 [[grV (A.length + 2) ((l ++ [(rdLine x).getD ⟨0, 0, 0⟩]).map encS)]] true, .dead, grO 38 3 ((l ++ [(rdLine x).getD ⟨0, 0, 0⟩]).map encS)]))
    (hk2 : goodL x = false → ∀ G, 1 ≤ G.length → K (.c (.bool false)) (A ++ G)) : ACalls Tryz.prog 91 [.c (.str (tB x)), .c (.ptr (some (A.length, 0, 0)))] (A ++ accO 26 38 3 (A.length + 1) (l.map encS)) K := by
  have hmem := splitL_mem 32 x
  have hlen := splitL_le 32 x
  have hg : goodL x = (rdW (splitL 32 x)).isSome := rfl
  have hrd : rdLine x = rdW (splitL 32 x) := rfl
  refine acalls Tryz.func91 rfl (by kernel_rfl) (by simp (disch := first | omega | (simp only [go_sem]; first | done | omega)) only [go_sem]) (fun hH => ?_)
  simp (disch := first | omega | (simp only [go_sem]; first | done | omega)) only [go_sem]
  refine wordsQ_a x (by omega) ?_
  generalize splitL 32 x = ws at *
  unfold accO
  simp (disch := first | omega | (simp only [go_sem]; first | done | omega)) only [go_sem]
  refine sampleIn_a ws (by omega) (fun w hw => by have := hmem w hw; omega) (fun z hz => ?_)
  have hgw : (rdW ws).isSome = true → decide ([] ∈ ws) = false := fun h => by
    obtain ⟨y, hy⟩ := Option.isSome_iff_exists.1 h
    exact decide_eq_false (rdW_ne hy).2
  simp (disch := first | omega | (simp only [go_sem]; first | done | omega)) only [go_sem]
  rw [map_grV]
  obtain ⟨l2, hl2⟩ : ∃ l2, l2 = l ++ [z] := ⟨_, rfl⟩
  refine appSmp l z l2 hl2 (at1 (by simp)) (at3 (by simp)) (by omega) ?_
  rw [← hg] at hgw ⊢
  cases hgd : goodL x with
  | false =>
    generalize decide ([] ∈ ws) = bb at *
    cases bb
    · simp (disch := first | omega | (simp only [go_sem]; first | done | omega)) only [go_sem]
      exact Ret.same (by simp) (hk2 hgd _ (by simp))
    · simp (disch := first | omega | (simp only [go_sem]; first | done | omega)) only [go_sem]
      exact Ret.same (by simp) (hk2 hgd _ (by simp))
  | true =>
    obtain ⟨y, hy⟩ := Option.isSome_iff_exists.1 (hg.symm.trans hgd)
    have hzy := hz y hy
    have hk3 := hk1 hgd
    rw [hrd, hy, Option.getD_some, ← hzy, ← hl2] at hk3
    rw [hgw hgd]
    simp (disch := first | omega | (simp only [go_sem]; first | done | omega)) only [go_sem]
    intro _ _
    have hid : ∀ j, j < 2 → ([0, 1, 4] : List Nat).getD j 0 = j := by decide
    refine ⟨_, _, WkL.pickR (vs' := [(.c (.bool true))]) [0, 1, 4] 2 (L := [.row 26 1 [[grV (A.length + 2) (l2.map encS)]] true, .dead, grO 38 3 (l2.map encS)]) hA (Nat.le_refl _) (by simp) hid ?_ (by decide) ?_ ?_ ?_, hk3⟩
    · simp only [List.map_cons, List.map_nil, row_ren, grV_ren, map_grV]
      rw [grO_ren _ _ _ (pureL_map _ (fun x => by simp [go_sem, AC.pure])), pickS_add]
      rfl
    · intro o ho
      simp only [List.mem_cons, List.not_mem_nil, or_false] at ho
      rcases ho with rfl | rfl | rfl
      · intro e he
        simp only [List.mem_cons, List.not_mem_nil, or_false] at he
        subst he
        refine ⟨rfl, fun x hx => ?_⟩
        simp only [List.mem_cons, List.not_mem_nil, or_false] at hx
        subst hx
        exact grV_ok (by simp) _
      · trivial
      · exact okN_grO (fun x => by simp [go_sem, AC.pure])
    · rfl
    · intro x hx
      rw [List.mem_singleton] at hx
      subst hx
      simp [AV.ok, AV.ok1, AC.ok]
theorem lns_step {l : List UInt8} (h : l ≠ []) : (∃ a b, l = a ++ 10 :: b ∧ (10 : UInt8) ∉ a ∧ lnsF l = a :: lnsF b ∧ remF l = remF b) ∨ ((10 : UInt8) ∉ l ∧ lnsF l = [] ∧ remF l = l) := by
  rcases cut_cases 10 l with h1 | ⟨a, b, rfl, h1⟩
  · exact .inr ⟨h1, lns_no h1⟩
  · exact .inl ⟨a, b, rfl, h1, lns_cut b h1⟩
theorem linesQ_a {A : Hp} (hA : HOk A) (f tc te sz : Nat) (l : List UInt8) (hl : l.length ≤ 990000) (good : List UInt8 → Bool) (ss : Nat → List (List AC)) (hs0 : ss 0 = []) (hp : ∀ k, pureL (ss k) = true) (hpo : ∀ k n, (grO te sz (ss k)).okN n) (hent : entersB Tryz.prog f = true)
    (hf1 : ∀ k x, (lnsF l)[k]? = some x → good x = true → ∀ K' : AV → Hp → Prop, K' (.c (.bool true)) (A ++ [.row tc 1 [[grV (A.length + 2) (ss (k + 1))]] true, .dead, grO te sz (ss (k + 1))]) → ACalls Tryz.prog f [.c (.str (tB x)), .c (.ptr (some (A.length, 0, 0)))] (A ++ accO tc te sz (A.length + 1) (ss k)) K')
    (hf2 : ∀ k x, (lnsF l)[k]? = some x → good x = false → ∀ K' : AV → Hp → Prop, (∀ G, 1 ≤ G.length → K' (.c (.bool false)) (A ++ G)) → ACalls Tryz.prog f [.c (.str (tB x)), .c (.ptr (some (A.length, 0, 0)))] (A ++ accO tc te sz (A.length + 1) (ss k)) K')
    (hk1 : okC good (lnsF l) = (lnsF l).length → endsB l = true → K (.tup [(.c (.int .i64 0)), (.c (.bool true))]) (A ++ accO tc te sz (A.length + 1) (ss (lnsF l).length)))
    (hk2 : ¬ (okC good (lnsF l) = (lnsF l).length ∧ endsB l = true) → ∀ G, 1 ≤ G.length → K (.tup [(.c (.int .i64 (okC good (lnsF l)))), (.c (.bool false))]) (A ++ G)) :
    ACalls Tryz.prog 90 [(.c (.str (tB l))), .c (.fn f [] [(A.length, 0, 0)])] (A ++ [.row tc 1 [[.sl none 0]] true]) K := by
  have hle := okC_le good (lnsF l)
  have hlen := lns_len l
  refine acalls Tryz.func90 rfl (by kernel_rfl) (by simp (disch := first | omega | (simp only [go_sem]; first | done | omega)) only [go_sem]) (fun hH => ?_)
  simp (disch := first | omega | (simp only [go_sem]; first | done | omega)) only [go_sem]
  refine AWp.loop (A.length + 1) [1] [0, 6] (fun (q : Nat × List UInt8) => q.1 ≤ okC good (lnsF l) ∧ lnsF q.2 = (lnsF l).drop q.1 ∧ remF q.2 = remF l ∧ q.2.length ≤ 990000) (fun (q : Nat × List UInt8) => [(0, .c (.str (tB q.2))), (6, (.c (.int .i64 (q.1))))]) (fun (q : Nat × List UInt8) => A ++ accO tc te sz (A.length + 1) (ss q.1)) (fun (q : Nat × List UInt8) => q.2.length) (by kernel_rfl) (fun _ => rfl) (by kernel_rfl) (by first | (simp; done) | omega) (by first | (simp; done) | (simp; omega) | omega) kl ?_ (fun q hq _ _ => ?_)
  · refine Next.mk (0, l) ⟨Nat.zero_le _, rfl, rfl, hl⟩ ?_
    dsimp only
    rw [hs0]
    exact WkL.padP [_] (by simp)
  obtain ⟨k, r⟩ := q
  obtain ⟨q1, q2, q3, q4⟩ := hq
  dsimp only at q1 q2 q3 q4 ⊢
  by_cases h0 : r = []
  · subst h0
    have hd : (lnsF l).drop k = [] := q2.symm
    have hk : (lnsF l).length ≤ k := List.drop_eq_nil_iff.1 hd
    have hke : k = (lnsF l).length := by omega
    have he : endsB l = true := decide_eq_true q3.symm
    simp (disch := first | omega | (simp only [go_sem]; first | done | omega)) only [go_sem, tB_noS]
    rw [hke]
    exact Ret.same (by simp [accO]) (hk1 (by omega) he)
  · rcases lns_step h0 with ⟨a, b, rfl, ha, hl1, hl2⟩ | ⟨hn, hl1, hl2⟩
    · rw [hl1] at q2
      have hak : (lnsF l)[k]? = some a := by
        have := congrArg List.head? q2
        rw [List.head?_drop] at this
        exact this.symm
      have hkm := getElem?_lt hak
      have hga : (lnsF l)[k] = a := by rw [List.getElem?_eq_getElem hkm] at hak; exact Option.some.inj hak
      have hnx := okC_next good (lnsF l) k hkm q1
      rw [hga] at hnx
      have hb2 : lnsF b = (lnsF l).drop (k + 1) := by
        have := congrArg List.tail q2
        rw [List.tail_drop] at this
        exact this
      rw [hl2] at q3
      rw [List.length_append, List.length_cons] at q4
      simp (disch := first | omega | (simp only [go_sem]; first | done | omega)) only [go_sem, tB_noS, h0]
      refine cut1_a (a ++ 10 :: b) 10 (by rw [List.length_append, List.length_cons]; omega) ?_
      rw [cutR_at ha]
      simp (disch := first | omega | (simp only [go_sem]; first | done | omega)) only [go_sem, hent]
      cases hgd : good a with
      | true =>
        refine hf1 k a hak hgd _ ?_
        simp (disch := first | omega | (simp only [go_sem]; first | done | omega)) only [go_sem]
        refine Next.mk (k + 1, b) ⟨⟨hnx.1 hgd, hb2, q3, by dsimp only; omega⟩, by simp only [List.length_append, List.length_cons]; omega⟩ ?_
        dsimp only
        unfold accO
        refine WkL.pickR [0, 2] 1 hA (by simp) (by simp) (by simp) ?_ (by decide) ?_ ?_ ?_
        · simp only [List.map_cons, List.map_nil, row_ren, grV_ren]
          rw [grO_ren _ _ _ (hp _), pickS_add]
          rfl
        · intro o ho
          simp only [List.mem_cons, List.not_mem_nil, or_false] at ho
          rcases ho with rfl | rfl
          · intro e he
            simp only [List.mem_cons, List.not_mem_nil, or_false] at he
            subst he
            refine ⟨rfl, fun x hx => ?_⟩
            simp only [List.mem_cons, List.not_mem_nil, or_false] at hx
            subst hx
            exact grV_ok (by simp) _
          · exact hpo (k + 1) _
        · simp (disch := first | omega | (simp only [go_sem]; first | done | omega)) only [go_sem]
          rw [show ((k : Int) + 1) = ((k + 1 : Nat) : Int) by omega]
          rfl
        · simp (disch := first | omega | (simp only [go_sem]; first | done | omega)) only [go_sem]
          intro x hx
          simp only [List.mem_cons, List.not_mem_nil, or_false] at hx
          rcases hx with rfl | rfl <;> simp [AV.ok, AV.ok1, AC.ok]
      | false =>
        have hb := hnx.2 hgd
        rw [hb] at hk2
        refine hf2 k a hak hgd _ (fun G hG => ?_)
        simp (disch := first | omega | (simp only [go_sem]; first | done | omega)) only [go_sem]
        exact Ret.same (by rw [List.length_append]; omega) (hk2 (fun e => by omega) G hG)
    · have hd : (lnsF l).drop k = [] := by rw [← q2, hl1]
      have hk : (lnsF l).length ≤ k := List.drop_eq_nil_iff.1 hd
      have hb : okC good (lnsF l) = k := by omega
      have hne : ¬ endsB l = true := fun e => h0 (by rw [← hl2, q3]; exact of_decide_eq_true e)
      rw [hb] at hk2
      simp (disch := first | omega | (simp only [go_sem]; first | done | omega)) only [go_sem, tB_noS, h0]
      refine cut1_a r 10 (by omega) ?_
      rw [cutR_no hn]
      simp (disch := first | omega | (simp only [go_sem]; first | done | omega)) only [go_sem]
      exact Ret.same (by simp [accO]) (hk2 (fun e => hne e.2) _ (by simp [accO]))
theorem readR_a (l : List UInt8) (hl : l.length ≤ 990000) (hk : K (.tup [.c (.lst 3 ((txtR l).1.map encS)), (.c (.int .i64 ((txtR l).2.1))), (.c (.int .i64 ((txtR l).2.2)))]) H) : ACalls Tryz.prog 17 [(.c (.str (tB l)))] H K := by
  have hsz := tB_size l
  by_cases h1 : 200000 < l.length
  · rw [show txtR l = ([], 0, 2) by unfold txtR; rw [if_pos h1]] at hk
    refine acalls Tryz.func17 rfl (by kernel_rfl) (by simp (disch := first | omega | (simp only [go_sem]; first | done | omega)) only [go_sem]) (fun hH => ?_)
    simp (disch := first | omega | (simp only [go_sem]; first | done | omega)) only [go_sem, hsz, h1]
    have := Ret.nilT (G := []) (sz := 3) hH (Nat.le_refl _) rfl hk
    rwa [List.append_nil] at this
  have hlen := lns_len l
  refine acalls Tryz.func17 rfl (by kernel_rfl) (by simp (disch := first | omega | (simp only [go_sem]; first | done | omega)) only [go_sem]) (fun hH => ?_)
  simp (disch := first | omega | (simp only [go_sem]; first | done | omega)) only [go_sem, hsz, h1]
  refine linesQ_a hH 91 26 38 3 l hl goodL (fun k => (ssR (lnsF l) k).map encS) rfl (fun k => encS_pure _) (fun k n => okN_grO (fun x => by simp [go_sem, AC.pure])) (by kernel_rfl) (fun k x hx hg K' hK' => ?_) (fun k x hx hg K' hK' => ?_) (fun hall hend => ?_) (fun hbad G hG => ?_)
  · have hxl := lns_mem l x (List.mem_of_getElem? hx)
    have hkl : (ssR (lnsF l) k).length ≤ k := by unfold ssR; rw [List.length_map, List.length_take]; omega
    have hkk := getElem?_lt hx
    rw [ssR_next hx] at hK'
    exact readQ_a hH (ssR (lnsF l) k) x (by omega) (by omega) (fun _ => hK') (fun h => by rw [hg] at h; cases h)
  · have hxl := lns_mem l x (List.mem_of_getElem? hx)
    have hkl : (ssR (lnsF l) k).length ≤ k := by unfold ssR; rw [List.length_map, List.length_take]; omega
    have hkk := getElem?_lt hx
    exact readQ_a hH (ssR (lnsF l) k) x (by omega) (by omega) (fun h => by rw [hg] at h; cases h) (fun _ => hK')
  · have hrem : remF l = [] := of_decide_eq_true hend
    rw [ssR_all _ hall]
    have hok : ¬ okLn rdLine (lnsF l) < (lnsF l).length := by
      have : okLn rdLine (lnsF l) = okC goodL (lnsF l) := rfl
      omega
    unfold txtR at hk
    rw [if_neg h1, if_neg hok, if_neg (by simp [hrem])] at hk
    have hfl := List.length_filterMap_le rdLine (lnsF l)
    generalize (lnsF l).filterMap rdLine = S at *
    unfold accO
    simp (disch := first | omega | (simp only [go_sem]; first | done | omega)) only [go_sem]
    rw [map_grV]
    refine ACalls.frzGr (els := S.map encS) (by first | ((repeat first | exact at0 (by simp) | refine atS ?_); done) | assumption) (by simp) (encS_pure S) rfl ?_
    refine seriesFault_a S (by omega) ?_
    by_cases h2 : serF S = 0
    · rw [if_neg (by simp [h2]), h2] at *
      simp (disch := first | omega | (simp only [go_sem]; first | done | omega)) only [go_sem]
      exact Ret.frzFT (ty := 38) 1 hH (Nat.le_refl _) rfl (encS_pure S) rfl (map_grV _ _ _).symm hk
    · rw [if_pos h2] at hk
      simp (disch := first | omega | (simp only [go_sem]; first | done | omega)) only [go_sem, h2]
      exact Ret.nilT hH (Nat.le_refl _) rfl hk
  · unfold txtR at hk
    rw [if_neg h1] at hk
    have : okLn rdLine (lnsF l) = okC goodL (lnsF l) := rfl
    have hle := okC_le goodL (lnsF l)
    by_cases h3 : okLn rdLine (lnsF l) < (lnsF l).length
    · rw [if_pos h3, this] at hk
      simp (disch := first | omega | (simp only [go_sem]; first | done | omega)) only [go_sem]
      exact Ret.nilT hH (Nat.le_refl _) rfl hk
    · rw [if_neg h3] at hk
      have h4 : okC goodL (lnsF l) = (lnsF l).length := by omega
      have h5 : remF l ≠ [] := fun e => hbad ⟨h4, decide_eq_true e⟩
      rw [if_pos h5] at hk
      simp (disch := first | omega | (simp only [go_sem]; first | done | omega)) only [go_sem]
      rw [h4]
      exact Ret.nilT hH (Nat.le_refl _) rfl hk
end Go.Proofs.YtnodfnjmhcjnfaaGreatDoor
