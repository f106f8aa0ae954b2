/- SizeOf: the document. Condition: names are not longer than a machine holds. -/
import Derived.Test.YtnodfnjmhcjnfaaGreatHVSizM
import Derived.Test.YtnodfnjmhcjnfaaGreatHVEncoded
namespace Go.Proofs.YtnodfnjmhcjnfaaGreat
open Go Go.RowKit
set_option maxRecDepth 100000
set_option linter.all false
set_option maxHeartbeats 20000000
variable {H : Hp} {K : AV → Hp → Prop}
theorem sizeOf_a (tag : ByteArray) (l : List Smp) (ht : tag.size ≤ 1099511627776) (hl : l.length ≤ 1099511627776) (hk0 : sizE tag l ≠ 0 → K (.tup [(.c (.int .i64 0)), (.c (.int .i64 (sizE tag l)))]) H)
    (hk1 : sizE tag l = 0 → ∀ m, IsMin (cB tag l) 0 l.length m → K (.tup [(.c (.int .i64 m)), (.c (.int .i64 0))]) H) : ACalls Tryz.prog 17 [(.c (.str tag)), .c (.lst 3 (l.map encS))] H K := by
  unfold sizE at hk0 hk1
  refine acalls Tryz.func17 rfl (by kernel_rfl) (by simp (disch := first | omega | (simp only [go_sem]; first | done | omega)) only [go_sem]) (fun hH => ?_)
  simp (disch := first | omega | (simp only [go_sem]; first | done | omega)) only [go_sem]
  refine keyR_a tag ht ?_
  by_cases hky : isKey tag
  rotate_left
  · rw [if_neg hky] at hk0
    have hk := hk0 (by decide)
    rw [decide_eq_false hky]
    simp (disch := first | omega | (simp only [go_sem]; first | done | omega)) only [go_sem]
    exact Ret.same (by simp) hk
  rw [if_pos hky] at hk0 hk1
  rw [decide_eq_true hky]
  simp (disch := first | omega | (simp only [go_sem]; first | done | omega)) only [go_sem]
  refine seriesFault_a l hl ?_
  by_cases hs : serF l = 0
  rotate_left
  · have hk := hk0 hs
    simp (disch := first | omega | (simp only [go_sem]; first | done | omega)) only [go_sem, hs]
    exact Ret.same (by simp) hk
  have hk := hk1 hs
  clear hk0 hk1
  have hl5 := ((serP_iff l).1 hs).1
  have hsm := serF_sml hs
  have ht0 : 0 < tag.size := by have := hky.1; omega
  have hk40 : tag.size ≤ 40 := hky.2.1
  have hcle : ∀ i j, j ≤ i + 100 → cB tag l i j ≤ 2000 := fun i j h => cB_le hk40 hsm h
  have hcnn := cB_nn tag l
  have hbd : ∀ k m, k ≤ l.length → IsMin (cB tag l) 0 k m → 0 ≤ m ∧ m ≤ 10000000 := fun k m h1 h2 => by
    have := isMin_bd hcnn (fun i hi => hcle i (i + 1) (by omega)) (Nat.zero_le k) h2
    omega
  simp (disch := first | omega | (simp only [go_sem]; first | done | omega)) only [go_sem, hs]
  refine AWp.loop (H.length) [0, 1] [7, 8] (fun (L : List Int) => 1 ≤ L.length ∧ L.length ≤ l.length + 1 ∧ ∀ i, i < L.length → IsMin (cB tag l) 0 i (L.getD i 0)) (fun (L : List Int) => [(7, .c (grV H.length L)), (8, (.c (.int .i64 (L.length))))]) (fun (L : List Int) => H ++ [grO 3 1 (L.map encI)]) (fun (L : List Int) => l.length + 1 - L.length) (by kernel_rfl) (fun _ => rfl) (by kernel_rfl) (by first | (simp; done) | omega) (by first | (simp; done) | (simp; omega) | omega) kl ?_ (fun L hL _ _ => ?_)
  · refine Next.mk [0] ⟨by simp, by simp, fun i hi => ?_⟩ ?_
    · obtain rfl : i = 0 := by simp at hi; exact hi
      exact isMin_refl _ _
    · rw [grV_pos _ (by simp), grO_pos _ _ (by simp)]
      exact wk
  obtain ⟨q1, q2, q3⟩ := hL
  obtain ⟨k, hkk⟩ : ∃ k, k = L.length := ⟨_, rfl⟩
  have hLne : L ≠ [] := by rintro rfl; simp at q1
  by_cases hlt : k ≤ l.length
  rotate_left
  · have hke : L.length = l.length + 1 := by omega
    have h0 := q3 l.length (by omega)
    have hLn : L[l.length]'(by omega) = L.getD l.length 0 := by rw [List.getD_eq_getElem?_getD, List.getElem?_eq_getElem (by omega)]; rfl
    have hk := hk _ h0
    generalize L.getD l.length 0 = m at *
    have hc : ¬ ((l.length : Int) + 1 ≤ l.length) := by omega
    rw [grV_pos _ hLne, grO_pos _ _ (by simpa using hLne), hke]
    simp (disch := first | omega | (simp only [go_sem]; first | done | omega)) only [go_sem, hLn, hke]
    exact Ret.drop hH (Nat.le_refl _) (by simp [AV.ok, AV.ok1, AC.ok]) hk
  have hlt' : (k : Int) ≤ l.length := by omega
  have hlo : max (0 : Int) ((k : Int) - 100) = ((k - 100 : Nat) : Int) := by omega
  rw [← hkk]
  rw [grV_pos _ hLne, grO_pos _ _ (by simpa using hLne)]
  simp (disch := first | omega | (simp only [go_sem]; first | done | omega)) only [go_sem, hlt']
  rw [hlo]
  refine SWp.loop (H.length + 1) [0, 1, 7, 8] [9, 10] (fun (q : Nat × Int) => (k - 100 ≤ q.1 ∧ q.1 ≤ k) ∧ (q.1 = k - 100 → q.2 = -1) ∧ (k - 100 < q.1 → ∃ m, m < k ∧ k ≤ m + 100 ∧ q.2 = L.getD m 0 + cB tag l m k) ∧ ∀ m, k ≤ m + 100 → m < q.1 → q.2 ≤ L.getD m 0 + cB tag l m k) (fun (q : Nat × Int) => [(9, (.c (.int .i64 (q.2)))), (10, (.c (.int .i64 (q.1))))]) (fun (q : Nat × Int) => H ++ [.row 3 1 (L.map encI) true]) (fun (q : Nat × Int) => k - q.1) (fun _ => rfl) (by kernel_rfl) (by first | (simp; done) | omega) (by first | (simp; done) | (simp; omega) | omega) kl ?_ (fun q hq _ _ => ?_)
  · exact Next.mk (k - 100, -1) ⟨⟨Nat.le_refl _, by dsimp only; omega⟩, fun _ => rfl, fun h => absurd h (Nat.lt_irrefl _), fun m h1 h2 => by dsimp only at h2; omega⟩ wk
  obtain ⟨i, best⟩ := q
  obtain ⟨⟨p1, p2⟩, p3, p4, p5⟩ := hq
  dsimp only at p1 p2 p3 p4 p5 ⊢
  have hk1 : k ≤ i + 100 := by clear p3 p4 p5; omega
  by_cases hik : i < k
  · have hik' : (i : Int) < k := by omega
    obtain ⟨y, hy⟩ : ∃ y, y = L.getD i 0 := ⟨_, rfl⟩
    have hy2 : L[i]'(by omega) = y := by rw [hy, List.getD_eq_getElem?_getD, List.getElem?_eq_getElem (by omega)]; rfl
    have hyb := hbd i _ (by omega) (q3 i (by omega))
    rw [← hy] at hyb
    have hc0 := hcnn i k
    have hc1 := hcle i k (by omega)
    have hen : ∀ {H : Hp} {K : AV → Hp → Prop} {ls : List (List AC)}, ls = ((l.take k).drop i).map encS → K (.c (.lst 1 ((blockB tag ((l.take k).drop i) false).map encU))) H → ACalls Tryz.prog 47 [(.c (.str tag)), .c (.lst 3 ls), (.c (.bool false))] H K := fun e h => e ▸ encoded_a tag ((l.take k).drop i) false ht0 (by omega) (by rw [List.length_drop, List.length_take]; omega) (fun s hs => hsm s (List.mem_of_mem_take (List.mem_of_mem_drop hs))) h
    obtain ⟨c, hc⟩ : ∃ c, c = cB tag l i k := ⟨_, rfl⟩
    have hc2 : ((blockB tag ((l.take k).drop i) false).length : Int) = c := hc.symm
    rw [← hc] at hc0 hc1
    refine SWp.go (by kernel_rfl) ?_
    simp (disch := first | omega | (simp only [go_sem]; first | done | omega)) only [go_sem, hik']
    refine SWp.cut (H.length + 1) [0, 1, 7, 8, 10] [9] (fun (u : Int) => u = if best < 0 ∨ y + c < best then y + c else best) (fun (u : Int) => [(9, (.c (.int .i64 u)))]) (fun (u : Int) => H ++ [.row 3 1 (L.map encI) true]) (fun _ => rfl) (by kernel_rfl) (by first | (simp; done) | omega) (by first | (simp; done) | (simp; omega) | omega) kl ?_ (fun u hu _ _ => ?_)
    · refine SWp.inB ?_
      refine SWp.cut (H.length + 1) [0, 1, 7, 8, 9, 10] [11] (fun (u : Unit) => True) (fun (u : Unit) => [(11, (.c (.int .i64 (y + c))))]) (fun (u : Unit) => H ++ [.row 3 1 (L.map encI) true]) (fun _ => rfl) (by kernel_rfl) (by first | (simp; done) | omega) (by first | (simp; done) | (simp; omega) | omega) kl ?_ (fun u _ _ _ => ?_)
      · refine SWp.of (by kernel_rfl) ?_
        repeat' (first | ((first | refine acond_d ?_ ?_ | refine acond_b ?_ ?_ | refine ag_d ?_ ?_ | refine ag_n ?_ ?_ | refine ag_bt ?_ ?_ | refine ag_bf ?_ ?_ | refine agt_d ?_ ?_ | refine agt_n ?_ ?_ | refine agt_bt ?_ ?_ | refine agt_bf ?_ ?_) <;> intro c <;> try simp (disch := first | omega | (simp only [go_sem]; first | done | omega)) only [go_sem, c, hy2, hc2]) | ((first | refine w_draw (by kernel_rfl) (by decide +kernel) ?_ | refine hen (by simp [List.map_take, List.map_drop, List.drop_take]) ?_ | refine w_tree (.one 0 (.one 1 (.one 4 (.one 5 (.one 6 (.one 7 (.one 8 (.two 2 (.two 3 (.one 9 (.one 10 (.one 11 (.one 12 .done)))) 9 (.one 3 (.one 10 (.one 11 (.one 12 .done))))) 9 (.one 2 (.one 3 (.one 10 (.one 11 (.one 12 .done))))))))))))) (by kernel_rfl) (by decide +kernel) ?_) <;> try simp (disch := first | omega | (simp only [go_sem]; first | done | omega)) only [go_sem, hy2, hc2]) | (refine And.intro ?_ ?_ <;> try simp (disch := first | omega | (simp only [go_sem]; first | done | omega)) only [go_sem, hy2, hc2]))
        all_goals
          refine Next.mk () trivial ?_
          simp (disch := first | omega | (simp only [go_sem]; first | done | omega)) only [go_sem, hy2, hc2]
          exact wk
      by_cases h1 : best < 0
      · rw [if_pos (.inl h1)]
        refine SWp.of (by kernel_rfl) ?_
        simp (disch := first | omega | (simp only [go_sem]; first | done | omega)) only [go_sem, h1]
        exact Next.mk _ rfl wk
      · by_cases h2 : y + c < best
        · rw [if_pos (.inr h2)]
          refine SWp.of (by kernel_rfl) ?_
          simp (disch := first | omega | (simp only [go_sem]; first | done | omega)) only [go_sem, h1, h2]
          exact Next.mk _ rfl wk
        · rw [if_neg (by omega)]
          refine SWp.of (by kernel_rfl) ?_
          simp (disch := first | omega | (simp only [go_sem]; first | done | omega)) only [go_sem, h1, h2]
          exact Next.mk _ rfl wk
    refine SWp.of (by kernel_rfl) ?_
    simp (disch := first | omega | (simp only [go_sem]; first | done | omega)) only [go_sem]
    refine Next.mk (i + 1, u) ⟨⟨⟨by dsimp only; omega, by dsimp only; omega⟩, fun h => by dsimp only at h; exfalso; clear hlo hlt' hc0 hc1 hc2 hyb; omega, fun _ => ?_, fun m h1 h2 => ?_⟩, by dsimp only; omega⟩ wk
    · dsimp only
      by_cases ht : best < 0 ∨ y + c < best
      · rw [if_pos ht] at hu
        exact ⟨i, hik, hk1, by rw [hu, hy, hc]⟩
      · rw [if_neg ht] at hu
        rw [hu]
        by_cases hi0 : i = k - 100
        · have := p3 hi0; omega
        · exact p4 (by omega)
    · dsimp only at h2 ⊢
      by_cases ht : best < 0 ∨ y + c < best
      · rw [if_pos ht] at hu
        by_cases hm : m = i
        · subst hm; rw [hu, hy, hc]; exact Int.le_refl _
        · have h5 := p5 m h1 (by omega)
          by_cases hb : best < 0
          · -- no best yet: nothing is before
            have hi0 : k - 100 < i := by omega
            obtain ⟨m2, g1, g2, g3⟩ := p4 hi0
            have g4 := (hbd m2 _ (by omega) (q3 m2 (by omega))).1
            have g5 := hcnn m2 k
            omega
          · omega
      · rw [if_neg ht] at hu
        by_cases hm : m = i
        · subst hm; rw [hu, ← hy, ← hc]; omega
        · rw [hu]; exact p5 m h1 (by omega)
  have hik2 : i = k := by omega
  have hik' : ¬ (i : Int) < k := by omega
  refine SWp.of (by kernel_rfl) ?_
  simp (disch := first | omega | (simp only [go_sem]; first | done | omega)) only [go_sem, hik']
  rw [show AC.sl (some (H.length, 0)) L.length = grV H.length L from (grV_pos _ hLne).symm, show AObj.row 3 1 (L.map encI) true = grO 3 1 (L.map encI) from (grO_pos _ _ (by simpa using hLne)).symm]
  (refine app_gr (enc := encI) (e := 3) (sz := 1) (bs := 8) (z := [.int .i64 0]) (L) (best) (by kernel_rfl) (by kernel_rfl) (by kernel_rfl) (by kernel_rfl) (by first | ((repeat first | exact at0 (by simp) | refine atS ?_); done) | assumption) (by first | (simp (disch := first | omega | (simp only [go_sem]; first | done | omega)) only [go_sem]; done) | (simp (disch := first | omega | (simp only [go_sem]; first | done | omega)) only [go_sem]; rfl) | (simp (disch := first | omega | (simp only [go_sem]; first | done | omega)) only [go_sem]; simp [go_sem]; done) | (simp (disch := first | omega | (simp only [go_sem]; first | done | omega)) only [go_sem]; simp [*]; done)) rfl (by decide) (by omega) (by omega) (by rfl) ?_)
  simp (disch := first | omega | (simp only [go_sem]; first | done | omega)) only [go_sem]
  refine Next.mk (L ++ [best]) ⟨⟨by simp, by simp; omega, fun j hj => ?_⟩, by simp; omega⟩ ?_
  · by_cases hjk : j < L.length
    · rw [List.getD_eq_getElem?_getD, List.getElem?_append_left hjk, ← List.getD_eq_getElem?_getD]
      exact q3 j hjk
    · obtain rfl : j = k := by simp at hj; omega
      rw [List.getD_eq_getElem?_getD, List.getElem?_append_right (by omega), show j - L.length = 0 by omega]
      simp only [List.getElem?_cons_zero, Option.getD_some]
      obtain ⟨m, g1, g2, g3⟩ := p4 (by omega)
      exact isMin_to (by omega) (fun m => L.getD m 0) (fun m hm => q3 m (by omega)) ⟨⟨m, g1, g2, g3⟩, fun m h1 h2 => p5 m h2 (by omega)⟩
  · rw [hkk]
    exact ow
end Go.Proofs.YtnodfnjmhcjnfaaGreat
