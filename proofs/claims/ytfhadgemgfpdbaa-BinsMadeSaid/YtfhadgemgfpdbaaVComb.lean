/- Bins combined by the document: it is what the program puts together. Condition: counts are not negative, sums are small. -/
import Derived.Test.YtfhadgemgfpdbaaVFits
import Derived.Test.YtfhadgemgfpdbaaVGr
import Derived.Test.YtfhadgemgfpdbaaVQuotasFit
namespace Go.Proofs.Ytfhadgemgfpdbaa
open Go Go.RowKit
set_option maxRecDepth 100000
set_option linter.all false
set_option maxHeartbeats 1000000
variable {H : Hp} {K : AV → Hp → Prop}
def foldB (l : List Bin) : List Bin := l.foldl putB []
theorem foldB_snoc (l : List Bin) (x : Bin) : foldB (l ++ [x]) = putB (foldB l) x := by simp [foldB]
theorem putB_bd2 {l : List Bin} {b : Bin} {B C : Int} (hl : ∀ x ∈ l, x.bd B) (hb : b.bd C) (hB : 0 ≤ B) (hC : 0 ≤ C) : (∀ x ∈ putB l b, x.bd (B + C)) ∧ (putB l b).length ≤ l.length + 1 := by
  have up : ∀ x ∈ l, x.bd (B + C) := fun x hx => by
    have := hl x hx; simp only [Bin.bd] at this ⊢; omega
  have ub : b.bd (B + C) := by simp only [Bin.bd] at hb ⊢; omega
  unfold putB
  split
  · exact ⟨by intro x hx; simp at hx; subst hx; exact ub, by simp⟩
  · rename_i x hx
    have hxm : x ∈ l := List.mem_of_getLast? hx
    split
    · refine ⟨?_, by simp⟩
      intro y hy
      rcases List.mem_append.1 hy with hy | hy
      · exact up y (List.dropLast_subset _ hy)
      · simp at hy; subst hy
        have := hl x hxm
        simp only [Bin.bd, combB] at this hb ⊢; omega
    · refine ⟨?_, by simp⟩
      intro y hy
      rcases List.mem_append.1 hy with hy | hy
      · exact up y hy
      · simp at hy; subst hy; exact ub
def Bin.fine (x : Bin) : Prop := 0 ≤ x.n ∧ x.bd 5000000000000
/-- a reader is lent what grew -/
theorem ACalls.lendGr {P : Program} {f : FuncId} {rest : List AV} {i ty sz : Nat} {l : List (List AC)} (v : AV) (hi : H[i]? = some (grO ty sz l)) (hp : pureL l = true) (hv : flatV v = true) (hr : rest.map (AV.frz1 i sz l) = rest) (hz : AV.nilz.go [sz] (.c (.sl none 0) :: rest) = .c (.lst sz []) :: rest)
    (hn : ∀ x ∈ rest, x.ok1 0) (h : ∀ (G : Hp) (J : AV → Hp → Prop), J v G → ACalls P f (.c (.lst sz l) :: rest) G J) (hk : K v H) : ACalls P f (.c (grV i l) :: rest) H K := by
  cases l with
  | nil =>
    refine ACalls.nilz [sz] (by simp) ?_
    show ACalls P f (AV.nilz.go [sz] (.c (.sl none 0) :: rest)) H K
    rw [hz]
    exact h H K hk
  | cons y ys =>
    refine ACalls.lend v hi hp hv ?_ ?_ hk
    · rw [List.map_cons, hr]
      intro x hx
      rcases List.mem_cons.1 hx with rfl | hx
      · simp [grV, AV.frz1, AC.frz, AV.ok1, AC.ok]
      · exact hn x hx
    · rw [List.map_cons, hr]
      simp [grV, AV.frz1, AC.frz]
      exact h [] _ rfl
theorem containsGr_a (f : FuncId) (p : Bin → Bool) (he : entersB Try.prog f = true) (hf : ∀ (x : Bin) (H : Hp) (K : AV → Hp → Prop), K (.c (.bool (p x))) H → ACalls Try.prog f [.agg (encN x)] H K) {i : Nat} (l : List Bin) (hi : H[i]? = some (grO 62 6 (l.map encN))) (hlen : l.length ≤ 1099511627776) (hk : K (.c (.bool (l.any p))) H) : ACalls Try.prog 72 [.c (grV i l), .c (.fn f [] [])] H K := by
  rw [← map_grV encN]
  exact ACalls.lendGr (.c (.bool (l.any p))) hi (pureL_encN l) rfl rfl rfl (by simp [AV.ok1, AC.ok]) (fun G J hJ => containsN_a f p he hf l hlen hJ) hk
theorem combinedR_o (l : List Bin) (hlen : l.length ≤ 100000) (hok : ∀ x ∈ l, x.fine)
    (hk0 : fitsE (foldB l) ≠ 0 → K (.tup [.c (.sl none 0), (.c (.int .i64 2))]) H)
    (hk1 : fitsE (foldB l) = 0 → K (.tup [.c (grV H.length (foldB l)), (.c (.int .i64 0))]) (H ++ [grO 62 6 ((foldB l).map encN)])) :
    ACalls Try.prog 62 [.c (.lst 6 (l.map encN))] H K := by
  refine acalls Try.func62 rfl (by kernel_rfl) (by simp (disch := first | omega | (simp only [go_sem]; first | done | omega)) only [go_sem]) (fun hH => ?_)
  simp (disch := first | omega | (simp only [go_sem]; first | done | omega)) only [go_sem]
  refine AWp.loop (H.length) [9, 10] [11, 4] (fun (q : Nat × List Bin) => q.1 ≤ l.length ∧ q.2 = foldB (l.take q.1) ∧ q.2.length ≤ q.1 ∧ ∀ y ∈ q.2, y.bd (5000000000000 * q.1)) (fun (q : Nat × List Bin) => [(11, (.c (.int .i64 (q.1)))), (4, .c (grV H.length q.2))]) (fun (q : Nat × List Bin) => H ++ [grO 62 6 (q.2.map encN)]) (fun (q : Nat × List Bin) => l.length - q.1) (by kernel_rfl) (fun _ => rfl) (by kernel_rfl) (by simp) (by first | (simp; done) | (simp; omega)) (by (try simp only [List.forall_mem_cons, List.not_mem_nil, false_implies, implies_true, and_true]); (try simp (disch := first | omega | (simp only [go_sem]; first | done | omega)) only [go_sem]); first | trivial | (simp [AV.ok, AV.ok1, AC.ok]; done) | (simp [AV.ok, AV.ok1, AC.ok]; omega) | ((repeat' apply And.intro) <;> first | trivial | (simp [AV.ok, AV.ok1, AC.ok]; done) | (simp [AV.ok, AV.ok1, AC.ok]; omega) | (refine grV_ok ?_ _; first | (simp; done) | (simp; omega) | omega))) ?_ (fun q hq _ _ => ?_)
  · refine Next.mk (0, []) ⟨by simp, rfl, by simp, by simp⟩ ?_
    exact WkL.pad (by simp)
  obtain ⟨k, cur⟩ := q
  obtain ⟨hk1', hcur, hcl, hcb⟩ := hq
  dsimp only at hk1' hcur hcl hcb
  by_cases hlt : k < l.length
  · have hx := hok l[k] (List.getElem_mem hlt)
    have hnext : foldB (l.take (k + 1)) = putB cur l[k] := by
      rw [List.take_succ_eq_append_getElem hlt, foldB_snoc, hcur]
    obtain ⟨x, hxe⟩ : ∃ x, x = l[k] := ⟨_, rfl⟩
    rw [← hxe] at hx hnext
    obtain ⟨hx0, hxb⟩ := hx
    have hp := putB_bd2 hcb hxb (by omega) (by omega)
    have hp2 := hp.2
    have hfin : ∀ y ∈ putB cur x, y.bd (5000000000000 * ((k + 1 : Nat) : Int)) := fun y hy => by have := hp.1 y hy; simp only [Bin.bd] at this ⊢; omega
    have hside : (k + 1 ≤ l.length ∧ putB cur x = foldB (l.take (k + 1)) ∧ (putB cur x).length ≤ k + 1 ∧ ∀ y ∈ putB cur x, y.bd (5000000000000 * ((k + 1 : Nat) : Int))) ∧ l.length - (k + 1) < l.length - k := ⟨⟨by omega, hnext.symm, by omega, hfin⟩, by omega⟩
    have happ : putB cur x = cur ++ [x] → ∀ L : Hp, L[3]? = some (.row 62 6 ((cur ++ [x]).map encN) true) → WkL H.length [(.c (.int .i64 ((k + 1 : Nat)))), .c (.sl (some (H.length + 3, 0)) (cur.length + 1))] (H ++ L) [(.c (.int .i64 ((k + 1 : Nat)))), .c (grV H.length (putB cur x))] (H ++ [grO 62 6 ((putB cur x).map encN)]) := by
      intro e L hL
      rw [e, grV_pos _ (by simp), grO_pos _ _ (by simp)]
      refine WkL.pick [3] (by assumption) (Nat.le_refl _) (by simp [hL]) (by simp) (by simp [AObj.pureO, pureL, AC.pure]) ?_ ?_
      · simp [AV.ren, AV.ren1, AC.ren, pickS]
      · simp [AV.ok, AV.ok1, AC.ok]
    clear hp hfin hnext
    rcases hl : cur.getLast? with _ | y
    · have h0 : cur = [] := by simpa using hl
      subst h0
      simp only [grV, List.map_nil, grO]
      simp (disch := first | omega | (simp only [go_sem]; first | done | omega)) only [go_sem, ← hxe]
      repeat' (first | ((first | refine acond_d ?_ ?_ | refine acond_b ?_ ?_ | refine ag_d ?_ ?_ | refine ag_n ?_ ?_ | refine ag_bt ?_ ?_ | refine ag_bf ?_ ?_) <;> intro c <;> try simp (disch := first | omega | (simp only [go_sem]; first | done | omega)) only [go_sem, c]) | ((first | refine w_draw (by kernel_rfl) (by decide +kernel) ?_) <;> try simp (disch := first | omega | (simp only [go_sem]; first | done | omega)) only [go_sem]))
      refine app_sl ?_
      simp (disch := first | omega | (simp only [go_sem]; first | done | omega)) only [go_sem]
      refine Next.mk (k + 1, putB [] x) hside ?_
      simp (disch := first | omega | (simp only [go_sem]; first | done | omega)) only [go_sem]
      exact happ (by simp [putB]) _ rfl
    · have h0 : cur ≠ [] := by rintro rfl; simp at hl
      have hl1 : 0 < cur.length := List.length_pos_iff.2 h0
      have hy := hcb y (List.mem_of_getLast? hl)
      have hlast : cur[cur.length - 1]? = some y := by rw [List.getLast?_eq_getElem?] at hl; exact hl
      have hx1 : cur[cur.length - 1]'(by omega) = y := by rw [List.getElem?_eq_getElem (by omega)] at hlast; injection hlast
      have hx2 : cur[((cur.length : Int) - 1).toNat]'(by omega) = y := by rw [← hx1]; congr 1; omega
      rw [grO_pos _ _ (by simpa using h0), grV_pos _ h0]
      by_cases he : y.a = x.a
      · have he' := eq_true he
        simp only [Bin.bd] at hy hxb
        have hC : cur.length ≤ 100000 := by omega
        have e : putB cur x = cur.set ((cur.length : Int) - 1).toNat (combB y x) := by
          have e1 : putB cur x = cur.dropLast ++ [combB y x] := by simp [putB, hl, he]
          have e2 : ((cur.length : Int) - 1).toNat = cur.length - 1 := by omega
          rw [e1, e2]
          obtain ⟨l', rfl⟩ := List.getLast?_eq_some_iff.1 hl
          simp
        have hset : ∀ v, v = encN (combB y x) → (cur.map encN).set ((cur.length : Int) - 1).toNat v = (putB cur x).map encN := fun v hv => by rw [e, List.map_set, hv]
        have hle : (putB cur x).length = cur.length := by rw [e]; simp
        simp (disch := first | omega | (simp only [go_sem]; first | done | omega)) only [go_sem, ← hxe]
        repeat' (first | ((first | refine acond_d ?_ ?_ | refine acond_b ?_ ?_ | refine ag_d ?_ ?_ | refine ag_n ?_ ?_ | refine ag_bt ?_ ?_ | refine ag_bf ?_ ?_ | refine agt_d ?_ ?_ | refine agt_n ?_ ?_ | refine agt_bt ?_ ?_ | refine agt_bf ?_ ?_) <;> intro c <;> try simp (disch := first | omega | (simp only [go_sem]; first | done | omega)) only [go_sem, c, hx2, he']) | ((first | refine w_draw (by kernel_rfl) (by decide +kernel) ?_ | refine w_tree (.one 0 (.one 1 (.one 2 (.one 3 (.one 4 (.one 6 (.one 7 (.two 5 (.one 8 (.one 9 (.one 10 (.one 11 .done)))) 8 (.one 5 (.one 9 (.one 10 (.one 11 .done)))))))))))) (by kernel_rfl) (by decide +kernel) ?_ | refine w_tree (.one 0 (.one 1 (.one 2 (.one 3 (.one 4 (.one 5 (.one 6 (.one 7 (.one 8 (.one 9 (.one 10 (.one 11 (.one 12 (.one 13 (.one 16 (.one 17 (.two 14 (.one 15 (.one 18 (.one 19 (.one 20 (.one 21 .done))))) 18 (.one 14 (.one 15 (.one 19 (.one 20 (.one 21 .done)))))))))))))))))))))) (by kernel_rfl) (by decide +kernel) ?_ | refine w_tree (.one 0 (.one 1 (.one 2 (.one 3 (.one 4 (.one 5 (.one 6 (.one 7 (.one 8 (.one 9 .done)))))))))) (by kernel_rfl) (by decide +kernel) ?_ | refine w_tree (.one 0 (.one 1 (.one 2 (.one 3 (.one 4 (.one 5 (.one 6 (.one 7 (.one 8 (.one 9 .done)))))))))) (by kernel_rfl) (by decide +kernel) ?_ | refine w_tree (.one 0 (.one 1 (.one 2 (.one 3 (.one 4 (.one 5 (.one 6 (.one 7 (.one 8 (.one 9 .done)))))))))) (by kernel_rfl) (by decide +kernel) ?_) <;> try simp (disch := first | omega | (simp only [go_sem]; first | done | omega)) only [go_sem, hx2, he']) | (refine And.intro ?_ ?_ <;> try simp (disch := first | omega | (simp only [go_sem]; first | done | omega)) only [go_sem, hx2, he']))
        all_goals
          refine Next.mk (k + 1, putB cur x) hside ?_
          rw [hset _ (by grind [combB, encN])]
          rw [grV_pos _ (putB_ne _ _), grO_pos _ _ (by simpa using putB_ne cur x), hle]
          (try simp (disch := first | omega | (simp only [go_sem]; first | done | omega)) only [go_sem]); (first | refine WkL.eq ?_ ?_ | refine WkL.rest (by assumption) ?_ ?_ ?_ | refine WkL.keepL (by assumption) rfl ?_ ?_ ?_ ?_) <;> first | rfl | (simp; done) | (simp; omega) | (simp only [List.cons.injEq, AV.c.injEq, AC.int.injEq, AC.bool.injEq, AC.str.injEq, and_true, true_and, Int.natCast_add, Int.natCast_one, Int.cast_ofNat_Int]; omega) | (simp [AV.ok, AV.ok1, AC.ok]; done) | (simp [AV.ok, AV.ok1, AC.ok]; omega) | (simp only [List.forall_mem_cons, List.not_mem_nil, false_implies, implies_true, and_true]; (repeat' apply And.intro) <;> first | exact okN_map (fun x => by simp [go_sem, AC.pure]) | exact okN_grO (fun x => by simp [go_sem, AC.pure]) | (simp [AObj.okN, AC.ok]; done) | (simp [AObj.okN, AC.ok]; omega)) | (simp [*]; done) | grind
      · have e : putB cur x = cur ++ [x] := by simp [putB, hl, he]
        simp (disch := first | omega | (simp only [go_sem]; first | done | omega)) only [go_sem, ← hxe]
        repeat' (first | ((first | refine acond_d ?_ ?_ | refine acond_b ?_ ?_ | refine ag_d ?_ ?_ | refine ag_n ?_ ?_ | refine ag_bt ?_ ?_ | refine ag_bf ?_ ?_) <;> intro c <;> try simp (disch := first | omega | (simp only [go_sem]; first | done | omega)) only [go_sem, c, hx2, he]) | ((first | refine w_draw (by kernel_rfl) (by decide +kernel) ?_) <;> try simp (disch := first | omega | (simp only [go_sem]; first | done | omega)) only [go_sem, hx2, he]))
        refine app_sl ?_
        simp (disch := first | omega | (simp only [go_sem]; first | done | omega)) only [go_sem]
        refine Next.mk (k + 1, putB cur x) hside ?_
        simp (disch := first | omega | (simp only [go_sem]; first | done | omega)) only [go_sem]
        exact happ e _ (by simp)
  · have e : cur = foldB l := by rw [hcur, List.take_of_length_le (by omega)]
    have hfl : (foldB l).length ≤ 100000 := by rw [← e]; omega
    rw [e]
    simp (disch := first | omega | (simp only [go_sem]; first | done | omega)) only [go_sem]
    repeat' (first | ((first | refine acond_d ?_ ?_ | refine acond_b ?_ ?_ | refine ag_d ?_ ?_ | refine ag_n ?_ ?_ | refine ag_bt ?_ ?_ | refine ag_bf ?_ ?_) <;> intro c <;> try simp (disch := first | omega | (simp only [go_sem]; first | done | omega)) only [go_sem, c]) | ((first | refine w_draw (by kernel_rfl) (by decide +kernel) ?_ | refine containsGr_a _ _ (by kernel_rfl) (fun x H K h => combined1_a x h) (foldB l) (by first | exact at0 (by simp) | exact at1 (by simp) | exact at2 (by simp) | exact at3 (by simp) | exact at4 (by simp) | exact at5 (by simp) | exact atG 6 (by simp) rfl | exact atG 7 (by simp) rfl | exact atG 8 (by simp) rfl | exact atG 9 (by simp) rfl | exact atG 10 (by simp) rfl | assumption) (by omega) ?_) <;> try simp (disch := first | omega | (simp only [go_sem]; first | done | omega)) only [go_sem]))
    case' neg.refine_1.refine_2 => exact Ret.same (by simp) (hk1 (by simp only [fitsE]; rw [if_neg]; simp only [c]; simp; omega))
    all_goals exact Ret.drop hH (Nat.le_refl _) (by simp [AV.ok, AV.ok1, AC.ok]) (hk0 (by simp only [fitsE]; rw [if_pos (by first | exact .inr c | exact .inl (by omega))]; decide))
end Go.Proofs.Ytfhadgemgfpdbaa
