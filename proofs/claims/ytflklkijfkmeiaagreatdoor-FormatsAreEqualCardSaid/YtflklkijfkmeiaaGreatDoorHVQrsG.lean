/- Several texts in one: logref2, and what follows. No condition. -/
import Derived.Test.YtflklkijfkmeiaaGreatDoorHVQrsF
import Derived.Test.YtflklkijfkmeiaaGreatDoorHVPrsF
import Derived.Test.YtflklkijfkmeiaaGreatDoorHVExpS
import Derived.Test.YtflklkijfkmeiaaGreatDoorHVTxtS
import Derived.Test.YtflklkijfkmeiaaGreatDoorHVAtoi
import Derived.Test.YtflklkijfkmeiaaGreatDoorHVGA
import Derived.Test.YtflklkijfkmeiaaGreatDoorHCoreDrawS
/- logref2.parsed, CheckOf. Condition: the text is no longer than a machine holds. -/
namespace Go.Proofs.YtflklkijfkmeiaaGreatDoor
open Go Go.RowKit
set_option maxRecDepth 100000
set_option linter.all false
set_option maxHeartbeats 4000000
variable {H : Hp} {K : AV → Hp → Prop}
theorem parsedQ_a (l : List UInt8) (hl : l.length ≤ 1000000) (hk1 : ∀ e, parF l = .ok e → K (.tup [.agg (encT e), (.c (.int .i64 0)), (.c (.int .i64 0))]) H) (hk2 : ∀ a c, parF l = .error (a, c) → K (.tup [.agg zT, (.c (.int .i64 a)), (.c (.int .i64 c))]) H) : ACalls Tryz.prog 73 [(.c (.str (tB l)))] H K := by
  have hsz := tB_size l
  unfold parF at hk1 hk2
  by_cases h5 : 500 < l.length
  · rw [if_pos h5] at hk2
    have hk := hk2 0 2 rfl
    refine acalls Tryz.func73 rfl (by kernel_rfl) (by simp (disch := first | omega | (simp only [go_sem]; first | done | omega)) only [go_sem]) (fun hH => ?_)
    simp (disch := first | omega | (simp only [go_sem]; first | done | omega)) only [go_sem, hsz, h5]
    exact Ret.drop hH (Nat.le_refl _) (by simp [AV.ok, AV.ok1, AC.ok]) hk
  rw [if_neg h5] at hk1 hk2
  obtain ⟨n, hn⟩ : ∃ n, n = (tokF l 0).length := ⟨_, rfl⟩
  have hnl := (tokF_len l 0).2
  rw [← hn] at hk1 hk2 hnl
  have hT := Tl.top l
  have hat : ∀ (X Y : AObj) (G : Hp), (H ++ (Y :: X :: G))[H.length + 1]? = some X := fun X Y G => by rw [List.getElem?_append_right (by omega)]; simp
  have hset : ∀ (X Y Z : AObj) (G : Hp), (H ++ (Y :: X :: G)).set (H.length + 1) Z = H ++ (Y :: Z :: G) := fun X Y Z G => by rw [List.set_append_right _ _ (by omega)]; simp
  have hcg := comp_good 0 (fact_good l n 0)
  refine acalls Tryz.func73 rfl (by kernel_rfl) (by simp (disch := first | omega | (simp only [go_sem]; first | done | omega)) only [go_sem]) (fun hH => ?_)
  simp (disch := first | omega | (simp only [go_sem]; first | done | omega)) only [go_sem, hsz, h5]
  refine tokensQ_a l (by omega) ?_
  simp (disch := first | omega | (simp only [go_sem]; first | done | omega)) only [go_sem]
  refine compareQ_a (i := H.length + 1) (by omega) (factorQ_a (l := l) (by omega) (H.length + 1) n 0 (by omega) (by omega)) (fact_good l n 0) _ _ (tokF l 0) (-1) (hat _ _ _) trivial hT (by omega) (fun x T' dp' h => ?_) (fun e T' d' dp' cs h hcs => ?_)
  · rw [h] at hk1 hk2
    obtain ⟨g1, g2, g3⟩ := hcg _ _ _ _ _ hT h
    obtain ⟨t, T2, rfl, ht, _⟩ := g2.head
    dsimp only at hk1 hk2
    have h7 := (encT_ok x).1
    have h6 : (encT x).take 5 = encT x := List.take_of_length_le (by omega)
    have hq := (qK_k ht).1
    rw [hset, psQ_row]
    simp (disch := first | omega | (simp only [go_sem]; first | done | omega)) only [go_sem, h6, h7]
    refine nextQ_a (t := t) (T := T2) (d := 0) (dp := dp') (bad := -1) (hat _ _ _) ?_
    by_cases h0 : t.k = 0
    · have hp : qK t = 36 := hq.2 h0
      rw [if_neg (by simpa using h0)] at hk1 hk2
      by_cases hdp : 0 ≤ dp'
      · rw [if_pos hdp] at hk2
        have hk := hk2 _ _ rfl
        simp (disch := first | omega | (simp only [go_sem]; first | done | omega)) only [go_sem, hp, hdp]
        refine w_tree (.one 0 (.one 1 (.one 2 (.one 3 (.two 4 (.one 5 (.one 6 (.one 7 .done))) 5 (.one 4 (.one 6 (.one 7 .done)))))))) (by kernel_rfl) (by decide +kernel) ?_
        simp (disch := first | omega | (simp only [go_sem]; first | done | omega)) only [go_sem]
        all_goals (repeat' apply And.intro)
        all_goals try simp (disch := first | omega | (simp only [go_sem]; first | done | omega)) only [go_sem]
        all_goals (repeat' apply And.intro)
        all_goals try simp (disch := first | omega | (simp only [go_sem]; first | done | omega)) only [go_sem]
        all_goals exact Ret.drop hH (Nat.le_refl _) (by simp [AV.ok, AV.ok1, AC.ok]) hk
      · rw [if_neg hdp] at hk1
        have hk := hk1 _ rfl
        simp (disch := first | omega | (simp only [go_sem]; first | done | omega)) only [go_sem, hp, hdp, h6, h7]
        refine Ret.drop hH (Nat.le_refl _) ?_ hk
        intro z hz
        simp only [List.mem_cons, List.not_mem_nil, or_false] at hz
        rcases hz with rfl | rfl | rfl
        · exact (encT_ok x).ok _
        · trivial
        · trivial
    · have hp : ¬ qK t = 36 := fun h => h0 (hq.1 h)
      rw [if_pos (by simpa using h0)] at hk2
      have hk := hk2 _ _ rfl
      simp (disch := first | omega | (simp only [go_sem]; first | done | omega)) only [go_sem, hp]
      refine failQ_a (t := t) (T := T2) (d := 0) (dp := dp') (hat _ _ _) ?_
      rw [hset, psQ_row]
      have hto : (0 : Int) ≤ (t.o : Int) := by omega
      simp (disch := first | omega | (simp only [go_sem]; first | done | omega)) only [go_sem, hto]
      refine w_tree (.one 0 (.one 1 (.one 2 (.one 3 (.two 4 (.one 5 (.one 6 (.one 7 .done))) 5 (.one 4 (.one 6 (.one 7 .done)))))))) (by kernel_rfl) (by decide +kernel) ?_
      simp (disch := first | omega | (simp only [go_sem]; first | done | omega)) only [go_sem]
      all_goals (repeat' apply And.intro)
      all_goals try simp (disch := first | omega | (simp only [go_sem]; first | done | omega)) only [go_sem]
      all_goals (repeat' apply And.intro)
      all_goals try simp (disch := first | omega | (simp only [go_sem]; first | done | omega)) only [go_sem]
      all_goals exact Ret.drop hH (Nat.le_refl _) (by simp [AV.ok, AV.ok1, AC.ok]) hk
  · rw [h] at hk2
    have hk := hk2 _ _ rfl
    have h7 := hcs.1
    have h6 : cs.take 5 = cs := List.take_of_length_le (by omega)
    rw [hset, psQ_row]
    simp (disch := first | omega | (simp only [go_sem]; first | done | omega)) only [go_sem, h6, h7]
    refine w_tree (.one 0 (.one 1 (.one 2 (.one 3 (.two 4 (.one 5 (.one 6 (.one 7 .done))) 5 (.one 4 (.one 6 (.one 7 .done)))))))) (by kernel_rfl) (by decide +kernel) ?_
    simp (disch := first | omega | (simp only [go_sem]; first | done | omega)) only [go_sem]
    all_goals (repeat' apply And.intro)
    all_goals try simp (disch := first | omega | (simp only [go_sem]; first | done | omega)) only [go_sem]
    all_goals (repeat' apply And.intro)
    all_goals try simp (disch := first | omega | (simp only [go_sem]; first | done | omega)) only [go_sem]
    all_goals exact Ret.drop hH (Nat.le_refl _) (by simp [AV.ok, AV.ok1, AC.ok]) hk
theorem checkOf_a (l : List UInt8) (hl : l.length ≤ 1000000) (hk : K (.tup [(.c (.int .i64 ((chkF l).1))), (.c (.int .i64 ((chkF l).2)))]) H) : ACalls Tryz.prog 68 [(.c (.str (tB l)))] H K := by
  unfold chkF at hk
  refine acalls Tryz.func68 rfl (by kernel_rfl) (by simp (disch := first | omega | (simp only [go_sem]; first | done | omega)) only [go_sem]) (fun hH => ?_)
  simp (disch := first | omega | (simp only [go_sem]; first | done | omega)) only [go_sem]
  refine parsedQ_a l hl (fun e h => ?_) (fun a c h => ?_)
  · rw [h] at hk
    have h7 := (encT_ok e).1
    simp (disch := first | omega | (simp only [go_sem]; first | done | omega)) only [go_sem, h7]
    exact Ret.drop hH (Nat.le_refl _) (by simp [AV.ok, AV.ok1, AC.ok]) hk
  · rw [h] at hk
    simp (disch := first | omega | (simp only [go_sem]; first | done | omega)) only [go_sem]
    exact Ret.drop hH (Nat.le_refl _) (by simp [AV.ok, AV.ok1, AC.ok]) hk
end Go.Proofs.YtflklkijfkmeiaaGreatDoor
/- Heights of expressions, on both sides. Condition: no more nodes than a hundred thousand. -/
namespace Go.Proofs.YtflklkijfkmeiaaGreatDoor
open Go Go.RowKit
set_option maxRecDepth 100000
set_option linter.all false
set_option maxHeartbeats 4000000
theorem heightP_a : ∀ (e : Ex) {H : Hp} {K : AV → Hp → Prop}, szE e ≤ 100000 → K (.c (.int .i64 (hgt e))) H → ACalls Tryz.prog 113 [.c (.fp (encNd e))] H K
  | .num n, H, K, hs, hk => by
    unfold encNd
    refine acalls Tryz.func113 rfl (by kernel_rfl) (by simp (disch := first | omega | (simp only [go_sem]; first | done | omega)) only [go_sem]) (fun hH => ?_)
    simp (disch := first | omega | (simp only [go_sem]; first | done | omega)) only [go_sem]
    refine AWp.rounds 0 (by kernel_rfl) ?_
    simp (disch := first | omega | (simp only [go_sem]; first | done | omega)) only [go_sem]
    exact Ret.same (Nat.le_refl _) hk
  | .tag x none, H, K, hs, hk => by
    unfold encNd
    refine acalls Tryz.func113 rfl (by kernel_rfl) (by simp (disch := first | omega | (simp only [go_sem]; first | done | omega)) only [go_sem]) (fun hH => ?_)
    simp (disch := first | omega | (simp only [go_sem]; first | done | omega)) only [go_sem]
    refine AWp.rounds 0 (by kernel_rfl) ?_
    simp (disch := first | omega | (simp only [go_sem]; first | done | omega)) only [go_sem]
    exact Ret.same (Nat.le_refl _) hk
  | .tag x (some n), H, K, hs, hk => by
    unfold encNd
    refine acalls Tryz.func113 rfl (by kernel_rfl) (by simp (disch := first | omega | (simp only [go_sem]; first | done | omega)) only [go_sem]) (fun hH => ?_)
    simp (disch := first | omega | (simp only [go_sem]; first | done | omega)) only [go_sem]
    refine AWp.rounds 0 (by kernel_rfl) ?_
    simp (disch := first | omega | (simp only [go_sem]; first | done | omega)) only [go_sem]
    exact Ret.same (Nat.le_refl _) hk
  | .neg a, H, K, hs, hk => by
    have g1 := hgt_sz a
    simp only [szE] at hs
    simp only [hgt] at hk
    unfold encNd
    refine acalls Tryz.func113 rfl (by kernel_rfl) (by simp (disch := first | omega | (simp only [go_sem]; first | done | omega)) only [go_sem]) (fun hH => ?_)
    simp (disch := first | omega | (simp only [go_sem]; first | done | omega)) only [go_sem]
    refine AWp.rounds 1 (by kernel_rfl) ?_
    simp (disch := first | omega | (simp only [go_sem]; first | done | omega)) only [go_sem]
    refine heightP_a a (by omega) ?_
    simp (disch := first | omega | (simp only [go_sem]; first | done | omega)) only [go_sem]
    rw [show max (0 : Int) (hgt a : Int) + 1 = ((hgt a + 1 : Nat) : Int) by omega]
    exact Ret.same (Nat.le_refl _) hk
  | .bin c a b, H, K, hs, hk => by
    have ga := hgt_sz a
    have gb := hgt_sz b
    simp only [szE] at hs
    simp only [hgt] at hk
    unfold encNd
    refine acalls Tryz.func113 rfl (by kernel_rfl) (by simp (disch := first | omega | (simp only [go_sem]; first | done | omega)) only [go_sem]) (fun hH => ?_)
    simp (disch := first | omega | (simp only [go_sem]; first | done | omega)) only [go_sem]
    refine AWp.rounds 2 (by kernel_rfl) ?_
    simp (disch := first | omega | (simp only [go_sem]; first | done | omega)) only [go_sem]
    refine heightP_a a (by omega) ?_
    simp (disch := first | omega | (simp only [go_sem]; first | done | omega)) only [go_sem]
    refine heightP_a b (by omega) ?_
    simp (disch := first | omega | (simp only [go_sem]; first | done | omega)) only [go_sem]
    rw [show max (max (0 : Int) (hgt a : Int)) (hgt b : Int) + 1 = ((max (hgt a) (hgt b) + 1 : Nat) : Int) by omega]
    exact Ret.same (Nat.le_refl _) hk
  | .f1 f a, H, K, hs, hk => by
    have ga := hgt_sz a
    simp only [szE] at hs
    simp only [hgt] at hk
    unfold encNd
    refine acalls Tryz.func113 rfl (by kernel_rfl) (by simp (disch := first | omega | (simp only [go_sem]; first | done | omega)) only [go_sem]) (fun hH => ?_)
    simp (disch := first | omega | (simp only [go_sem]; first | done | omega)) only [go_sem]
    refine AWp.rounds 1 (by kernel_rfl) ?_
    simp (disch := first | omega | (simp only [go_sem]; first | done | omega)) only [go_sem]
    refine heightP_a a (by omega) ?_
    simp (disch := first | omega | (simp only [go_sem]; first | done | omega)) only [go_sem]
    rw [show max (0 : Int) (hgt a : Int) + 1 = ((hgt a + 1 : Nat) : Int) by omega]
    exact Ret.same (Nat.le_refl _) hk
  | .f2 f a b, H, K, hs, hk => by
    have ga := hgt_sz a
    have gb := hgt_sz b
    simp only [szE] at hs
    simp only [hgt] at hk
    unfold encNd
    refine acalls Tryz.func113 rfl (by kernel_rfl) (by simp (disch := first | omega | (simp only [go_sem]; first | done | omega)) only [go_sem]) (fun hH => ?_)
    simp (disch := first | omega | (simp only [go_sem]; first | done | omega)) only [go_sem]
    refine AWp.rounds 2 (by kernel_rfl) ?_
    simp (disch := first | omega | (simp only [go_sem]; first | done | omega)) only [go_sem]
    refine heightP_a a (by omega) ?_
    simp (disch := first | omega | (simp only [go_sem]; first | done | omega)) only [go_sem]
    refine heightP_a b (by omega) ?_
    simp (disch := first | omega | (simp only [go_sem]; first | done | omega)) only [go_sem]
    rw [show max (max (0 : Int) (hgt a : Int)) (hgt b : Int) + 1 = ((max (hgt a) (hgt b) + 1 : Nat) : Int) by omega]
    exact Ret.same (Nat.le_refl _) hk
  | .f3 f a b c, H, K, hs, hk => by
    have ga := hgt_sz a
    have gb := hgt_sz b
    have gc := hgt_sz c
    simp only [szE] at hs
    simp only [hgt] at hk
    unfold encNd
    refine acalls Tryz.func113 rfl (by kernel_rfl) (by simp (disch := first | omega | (simp only [go_sem]; first | done | omega)) only [go_sem]) (fun hH => ?_)
    simp (disch := first | omega | (simp only [go_sem]; first | done | omega)) only [go_sem]
    refine AWp.rounds 3 (by kernel_rfl) ?_
    simp (disch := first | omega | (simp only [go_sem]; first | done | omega)) only [go_sem]
    refine heightP_a a (by omega) ?_
    simp (disch := first | omega | (simp only [go_sem]; first | done | omega)) only [go_sem]
    refine heightP_a b (by omega) ?_
    simp (disch := first | omega | (simp only [go_sem]; first | done | omega)) only [go_sem]
    refine heightP_a c (by omega) ?_
    simp (disch := first | omega | (simp only [go_sem]; first | done | omega)) only [go_sem]
    rw [show max (max (max (0 : Int) (hgt a : Int)) (hgt b : Int)) (hgt c : Int) + 1 = ((max (max (hgt a) (hgt b)) (hgt c) + 1 : Nat) : Int) by omega]
    exact Ret.same (Nat.le_refl _) hk
theorem depth_a {H : Hp} {K : AV → Hp → Prop} (l : List UInt8) (hl : l.length ≤ 1000000) (hk1 : ∀ e, parF l = .ok e → K (.tup [(.c (.int .i64 (hgt e))), (.c (.int .i64 0)), (.c (.int .i64 0))]) H) (hk2 : ∀ a c, parF l = .error (a, c) → K (.tup [(.c (.int .i64 0)), (.c (.int .i64 a)), (.c (.int .i64 c))]) H) (hne : ∀ a c, parF l = .error (a, c) → c ≠ 0) : ACalls Tryz.prog 40 [(.c (.str (tB l)))] H K := by
  refine acalls Tryz.func40 rfl (by kernel_rfl) (by simp (disch := first | omega | (simp only [go_sem]; first | done | omega)) only [go_sem]) (fun hH => ?_)
  simp (disch := first | omega | (simp only [go_sem]; first | done | omega)) only [go_sem]
  refine parse_a l hl (fun e h => ?_) (fun a c h => ?_)
  · have hk := hk1 e h
    have hs := par_sz h
    simp (disch := first | omega | (simp only [go_sem]; first | done | omega)) only [go_sem]
    refine heightP_a e (by omega) ?_
    simp (disch := first | omega | (simp only [go_sem]; first | done | omega)) only [go_sem]
    exact Ret.same (Nat.le_refl _) hk
  · have hk := hk2 a c h
    have hc := hne a c h
    simp (disch := first | omega | (simp only [go_sem]; first | done | omega)) only [go_sem, hc]
    exact Ret.same (Nat.le_refl _) hk
end Go.Proofs.YtflklkijfkmeiaaGreatDoor
/- Words of a line: base.Words, sample.word, sample.ReadWords. -/
namespace Go.Proofs.YtflklkijfkmeiaaGreatDoor
open Go Go.RowKit
set_option maxRecDepth 100000
set_option linter.all false
set_option maxHeartbeats 2000000
variable {H : Hp} {K : AV → Hp → Prop}
theorem getElem_tx {ws : List (List UInt8)} {k : Nat} (h : k < ws.length) (h2 : k < (ws.map encTx).length) : (ws.map encTx)[k] = [.str (tB ws[k])] := by rw [List.getElem_map]; rfl
end Go.Proofs.YtflklkijfkmeiaaGreatDoor
