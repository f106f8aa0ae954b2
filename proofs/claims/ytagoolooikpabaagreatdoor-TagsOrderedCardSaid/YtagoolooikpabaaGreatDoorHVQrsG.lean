/- Several texts in one: logref2, and what follows. No condition. -/
import Derived.Test.YtagoolooikpabaaGreatDoorHVQrsF
set_option linter.all false
namespace Go.Proofs.YtagoolooikpabaaGreatDoor
open Go Go.RowKit
set_option maxRecDepth 100000
set_option maxHeartbeats 4000000
variable {H : Hp} {K : AV → Hp → Prop}
theorem parsedQ_a (l : List UInt8) (hl : l.length ≤ 1000000) (hk1 : ∀ e, parF l = .ok e → K (.tup [.agg (encT e), (.c (.int .i64 0)), (.c (.int .i64 0))]) H) (hk2 : ∀ a c, parF l = .error (a, c) → K (.tup [.agg zT, (.c (.int .i64 a)), (.c (.int .i64 c))]) H) : ACalls Tryz.prog 114 [(.c (.str (tB l)))] H K := by
 have hsz := tB_size l
 unfold parF at hk1 hk2
 by_cases h5 : 500 < l.length
 ·rw [if_pos h5] at hk2
  have hk := hk2 0 2 rfl
  refine acalls Tryz.func114 rfl (by kernel_rfl) (by simp (disch := first | omega | (simp only [go_sem]; try omega)) only [go_sem]) (fun hH => ?_)
  simp (disch := first | omega | (simp only [go_sem]; try omega)) only [go_sem, hsz, h5]
  exact Ret.drop hH (Nat.le_refl _) (by simp [AV.ok, AV.ok1, AC.ok]) hk
 rw [if_neg h5] at hk1 hk2
 obtain ⟨n, hn⟩ : ∃ n, n = (tokF l 0).length := ⟨_, rfl⟩
 have hnl := (tokF_len l 0).2
 rw [← hn] at hk1 hk2 hnl
 have hT := Tl.top l
 have hat : ∀ (X Y : AObj) (G : Hp), (H ++ (Y :: X :: G))[H.length + 1]? = some X := fun X Y G => by rw [List.getElem?_append_right (by omega)]; simp
 have hset : ∀ (X Y Z : AObj) (G : Hp), (H ++ (Y :: X :: G)).set (H.length + 1) Z = H ++ (Y :: Z :: G) := fun X Y Z G => by rw [List.set_append_right _ _ (by omega)]; simp
 have hcg := comp_good 0 (fact_good l n 0)
 refine acalls Tryz.func114 rfl (by kernel_rfl) (by simp (disch := first | omega | (simp only [go_sem]; try omega)) only [go_sem]) (fun hH => ?_)
 simp (disch := first | omega | (simp only [go_sem]; try omega)) only [go_sem, hsz, h5]
 refine tokensQ_a l (by omega) ?_
 simp (disch := first | omega | (simp only [go_sem]; try omega)) only [go_sem]
 refine compareQ_a (i := H.length + 1) (by omega) (factorQ_a (l := l) (by omega) (H.length + 1) n 0 (by omega) (by omega)) (fact_good l n 0) _ _ (tokF l 0) (-1) (hat _ _ _) trivial hT (by omega) (fun x T' dp' h => ?_) (fun e T' d' dp' cs h hcs => ?_)
 ·rw [h] at hk1 hk2
  obtain ⟨g1, g2, g3⟩ := hcg _ _ _ _ _ hT h
  obtain ⟨t, T2, rfl, ht, _⟩ := g2.head
  dsimp only at hk1 hk2
  have h7 := (encT_ok x).1
  have h6 : (encT x).take 5 = encT x := List.take_of_length_le (by omega)
  have hq := (qK_k ht).1
  rw [hset, psQ_row]
  simp (disch := first | omega | (simp only [go_sem]; try omega)) only [go_sem, h6, h7]
  refine nextQ_a (t := t) (T := T2) (d := 0) (dp := dp') (bad := -1) (hat _ _ _) ?_
  by_cases h0 : t.k = 0
  ·have hp : qK t = 36 := hq.2 h0
   rw [if_neg (by simpa using h0)] at hk1 hk2
   by_cases hdp : 0 ≤ dp'
   ·rw [if_pos hdp] at hk2
    have hk := hk2 _ _ rfl
    simp (disch := first | omega | (simp only [go_sem]; try omega)) only [go_sem, hp, hdp]
    refine w_tree (.one 0 (.one 1 (.one 2 (.one 3 (.two 4 (.one 5 (.one 6 (.one 7 .done))) 5 (.one 4 (.one 6 (.one 7 .done)))))))) (by kernel_rfl) (by decide +kernel) ?_
    simp (disch := first | omega | (simp only [go_sem]; try omega)) only [go_sem]
    all_goals (repeat' apply And.intro)
    all_goals try simp (disch := first | omega | (simp only [go_sem]; try omega)) only [go_sem]
    all_goals (repeat' apply And.intro)
    all_goals try simp (disch := first | omega | (simp only [go_sem]; try omega)) only [go_sem]
    all_goals exact Ret.drop hH (Nat.le_refl _) (by simp [AV.ok, AV.ok1, AC.ok]) hk
   ·rw [if_neg hdp] at hk1
    have hk := hk1 _ rfl
    simp (disch := first | omega | (simp only [go_sem]; try omega)) only [go_sem, hp, hdp, h6, h7]
    refine Ret.drop hH (Nat.le_refl _) ?_ hk
    intro z hz
    simp only [List.mem_cons, List.not_mem_nil, or_false] at hz
    rcases hz with rfl | rfl | rfl
    ·exact (encT_ok x).ok _
    ·trivial
    ·trivial
  ·have hp : ¬ qK t = 36 := fun h => h0 (hq.1 h)
   rw [if_pos (by simpa using h0)] at hk2
   have hk := hk2 _ _ rfl
   simp (disch := first | omega | (simp only [go_sem]; try omega)) only [go_sem, hp]
   refine failQ_a (t := t) (T := T2) (d := 0) (dp := dp') (hat _ _ _) ?_
   rw [hset, psQ_row]
   have hto : (0 : Int) ≤ (t.o : Int) := by omega
   simp (disch := first | omega | (simp only [go_sem]; try omega)) only [go_sem, hto]
   refine w_tree (.one 0 (.one 1 (.one 2 (.one 3 (.two 4 (.one 5 (.one 6 (.one 7 .done))) 5 (.one 4 (.one 6 (.one 7 .done)))))))) (by kernel_rfl) (by decide +kernel) ?_
   simp (disch := first | omega | (simp only [go_sem]; try omega)) only [go_sem]
   all_goals (repeat' apply And.intro)
   all_goals try simp (disch := first | omega | (simp only [go_sem]; try omega)) only [go_sem]
   all_goals (repeat' apply And.intro)
   all_goals try simp (disch := first | omega | (simp only [go_sem]; try omega)) only [go_sem]
   all_goals exact Ret.drop hH (Nat.le_refl _) (by simp [AV.ok, AV.ok1, AC.ok]) hk
 ·rw [h] at hk2
  have hk := hk2 _ _ rfl
  have h7 := hcs.1
  have h6 : cs.take 5 = cs := List.take_of_length_le (by omega)
  rw [hset, psQ_row]
  simp (disch := first | omega | (simp only [go_sem]; try omega)) only [go_sem, h6, h7]
  refine w_tree (.one 0 (.one 1 (.one 2 (.one 3 (.two 4 (.one 5 (.one 6 (.one 7 .done))) 5 (.one 4 (.one 6 (.one 7 .done)))))))) (by kernel_rfl) (by decide +kernel) ?_
  simp (disch := first | omega | (simp only [go_sem]; try omega)) only [go_sem]
  all_goals (repeat' apply And.intro)
  all_goals try simp (disch := first | omega | (simp only [go_sem]; try omega)) only [go_sem]
  all_goals (repeat' apply And.intro)
  all_goals try simp (disch := first | omega | (simp only [go_sem]; try omega)) only [go_sem]
  all_goals exact Ret.drop hH (Nat.le_refl _) (by simp [AV.ok, AV.ok1, AC.ok]) hk
theorem checkOf_a (l : List UInt8) (hl : l.length ≤ 1000000) (hk : K (.tup [(.c (.int .i64 ((chkF l).1))), (.c (.int .i64 ((chkF l).2)))]) H) : ACalls Tryz.prog 60 [(.c (.str (tB l)))] H K := by
 unfold chkF at hk
 refine acalls Tryz.func60 rfl (by kernel_rfl) (by simp (disch := first | omega | (simp only [go_sem]; try omega)) only [go_sem]) (fun hH => ?_)
 simp (disch := first | omega | (simp only [go_sem]; try omega)) only [go_sem]
 refine parsedQ_a l hl (fun e h => ?_) (fun a c h => ?_)
 ·rw [h] at hk
  have h7 := (encT_ok e).1
  simp (disch := first | omega | (simp only [go_sem]; try omega)) only [go_sem, h7]
  exact Ret.drop hH (Nat.le_refl _) (by simp [AV.ok, AV.ok1, AC.ok]) hk
 ·rw [h] at hk
  simp (disch := first | omega | (simp only [go_sem]; try omega)) only [go_sem]
  exact Ret.drop hH (Nat.le_refl _) (by simp [AV.ok, AV.ok1, AC.ok]) hk
end Go.Proofs.YtagoolooikpabaaGreatDoor
namespace Go.Proofs.YtagoolooikpabaaGreatDoor
open Go Go.RowKit
theorem encT_l (x : Ex) : (encT x).length = 5 := (encT_ok x).1
theorem encT_t (x : Ex) : (encT x).take 5 = encT x := List.take_of_length_le (by rw [encT_l]; exact Nat.le_refl _)
end Go.Proofs.YtagoolooikpabaaGreatDoor
namespace Go.Proofs.YtagoolooikpabaaGreatDoor
open Go Go.RowKit
set_option maxRecDepth 100000
set_option maxHeartbeats 4000000
@[go_sem] theorem kd_number_1 : decide ((⟨#[110, 117, 109, 98, 101, 114]⟩ : ByteArray) = ⟨#[116, 97, 103]⟩) = false := (by decide)
@[go_sem] theorem kd_tag_0 : decide ((⟨#[116, 97, 103]⟩ : ByteArray) = ⟨#[110, 117, 109, 98, 101, 114]⟩) = false := (by decide)
@[go_sem] theorem kd_minus_0 : decide ((⟨#[109, 105, 110, 117, 115]⟩ : ByteArray) = ⟨#[110, 117, 109, 98, 101, 114]⟩) = false := (by decide)
@[go_sem] theorem kd_minus_1 : decide ((⟨#[109, 105, 110, 117, 115]⟩ : ByteArray) = ⟨#[116, 97, 103]⟩) = false := (by decide)
@[go_sem] theorem kd_c43_5 : decide ((tB [43] : ByteArray) = ⟨#[43]⟩) = true := (by decide)
@[go_sem] theorem kd_c45_5 : decide ((tB [45] : ByteArray) = ⟨#[43]⟩) = false := (by decide)
@[go_sem] theorem kd_c45_6 : decide ((tB [45] : ByteArray) = ⟨#[45]⟩) = true := (by decide)
@[go_sem] theorem kd_c42_5 : decide ((tB [42] : ByteArray) = ⟨#[43]⟩) = false := (by decide)
@[go_sem] theorem kd_c42_6 : decide ((tB [42] : ByteArray) = ⟨#[45]⟩) = false := (by decide)
@[go_sem] theorem kd_c42_7 : decide ((tB [42] : ByteArray) = ⟨#[42]⟩) = true := (by decide)
@[go_sem] theorem kd_c47_5 : decide ((tB [47] : ByteArray) = ⟨#[43]⟩) = false := (by decide)
@[go_sem] theorem kd_c47_6 : decide ((tB [47] : ByteArray) = ⟨#[45]⟩) = false := (by decide)
@[go_sem] theorem kd_c47_7 : decide ((tB [47] : ByteArray) = ⟨#[42]⟩) = false := (by decide)
@[go_sem] theorem kd_c47_8 : decide ((tB [47] : ByteArray) = ⟨#[47]⟩) = true := (by decide)
@[go_sem] theorem kd_c60_3 : decide ((tB [60] : ByteArray) = ⟨#[60]⟩) = true := (by decide)
@[go_sem] theorem kd_c60_5 : decide ((tB [60] : ByteArray) = ⟨#[43]⟩) = false := (by decide)
@[go_sem] theorem kd_c60_6 : decide ((tB [60] : ByteArray) = ⟨#[45]⟩) = false := (by decide)
@[go_sem] theorem kd_c60_7 : decide ((tB [60] : ByteArray) = ⟨#[42]⟩) = false := (by decide)
@[go_sem] theorem kd_c60_8 : decide ((tB [60] : ByteArray) = ⟨#[47]⟩) = false := (by decide)
@[go_sem] theorem kd_c61_3 : decide ((tB [61] : ByteArray) = ⟨#[60]⟩) = false := (by decide)
@[go_sem] theorem kd_c61_4 : decide ((tB [61] : ByteArray) = ⟨#[61]⟩) = true := (by decide)
@[go_sem] theorem kd_c61_5 : decide ((tB [61] : ByteArray) = ⟨#[43]⟩) = false := (by decide)
@[go_sem] theorem kd_c61_6 : decide ((tB [61] : ByteArray) = ⟨#[45]⟩) = false := (by decide)
@[go_sem] theorem kd_c61_7 : decide ((tB [61] : ByteArray) = ⟨#[42]⟩) = false := (by decide)
@[go_sem] theorem kd_c61_8 : decide ((tB [61] : ByteArray) = ⟨#[47]⟩) = false := (by decide)
@[go_sem] theorem kd_wAbs_0 : decide ((tB wAbs : ByteArray) = ⟨#[110, 117, 109, 98, 101, 114]⟩) = false := (by decide)
@[go_sem] theorem kd_wAbs_1 : decide ((tB wAbs : ByteArray) = ⟨#[116, 97, 103]⟩) = false := (by decide)
@[go_sem] theorem kd_wAbs_2 : decide ((tB wAbs : ByteArray) = ⟨#[109, 105, 110, 117, 115]⟩) = false := (by decide)
@[go_sem] theorem kd_wGd_0 : decide ((tB wGd : ByteArray) = ⟨#[110, 117, 109, 98, 101, 114]⟩) = false := (by decide)
@[go_sem] theorem kd_wGd_1 : decide ((tB wGd : ByteArray) = ⟨#[116, 97, 103]⟩) = false := (by decide)
@[go_sem] theorem kd_wGd_2 : decide ((tB wGd : ByteArray) = ⟨#[109, 105, 110, 117, 115]⟩) = false := (by decide)
@[go_sem] theorem kd_wMin_0 : decide ((tB wMin : ByteArray) = ⟨#[110, 117, 109, 98, 101, 114]⟩) = false := (by decide)
@[go_sem] theorem kd_wMin_1 : decide ((tB wMin : ByteArray) = ⟨#[116, 97, 103]⟩) = false := (by decide)
@[go_sem] theorem kd_wMin_2 : decide ((tB wMin : ByteArray) = ⟨#[109, 105, 110, 117, 115]⟩) = false := (by decide)
@[go_sem] theorem kd_wMin_3 : decide ((tB wMin : ByteArray) = ⟨#[60]⟩) = false := (by decide)
@[go_sem] theorem kd_wMin_4 : decide ((tB wMin : ByteArray) = ⟨#[61]⟩) = false := (by decide)
@[go_sem] theorem kd_wMin_5 : decide ((tB wMin : ByteArray) = ⟨#[43]⟩) = false := (by decide)
@[go_sem] theorem kd_wMin_6 : decide ((tB wMin : ByteArray) = ⟨#[45]⟩) = false := (by decide)
@[go_sem] theorem kd_wMin_7 : decide ((tB wMin : ByteArray) = ⟨#[42]⟩) = false := (by decide)
@[go_sem] theorem kd_wMin_8 : decide ((tB wMin : ByteArray) = ⟨#[47]⟩) = false := (by decide)
@[go_sem] theorem kd_wMax_0 : decide ((tB wMax : ByteArray) = ⟨#[110, 117, 109, 98, 101, 114]⟩) = false := (by decide)
@[go_sem] theorem kd_wMax_1 : decide ((tB wMax : ByteArray) = ⟨#[116, 97, 103]⟩) = false := (by decide)
@[go_sem] theorem kd_wMax_2 : decide ((tB wMax : ByteArray) = ⟨#[109, 105, 110, 117, 115]⟩) = false := (by decide)
@[go_sem] theorem kd_wMax_3 : decide ((tB wMax : ByteArray) = ⟨#[60]⟩) = false := (by decide)
@[go_sem] theorem kd_wMax_4 : decide ((tB wMax : ByteArray) = ⟨#[61]⟩) = false := (by decide)
@[go_sem] theorem kd_wMax_5 : decide ((tB wMax : ByteArray) = ⟨#[43]⟩) = false := (by decide)
@[go_sem] theorem kd_wMax_6 : decide ((tB wMax : ByteArray) = ⟨#[45]⟩) = false := (by decide)
@[go_sem] theorem kd_wMax_7 : decide ((tB wMax : ByteArray) = ⟨#[42]⟩) = false := (by decide)
@[go_sem] theorem kd_wMax_8 : decide ((tB wMax : ByteArray) = ⟨#[47]⟩) = false := (by decide)
@[go_sem] theorem kd_wIf_0 : decide ((tB wIf : ByteArray) = ⟨#[110, 117, 109, 98, 101, 114]⟩) = false := (by decide)
@[go_sem] theorem kd_wIf_1 : decide ((tB wIf : ByteArray) = ⟨#[116, 97, 103]⟩) = false := (by decide)
@[go_sem] theorem kd_wIf_2 : decide ((tB wIf : ByteArray) = ⟨#[109, 105, 110, 117, 115]⟩) = false := (by decide)
theorem fn1 {f : List UInt8} (h : fnN f = 1) : f = wAbs ∨ f = wGd := by
 unfold fnN at h
 split at h
 ·assumption
 ·split at h
  ·omega
  ·split at h <;> omega
theorem fn2 {f : List UInt8} (h : fnN f = 2) : f = wMin ∨ f = wMax := by
 unfold fnN at h
 split at h
 ·omega
 ·split at h
  ·assumption
  ·split at h <;> omega
theorem fn3 {f : List UInt8} (h : fnN f = 3) : f = wIf := by
 unfold fnN at h
 split at h
 ·omega
 ·split at h
  ·omega
  ·split at h
   ·assumption
   ·omega
theorem fn_kind {f : List UInt8} (h : 0 < fnN f) : decide (tB f = ⟨#[110, 117, 109, 98, 101, 114]⟩) = false ∧ decide (tB f = ⟨#[116, 97, 103]⟩) = false ∧ decide (tB f = ⟨#[109, 105, 110, 117, 115]⟩) = false := by
 have : f = wAbs ∨ f = wGd ∨ f = wMin ∨ f = wMax ∨ f = wIf := by
  unfold fnN at h
  repeat' split at h
  all_goals first | omega | (rename_i g; grind)
 rcases this with rfl | rfl | rfl | rfl | rfl <;> exact ⟨by decide, by decide, by decide⟩
theorem op_kind {c : UInt8} (h : c ∈ ops6) : (decide (tB [c] = ⟨#[110, 117, 109, 98, 101, 114]⟩) = false ∧ decide (tB [c] = ⟨#[116, 97, 103]⟩) = false ∧ decide (tB [c] = ⟨#[109, 105, 110, 117, 115]⟩) = false) ∧ fnN [c] = 0 := by
 simp only [ops6, List.mem_cons, List.not_mem_nil, or_false] at h
 rcases h with rfl | rfl | rfl | rfl | rfl | rfl <;> exact ⟨⟨by decide, by decide, by decide⟩, by decide⟩
end Go.Proofs.YtagoolooikpabaaGreatDoor
namespace Go.Proofs.YtagoolooikpabaaGreatDoor
open Go Go.RowKit
set_option maxRecDepth 100000
set_option maxHeartbeats 4000000
variable {H : Hp} {K : AV → Hp → Prop}
@[go_sem] def encV (v : Vl) : List AC := [.int .i64 v.n, .int .i64 v.q]
theorem badE_a (hk : K (.agg (encV badV)) H) : ACalls Tryz.prog 131 [] H K := by
 refine acalls Tryz.func131 rfl (by kernel_rfl) (by simp (disch := first | omega | (simp only [go_sem]; try omega)) only [go_sem]) (fun hH => ?_)
 simp (disch := first | omega | (simp only [go_sem]; try omega)) only [go_sem]
 exact Ret.drop hH (Nat.le_refl _) (by simp [AV.ok, AV.ok1, AC.ok]) hk
theorem boundedE_a (n q most : Int) (hm : 0 ≤ most ∧ most ≤ 1000000000000) (hk : K (.agg (encV (bdV n q most))) H) : ACalls Tryz.prog 174 [(.c (.int .i64 n)), (.c (.int .i64 q)), (.c (.int .i64 most))] H K := by
 unfold bdV at hk
 by_cases h1 : q = 2
 ·rw [if_pos (.inl h1)] at hk
  refine acalls Tryz.func174 rfl (by kernel_rfl) (by simp (disch := first | omega | (simp only [go_sem]; try omega)) only [go_sem]) (fun hH => ?_)
  simp (disch := first | omega | (simp only [go_sem]; try omega)) only [go_sem, h1]
  refine badE_a ?_
  simp (disch := first | omega | (simp only [go_sem]; try omega)) only [go_sem]
  exact Ret.drop hH (Nat.le_refl _) (by simp [AV.ok, AV.ok1, AC.ok]) hk
 ·refine acalls Tryz.func174 rfl (by kernel_rfl) (by simp (disch := first | omega | (simp only [go_sem]; try omega)) only [go_sem]) (fun hH => ?_)
  simp (disch := first | omega | (simp only [go_sem]; try omega)) only [go_sem, h1]
  refine out_a _ _ _ _ _ ?_
  by_cases h2 : n < -most ∨ most < n
  ·rw [if_pos (.inr h2)] at hk
   rw [decide_eq_true (show n < 0 - most ∨ most < n by omega)]
   simp (disch := first | omega | (simp only [go_sem]; try omega)) only [go_sem]
   refine badE_a ?_
   simp (disch := first | omega | (simp only [go_sem]; try omega)) only [go_sem]
   exact Ret.drop hH (Nat.le_refl _) (by simp [AV.ok, AV.ok1, AC.ok]) hk
  ·rw [if_neg (fun e => e.elim h1 h2)] at hk
   rw [decide_eq_false (show ¬ (n < 0 - most ∨ most < n) by omega)]
   simp (disch := first | omega | (simp only [go_sem]; try omega)) only [go_sem]
   exact Ret.drop hH (Nat.le_refl _) (by simp [AV.ok, AV.ok1, AC.ok]) hk
theorem ofE_a (p : Prop) [Decidable p] (q : Int) (hk : K (.agg (encV (bdV (oneV p) q 1))) H) : ACalls Tryz.prog 175 [(.c (.bool (decide p))), (.c (.int .i64 q))] H K := by
 by_cases h : p
 ·rw [show oneV p = 1 from if_pos h] at hk
  rw [decide_eq_true h]
  refine acalls Tryz.func175 rfl (by kernel_rfl) (by simp (disch := first | omega | (simp only [go_sem]; try omega)) only [go_sem]) (fun hH => ?_)
  simp (disch := first | omega | (simp only [go_sem]; try omega)) only [go_sem]
  refine boundedE_a 1 q 1 (by decide) ?_
  simp (disch := first | omega | (simp only [go_sem]; try omega)) only [go_sem]
  exact Ret.drop hH (Nat.le_refl _) (by simp [AV.ok, AV.ok1, AC.ok]) hk
 ·rw [show oneV p = 0 from if_neg h] at hk
  rw [decide_eq_false h]
  refine acalls Tryz.func175 rfl (by kernel_rfl) (by simp (disch := first | omega | (simp only [go_sem]; try omega)) only [go_sem]) (fun hH => ?_)
  simp (disch := first | omega | (simp only [go_sem]; try omega)) only [go_sem]
  refine boundedE_a 0 q 1 (by decide) ?_
  simp (disch := first | omega | (simp only [go_sem]; try omega)) only [go_sem]
  exact Ret.drop hH (Nat.le_refl _) (by simp [AV.ok, AV.ok1, AC.ok]) hk
theorem prodE_a (a b : Int) (ha : -1000000000000 ≤ a ∧ a ≤ 1000000000000) (hb : -1000000000000 ≤ b ∧ b ≤ 1000000000000) (hk : K (.c (.int .i64 (mulV a b))) H) : ACalls Tryz.prog 226 [(.c (.int .i64 a)), (.c (.int .i64 b))] H K := by
 unfold mulV at hk
 by_cases h0 : a = 0
 ·rw [if_neg (fun e => e.1 h0)] at hk
  subst h0
  refine acalls Tryz.func226 rfl (by kernel_rfl) (by simp (disch := first | omega | (simp only [go_sem]; try omega)) only [go_sem]) (fun hH => ?_)
  simp (disch := first | omega | (simp only [go_sem]; try omega)) only [go_sem]
  exact Ret.same (Nat.le_refl _) hk
 ·have hd : Int.tdiv 1000000000000 (max a (-a)) = 1000000000000 / max a (0 - a) := by
   rw [show (0 : Int) - a = -a by omega]
   exact Int.tdiv_eq_ediv_of_nonneg (by decide)
  rw [hd, show -b = 0 - b by omega] at hk
  by_cases h1 : 1000000000000 / max a (0 - a) < max b (0 - b)
  ·rw [if_pos ⟨h0, h1⟩] at hk
   refine acalls Tryz.func226 rfl (by kernel_rfl) (by simp (disch := first | omega | (simp only [go_sem]; try omega)) only [go_sem]) (fun hH => ?_)
   simp (disch := first | omega | (simp only [go_sem]; try omega)) only [go_sem, h0, h1]
   exact Ret.same (Nat.le_refl _) hk
  ·rw [if_neg (fun e => h1 e.2)] at hk
   have hab : -1000000000000 ≤ a * b ∧ a * b ≤ 1000000000000 := by
    have h2 : max b (0 - b) * max a (0 - a) ≤ 1000000000000 := Int.mul_le_of_le_ediv (by omega) (by omega)
    have h3 : a * b ≤ max b (0 - b) * max a (0 - a) ∧ -(a * b) ≤ max b (0 - b) * max a (0 - a) := by
     rcases Int.le_total 0 a with ha0 | ha0 <;> rcases Int.le_total 0 b with hb0 | hb0
     ·rw [show max b (0 - b) = b by omega, show max a (0 - a) = a by omega, Int.mul_comm b a]
      have := Int.mul_nonneg ha0 hb0
      omega
     ·rw [show max b (0 - b) = -b by omega, show max a (0 - a) = a by omega, Int.neg_mul, Int.mul_comm b a]
      have := Int.mul_nonneg ha0 (show 0 ≤ -b by omega)
      rw [Int.mul_neg] at this
      omega
     ·rw [show max b (0 - b) = b by omega, show max a (0 - a) = -a by omega, Int.mul_neg, Int.mul_comm b a]
      have := Int.mul_nonneg (show 0 ≤ -a by omega) hb0
      rw [Int.neg_mul] at this
      omega
     ·rw [show max b (0 - b) = -b by omega, show max a (0 - a) = -a by omega, Int.neg_mul_neg, Int.mul_comm b a]
      have := Int.mul_nonneg (show 0 ≤ -a by omega) (show 0 ≤ -b by omega)
      rw [Int.neg_mul_neg] at this
      omega
    omega
   have hw : IntKind.i64.wrap (a * b) = a * b := by rw [IntKind.wrap_i64]; omega
   refine acalls Tryz.func226 rfl (by kernel_rfl) (by simp (disch := first | omega | (simp only [go_sem]; try omega)) only [go_sem]) (fun hH => ?_)
   simp (disch := first | omega | (simp only [go_sem]; try omega)) only [go_sem, h0, h1, hw]
   exact Ret.same (Nat.le_refl _) hk
@[go_sem] theorem kdm_wMin : decide ((tB wMin : ByteArray) = ⟨#[109, 105, 110]⟩) = true := (by decide)
@[go_sem] theorem kdm_wMax : decide ((tB wMax : ByteArray) = ⟨#[109, 105, 110]⟩) = false := (by decide)
theorem twoE_a (c : UInt8) (hc : c ∈ ops6) (a b : Vl) (ha : VlOk a) (hb : VlOk b) (hk : K (.agg (encV (twoV c a b))) H) : ACalls Tryz.prog 176 [(.c (.str (tB [c]))), .agg (encV a), .agg (encV b)] H K := by
 obtain ⟨a1, a2, _⟩ := ha
 obtain ⟨b1, b2, _⟩ := hb
 simp only [ops6, List.mem_cons, List.not_mem_nil, or_false] at hc
 rcases hc with rfl | rfl | rfl | rfl | rfl | rfl
 ·refine acalls Tryz.func176 rfl (by kernel_rfl) (by simp (disch := first | omega | (simp only [go_sem]; try omega)) only [go_sem]) (fun hH => ?_)
  simp (disch := first | omega | (simp only [go_sem]; try omega)) only [go_sem]
  refine boundedE_a _ _ _ (by decide) ?_
  simp (disch := first | omega | (simp only [go_sem]; try omega)) only [go_sem]
  exact Ret.drop hH (Nat.le_refl _) (by simp [AV.ok, AV.ok1, AC.ok]) hk
 ·refine acalls Tryz.func176 rfl (by kernel_rfl) (by simp (disch := first | omega | (simp only [go_sem]; try omega)) only [go_sem]) (fun hH => ?_)
  simp (disch := first | omega | (simp only [go_sem]; try omega)) only [go_sem]
  refine boundedE_a _ _ _ (by decide) ?_
  simp (disch := first | omega | (simp only [go_sem]; try omega)) only [go_sem]
  exact Ret.drop hH (Nat.le_refl _) (by simp [AV.ok, AV.ok1, AC.ok]) hk
 ·refine acalls Tryz.func176 rfl (by kernel_rfl) (by simp (disch := first | omega | (simp only [go_sem]; try omega)) only [go_sem]) (fun hH => ?_)
  simp (disch := first | omega | (simp only [go_sem]; try omega)) only [go_sem]
  refine prodE_a a.n b.n a1 b1 ?_
  simp (disch := first | omega | (simp only [go_sem]; try omega)) only [go_sem]
  refine boundedE_a _ _ _ (by decide) ?_
  simp (disch := first | omega | (simp only [go_sem]; try omega)) only [go_sem]
  exact Ret.drop hH (Nat.le_refl _) (by simp [AV.ok, AV.ok1, AC.ok]) hk
 ·have hk : K (.agg (encV (if b.n = 0 then badV else bdV (a.n.tdiv b.n) (max a.q b.q) 1000000000000))) H := hk
  by_cases h0 : b.n = 0
  ·rw [if_pos h0] at hk
   refine acalls Tryz.func176 rfl (by kernel_rfl) (by simp (disch := first | omega | (simp only [go_sem]; try omega)) only [go_sem]) (fun hH => ?_)
   simp (disch := first | omega | (simp only [go_sem]; try omega)) only [go_sem, h0]
   refine badE_a ?_
   simp (disch := first | omega | (simp only [go_sem]; try omega)) only [go_sem]
   exact Ret.drop hH (Nat.le_refl _) (by simp [AV.ok, AV.ok1, AC.ok]) hk
  ·rw [if_neg h0] at hk
   have hdv : (a.n.tdiv b.n).natAbs ≤ a.n.natAbs := by rw [Int.natAbs_tdiv]; exact Nat.div_le_self _ _
   have hw : IntKind.i64.wrap (a.n.tdiv b.n) = a.n.tdiv b.n := by rw [IntKind.wrap_i64]; omega
   refine acalls Tryz.func176 rfl (by kernel_rfl) (by simp (disch := first | omega | (simp only [go_sem]; try omega)) only [go_sem]) (fun hH => ?_)
   simp (disch := first | omega | (simp only [go_sem]; try omega)) only [go_sem, h0, hw]
   refine boundedE_a _ _ _ (by decide) ?_
   simp (disch := first | omega | (simp only [go_sem]; try omega)) only [go_sem]
   exact Ret.drop hH (Nat.le_refl _) (by simp [AV.ok, AV.ok1, AC.ok]) hk
 ·refine acalls Tryz.func176 rfl (by kernel_rfl) (by simp (disch := first | omega | (simp only [go_sem]; try omega)) only [go_sem]) (fun hH => ?_)
  simp (disch := first | omega | (simp only [go_sem]; try omega)) only [go_sem]
  refine ofE_a (a.n < b.n) _ ?_
  simp (disch := first | omega | (simp only [go_sem]; try omega)) only [go_sem]
  exact Ret.drop hH (Nat.le_refl _) (by simp [AV.ok, AV.ok1, AC.ok]) hk
 ·refine acalls Tryz.func176 rfl (by kernel_rfl) (by simp (disch := first | omega | (simp only [go_sem]; try omega)) only [go_sem]) (fun hH => ?_)
  simp (disch := first | omega | (simp only [go_sem]; try omega)) only [go_sem]
  refine ofE_a (a.n = b.n) _ ?_
  simp (disch := first | omega | (simp only [go_sem]; try omega)) only [go_sem]
  exact Ret.drop hH (Nat.le_refl _) (by simp [AV.ok, AV.ok1, AC.ok]) hk
theorem minE_a (a b : Vl) (hk : K (.agg (encV (bdV (min a.n b.n) (max a.q b.q) 1000000000000))) H) : ACalls Tryz.prog 176 [(.c (.str (tB wMin))), .agg (encV a), .agg (encV b)] H K := by
 refine acalls Tryz.func176 rfl (by kernel_rfl) (by simp (disch := first | omega | (simp only [go_sem]; try omega)) only [go_sem]) (fun hH => ?_)
 simp (disch := first | omega | (simp only [go_sem]; try omega)) only [go_sem]
 refine boundedE_a _ _ _ (by decide) ?_
 simp (disch := first | omega | (simp only [go_sem]; try omega)) only [go_sem]
 exact Ret.drop hH (Nat.le_refl _) (by simp [AV.ok, AV.ok1, AC.ok]) hk
theorem maxE_a (a b : Vl) (hk : K (.agg (encV (bdV (max a.n b.n) (max a.q b.q) 1000000000000))) H) : ACalls Tryz.prog 176 [(.c (.str (tB wMax))), .agg (encV a), .agg (encV b)] H K := by
 refine acalls Tryz.func176 rfl (by kernel_rfl) (by simp (disch := first | omega | (simp only [go_sem]; try omega)) only [go_sem]) (fun hH => ?_)
 simp (disch := first | omega | (simp only [go_sem]; try omega)) only [go_sem]
 refine boundedE_a _ _ _ (by decide) ?_
 simp (disch := first | omega | (simp only [go_sem]; try omega)) only [go_sem]
 exact Ret.drop hH (Nat.le_refl _) (by simp [AV.ok, AV.ok1, AC.ok]) hk
end Go.Proofs.YtagoolooikpabaaGreatDoor
namespace Go.Proofs.YtagoolooikpabaaGreatDoor
open Go Go.RowKit
set_option maxRecDepth 100000
set_option maxHeartbeats 4000000
variable {H : Hp} {K : AV → Hp → Prop}
def finV (v : Vl) (at' : Int) : Smp := ⟨at', (bdV v.n v.q 1000000).n, (bdV v.n v.q 1000000).q⟩
theorem finalE_a (v : Vl) (m : Int) (hk : K (.agg (encS (finV v m))) H) : ACalls Tryz.prog 120 [.agg (encV v), (.c (.int .i64 m))] H K := by
 unfold finV at hk
 refine acalls Tryz.func120 rfl (by kernel_rfl) (by simp (disch := first | omega | (simp only [go_sem]; try omega)) only [go_sem]) (fun hH => ?_)
 simp (disch := first | omega | (simp only [go_sem]; try omega)) only [go_sem]
 refine boundedE_a _ _ _ (by decide) ?_
 generalize bdV v.n v.q 1000000 = u at *
 simp (disch := first | omega | (simp only [go_sem]; try omega)) only [go_sem]
 exact Ret.drop hH (Nat.le_refl _) (by simp [AV.ok, AV.ok1, AC.ok]) hk
end Go.Proofs.YtagoolooikpabaaGreatDoor
