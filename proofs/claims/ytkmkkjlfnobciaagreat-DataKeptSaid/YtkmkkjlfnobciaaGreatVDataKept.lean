/- DataKept: what the law's function answers for all numbers it is given. No condition. -/
import Derived.Test.YtkmkkjlfnobciaaGreatVPurged
import Derived.Test.YtkmkkjlfnobciaaGreatVEqFB
import Derived.Test.YtkmkkjlfnobciaaGreatVHoldsD
import Derived.Test.YtkmkkjlfnobciaaGreatVErrs
namespace Go.Proofs.YtkmkkjlfnobciaaGreat
open Go Go.RowKit
set_option maxRecDepth 100000
set_option linter.all false
set_option maxHeartbeats 1000000
variable {H : Hp} {K : AV → Hp → Prop}
theorem levelListF_a (s : Nat) (zs : List Int) (j : Int) (hs : Str H s zs j) (hj : j ≤ 1000000000)
    (hk : ∀ (lv : List Level) (j' : Int), j ≤ j' → j' ≤ j + 20 → lv.length ≤ 4 → K (.c (.lst 2 (lv.map encL))) (H.set s (strO zs j'))) :
    ACalls Tryz.prog 5 [.c (.ptr (some (s, 0, 0)))] H K := by
  refine ACalls.postR (levelList_o s zs j hs hj (K := fun v G => ∃ lv j', j ≤ j' ∧ j' ≤ j + 20 ∧ lv.length ≤ 4 ∧ v = .c (clV H.length 2 (lv.map encL)) ∧ G = H.set s (strO zs j') ++ [grO 90 2 (lv.map encL)]) (fun lv j' h1 h2 h3 _ => ⟨lv, j', h1, h2, h3, rfl, rfl⟩)) ?_
  rintro hH _ _ ⟨lv, j', h1, h2, h3, rfl, rfl⟩
  have := WkL.frzCl1 (A := H.set s (strO zs j')) (n := H.length) (ty := 90) (sz := 2) (l := lv.map encL) (HOk.str hH) (by simp) (pureL_encL _)
  rw [List.length_set] at this
  exact Ret.wk this (hk lv j' h1 h2 h3)
theorem hdF_ok {l : List Hold} (h : hdF l = 0) : ∀ y ∈ l, y.t0 < y.t1 ∧ 0 ≤ y.t0 ∧ y.t1 ≤ 345686400000 ∧ 0 ≤ y.made ∧ y.made < y.ends ∧ y.ends ≤ 345686400000 := by
  have h1 : errGo hdErr 0 hold0 l = 0 := by
    unfold hdF at h
    split at h
    · cases h
    · exact h
  intro y hy
  obtain ⟨k, hk, rfl⟩ := List.getElem_of_mem hy
  have h2 := errGo_pair hdErr _ _ h1 k hk
  unfold hdErr at h2
  split at h2
  · exact absurd h2 (by assumption)
  · split at h2
    · cases h2
    · split at h2
      · cases h2
      · omega
theorem held_eq (h : List Hold) (tag : ByteArray) (m t : Int) : ((ofF h tag).any (fun x => decide (x.t0 ≤ m ∧ m < x.t1 ∧ x.made ≤ t ∧ t < x.ends))) = heldB h tag m (m + 1) t := by
  unfold ofF heldB
  rw [List.any_filter]
  congr 1
  funext x
  unfold hold1
  rw [← Bool.decide_and]
  apply decide_eq_decide.2
  constructor
  · rintro ⟨h1, h2, h3, h4, h5⟩; exact ⟨h1, by omega, h3, h4, h5⟩
  · rintro ⟨h1, h2, h3, h4, h5⟩; exact ⟨h1, by omega, h3, h4, h5⟩
theorem idxG_congr {α : Type} {p q : α → Bool} : ∀ (l : List α) (i : Nat), (∀ x ∈ l, p x = q x) → idxG p i l = idxG q i l
  | [], _, _ => rfl
  | x :: t, i, h => by rw [idxG, idxG, h x (by simp), idxG_congr t (i + 1) (fun y hy => h y (by simp [hy]))]
theorem purge_eq {l : List Level} {h : List Hold} {tag : ByteArray} {s : List Smp} {t : Int} (hl : lvF l = 0) (hh : hdF h = 0) (hs : serF s = 0) :
    purgeS (fun x m => keepRB x h tag m t) l s t = purgeS (fun x m => keepB x (ofF h tag) m t) l s t ∧ purgeB (fun x m => keepRB x h tag m t) l s t = purgeB (fun x m => keepB x (ofF h tag) m t) l s t := by
  obtain ⟨hx, h6, h0⟩ := lvF_ok hl
  obtain ⟨s1, s2⟩ := serF_ok hs
  have hv := fun y hy => (hdF_ok hh y hy).1
  obtain ⟨x0, ls, rfl⟩ : ∃ x0 ls, l = x0 :: ls := by
    cases l with
    | nil => simp at h0
    | cons x xs => exact ⟨x, xs, rfl⟩
  have hst := lvF_step hl
  have hU : ∀ x ∈ upTo s t, 0 ≤ x.t ∧ x.t ≤ 345686399999 := fun x hx => (smp_ok (s2 x (List.mem_filter.1 hx).1)).1
  constructor
  · refine List.filter_congr fun x hx1 => ?_
    have := hU x hx1
    exact keep_eq x0 h tag x.t t (hx x0 (by simp)) (by omega) (by omega) hv
  · refine List.map_congr_left fun x hx1 => ?_
    obtain ⟨g1, g2⟩ := hst x hx1
    have hba : ∀ b ∈ binsF x.step (upTo s t), 0 ≤ b.a ∧ b.a ≤ 400000000000 := binsF_a _ _ _ _ [] (fun y hy => by
      have := hU y hy
      have t0 : 0 ≤ y.t / x.step := Int.ediv_nonneg (by omega) (by omega)
      have t1 : y.t / x.step * x.step ≤ y.t := Int.ediv_mul_le _ (by omega)
      have t2 : 0 ≤ y.t / x.step * x.step := Int.mul_nonneg t0 (by omega)
      omega) (by simp)
    refine List.filter_congr fun b hb => ?_
    exact keep_eq x h tag b.a t (hx x (List.mem_cons_of_mem _ hx1)) (hba b hb).1 (hba b hb).2 hv
theorem dataKept_a (zs : List Int) (hz : zs.length ≤ 9223372036854775807) (hk : K (.c (.bool true)) H) : ACalls Tryz.prog 3 [.c (.lst 1 (zs.map encI))] H K := by
  have st : ∀ (k : Int) (L : Hp), 0 ≤ k → k ≤ 1000000000 → Str (H ++ strO zs k :: L) H.length zs k := fun k L h1 h2 => ⟨hz, h1, by omega, by simp⟩
  refine acalls Tryz.func3 rfl (by kernel_rfl) (by simp (disch := first | omega | (simp only [go_sem]; first | done | omega)) only [go_sem]) (fun hH => ?_)
  simp (disch := first | omega | (simp only [go_sem]; first | done | omega)) only [go_sem]
  refine levelListF_a H.length zs 0 (st 0 _ (by omega) (by omega)) (by omega) (fun lv j1 g1 g2 g3 => ?_)
  simp (disch := first | omega | (simp only [go_sem]; first | done | omega)) only [go_sem]
  refine holds_a H.length zs j1 (st _ _ (by omega) (by omega)) (by omega) (fun h j2 g4 g5 g6 g7 => ?_)
  simp (disch := first | omega | (simp only [go_sem]; first | done | omega)) only [go_sem]
  refine some_lit H.length zs j2 [⟨#[116, 97]⟩, ⟨#[116, 97]⟩, ⟨#[116, 98]⟩, ⟨#[65]⟩] (by first | exact at0 (by simp) | exact at1 (by simp) | exact at2 (by simp) | exact at3 (by simp) | exact at4 (by simp) | exact at5 (by simp) | exact atG 6 (by simp) rfl | exact atG 7 (by simp) rfl | exact atG 8 (by simp) rfl | exact atG 9 (by simp) rfl | exact atG 10 (by simp) rfl | assumption) rfl rfl (st _ _ (by omega) (by omega)) (by omega) (by simp) (by simp) (fun tag htag => ?_)
  have htg : tag.size ≤ 1000 := by
    have : ∀ x ∈ ([⟨#[116, 97]⟩, ⟨#[116, 97]⟩, ⟨#[116, 98]⟩, ⟨#[65]⟩] : List ByteArray), x.size ≤ 1000 := by decide
    exact this _ htag
  clear htag
  simp (disch := first | omega | (simp only [go_sem]; first | done | omega)) only [go_sem]
  refine samples_a H.length zs (j2 + 1) 8 (st _ _ (by omega) (by omega)) (by omega) (by omega) (by omega) (fun a j3 g8 g9 g10 => ?_)
  simp (disch := first | omega | (simp only [go_sem]; first | done | omega)) only [go_sem]
  refine pick_lit H.length zs j3 [0, 5, 10, 50, 60, 100, 200, -1] (by first | exact at0 (by simp) | exact at1 (by simp) | exact at2 (by simp) | exact at3 (by simp) | exact at4 (by simp) | exact at5 (by simp) | exact atG 6 (by simp) rfl | exact atG 7 (by simp) rfl | exact atG 8 (by simp) rfl | exact atG 9 (by simp) rfl | exact atG 10 (by simp) rfl | assumption) rfl rfl (st _ _ (by omega) (by omega)) (by omega) (by simp) (by simp) (fun m hm => ?_)
  have hm2 : -1 ≤ m ∧ m ≤ 200 := by simp at hm; omega
  clear hm
  simp (disch := first | omega | (simp only [go_sem]; first | done | omega)) only [go_sem]
  refine retainTime_a H.length zs (j3 + 1) (st _ _ (by omega) (by omega)) (by omega) (fun t ht => ?_)
  have ht2 : -1 ≤ t ∧ t ≤ 345686400000 := by simp at ht; omega
  clear ht
  have g7s : ∀ x ∈ h, x.short := fun x hx => (g7 x hx).1
  have g7n : ∀ x ∈ h, x.near := fun x hx => (g7 x hx).2
  simp (disch := first | omega | (simp only [go_sem]; first | done | omega)) only [go_sem]
  refine held_a h tag m t (by omega) g7s htg ?_
  simp (disch := first | omega | (simp only [go_sem]; first | done | omega)) only [go_sem]
  refine levelsTop_a lv h tag m t (by omega) (by omega) g7s g7n htg ?_
  simp (disch := first | omega | (simp only [go_sem]; first | done | omega)) only [go_sem]
  refine purge_a lv h tag a t (by omega) (by omega) g7s g7n htg (by omega) ?_
  simp (disch := first | omega | (simp only [go_sem]; first | done | omega)) only [go_sem]
  refine holdsFault_a h (by omega) g7s ?_
  simp (disch := first | omega | (simp only [go_sem]; first | done | omega)) only [go_sem]
  refine nameFault_a tag htg ?_
  simp (disch := first | omega | (simp only [go_sem]; first | done | omega)) only [go_sem]
  refine timesFault_a m t ?_
  simp (disch := first | omega | (simp only [go_sem]; first | done | omega)) only [go_sem]
  refine errs3_lit (hdF h) (tagE tag) (momE m t) (by first | exact at0 (by simp) | exact at1 (by simp) | exact at2 (by simp) | exact at3 (by simp) | exact at4 (by simp) | exact at5 (by simp) | exact atG 6 (by simp) rfl | exact atG 7 (by simp) rfl | exact atG 8 (by simp) rfl | exact atG 9 (by simp) rfl | exact atG 10 (by simp) rfl | assumption) rfl rfl ?_
  simp (disch := first | omega | (simp only [go_sem]; first | done | omega)) only [go_sem]
  refine rulesFault_a lv h tag (by omega) (by omega) g7s htg ?_
  simp (disch := first | omega | (simp only [go_sem]; first | done | omega)) only [go_sem]
  refine timesFault_a m t ?_
  simp (disch := first | omega | (simp only [go_sem]; first | done | omega)) only [go_sem]
  refine errs_lit (firstE [lvF lv, hdF h, tagE tag]) (momE m t) (by first | exact at0 (by simp) | exact at1 (by simp) | exact at2 (by simp) | exact at3 (by simp) | exact at4 (by simp) | exact at5 (by simp) | exact atG 6 (by simp) rfl | exact atG 7 (by simp) rfl | exact atG 8 (by simp) rfl | exact atG 9 (by simp) rfl | exact atG 10 (by simp) rfl | assumption) rfl rfl ?_
  simp (disch := first | omega | (simp only [go_sem]; first | done | omega)) only [go_sem]
  refine rulesFault_a lv h tag (by omega) (by omega) g7s htg ?_
  simp (disch := first | omega | (simp only [go_sem]; first | done | omega)) only [go_sem]
  refine seriesFault_a a (by omega) ?_
  simp (disch := first | omega | (simp only [go_sem]; first | done | omega)) only [go_sem]
  refine momentFaultR_a t ?_
  simp (disch := first | omega | (simp only [go_sem]; first | done | omega)) only [go_sem]
  refine errs3_lit (firstE [lvF lv, hdF h, tagE tag]) (serF a) (if 0 ≤ t ∧ t ≤ 345686399999 then 0 else 1) (by first | exact at0 (by simp) | exact at1 (by simp) | exact at2 (by simp) | exact at3 (by simp) | exact at4 (by simp) | exact at5 (by simp) | exact atG 6 (by simp) rfl | exact atG 7 (by simp) rfl | exact atG 8 (by simp) rfl | exact atG 9 (by simp) rfl | exact atG 10 (by simp) rfl | assumption) rfl rfl ?_
  have n2 : firstE [firstE [lvF lv, hdF h, tagE tag], momE m t] = 0 → lvF lv = 0 ∧ hdF h = 0 ∧ tagE tag = 0 ∧ momE m t = 0 := fun c => by
    obtain ⟨c1, c2⟩ := firstE_two c
    obtain ⟨c3, c4, c5⟩ := firstE_three c1
    exact ⟨c3, c4, c5, c2⟩
  have n3 : firstE [firstE [lvF lv, hdF h, tagE tag], serF a, if 0 ≤ t ∧ t ≤ 345686399999 then 0 else 1] = 0 → lvF lv = 0 ∧ hdF h = 0 ∧ tagE tag = 0 ∧ serF a = 0 := fun c => by
    obtain ⟨c1, c2, c6⟩ := firstE_three c
    obtain ⟨c3, c4, c5⟩ := firstE_three c1
    exact ⟨c3, c4, c5, c2⟩
  have n1 : firstE [hdF h, tagE tag, momE m t] = 0 → momE m t = 0 := fun c => (firstE_three c).2.2
  have n4 : firstE [firstE [lvF lv, hdF h, tagE tag], momE m t] = 0 → firstE [hdF h, tagE tag, momE m t] = 0 := fun c => by
    obtain ⟨c1, c2, c3, c4⟩ := n2 c
    rw [c2, c3, c4]; rfl
  have n5 : firstE [firstE [lvF lv, hdF h, tagE tag], serF a, if 0 ≤ t ∧ t ≤ 345686399999 then 0 else 1] = 0 → firstE [hdF h, tagE tag, momE m t] = 0 → firstE [firstE [lvF lv, hdF h, tagE tag], momE m t] = 0 := fun c d => by
    obtain ⟨c1, c2, c3, c4⟩ := n3 c
    rw [c1, c2, c3, n1 d]; rfl
  have e1 : levelsRes lv h tag m t = if firstE [firstE [lvF lv, hdF h, tagE tag], momE m t] = 0 then (idxG (fun x => keepRB x h tag m t) 0 lv, 0) else ([], firstE [firstE [lvF lv, hdF h, tagE tag], momE m t]) := by
    unfold levelsRes levelsE
    by_cases c : firstE [firstE [lvF lv, hdF h, tagE tag], momE m t] = 0
    · obtain ⟨c1, c2, c3, c4⟩ := n2 c
      have hmm := momE_ok c4
      rw [if_neg (by rw [c]; decide), if_pos c]
      congr 1
      refine idxG_congr lv 0 fun x hx => ?_
      exact (keep_eq x h tag m t ((lvF_ok c1).1 x hx) (by omega) (by omega) (fun y hy => (hdF_ok c2 y hy).1)).symm
    · rw [if_pos c, if_neg c]
  have e2 : purgeRes lv h tag a t = if firstE [firstE [lvF lv, hdF h, tagE tag], serF a, if 0 ≤ t ∧ t ≤ 345686399999 then 0 else 1] = 0 then (purgeS (fun x m => keepRB x h tag m t) lv a t, purgeB (fun x m => keepRB x h tag m t) lv a t, 0) else ([], [], firstE [firstE [lvF lv, hdF h, tagE tag], serF a, if 0 ≤ t ∧ t ≤ 345686399999 then 0 else 1]) := by
    unfold purgeRes purgeE
    by_cases c : firstE [firstE [lvF lv, hdF h, tagE tag], serF a, if 0 ≤ t ∧ t ≤ 345686399999 then 0 else 1] = 0
    · obtain ⟨c1, c2, c3, c4⟩ := n3 c
      rw [if_neg (by rw [c]; decide), if_pos c, (purge_eq c1 c2 c4).1, (purge_eq c1 c2 c4).2]
    · rw [if_pos c, if_neg c]
  have e3 := held_eq h tag m t
  have l1 := idxG_len (fun x => keepRB x h tag m t) lv 0
  have l2 : (purgeS (fun x m => keepRB x h tag m t) lv a t).length ≤ 1000 := by
    have := List.length_filter_le (fun x => (fun x m => keepRB x h tag m t) (lv.headD ⟨0, 0⟩) x.t) (upTo a t)
    have := List.length_filter_le (fun x => !decide (t < x.t)) a
    unfold purgeS leftF upTo at *
    omega
  have l3 : (purgeB (fun x m => keepRB x h tag m t) lv a t).length ≤ 1000 := by
    unfold purgeB
    rw [List.length_map, List.length_tail]
    omega
  have l4 : ∀ x ∈ purgeB (fun x m => keepRB x h tag m t) lv a t, x.length ≤ 1000000 := by
    intro x hx
    unfold purgeB at hx
    obtain ⟨y, hy, rfl⟩ := List.mem_map.1 hx
    have h1 := List.length_filter_le (fun b : Bin => (fun x m => keepRB x h tag m t) y b.a) (binsF y.step (upTo a t))
    have h2 := binsF_len y.step (upTo a t)
    have h3 := List.length_filter_le (fun x => !decide (t < x.t)) a
    unfold binsLeft
    unfold upTo at *
    omega
  have l5 : (idxG (fun x => keepRB x h tag m t) 0 lv).length ≤ 1099511627776 := by omega
  have l6 : (purgeS (fun x m => keepRB x h tag m t) lv a t).length ≤ 1099511627776 := by omega
  generalize firstE [hdF h, tagE tag, momE m t] = one at *
  generalize firstE [firstE [lvF lv, hdF h, tagE tag], momE m t] = two at *
  generalize firstE [firstE [lvF lv, hdF h, tagE tag], serF a, if 0 ≤ t ∧ t ≤ 345686399999 then 0 else 1] = three at *
  generalize (ofF h tag).any (fun x => decide (x.t0 ≤ m ∧ m < x.t1 ∧ x.made ≤ t ∧ t < x.ends)) = hb at *
  by_cases h1 : one = 0 <;> by_cases h2 : two = 0 <;> by_cases h3 : three = 0
  all_goals try exact absurd (n4 h2) h1
  all_goals try exact absurd (n5 h3 h1) h2
  all_goals
    simp only [h2, if_true, if_false] at e1
    simp only [h3, if_true, if_false] at e2
    simp (disch := first | omega | (simp only [go_sem]; first | done | omega)) only [go_sem, h1, h2, h3, e1, e2]
    repeat' (first | ((first | refine acond_d ?_ ?_ | refine acond_b ?_ ?_ | refine ag_d ?_ ?_ | refine ag_n ?_ ?_ | refine ag_bt ?_ ?_ | refine ag_bf ?_ ?_) <;> intro c <;> try simp (disch := first | omega | (simp only [go_sem]; first | done | omega)) only [go_sem, c, h1, h2, h3, e1, e2, e3]) | ((first | refine w_draw (by kernel_rfl) (by decide +kernel) ?_ | refine levelsOf_a lv h tag m t (by omega) (lvF_ok (n2 h2).1).1 (by omega) g7n (momE_ok (n2 h2).2.2.2).1 (by omega) ?_ | refine purgedOf_a lv h tag a t (n3 h3).1 (by omega) g7n (n3 h3).2.2.2 ?_ | refine checkHolds_a h (by omega) g7s ?_ | refine holdsFault_a h (by omega) g7s ?_ | refine heldOf_a h tag m t (by omega) (by omega) (by omega) ?_ | refine ACalls.nilz [1, 1] (by simp) (equalI_a [] [] (by simp) (by simp) ?_) | refine ACalls.nilz [3, 3] (by simp) (equalS_a [] [] (by simp) (by simp) ?_) | refine ACalls.nilz [1, 1] (by simp) (equalFB_a [] [] (by simp) (by simp) (by simp) (by simp) ?_) | refine equalI_a _ _ l5 l5 ?_ | refine equalS_a _ _ l6 l6 ?_ | refine equalFB_a _ _ l3 l3 l4 l4 ?_ | refine retained_a ?_) <;> try simp (disch := first | omega | (simp only [go_sem]; first | done | omega)) only [go_sem, h1, h2, h3, e1, e2, e3]))
    exact Ret.drop hH (Nat.le_refl _) trivial hk
end Go.Proofs.YtkmkkjlfnobciaaGreat
