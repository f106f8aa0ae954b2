/- Append of the program. Condition: names are not longer than a machine holds; moments are not huge. -/
import Derived.Test.YtnodfnjmhcjnfaaGreatDoorHVBlkC
import Derived.Test.YtnodfnjmhcjnfaaGreatDoorHVDecTop
import Derived.Test.YtnodfnjmhcjnfaaGreatDoorHVEncode
namespace Go.Proofs.YtnodfnjmhcjnfaaGreatDoor
open Go Go.RowKit
set_option maxRecDepth 100000
set_option linter.all false
set_option maxHeartbeats 2000000
variable {H : Hp} {K : AV → Hp → Prop}
theorem blocks_a (tag : ByteArray) (l : List Smp) (o : Bool) (ht : 0 < tag.size) (ht2 : tag.size ≤ 1000) (hl : l.length ≤ 100000) (hs : ∀ s ∈ l, smlS s) (hk : K (.c (.lst 1 ((chB tag l o (List.range (nch l))).map encU))) H) : ACalls Tryz.prog 125 [(.c (.str tag)), .c (.lst 3 (l.map encS)), (.c (.bool o))] H K := by
  refine acallsT Tryz.func125 rfl (by simp (disch := first | omega | (simp only [go_sem]; first | done | omega)) only [go_sem]) (fun hH => ?_)
  refine TWp.go (by kernel_rfl) ?_
  simp (disch := first | omega | (simp only [go_sem]; first | done | omega)) only [go_sem]
  refine TWp.go (by kernel_rfl) ?_
  simp (disch := first | omega | (simp only [go_sem]; first | done | omega)) only [go_sem]
  refine TWp.then ?_
  refine TWp.go (by kernel_rfl) ?_
  simp (disch := first | omega | (simp only [go_sem]; first | done | omega)) only [go_sem]
  refine chunk_a (l.map encS) 100 (by omega) (pureL_map _ (fun x => by simp [go_sem, AC.pure])) ?_
  simp (disch := first | omega | (simp only [go_sem]; first | done | omega)) only [go_sem]
  refine TWp.inB ?_
  refine TWp.range (hp := fun ks => H ++ [.row 9 1 [[.str tag]] true, .row 4 1 [[.bool o]] true, .row 64 1 [[grV (H.length + 5) (chB tag l o ks)]] true, .row 26 1 [[.lst 3 (l.map encS)]] false, .row 3 1 [[.int .i64 100]] false, grO 5 1 ((chB tag l o ks).map encU)]) (inv := fun _ => True) (by simp (disch := first | omega | (simp only [go_sem]; first | done | omega)) only [go_sem]) (by kernel_rfl) (chunk_iter (H.length + 3) (H.length + 4) 100 (l.map encS) 26 3 (by omega) (by omega) (by simp; omega) (by first | ((repeat first | exact at0 (by simp) | refine atS ?_); done) | assumption) (by first | ((repeat first | exact at0 (by simp) | refine atS ?_); done) | assumption)) (fun _ => rfl) (by simp) (fun x v hv => by simp at hv; subst hv; trivial) (by simp) trivial ?_ (fun ks x _ hlen hH1 hH2 => ?_) (fun xs hS _ hH1 hH2 => ?_)
  · simp (disch := first | omega | (simp only [go_sem]; first | done | omega)) only [go_sem]
    exact WkL.padP [_, _, _, _, _] (by simp)
  · rw [parts_map]
    have hb1 := chB_len tag l o ht2 hs ks
    have hpl := parts_len 100 l x
    have hb2 := blockB_len tag (parts 100 l x) o ht2 (by omega) (fun s h => hs s (parts_mem h))
    have hne : blockB tag (parts 100 l x) o ≠ [] := by simp [blockB]
    simp only [List.length_map] at hlen
    rw [chB_snoc]
    have hen : ∀ (H : Hp) (K : AV → Hp → Prop), K (.c (.lst 1 ((blockB tag (parts 100 l x) o).map encU))) H → ACalls Tryz.prog 163 [(.c (.str tag)), .c (.lst 3 ((parts 100 l x).map encS)), (.c (.bool o))] H K := fun H K h => encode_a tag (parts 100 l x) o ht ht2 (by omega) (fun s h => hs s (parts_mem h)) h
    generalize blockB tag (parts 100 l x) o = m at *
    generalize chB tag l o ks = B at *
    refine SWp.of (by kernel_rfl) ?_
    simp (disch := first | omega | (simp only [go_sem]; first | done | omega)) only [go_sem]
    refine SWp.of (by kernel_rfl) ?_
    simp (disch := first | omega | (simp only [go_sem]; first | done | omega)) only [go_sem]
    repeat' (first | ((first | refine acond_d ?_ ?_ | refine acond_b ?_ ?_ | refine ag_d ?_ ?_ | refine ag_n ?_ ?_ | refine ag_bt ?_ ?_ | refine ag_bf ?_ ?_ | refine agt_d ?_ ?_ | refine agt_n ?_ ?_ | refine agt_bt ?_ ?_ | refine agt_bf ?_ ?_) <;> intro c <;> try simp (disch := first | omega | (simp only [go_sem]; first | done | omega)) only [go_sem, c]) | ((first | refine w_draw (by kernel_rfl) (by decide +kernel) ?_ | refine hen _ _ ?_ | refine appU B m (by first | ((repeat first | exact at0 (by simp) | refine atS ?_); done) | assumption) hne (by omega) ?_ | refine w_tree (.one 1 (.one 2 (.one 3 (.two 0 (.one 4 (.one 5 (.one 6 .done))) 4 (.one 0 (.one 5 (.one 6 .done))))))) (by kernel_rfl) (by decide +kernel) ?_) <;> try simp (disch := first | omega | (simp only [go_sem]; first | done | omega)) only [go_sem]) | (refine And.intro ?_ ?_ <;> try simp (disch := first | omega | (simp only [go_sem]; first | done | omega)) only [go_sem]))
    all_goals
      ((try simp (disch := first | omega | (simp only [go_sem]; first | done | omega)) only [go_sem]); (refine WkL.pickR [0, 1, 2, 3, 4, 6] 5 ?_ ?_ ?_ ?_ ?_ ?_ ?_ ?_ ?_) <;> first | assumption | exact HOk.str (by assumption) | (simp; done) | (simp; omega) | (intro j hj; match j, hj with | 0, _ => rfl | 1, _ => rfl | 2, _ => rfl | 3, _ => rfl | 4, _ => rfl) | (intro j hj; match j, hj with | 0, _ => rfl | 1, _ => rfl | 2, _ => rfl | 3, _ => rfl) | (intro j hj; match j, hj with | 0, _ => rfl | 1, _ => rfl | 2, _ => rfl) | (intro j hj; match j, hj with | 0, _ => rfl | 1, _ => rfl) | (intro j hj; match j, hj with | 0, _ => rfl) | (simp only [List.map_cons, List.map_nil, av_ren_gr]; (try simp only [AV.ren, AV.ren1, AC.ren, renP, List.map_cons, List.map_nil]); (try simp only [pickS_add, pickS_zero]); rfl) | (simp only [List.map_cons, List.map_nil, row_ren, grV_ren]; (try rw [grO_ren _ _ _ (pureL_map _ (fun x => by simp [go_sem, AC.pure]))]); (try simp only [AC.ren, renP]); (try simp only [pickS_add, pickS_zero]); rfl) | (simp only [List.forall_mem_cons, List.not_mem_nil, false_implies, implies_true, and_true]; (repeat' apply And.intro) <;> first | trivial | exact grV_ok (by simp) _ | exact okN_grO (fun x => by simp [go_sem, AC.pure]) | exact okN_map (fun x => by simp [go_sem, AC.pure]) | (simp [grO, AObj.okN, AC.ok]; done) | (intro e he; simp only [List.mem_singleton] at he; subst he; refine ⟨rfl, ?_⟩; simp only [List.forall_mem_cons, List.not_mem_nil, false_implies, implies_true, and_true]; (repeat' apply And.intro) <;> first | trivial | exact grV_ok (by simp) _ | (simp [AC.ok]; done) | (simp [AC.ok]; omega)) | (simp [AV.ok, AV.ok1, AC.ok]; done) | (simp [AV.ok, AV.ok1, AC.ok]; omega) | (simp [AObj.okN, AC.ok]; done)))
  · obtain ⟨q, q1, q2, rfl⟩ := hS
    simp only [List.length_map] at q1 q2
    have hq : q = nch l := by unfold nch; omega
    subst hq
    generalize chB tag l o (List.range (nch l)) = B at *
    simp (disch := first | omega | (simp only [go_sem]; first | done | omega)) only [go_sem]
    refine TWp.end (by kernel_rfl) ?_
    simp (disch := first | omega | (simp only [go_sem]; first | done | omega)) only [go_sem]
    exact Ret.frzGr 5 hH (Nat.le_refl _) rfl (pureL_U _) (map_grV _ _ _).symm hk
theorem appRes_tg (file : List UInt8) (tag : ByteArray) (l : List Smp) : appRes file tag l = if tgE file tag ≠ 0 then ([], tgE file tag) else if serF l ≠ 0 then ([], serF l) else if 200000 < (appB file tag l).length then ([], 12) else (appB file tag l, 0) := by
  by_cases h : (par file).2.2 = 0
  · by_cases h2 : isKey tag
    · rw [show tgE file tag = 0 by unfold tgE; rw [if_neg (by simpa using h), if_pos h2]]
      unfold appRes
      rw [if_neg (by simpa using h), if_neg (by simpa using h2)]
      rfl
    · rw [show tgE file tag = 5 by unfold tgE; rw [if_neg (by simpa using h), if_neg h2]]
      unfold appRes
      rw [if_neg (by simpa using h), if_pos h2]
      rfl
  · rw [show tgE file tag = (par file).2.2 by unfold tgE; rw [if_pos h]]
    unfold appRes
    rw [if_pos h, if_pos h]
theorem late_take {l : List Smp} {last : Int} {k : Nat} (hs : l.Pairwise fun x y => x.t < y.t) (h1 : ∀ x ∈ l.take k, x.t ≤ last) (h2 : ∀ h : k < l.length, last < l[k].t) : lateL last l = l.take k ∧ normL last l = l.drop k := by
  have hd : ∀ x ∈ l.drop k, last < x.t := by
    intro x hx
    by_cases hk : k < l.length
    · rw [List.drop_eq_getElem_cons hk] at hx
      rcases List.mem_cons.1 hx with rfl | hx
      · exact h2 hk
      · have hp := hs.drop (i := k)
        rw [List.drop_eq_getElem_cons hk] at hp
        have := (List.pairwise_cons.1 hp).1 x hx
        have := h2 hk
        omega
    · rw [List.drop_eq_nil_of_le (by omega)] at hx
      cases hx
  have e : l = l.take k ++ l.drop k := (List.take_append_drop k l).symm
  constructor
  · unfold lateL
    conv => lhs; rw [e]
    rw [List.filter_append, List.filter_eq_self.2 (fun x hx => by have := h1 x hx; exact decide_eq_true (by omega)), List.filter_eq_nil_iff.2 (fun x hx => by have := hd x hx; simp; omega), List.append_nil]
  · unfold normL
    conv => lhs; rw [e]
    rw [List.filter_append, List.filter_eq_nil_iff.2 (fun x hx => by have := h1 x hx; simp; omega), List.filter_eq_self.2 (fun x hx => decide_eq_true (hd x hx)), List.nil_append]
theorem cat3_a {i : Nat} (F X Y : List UInt8) (hi : H[i]? = some (.row 64 1 [[.lst 1 (F.map encU)], [.lst 1 (X.map encU)], [.lst 1 (Y.map encU)]] true)) (hlen : F.length ≤ 10000000 ∧ X.length ≤ 10000000 ∧ Y.length ≤ 10000000)
    (hk : K (.c (grV H.length (F ++ (X ++ Y)))) (H.set i .dead ++ [grO 5 1 ((F ++ (X ++ Y)).map encU)])) : ACalls Tryz.prog 124 [.c (.sl (some (i, 0)) 3)] H K := by
  have hfl : [F, X, Y].flatten = F ++ (X ++ Y) := by simp
  refine ACalls.lit (i := i) (ty := 64) (sz := 1) (els := [F, X, Y].map encUL) (own := true) (by rw [hi]; rfl) (by simp [pureL, AC.pure, encUL]) (args' := [.c (.lst 1 ([F, X, Y].map encUL))]) (by simp [AV.frz1, AC.frz]) ?_
  refine concatU_o [F, X, Y] (by simp) (by rw [hfl]; simp; omega) ?_
  rw [hfl, List.length_set]
  exact hk
theorem appendTop_a (file : List UInt8) (tag : ByteArray) (l : List Smp) (hf : file.length ≤ 100000000) (ht : tag.size ≤ 1099511627776) (hl : l.length ≤ 1099511627776) (hk : K (.tup [.c (.lst 1 ((appRes file tag l).1.map encU)), (.c (.int .i64 ((appRes file tag l).2)))]) H) : ACalls Tryz.prog 38 [.c (.lst 1 (file.map encU)), (.c (.str tag)), .c (.lst 3 (l.map encS))] H K := by
  rw [appRes_tg] at hk
  refine acalls Tryz.func38 rfl (by kernel_rfl) (by simp (disch := first | omega | (simp only [go_sem]; first | done | omega)) only [go_sem]) (fun hH => ?_)
  simp (disch := first | omega | (simp only [go_sem]; first | done | omega)) only [go_sem]
  refine tagged_a file tag hf ht (fun h => ?_) (fun h => ?_)
  · rw [if_pos h] at hk
    simp (disch := first | omega | (simp only [go_sem]; first | done | omega)) only [go_sem, h]
    exact Ret.nilS (Nat.le_refl _) rfl hk
  obtain ⟨h1, h2⟩ := tgE_0 h
  have hpl := par_len file
  have hfs := par_small h1
  have ht0 : 0 < tag.size := by have := h2.1; omega
  have ht1 : tag.size ≤ 1000 := by have := h2.2.1; omega
  rw [if_neg (by simp [h])] at hk
  simp (disch := first | omega | (simp only [go_sem]; first | done | omega)) only [go_sem]
  refine checkSeries_a l hl ?_
  simp (disch := first | omega | (simp only [go_sem]; first | done | omega)) only [go_sem]
  by_cases h3 : serF l = 0
  case neg =>
    rw [if_pos h3] at hk
    simp (disch := first | omega | (simp only [go_sem]; first | done | omega)) only [go_sem, h3]
    exact Ret.nilT hH (Nat.le_refl _) rfl hk
  rw [if_neg (by simpa using h3)] at hk
  have hsm := serF_sml h3
  simp (disch := first | omega | (simp only [go_sem]; first | done | omega)) only [go_sem, h3]
  have hinc := ((serP_iff l).1 h3).2.2
  have hl5 := ((serP_iff l).1 h3).1
  have hpos : ∀ x ∈ l, 0 ≤ x.t := fun x hx => by
    have := ((serP_iff l).1 h3).2.1 x hx
    unfold smpErr at this
    split at this <;> omega
  have hlk := lastE_O tag (par file).1
  cases hT : lookT (lastE (par file).1) tag with
  | none =>
    rw [hT, Option.getD_none] at hlk
    have hlt1 : ∀ x ∈ l.take 0, x.t ≤ (-1 : Int) := by simp
    have hlt2 : ∀ h : 0 < l.length, (-1 : Int) < l[0].t := fun h => by have := hpos l[0] (List.getElem_mem h); omega
    refine look_mp (by kernel_rfl) (get_E tag (lastE (par file).1) (by kernel_rfl)) rfl ?_
    simp (disch := first | omega | (simp only [go_sem]; first | done | omega)) only [go_sem, hT]
    have hb1 : ∀ {H : Hp} {K : AV → Hp → Prop} {ls : List (List AC)}, ls = (l.take 0).map encS → K (.c (.lst 1 ((chB tag (l.take 0) true (List.range (nch (l.take 0)))).map encU))) H → ACalls Tryz.prog 125 [(.c (.str tag)), .c (.lst 3 ls), (.c (.bool true))] H K := fun e h => e ▸ blocks_a tag (l.take 0) true ht0 ht1 (by rw [List.length_take]; omega) (fun s hs => hsm s (List.mem_of_mem_take hs)) h
    have hb2 : ∀ {H : Hp} {K : AV → Hp → Prop} {ls : List (List AC)}, ls = (l.drop 0).map encS → K (.c (.lst 1 ((chB tag (l.drop 0) false (List.range (nch (l.drop 0)))).map encU))) H → ACalls Tryz.prog 125 [(.c (.str tag)), .c (.lst 3 ls), (.c (.bool false))] H K := fun e h => e ▸ blocks_a tag (l.drop 0) false ht0 ht1 (by rw [List.length_drop]; omega) (fun s hs => hsm s (List.mem_of_mem_drop hs)) h
    have k1 := chB_len tag (l.take 0) true ht1 (fun s hs => hsm s (List.mem_of_mem_take hs)) (List.range (nch (l.take 0)))
    have k2 := chB_len tag (l.drop 0) false ht1 (fun s hs => hsm s (List.mem_of_mem_drop hs)) (List.range (nch (l.drop 0)))
    rw [List.length_range] at k1 k2
    have q1 : nch (l.take 0) ≤ 51 := by unfold nch; rw [List.length_take]; omega
    have q2 : nch (l.drop 0) ≤ 51 := by unfold nch; rw [List.length_drop]; omega
    unfold appB at hk
    rw [← hlk, (late_take hinc hlt1 hlt2).1, (late_take hinc hlt1 hlt2).2] at hk
    generalize chB tag (l.take 0) true (List.range (nch (l.take 0))) = X at *
    generalize chB tag (l.drop 0) false (List.range (nch (l.drop 0))) = Y at *
    have hlen : (file ++ (X ++ Y)).length ≤ 10000000 := by simp; omega
    repeat' (first | ((first | refine acond_d ?_ ?_ | refine acond_b ?_ ?_ | refine ag_d ?_ ?_ | refine ag_n ?_ ?_ | refine ag_bt ?_ ?_ | refine ag_bf ?_ ?_ | refine agt_d ?_ ?_ | refine agt_n ?_ ?_ | refine agt_bt ?_ ?_ | refine agt_bf ?_ ?_) <;> intro c <;> try simp (disch := first | omega | (simp only [go_sem]; first | done | omega)) only [go_sem, c]) | ((first | refine w_draw (by kernel_rfl) (by decide +kernel) ?_ | refine hb1 (by simp [List.map_take, List.map_drop, List.take_of_length_le]) ?_ | refine hb2 (by simp [List.map_take, List.map_drop, List.take_of_length_le]) ?_ | refine cat3_a file X Y (by first | ((repeat first | exact at0 (by simp) | refine atS ?_); done) | assumption) ⟨by omega, by omega, by omega⟩ ?_ | refine w_tree (.one 0 (.one 1 (.one 2 (.one 3 (.one 4 (.one 6 (.one 7 (.one 8 (.two 5 (.one 9 (.one 10 (.one 11 (.one 12 (.one 13 .done))))) 9 (.one 5 (.one 10 (.one 11 (.one 12 (.one 13 .done)))))))))))))) (by kernel_rfl) (by decide +kernel) ?_) <;> try simp (disch := first | omega | (simp only [go_sem]; first | done | omega)) only [go_sem]) | (refine And.intro ?_ ?_ <;> try simp (disch := first | omega | (simp only [go_sem]; first | done | omega)) only [go_sem]))
    all_goals
      have hZl : (file ++ (X ++ Y)).length = file.length + (X.length + Y.length) := by simp
      generalize file ++ (X ++ Y) = Z at *
      first
        | (rw [if_pos (by omega)] at hk; exact Ret.nilT hH (Nat.le_refl _) rfl hk)
        | (rw [if_neg (by omega)] at hk; exact Ret.frzGrT 4 hH (Nat.le_refl _) rfl (pureL_U _) rfl (map_grV _ _ _).symm hk)
  | some last =>
    rw [hT, Option.getD_some] at hlk
    refine look_mp (by kernel_rfl) (get_E tag (lastE (par file).1) (by kernel_rfl)) rfl ?_
    simp (disch := first | omega | (simp only [go_sem]; first | done | omega)) only [go_sem, hT, Option.getD_some]
    refine AWp.loop (H.length + 3) [0, 1, 2, 12] [11] (fun (k : Nat) => k ≤ l.length ∧ ∀ x ∈ l.take k, x.t ≤ last) (fun (k : Nat) => [(11, (.c (.int .i64 k)))]) (fun (k : Nat) => H ++ [lastMp (par file).1, wlk 180 file (par file).2.1 (H.length + 2) H.length (par file).1, grO 215 8 ((par file).1.map encPc)]) (fun (k : Nat) => l.length - k) (by kernel_rfl) (fun _ => rfl) (by kernel_rfl) (by first | (simp; done) | omega) (by first | (simp; done) | (simp; omega) | omega) kl ?_ (fun k hk1 _ _ => ?_)
    · exact Next.mk 0 ⟨Nat.zero_le _, by simp⟩ wk
    obtain ⟨hk0, hlt1⟩ := hk1
    have hcont : ∀ h : k < l.length, l[k].t ≤ last → ∀ x ∈ l.take (k + 1), x.t ≤ last := by
      intro h hx x hm
      rw [List.take_succ_eq_append_getElem h] at hm
      rcases List.mem_append.1 hm with hm | hm
      · exact hlt1 x hm
      · simp only [List.mem_singleton] at hm
        subst hm
        exact hx
    by_cases hlt : k < l.length
    · by_cases hx : l[k].t ≤ last
      · simp (disch := first | omega | (simp only [go_sem]; first | done | omega)) only [go_sem, hlt, hx]
        exact Next.mk (k + 1) ⟨⟨by omega, hcont hlt hx⟩, by omega⟩ wk
      · have hlt2 : ∀ h : k < l.length, last < l[k].t := fun _ => by omega
        simp (disch := first | omega | (simp only [go_sem]; first | done | omega)) only [go_sem, hlt, hx]
        have hb1 : ∀ {H : Hp} {K : AV → Hp → Prop} {ls : List (List AC)}, ls = (l.take k).map encS → K (.c (.lst 1 ((chB tag (l.take k) true (List.range (nch (l.take k)))).map encU))) H → ACalls Tryz.prog 125 [(.c (.str tag)), .c (.lst 3 ls), (.c (.bool true))] H K := fun e h => e ▸ blocks_a tag (l.take k) true ht0 ht1 (by rw [List.length_take]; omega) (fun s hs => hsm s (List.mem_of_mem_take hs)) h
        have hb2 : ∀ {H : Hp} {K : AV → Hp → Prop} {ls : List (List AC)}, ls = (l.drop k).map encS → K (.c (.lst 1 ((chB tag (l.drop k) false (List.range (nch (l.drop k)))).map encU))) H → ACalls Tryz.prog 125 [(.c (.str tag)), .c (.lst 3 ls), (.c (.bool false))] H K := fun e h => e ▸ blocks_a tag (l.drop k) false ht0 ht1 (by rw [List.length_drop]; omega) (fun s hs => hsm s (List.mem_of_mem_drop hs)) h
        have k1 := chB_len tag (l.take k) true ht1 (fun s hs => hsm s (List.mem_of_mem_take hs)) (List.range (nch (l.take k)))
        have k2 := chB_len tag (l.drop k) false ht1 (fun s hs => hsm s (List.mem_of_mem_drop hs)) (List.range (nch (l.drop k)))
        rw [List.length_range] at k1 k2
        have q1 : nch (l.take k) ≤ 51 := by unfold nch; rw [List.length_take]; omega
        have q2 : nch (l.drop k) ≤ 51 := by unfold nch; rw [List.length_drop]; omega
        unfold appB at hk
        rw [← hlk, (late_take hinc hlt1 hlt2).1, (late_take hinc hlt1 hlt2).2] at hk
        generalize chB tag (l.take k) true (List.range (nch (l.take k))) = X at *
        generalize chB tag (l.drop k) false (List.range (nch (l.drop k))) = Y at *
        have hlen : (file ++ (X ++ Y)).length ≤ 10000000 := by simp; omega
        repeat' (first | ((first | refine acond_d ?_ ?_ | refine acond_b ?_ ?_ | refine ag_d ?_ ?_ | refine ag_n ?_ ?_ | refine ag_bt ?_ ?_ | refine ag_bf ?_ ?_ | refine agt_d ?_ ?_ | refine agt_n ?_ ?_ | refine agt_bt ?_ ?_ | refine agt_bf ?_ ?_) <;> intro c <;> try simp (disch := first | omega | (simp only [go_sem]; first | done | omega)) only [go_sem, c]) | ((first | refine w_draw (by kernel_rfl) (by decide +kernel) ?_ | refine hb1 (by simp [List.map_take, List.map_drop, List.take_of_length_le]) ?_ | refine hb2 (by simp [List.map_take, List.map_drop, List.take_of_length_le]) ?_ | refine cat3_a file X Y (by first | ((repeat first | exact at0 (by simp) | refine atS ?_); done) | assumption) ⟨by omega, by omega, by omega⟩ ?_ | refine w_tree (.one 0 (.one 1 (.one 2 (.one 3 (.one 4 (.one 6 (.one 7 (.one 8 (.two 5 (.one 9 (.one 10 (.one 11 (.one 12 (.one 13 .done))))) 9 (.one 5 (.one 10 (.one 11 (.one 12 (.one 13 .done)))))))))))))) (by kernel_rfl) (by decide +kernel) ?_) <;> try simp (disch := first | omega | (simp only [go_sem]; first | done | omega)) only [go_sem]) | (refine And.intro ?_ ?_ <;> try simp (disch := first | omega | (simp only [go_sem]; first | done | omega)) only [go_sem]))
        all_goals
          have hZl : (file ++ (X ++ Y)).length = file.length + (X.length + Y.length) := by simp
          generalize file ++ (X ++ Y) = Z at *
          first
            | (rw [if_pos (by omega)] at hk; exact Ret.nilT hH (Nat.le_refl _) rfl hk)
            | (rw [if_neg (by omega)] at hk; exact Ret.frzGrT 4 hH (Nat.le_refl _) rfl (pureL_U _) rfl (map_grV _ _ _).symm hk)
    · have hlt2 : ∀ h : k < l.length, last < l[k].t := fun h => absurd h hlt
      simp (disch := first | omega | (simp only [go_sem]; first | done | omega)) only [go_sem, hlt]
      have hke : l.length = k := by omega
      have hb1 : ∀ {H : Hp} {K : AV → Hp → Prop} {ls : List (List AC)}, ls = (l.take k).map encS → K (.c (.lst 1 ((chB tag (l.take k) true (List.range (nch (l.take k)))).map encU))) H → ACalls Tryz.prog 125 [(.c (.str tag)), .c (.lst 3 ls), (.c (.bool true))] H K := fun e h => e ▸ blocks_a tag (l.take k) true ht0 ht1 (by rw [List.length_take]; omega) (fun s hs => hsm s (List.mem_of_mem_take hs)) h
      have hb2 : ∀ {H : Hp} {K : AV → Hp → Prop} {ls : List (List AC)}, ls = (l.drop k).map encS → K (.c (.lst 1 ((chB tag (l.drop k) false (List.range (nch (l.drop k)))).map encU))) H → ACalls Tryz.prog 125 [(.c (.str tag)), .c (.lst 3 ls), (.c (.bool false))] H K := fun e h => e ▸ blocks_a tag (l.drop k) false ht0 ht1 (by rw [List.length_drop]; omega) (fun s hs => hsm s (List.mem_of_mem_drop hs)) h
      have k1 := chB_len tag (l.take k) true ht1 (fun s hs => hsm s (List.mem_of_mem_take hs)) (List.range (nch (l.take k)))
      have k2 := chB_len tag (l.drop k) false ht1 (fun s hs => hsm s (List.mem_of_mem_drop hs)) (List.range (nch (l.drop k)))
      rw [List.length_range] at k1 k2
      have q1 : nch (l.take k) ≤ 51 := by unfold nch; rw [List.length_take]; omega
      have q2 : nch (l.drop k) ≤ 51 := by unfold nch; rw [List.length_drop]; omega
      unfold appB at hk
      rw [← hlk, (late_take hinc hlt1 hlt2).1, (late_take hinc hlt1 hlt2).2] at hk
      generalize chB tag (l.take k) true (List.range (nch (l.take k))) = X at *
      generalize chB tag (l.drop k) false (List.range (nch (l.drop k))) = Y at *
      have hlen : (file ++ (X ++ Y)).length ≤ 10000000 := by simp; omega
      repeat' (first | ((first | refine acond_d ?_ ?_ | refine acond_b ?_ ?_ | refine ag_d ?_ ?_ | refine ag_n ?_ ?_ | refine ag_bt ?_ ?_ | refine ag_bf ?_ ?_ | refine agt_d ?_ ?_ | refine agt_n ?_ ?_ | refine agt_bt ?_ ?_ | refine agt_bf ?_ ?_) <;> intro c <;> try simp (disch := first | omega | (simp only [go_sem]; first | done | omega)) only [go_sem, c]) | ((first | refine w_draw (by kernel_rfl) (by decide +kernel) ?_ | refine hb1 (by simp [List.map_take, List.map_drop, List.take_of_length_le, hke]) ?_ | refine hb2 (by simp [List.map_take, List.map_drop, List.take_of_length_le, hke]) ?_ | refine cat3_a file X Y (by first | ((repeat first | exact at0 (by simp) | refine atS ?_); done) | assumption) ⟨by omega, by omega, by omega⟩ ?_ | refine w_tree (.one 0 (.one 1 (.one 2 (.one 3 (.one 4 (.one 6 (.one 7 (.one 8 (.two 5 (.one 9 (.one 10 (.one 11 (.one 12 (.one 13 .done))))) 9 (.one 5 (.one 10 (.one 11 (.one 12 (.one 13 .done)))))))))))))) (by kernel_rfl) (by decide +kernel) ?_) <;> try simp (disch := first | omega | (simp only [go_sem]; first | done | omega)) only [go_sem]) | (refine And.intro ?_ ?_ <;> try simp (disch := first | omega | (simp only [go_sem]; first | done | omega)) only [go_sem]))
      all_goals
        have hZl : (file ++ (X ++ Y)).length = file.length + (X.length + Y.length) := by simp
        generalize file ++ (X ++ Y) = Z at *
        first
          | (rw [if_pos (by omega)] at hk; exact Ret.nilT hH (Nat.le_refl _) rfl hk)
          | (rw [if_neg (by omega)] at hk; exact Ret.frzGrT 4 hH (Nat.le_refl _) rfl (pureL_U _) rfl (map_grV _ _ _).symm hk)
end Go.Proofs.YtnodfnjmhcjnfaaGreatDoor
