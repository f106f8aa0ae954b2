/- What the document answers of a file's blocks: its fault, index, tags, blocks found. No condition but that the file is no longer than a machine holds. -/
import Derived.Test.YtgcjenfdndhhpaaGreatHVBlkF
namespace Go.Proofs.YtgcjenfdndhhpaaGreat
open Go Go.RowKit
set_option maxRecDepth 100000
set_option linter.all false
set_option maxHeartbeats 2000000
variable {H : Hp} {K : AV → Hp → Prop}
attribute [go_sem, simp] encBk
theorem fileFault_a (l : List UInt8) (hl : l.length ≤ 100000000) (hk : K (.c (.int .i64 ((par l).2.2))) H) : ACalls Tryz.prog 28 [.c (.lst 1 (l.map encU))] H K := by
  refine acalls Tryz.func28 rfl (by kernel_rfl) (by simp (disch := first | omega | (simp only [go_sem]; first | done | omega)) only [go_sem]) (fun hH => ?_)
  simp (disch := first | omega | (simp only [go_sem]; first | done | omega)) only [go_sem]
  refine parse_a l hl ?_
  simp (disch := first | omega | (simp only [go_sem]; first | done | omega)) only [go_sem]
  exact Ret.same (Nat.le_refl _) hk
theorem indexOf_o (l : List UInt8) (hl : l.length ≤ 100000000) (hk : K (.c (grV H.length ((par l).1.map (·.b)))) (H ++ [grO 66 7 (((par l).1.map (·.b)).map encBk)])) : ACalls Tryz.prog 33 [.c (.lst 1 (l.map encU))] H K := by
  have hpl := par_len l
  refine acalls Tryz.func33 rfl (by kernel_rfl) (by simp (disch := first | omega | (simp only [go_sem]; first | done | omega)) only [go_sem]) (fun hH => ?_)
  simp (disch := first | omega | (simp only [go_sem]; first | done | omega)) only [go_sem]
  refine parse_a l hl ?_
  generalize (par l).1 = ps at *
  simp (disch := first | omega | (simp only [go_sem]; first | done | omega)) only [go_sem]
  refine AWp.loop (H.length) [15, 16] [17, 6] (fun (k : Nat) => k ≤ ps.length) (fun (k : Nat) => [(17, (.c (.int .i64 k))), (6, .c (grV H.length ((ps.take k).map (·.b))))]) (fun (k : Nat) => H ++ [grO 66 7 (((ps.take k).map (·.b)).map encBk)]) (fun (k : Nat) => ps.length - k) (by kernel_rfl) (fun _ => rfl) (by kernel_rfl) (by first | (simp; done) | omega) (by first | (simp; done) | (simp; omega) | omega) kl ?_ (fun k hk1 _ _ => ?_)
  · refine Next.mk 0 (by omega) ?_
    exact WkL.pad (by omega)
  by_cases hlt : k < ps.length
  · obtain ⟨x, hx⟩ : ∃ x, x = ps[k] := ⟨_, rfl⟩
    have hnx : (ps.take (k + 1)).map (fun x => x.b) = (ps.take k).map (fun x => x.b) ++ [x.b] := by rw [List.take_succ_eq_append_getElem hlt, ← hx, List.map_append]; rfl
    have hTl : ((ps.take k).map (fun x => x.b)).length ≤ k := by simp; omega
    generalize (ps.take k).map (fun x => x.b) = T at *
    simp (disch := first | omega | (simp only [go_sem]; first | done | omega)) only [go_sem, hlt, ← hx]
    refine appBk T x.b _ hnx (by first | ((repeat first | exact at0 (by simp) | refine atS ?_); done) | assumption) (by first | ((repeat first | exact at0 (by simp) | refine atS ?_); done) | assumption) (by omega) ?_
    simp (disch := first | omega | (simp only [go_sem]; first | done | omega)) only [go_sem]
    refine Next.mk (k + 1) ⟨by omega, by omega⟩ ?_
    exact ow
  · rw [List.take_of_length_le (by omega)]
    simp (disch := first | omega | (simp only [go_sem]; first | done | omega)) only [go_sem]
    exact Ret.same (by simp) hk
theorem indexOf_a (l : List UInt8) (hl : l.length ≤ 100000000) (hk : K (.c (.lst 7 (((par l).1.map (·.b)).map encBk))) H) : ACalls Tryz.prog 33 [.c (.lst 1 (l.map encU))] H K := by
  refine ACalls.postR (indexOf_o l hl (K := fun v G => v = .c (grV H.length ((par l).1.map (·.b))) ∧ G = H ++ [grO 66 7 (((par l).1.map (·.b)).map encBk)]) ⟨rfl, rfl⟩) ?_
  rintro hH _ _ ⟨rfl, rfl⟩
  exact Ret.frzGr 0 hH (Nat.le_refl _) rfl (pureL_map _ (fun x => by simp [encBk, AC.pure])) (map_grV _ _ _).symm hk
theorem tagsOf_a (l : List UInt8) (hl : l.length ≤ 1000000) (hk : K (.c (.lst 1 ((tagF (par l).1).map encSs))) H) : ACalls Tryz.prog 34 [.c (.lst 1 (l.map encU))] H K := by
  have hpl := par_len l
  unfold tagF at hk
  refine acalls Tryz.func34 rfl (by kernel_rfl) (by simp (disch := first | omega | (simp only [go_sem]; first | done | omega)) only [go_sem]) (fun hH => ?_)
  simp (disch := first | omega | (simp only [go_sem]; first | done | omega)) only [go_sem]
  refine indexOf_a l (by omega) ?_
  have hml : ((par l).1.map (·.b)).length = (par l).1.length := List.length_map ..
  have e0 : (par l).1.map (fun x => x.b.tag) = ((par l).1.map (·.b)).map (fun b => b.tag) := by rw [List.map_map]; rfl
  rw [e0] at hk
  generalize (par l).1.map (·.b) = bs at *
  simp (disch := first | omega | (simp only [go_sem]; first | done | omega)) only [go_sem]
  refine AWp.loop (H.length) [7, 8] [9, 3] (fun (k : Nat) => k ≤ bs.length) (fun (k : Nat) => [(9, (.c (.int .i64 k))), (3, .c (grV H.length ((bs.take k).map fun b => b.tag)))]) (fun (k : Nat) => H ++ [grO 9 1 (((bs.take k).map fun b => b.tag).map encSs)]) (fun (k : Nat) => bs.length - k) (by kernel_rfl) (fun _ => rfl) (by kernel_rfl) (by first | (simp; done) | omega) (by first | (simp; done) | (simp; omega) | omega) kl ?_ (fun k q1 _ _ => ?_)
  · refine Next.mk 0 (Nat.zero_le _) ?_
    exact WkL.pad (by omega)
  by_cases hlt : k < bs.length
  · obtain ⟨x, hx⟩ : ∃ x, x = bs[k] := ⟨_, rfl⟩
    have hnx : (bs.take (k + 1)).map (fun b => b.tag) = (bs.take k).map (fun b => b.tag) ++ [x.tag] := by rw [List.take_succ_eq_append_getElem hlt, ← hx, List.map_append]; rfl
    have hln : ((bs.take k).map (fun b => b.tag)).length ≤ k := by simp; omega
    generalize (bs.take k).map (fun b => b.tag) = ns at *
    simp (disch := first | omega | (simp only [go_sem]; first | done | omega)) only [go_sem, hlt, ← hx]
    refine appS ns x.tag _ hnx (by first | ((repeat first | exact at0 (by simp) | refine atS ?_); done) | assumption) (by first | ((repeat first | exact at0 (by simp) | refine atS ?_); done) | assumption) (by omega) ?_
    simp (disch := first | omega | (simp only [go_sem]; first | done | omega)) only [go_sem]
    refine Next.mk (k + 1) ⟨by omega, by omega⟩ ?_
    exact ow
  · have hka : k = bs.length := by omega
    subst hka
    rw [List.take_length]
    have hsl := srtS_len (bs.map fun b => b.tag)
    have hml2 : (bs.map fun b => b.tag).length = bs.length := List.length_map ..
    generalize bs.map (fun b => b.tag) = ns at *
    simp (disch := first | omega | (simp only [go_sem]; first | done | omega)) only [go_sem]
    refine sortVS_a ns (by first | ((repeat first | exact at0 (by simp) | refine atS ?_); done) | assumption) (by omega) ?_
    simp (disch := first | omega | (simp only [go_sem]; first | done | omega)) only [go_sem]
    rw [grV_lenQ _ ns (srtS ns) hsl.symm]
    refine compactVS_a (srtS ns) (by first | ((repeat first | exact at0 (by simp) | refine atS ?_); done) | assumption) (by omega) ?_
    simp (disch := first | omega | (simp only [go_sem]; first | done | omega)) only [go_sem]
    exact Ret.drop hH (Nat.le_refl _) (by simp [AV.ok, AV.ok1, AC.ok]) hk
theorem indexRowBk_a (f : FuncId) (caps : List (Nat × Nat × Nat)) (p : Blk → Bool) (he : entersB Tryz.prog f = true) (hc : ∀ (a b c : Nat), (a, b, c) ∈ caps → a < H.length) {i ty n : Nat} {own : Bool} (l : List Blk) (hi : H[i]? = some (.row ty 7 (l.map encBk) own)) (hn : n = l.length) (hf : ∀ (x : Blk) (K : AV → Hp → Prop), x ∈ l → K (.c (.bool (p x))) H → ACalls Tryz.prog f (.agg (encBk x) :: caps.map fun q => .c (.ptr (some q))) H K) (hlen : l.length ≤ 1099511627776)
    (hk0 : l.any p = false → K (.c (.int .i64 (-1))) H) (hk1 : ∀ k : Nat, (h : k < l.length) → p l[k] = true → (∀ j (h : j < l.length), j < k → p l[j] = false) → K (.c (.int .i64 k)) H) : ACalls Tryz.prog 144 [.c (.sl (some (i, 0)) n), .c (.fn f [] caps)] H K := by
  subst hn
  have hilt := getElem?_lt hi
  refine acalls Tryz.func144 rfl (by kernel_rfl) (by simp (disch := first | omega | (simp only [go_sem]; first | done | omega)) only [go_sem]) (fun hH => ?_)
  simp (disch := first | omega | (simp only [go_sem]; first | done | omega)) only [go_sem]
  refine AWp.loop (H.length) [0, 1, 7] [8] (fun (k : Nat) => k ≤ l.length ∧ ∀ j (h : j < l.length), j < k → p l[j] = false) (fun (k : Nat) => [(8, (.c (.int .i64 k)))]) (fun (k : Nat) => H) (fun (k : Nat) => l.length - k) (by kernel_rfl) (fun _ => rfl) (by kernel_rfl) (by first | (simp; done) | omega) (by first | (simp; done) | (simp; omega) | omega) kl ?_ (fun k hk1' _ _ => ?_)
  · exact Next.mk 0 (by simp) wk
  obtain ⟨hk1', hk2⟩ := hk1'
  by_cases hlt : k < l.length
  · simp (disch := first | omega | (simp only [go_sem]; first | done | omega)) only [go_sem, he, hi]
    refine hf l[k] _ (List.getElem_mem hlt) ?_
    simp (disch := first | omega | (simp only [go_sem]; first | done | omega)) only [go_sem]
    refine acond_b (fun c => ?_) (fun c => ?_)
    · simp (disch := first | omega | (simp only [go_sem]; first | done | omega)) only [go_sem]
      exact Ret.same (Nat.le_refl _) (hk1 k hlt c hk2)
    · simp (disch := first | omega | (simp only [go_sem]; first | done | omega)) only [go_sem]
      refine Next.mk (k + 1) ⟨⟨by omega, fun j h hj => ?_⟩, by omega⟩ wk
      rcases Nat.lt_or_ge j k with h1 | h1
      · exact hk2 j h h1
      · obtain rfl : j = k := by omega
        simpa using c
  · simp (disch := first | omega | (simp only [go_sem]; first | done | omega)) only [go_sem]
    refine Ret.same (Nat.le_refl _) (hk0 ?_)
    rw [List.any_eq_false]
    intro x hx
    obtain ⟨j, hj, rfl⟩ := List.getElem_of_mem hx
    simpa using hk2 j hj (by omega)
theorem deleteBk_a (f : FuncId) (caps : List (Nat × Nat × Nat)) (p : Blk → Bool) (he : entersB Tryz.prog f = true) (hc : ∀ (a b c : Nat), (a, b, c) ∈ caps → a < H.length) {i n : Nat} (hci : ∀ (a b c : Nat), (a, b, c) ∈ caps → a ≠ i) (l : List Blk) (hi : H[i]? = some (.row 66 7 (l.map encBk) true)) (hn : n = l.length) (hf : ∀ (G : Hp) (x : Blk) (K : AV → Hp → Prop), (∀ (a b c : Nat), (a, b, c) ∈ caps → G[a]? = H[a]?) → x ∈ l → K (.c (.bool (p x))) G → ACalls Tryz.prog f (.agg (encBk x) :: caps.map fun q => .c (.ptr (some q))) G K) (hlen : l.length ≤ 1000000)
    (hk : K (.c (.lst 7 ((l.filter (fun x => !p x)).map encBk))) (H.set i .dead)) : ACalls Tryz.prog 89 [.c (.sl (some (i, 0)) n), .c (.fn f [] caps)] H K := by
  subst hn
  have hilt := getElem?_lt hi
  refine acalls Tryz.func89 rfl (by kernel_rfl) (by simp (disch := first | omega | (simp only [go_sem]; first | done | omega)) only [go_sem]) (fun hH => ?_)
  simp (disch := first | omega | (simp only [go_sem]; first | done | omega)) only [go_sem]
  refine indexRowBk_a f caps p he hc l hi rfl (fun x K hx hK => hf H x K (fun _ _ _ _ => rfl) hx hK) (by omega) (fun h0 => ?_) (fun q hq hpq hbe => ?_)
  · simp (disch := first | omega | (simp only [go_sem]; first | done | omega)) only [go_sem]
    have e : l.filter (fun x => !p x) = l := by
      rw [List.filter_eq_self]
      intro x hx
      have := List.any_eq_false.1 h0 x hx
      simpa using this
    rw [e] at hk
    refine Ret.frzDead hi (pureL_map _ (fun x => by simp [go_sem, AC.pure])) (by simp) (Nat.le_refl _) ?_
    rw [List.take_of_length_le (by simp)]
    exact hk
  · have hfq : (l.take q).filter (fun x => !p x) = l.take q := by
      rw [List.filter_eq_self]
      intro x hx
      obtain ⟨j, hj, rfl⟩ := List.getElem_of_mem hx
      rw [List.length_take] at hj
      rw [List.getElem_take, hbe j (by omega) (by omega)]
      rfl
    have hfq1 : (l.take (q + 1)).filter (fun x => !p x) = l.take q := by
      rw [List.take_succ_eq_append_getElem hq, List.filter_append, hfq]
      simp [hpq]
    simp (disch := first | omega | (simp only [go_sem]; first | done | omega)) only [go_sem]
    refine AWp.loop (H.length) [0, 1] [6, 5] (fun (s : Nat × List Blk) => q + 1 ≤ s.1 ∧ s.1 ≤ l.length ∧ s.2.length = l.length ∧ ((l.take s.1).filter (fun x => !p x)).length < s.1 ∧ s.2.take ((l.take s.1).filter (fun x => !p x)).length = (l.take s.1).filter (fun x => !p x) ∧ s.2.drop s.1 = l.drop s.1) (fun (s : Nat × List Blk) => [(6, (.c (.int .i64 (s.1)))), (5, (.c (.int .i64 (((l.take s.1).filter (fun x => !p x)).length))))]) (fun (s : Nat × List Blk) => H.set i (.row 66 7 (s.2.map encBk) true)) (fun (s : Nat × List Blk) => l.length - s.1) (by kernel_rfl) (fun _ => rfl) (by kernel_rfl) (by first | (simp; done) | omega) (by first | (simp; done) | (simp; omega) | omega) kl ?_ (fun s hs _ _ => ?_)
    · refine Next.mk (q + 1, l) ⟨Nat.le_refl _, by dsimp only; omega, rfl, by dsimp only; rw [hfq1, List.length_take]; omega, by dsimp only; rw [hfq1, List.length_take, Nat.min_eq_left (by omega)], rfl⟩ ?_
      have hlq : ((l.take (q + 1)).filter (fun x => !p x)).length = q := by rw [hfq1, List.length_take]; omega
      dsimp only
      rw [hlq, set_same hi]
      exact wk
    obtain ⟨j, cur⟩ := s
    obtain ⟨s1, s2, s3, s4, s5, s6⟩ := hs
    dsimp only at s1 s2 s3 s4 s5 s6
    obtain ⟨g, hg⟩ : ∃ g, g = (l.take j).filter (fun x => !p x) := ⟨_, rfl⟩
    rw [← hg] at s4 s5 ⊢
    have hcaps : ∀ (o : AObj) (M : Hp) (a b c : Nat), (a, b, c) ∈ caps → (H.set i o ++ M)[a]? = H[a]? := fun o M a b c hm => by
      rw [List.getElem?_append_left (by rw [List.length_set]; exact hc a b c hm), List.getElem?_set_ne (Ne.symm (hci a b c hm))]
    by_cases hlt : j < l.length
    · have hjc : j < cur.length := by omega
      have hcj : cur[j] = l[j] := by
        have h1 := congrArg (fun z => z[0]?) s6
        simp only [List.getElem?_drop, Nat.add_zero] at h1
        rw [List.getElem?_eq_getElem hjc, List.getElem?_eq_getElem hlt] at h1
        exact Option.some.inj h1
      have hgc : g.length < cur.length := by omega
      have hnx : (l.take (j + 1)).filter (fun x => !p x) = g ++ (if p l[j] = true then [] else [l[j]]) := by
        rw [List.take_succ_eq_append_getElem hlt, List.filter_append, ← hg]
        congr 1
        by_cases c : p l[j] = true <;> simp [c]
      have hdr : ∀ v, (cur.set g.length v).drop (j + 1) = l.drop (j + 1) := fun v => by
        rw [List.drop_set_of_lt (by omega), ← List.drop_drop, s6, List.drop_drop]
      have hdr0 : cur.drop (j + 1) = l.drop (j + 1) := by rw [← List.drop_drop, s6, List.drop_drop]
      simp (disch := first | omega | (simp only [go_sem]; first | done | omega)) only [go_sem, he, hcj]
      refine hf _ l[j] _ (hcaps _ _) (List.getElem_mem hlt) ?_
      simp (disch := first | omega | (simp only [go_sem]; first | done | omega)) only [go_sem]
      refine acond_b (fun c => ?_) (fun c => ?_)
      · rw [if_pos c, List.append_nil] at hnx
        simp (disch := first | omega | (simp only [go_sem]; first | done | omega)) only [go_sem]
        refine Next.mk (j + 1, cur) ?_ ?_
        · dsimp only; rw [hnx]; exact ⟨⟨by omega, by omega, s3, by omega, s5, hdr0⟩, by omega⟩
        · dsimp only; rw [hnx]; exact wk
      · rw [if_neg (by simp [c])] at hnx
        simp (disch := first | omega | (simp only [go_sem]; first | done | omega)) only [go_sem]
        have hset : (cur.map encBk).set g.length (encBk l[j]) = (cur.set g.length l[j]).map encBk := by rw [List.map_set]
        simp only [encBk] at hset
        refine Next.mk (j + 1, cur.set g.length l[j]) ?_ ?_
        · dsimp only
          rw [hnx]
          refine ⟨⟨by omega, by omega, by simpa using s3, by simp; omega, ?_, hdr _⟩, by omega⟩
          rw [List.length_append, List.length_singleton, List.take_succ_eq_append_getElem (by simpa using hgc), List.getElem_set_self]
          congr 1
          rw [List.take_set_of_le (Nat.le_refl _)]
          exact s5
        · dsimp only
          have hok2 : HOk (H.set i (.row 66 7 ((cur.set g.length l[j]).map encBk) true)) := HOk.set hH (okN_map (fun x => by simp [go_sem, AC.pure]))
          rw [hnx, ← hset]
          rw [← hset] at hok2
          exact wk
    · have hjl : j = l.length := by omega
      subst hjl
      rw [List.take_length] at hg
      rw [← hg] at hk
      simp (disch := first | omega | (simp only [go_sem]; first | done | omega)) only [go_sem]
      refine aclr_pos _ _ (List.getElem?_set_self hilt) (by omega) rfl (by simp; omega) ?_
      rw [List.set_set, ← List.map_take, s5]
      simp (disch := first | omega | (simp only [go_sem]; first | done | omega)) only [go_sem]
      refine Ret.frzDead (List.getElem?_set_self hilt) (pureL_map _ (fun x => by simp [go_sem, AC.pure])) (by simp) (by simp) ?_
      rw [List.set_set, List.take_of_length_le (by simp)]
      exact hk
theorem indexNilBk_a (f : FuncId) (caps : List (Nat × Nat × Nat)) (hk : K (.c (.int .i64 (-1))) H) : ACalls Tryz.prog 144 [.c (.lst 7 []), .c (.fn f [] caps)] H K := by
  refine acalls Tryz.func144 rfl (by kernel_rfl) (by simp (disch := first | omega | (simp only [go_sem]; first | done | omega)) only [go_sem]) (fun hH => ?_)
  simp (disch := first | omega | (simp only [go_sem]; first | done | omega)) only [go_sem]
  refine AWp.rounds 0 (by kernel_rfl) ?_
  simp (disch := first | omega | (simp only [go_sem]; first | done | omega)) only [go_sem]
  exact Ret.same (Nat.le_refl _) hk
theorem deleteNilBk_a (f : FuncId) (caps : List (Nat × Nat × Nat)) (hk : K (.c (.lst 7 [])) H) : ACalls Tryz.prog 89 [.c (.lst 7 []), .c (.fn f [] caps)] H K := by
  refine acalls Tryz.func89 rfl (by kernel_rfl) (by simp (disch := first | omega | (simp only [go_sem]; first | done | omega)) only [go_sem]) (fun hH => ?_)
  simp (disch := first | omega | (simp only [go_sem]; first | done | omega)) only [go_sem]
  refine indexNilBk_a f caps ?_
  simp (disch := first | omega | (simp only [go_sem]; first | done | omega)) only [go_sem]
  exact Ret.same (Nat.le_refl _) hk
theorem deleteGrBk_a (f : FuncId) (caps : List (Nat × Nat × Nat)) (p : Blk → Bool) (he : entersB Tryz.prog f = true) (hc : ∀ (a b c : Nat), (a, b, c) ∈ caps → a < H.length) {i : Nat} (hci : ∀ (a b c : Nat), (a, b, c) ∈ caps → a ≠ i) (l : List Blk) (hi : H[i]? = some (grO 66 7 (l.map encBk))) (hf : ∀ (G : Hp) (x : Blk) (K : AV → Hp → Prop), (∀ (a b c : Nat), (a, b, c) ∈ caps → G[a]? = H[a]?) → x ∈ l → K (.c (.bool (p x))) G → ACalls Tryz.prog f (.agg (encBk x) :: caps.map fun q => .c (.ptr (some q))) G K) (hlen : l.length ≤ 1000000)
    (hk : K (.c (.lst 7 ((l.filter (fun x => !p x)).map encBk))) (H.set i .dead)) : ACalls Tryz.prog 89 [.c (grV i l), .c (.fn f [] caps)] H K := by
  cases l with
  | nil =>
    rw [set_same (o := .dead) hi] at hk
    refine ACalls.nilz [7] (by simp) ?_
    exact deleteNilBk_a f caps hk
  | cons x xs => exact deleteBk_a f caps p he hc hci (x :: xs) hi (by simp) hf hlen hk
def fnoB (tag : ByteArray) (a b : Int) (x : Blk) : Bool := decide (x.tag ≠ tag) || (decide (a = b) || (decide (x.last < a) || decide (b ≤ x.first)))
theorem fin1_a (x : Blk) (tag : ByteArray) (w : Win) {i j t1 t2 : Nat} {o1 o2 : Bool} (hi : H[i]? = some (.row t1 1 [[.str tag]] o1)) (hj : H[j]? = some (.row t2 2 [encW w] o2)) (hk : K (.c (.bool (fnoB tag w.a w.b x))) H) : ACalls Tryz.prog 90 [.agg (encBk x), .c (.ptr (some (i, 0, 0))), .c (.ptr (some (j, 0, 0)))] H K := by
  have hil := getElem?_lt hi
  have hjl := getElem?_lt hj
  unfold fnoB at hk
  by_cases h1 : x.tag = tag
  · by_cases h2 : w.a = w.b
    · rw [decide_eq_true h2, Bool.true_or, Bool.or_true] at hk
      refine acalls Tryz.func90 rfl (by kernel_rfl) (by simp (disch := first | omega | (simp only [go_sem]; first | done | omega)) only [go_sem]) (fun hH => ?_)
      simp (disch := first | omega | (simp only [go_sem]; first | done | omega)) only [go_sem, hi, hj, h1, h2]
      exact Ret.drop hH (Nat.le_refl _) trivial hk
    · by_cases h3 : x.last < w.a
      · rw [decide_eq_true h3, Bool.true_or, Bool.or_true, Bool.or_true] at hk
        refine acalls Tryz.func90 rfl (by kernel_rfl) (by simp (disch := first | omega | (simp only [go_sem]; first | done | omega)) only [go_sem]) (fun hH => ?_)
        simp (disch := first | omega | (simp only [go_sem]; first | done | omega)) only [go_sem, hi, hj, h1, h2, h3]
        exact Ret.drop hH (Nat.le_refl _) trivial hk
      · rw [decide_eq_false h3, decide_eq_false h2, decide_eq_false (by simpa using h1), Bool.false_or, Bool.false_or, Bool.false_or] at hk
        refine acalls Tryz.func90 rfl (by kernel_rfl) (by simp (disch := first | omega | (simp only [go_sem]; first | done | omega)) only [go_sem]) (fun hH => ?_)
        simp (disch := first | omega | (simp only [go_sem]; first | done | omega)) only [go_sem, hi, hj, h1, h2, h3]
        exact Ret.drop hH (Nat.le_refl _) trivial hk
  · rw [decide_eq_true h1, Bool.true_or] at hk
    refine acalls Tryz.func90 rfl (by kernel_rfl) (by simp (disch := first | omega | (simp only [go_sem]; first | done | omega)) only [go_sem]) (fun hH => ?_)
    simp (disch := first | omega | (simp only [go_sem]; first | done | omega)) only [go_sem, hi, hj, h1]
    exact Ret.drop hH (Nat.le_refl _) trivial hk
theorem findIn_a (l : List UInt8) (tag : ByteArray) (w : Win) (hl : l.length ≤ 1000000) (hk : K (.c (.lst 7 ((((par l).1.map (·.b)).filter fun x => !fnoB tag w.a w.b x).map encBk))) H) : ACalls Tryz.prog 35 [.c (.lst 1 (l.map encU)), (.c (.str tag)), .agg (encW w)] H K := by
  have hpl := par_len l
  refine acalls Tryz.func35 rfl (by kernel_rfl) (by simp (disch := first | omega | (simp only [go_sem]; first | done | omega)) only [go_sem]) (fun hH => ?_)
  simp (disch := first | omega | (simp only [go_sem]; first | done | omega)) only [go_sem]
  refine indexOf_o l (by omega) ?_
  have hml : ((par l).1.map (·.b)).length = (par l).1.length := List.length_map ..
  generalize (par l).1.map (·.b) = bs at *
  simp (disch := first | omega | (simp only [go_sem]; first | done | omega)) only [go_sem]
  refine deleteGrBk_a 90 [(H.length, 0, 0), (H.length + 1, 0, 0)] (fun x => fnoB tag w.a w.b x) (by kernel_rfl) (by intro a b c hm; simp at hm; (try simp); omega) (by intro a b c hm; simp at hm; (try simp); omega) bs (by first | ((repeat first | exact at0 (by simp) | refine atS ?_); done) | assumption) (fun G x K hG _ hK => fin1_a x tag w ((hG _ _ _ (List.Mem.head _)).trans (by first | ((repeat first | exact at0 (by simp) | refine atS ?_); done) | assumption)) ((hG _ _ _ (List.Mem.tail _ (List.Mem.head _))).trans (by first | ((repeat first | exact at0 (by simp) | refine atS ?_); done) | assumption)) hK) (by omega) ?_
  simp (disch := first | omega | (simp only [go_sem]; first | done | omega)) only [go_sem]
  exact Ret.drop hH (Nat.le_refl _) (by simp [AV.ok, AV.ok1, AC.ok]) hk
theorem decRes_fl {l : List UInt8} {p : Nat} (h : (decRes l p).2.2 = 0) : 0 ≤ (decRes l p).1.first ∧ (decRes l p).1.first ≤ (decRes l p).1.last ∧ (decRes l p).1.last ≤ 345686399999 := by
  have hat := decRes_at h
  unfold decRes at h hat ⊢
  split at h
  · cases h
  rename_i g0
  rw [if_neg g0] at hat ⊢
  split at h
  · cases h
  rename_i g1
  rw [if_neg g1] at hat ⊢
  split at h
  · cases h
  rename_i kind tag ss e hd
  split at h
  · cases h
  rename_i g2
  split at h
  · cases h
  rename_i g3
  split at h
  · rename_i g4; exact absurd h g4
  rename_i g4
  simp only [hd] at hat
  rw [if_neg g2, if_neg g3, if_neg g4] at hat ⊢
  dsimp only at hat ⊢
  obtain ⟨_, _, h3, _, h5⟩ := hat
  have h1 := smp_ok ((serF_ok h3).2 _ (head_mem h5))
  have h2 := smp_ok ((serF_ok h3).2 _ (last_mem h5))
  refine ⟨h1.1.1, ?_, h2.1.2⟩
  cases ss with
  | nil => simp at h5
  | cons x r =>
    cases r with
    | nil => exact Int.le_refl _
    | cons y t =>
      have h6 := serInc h3 0 ((x :: y :: t).length - 1) (by simp) (by simp)
      have e : (x :: y :: t).getLastD ⟨0, 0, 0⟩ = (x :: y :: t)[(x :: y :: t).length - 1] := by
        rw [List.getLastD_eq_getLast?, List.getLast?_eq_getElem?, List.getElem?_eq_getElem (by simp)]
        rfl
      rw [e]
      simp only [List.getElem_cons_zero] at h6
      exact Int.le_of_lt h6
theorem par_all {l : List UInt8} (hl : l.length ≤ 200000) (Q : Pc → Prop) (hQ : ∀ p, p ≤ l.length → (decRes l p).2.2 = 0 → Q ⟨(decRes l p).1, (decRes l p).2.1⟩) : ∀ (n p : Nat) (acc : List Pc), l.length - p ≤ n → p ≤ l.length → (∀ x ∈ acc, Q x) → ∀ x ∈ (parG l p acc).1, Q x := by
  intro n
  induction n with
  | zero =>
    intro p acc hn hp ha
    rw [parG_end acc (by omega)]
    exact ha
  | succ n ih =>
    intro p acc hn hp ha
    by_cases hlt : p < l.length
    case neg =>
      rw [parG_end acc (by omega)]
      exact ha
    rw [parG_step acc hlt]
    by_cases h0 : (decTop l p).2.2 = 0
    case neg => rw [if_pos h0]; exact ha
    rw [if_neg (by simpa using h0)]
    by_cases h1 : foll acc (decTop l p).1 = false
    case pos => rw [if_pos h1]; exact ha
    rw [if_neg h1]
    have hok := decTop_ok h0
    have hdt := decTop_in hl hp
    have hq := hQ p hp (by rw [← hdt]; exact h0)
    rw [← hdt] at hq
    refine ih (p + (decTop l p).1.long.toNat) (acc ++ [⟨(decTop l p).1, (decTop l p).2.1⟩]) (by omega) (by omega) (fun x hx => ?_)
    rcases List.mem_append.1 hx with h | h
    · exact ha x h
    · simp only [List.mem_singleton] at h
      subst h
      exact hq
theorem par_fl {l : List UInt8} (h : (par l).2.2 = 0) : ∀ x ∈ (par l).1, 0 ≤ x.b.first ∧ x.b.first ≤ x.b.last ∧ x.b.last ≤ 345686399999 := by
  have hl := par_small h
  rw [par_G hl]
  exact par_all hl (fun x => 0 ≤ x.b.first ∧ x.b.first ≤ x.b.last ∧ x.b.last ≤ 345686399999) (fun p hp h => decRes_fl h) l.length 0 [] (by omega) (by omega) (by simp)
theorem find_same {l : List UInt8} {tag : ByteArray} {w : Win} (h : (par l).2.2 = 0) (hw : winE w = 0) : findF (par l).1 tag w.a w.b = ((par l).1.map (·.b)).filter fun x => !fnoB tag w.a w.b x := by
  have hf := par_fl h
  unfold winE at hw
  split at hw
  · cases hw
  rename_i hw
  unfold findF
  rw [List.filter_map]
  congr 1
  refine List.filter_congr (fun x hx => ?_)
  obtain ⟨h1, h2, h3⟩ := hf x hx
  unfold fndB fnoB
  simp only [Function.comp]
  rw [Bool.eq_iff_iff]
  simp only [Bool.and_eq_true, decide_eq_true_eq, Bool.not_eq_true', Bool.or_eq_false_iff, decide_eq_false_iff_not, Classical.not_not]
  constructor
  · rintro ⟨g1, g2⟩
    exact ⟨g1, by omega, by omega, by omega⟩
  · rintro ⟨g1, g2, g3, g4⟩
    exact ⟨g1, by omega⟩
end Go.Proofs.YtgcjenfdndhhpaaGreat
