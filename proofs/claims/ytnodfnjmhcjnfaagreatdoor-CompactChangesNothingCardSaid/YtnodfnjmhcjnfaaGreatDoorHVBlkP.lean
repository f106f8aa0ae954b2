/- What the program answers of a file's blocks: Query, Find, Tags. Condition: names are not longer than a machine holds; moments are not huge. -/
import Derived.Test.YtnodfnjmhcjnfaaGreatDoorHVBlkC
import Derived.Test.YtnodfnjmhcjnfaaGreatDoorHVArrE
namespace Go.Proofs.YtnodfnjmhcjnfaaGreatDoor
open Go Go.RowKit
set_option maxRecDepth 100000
set_option linter.all false
set_option maxHeartbeats 2000000
variable {H : Hp} {K : AV → Hp → Prop}
theorem Ret.anyV {x y : AC} {n : Nat} {A G : Hp} (hA : HOk A) (hn : n ≤ A.length) (hx : AV.ok A.length (.c x)) (hk : K (.tup [.any, .c x]) A) : Ret n (.tup [.c y, .c x]) (A ++ G) K := by
  have h1 : WkL n [.tup [.c y, .c x]] (A ++ G) [.tup [.any, .c x]] (A ++ G) := by
    intro B w0 ι w us hs hr ho
    match us, hr with
    | [u], ⟨⟨ts, h1, h2⟩, _⟩ =>
      refine ⟨ι, Agree.refl _ _, by rw [List.length_append]; omega, hs, ⟨⟨ts, h1, ?_⟩, trivial⟩, ?_⟩
      · match ts, h2 with
        | [a, b], ⟨_, h3, _⟩ => exact ⟨trivial, h3, trivial⟩
      · intro v hv
        simp only [List.mem_singleton] at hv
        subst hv
        have := ho (.tup [.c y, .c x]) (by simp)
        intro z hz
        simp only [List.mem_cons, List.not_mem_nil, or_false] at hz
        rcases hz with rfl | rfl
        · trivial
        · exact this _ (by simp)
  have hok : (AV.tup [.any, .c x]).ok A.length := by
    intro z hz
    simp only [List.mem_cons, List.not_mem_nil, or_false] at hz
    rcases hz with rfl | rfl
    · trivial
    · exact hx
  refine Ret.wk (h1.trans (WkL.drop hA hn (by intro v hv; simp only [List.mem_singleton] at hv; subst hv; exact hok))) hk
theorem walkB_a (l : List UInt8) (hl : l.length ≤ 100000000) (hk0 : (par l).2.2 ≠ 0 → K (.tup [.c (.ptr none), (.c (.int .i64 ((par l).2.2)))]) H)
    (hk1 : (par l).2.2 = 0 → K (.tup [.c (.ptr (some (H.length + 1, 0, 0))), (.c (.int .i64 0))]) (H ++ [lastMp (par l).1, wlk 180 l (par l).2.1 (H.length + 2) H.length (par l).1, grO 215 8 ((par l).1.map encPc)])) : ACalls Tryz.prog 153 [.c (.lst 1 (l.map encU))] H K := by
  by_cases h : 200000 < l.length
  · have e : par l = ([], 0, 2) := by unfold par; rw [if_pos h]
    rw [e] at hk0
    have e0 : ((200000 : Int) < l.length) = True := by simp; omega
    refine acalls Tryz.func153 rfl (by kernel_rfl) (by simp (disch := first | omega | (simp only [go_sem]; first | done | omega)) only [go_sem]) (fun hH => ?_)
    simp (disch := first | omega | (simp only [go_sem]; first | done | omega)) only [go_sem, e0]
    exact Ret.same (Nat.le_refl _) (hk0 (by decide))
  · exact walk_a l (by omega) hk0 hk1
def tgE (l : List UInt8) (tag : ByteArray) : Int := if (par l).2.2 ≠ 0 then (par l).2.2 else if isKey tag then 0 else 5
theorem tagged_a (l : List UInt8) (tag : ByteArray) (hl : l.length ≤ 100000000) (ht : tag.size ≤ 1099511627776) (hk0 : tgE l tag ≠ 0 → K (.tup [.any, (.c (.int .i64 (tgE l tag)))]) H)
    (hk1 : tgE l tag = 0 → K (.tup [.c (.ptr (some (H.length + 1, 0, 0))), (.c (.int .i64 0))]) (H ++ [lastMp (par l).1, wlk 180 l (par l).2.1 (H.length + 2) H.length (par l).1, grO 215 8 ((par l).1.map encPc)])) : ACalls Tryz.prog 123 [.c (.lst 1 (l.map encU)), (.c (.str tag))] H K := by
  refine acalls Tryz.func123 rfl (by kernel_rfl) (by simp (disch := first | omega | (simp only [go_sem]; first | done | omega)) only [go_sem]) (fun hH => ?_)
  simp (disch := first | omega | (simp only [go_sem]; first | done | omega)) only [go_sem]
  refine walkB_a l hl (fun h => ?_) (fun h => ?_)
  · have e : tgE l tag = (par l).2.2 := by unfold tgE; rw [if_pos h]
    rw [e] at hk0
    simp (disch := first | omega | (simp only [go_sem]; first | done | omega)) only [go_sem, h]
    have hr := Ret.anyV (n := H.length) (G := []) (y := .ptr none) hH (Nat.le_refl _) (by simp [AV.ok, AV.ok1, AC.ok]) (hk0 h)
    rwa [List.append_nil] at hr
  · by_cases hk : isKey tag
    · have e : tgE l tag = 0 := by unfold tgE; rw [if_neg (by simp [h]), if_pos hk]
      simp (disch := first | omega | (simp only [go_sem]; first | done | omega)) only [go_sem]
      refine key_a tag ht ?_
      rw [decide_eq_true hk]
      simp (disch := first | omega | (simp only [go_sem]; first | done | omega)) only [go_sem]
      exact Ret.same (by simp) (hk1 e)
    · have e : tgE l tag = 5 := by unfold tgE; rw [if_neg (by simp [h]), if_neg hk]
      rw [e] at hk0
      simp (disch := first | omega | (simp only [go_sem]; first | done | omega)) only [go_sem]
      refine key_a tag ht ?_
      rw [decide_eq_false hk]
      simp (disch := first | omega | (simp only [go_sem]; first | done | omega)) only [go_sem]
      exact Ret.anyV hH (Nat.le_refl _) (by simp [AV.ok, AV.ok1, AC.ok]) (hk0 (by decide))
theorem tgE_0 {l : List UInt8} {tag : ByteArray} (h : tgE l tag = 0) : (par l).2.2 = 0 ∧ isKey tag := by
  unfold tgE at h
  split at h
  · rename_i h1; exact absurd h h1
  · rename_i h1
    split at h
    · rename_i h2; exact ⟨by simpa using h1, h2⟩
    · cases h
def qRes (l : List UInt8) (tag : ByteArray) (w : Win) : List Smp × Int := if tgE l tag ≠ 0 then ([], tgE l tag) else if winE w ≠ 0 then ([], 1) else if 5000 < (qryF (par l).1 tag w.a w.b).length then ([], 2) else (qryF (par l).1 tag w.a w.b, 0)
theorem queryTop_a (l : List UInt8) (tag : ByteArray) (w : Win) (hl : l.length ≤ 100000000) (ht : tag.size ≤ 1099511627776) (hk : K (.tup [.c (.lst 3 ((qRes l tag w).1.map encS)), (.c (.int .i64 ((qRes l tag w).2)))]) H) : ACalls Tryz.prog 41 [.c (.lst 1 (l.map encU)), (.c (.str tag)), .agg (encW w)] H K := by
  unfold qRes at hk
  refine acalls Tryz.func41 rfl (by kernel_rfl) (by simp (disch := first | omega | (simp only [go_sem]; first | done | omega)) only [go_sem]) (fun hH => ?_)
  simp (disch := first | omega | (simp only [go_sem]; first | done | omega)) only [go_sem]
  refine tagged_a l tag hl ht (fun h => ?_) (fun h => ?_)
  · rw [if_pos h] at hk
    simp (disch := first | omega | (simp only [go_sem]; first | done | omega)) only [go_sem, h]
    exact Ret.nilT hH (Nat.le_refl _) rfl hk
  obtain ⟨h1, h2⟩ := tgE_0 h
  obtain ⟨g1, g2, g3, g4⟩ := par_good h1
  have g5 := par_smOk h1
  rw [if_neg (by simp [h])] at hk
  simp (disch := first | omega | (simp only [go_sem]; first | done | omega)) only [go_sem]
  refine window_a w ?_
  by_cases hw : winE w = 0
  rotate_left
  · rw [if_pos hw] at hk
    rw [decide_eq_false hw]
    simp (disch := first | omega | (simp only [go_sem]; first | done | omega)) only [go_sem]
    exact Ret.nilT hH (Nat.le_refl _) rfl hk
  rw [if_neg (by simp [hw])] at hk
  rw [decide_eq_true hw]
  simp (disch := first | omega | (simp only [go_sem]; first | done | omega)) only [go_sem]
  have hqb : (qryF (par l).1 tag w.a w.b).length ≤ 200000 := by
    unfold qryF
    rw [serM_len]
    have h1 := puts_len ((par l).1.flatMap (flatQ tag w.a w.b)) []
    have h2 := flatm_len (flatQ tag w.a w.b) (fun x : Pc => x.ss) (fun x => flatQ_sub) (par l).1
    have h3 : (pfS ((par l).1.flatMap (flatQ tag w.a w.b))).length ≤ ((par l).1.flatMap (flatQ tag w.a w.b)).length := by simpa [pfS] using h1
    unfold ssL at g2
    omega
  refine query_a (j := H.length + 3) (m := H.length + 1) (p := (par l).2.1) l (par l).1 tag w (by omega) (by unfold ssL at g2; omega) g5 (by first | exact at2 (by simp) | exact at2 (by omega)) (by first | exact at3 (by simp) | exact at3 (by omega)) ?_
  generalize qryF (par l).1 tag w.a w.b = R at *
  by_cases h5 : 5000 < R.length
  · rw [if_pos h5] at hk
    have h5' : (5000 : Int) < R.length := by omega
    simp (disch := first | omega | (simp only [go_sem]; first | done | omega)) only [go_sem, h5']
    exact Ret.nilT hH (Nat.le_refl _) rfl hk
  · rw [if_neg h5] at hk
    have h5' : ¬ (5000 : Int) < R.length := by omega
    simp (disch := first | omega | (simp only [go_sem]; first | done | omega)) only [go_sem, h5']
    exact Ret.drop hH (Nat.le_refl _) (by simp [AV.ok, AV.ok1, AC.ok]) hk
def tagF (ps : List Pc) : List ByteArray := cplF (srtS (ps.map fun x => x.b.tag))
theorem tags_a {c j m p : Nat} (l : List UInt8) (acc : List Pc) (hal : acc.length ≤ 1000000) (hc : H[c]? = some (wlk 180 l p j m acc)) (hj : H[j]? = some (grO 215 8 (acc.map encPc)))
    (hk : K (.c (.lst 1 ((tagF acc).map encSs))) H) : ACalls Tryz.prog 160 [.c (.ptr (some (c, 0, 0)))] H K := by
  have hcl := getElem?_lt hc
  have hjl := getElem?_lt hj
  unfold wlk at hc
  refine acalls Tryz.func160 rfl (by kernel_rfl) (by simp (disch := first | omega | (simp only [go_sem]; first | done | omega)) only [go_sem]) (fun hH => ?_)
  simp (disch := first | omega | (simp only [go_sem]; first | done | omega)) only [go_sem, hc]
  refine AWp.loop (H.length) [9, 10] [11, 3] (fun (k : Nat) => k ≤ acc.length) (fun (k : Nat) => [(11, (.c (.int .i64 k))), (3, .c (grV H.length ((acc.take k).map fun x => x.b.tag)))]) (fun (k : Nat) => H ++ [grO 9 1 (((acc.take k).map fun x => x.b.tag).map encSs)]) (fun (k : Nat) => acc.length - k) (by kernel_rfl) (fun _ => rfl) (by kernel_rfl) (by first | (simp; done) | omega) (by first | (simp; done) | (simp; omega) | omega) kl ?_ (fun k q1 _ _ => ?_)
  · refine Next.mk 0 (Nat.zero_le _) ?_
    exact WkL.pad (by omega)
  by_cases hlt : k < acc.length
  · obtain ⟨x, hx⟩ : ∃ x, x = acc[k] := ⟨_, rfl⟩
    have hnx : (acc.take (k + 1)).map (fun x => x.b.tag) = (acc.take k).map (fun x => x.b.tag) ++ [x.b.tag] := by rw [List.take_succ_eq_append_getElem hlt, ← hx, List.map_append]; rfl
    have hln : ((acc.take k).map (fun x => x.b.tag)).length ≤ k := by simp; omega
    have hne : acc ≠ [] := by rintro rfl; simp at hlt
    have hj2 := hj
    rw [grO_pos _ _ (by simpa using hne)] at hj2
    generalize (acc.take k).map (fun x => x.b.tag) = ns at *
    rw [grV_pos j hne]
    simp (disch := first | omega | (simp only [go_sem]; first | done | omega)) only [go_sem, hlt, ← hx, hj2]
    refine appS ns x.b.tag _ hnx (by first | ((repeat first | exact at0 (by simp) | refine atS ?_); done) | assumption) (by first | ((repeat first | exact at0 (by simp) | refine atS ?_); done) | assumption) (by omega) ?_
    simp (disch := first | omega | (simp only [go_sem]; first | done | omega)) only [go_sem]
    refine Next.mk (k + 1) ⟨by omega, by omega⟩ ?_
    exact ow
  · have hka : k = acc.length := by omega
    subst hka
    rw [List.take_length]
    unfold tagF at hk
    have hsl := srtS_len (acc.map fun x => x.b.tag)
    have hml : (acc.map fun x => x.b.tag).length = acc.length := List.length_map ..
    generalize acc.map (fun x => x.b.tag) = ns at *
    simp (disch := first | omega | (simp only [go_sem]; first | done | omega)) only [go_sem]
    refine sortVS_a ns (by first | ((repeat first | exact at0 (by simp) | refine atS ?_); done) | assumption) (by omega) ?_
    simp (disch := first | omega | (simp only [go_sem]; first | done | omega)) only [go_sem]
    rw [grV_lenQ _ ns (srtS ns) hsl.symm]
    refine compactVS_a (srtS ns) (by first | ((repeat first | exact at0 (by simp) | refine atS ?_); done) | assumption) (by omega) ?_
    simp (disch := first | omega | (simp only [go_sem]; first | done | omega)) only [go_sem]
    exact Ret.drop hH (Nat.le_refl _) (by simp [AV.ok, AV.ok1, AC.ok]) hk
end Go.Proofs.YtnodfnjmhcjnfaaGreatDoor
