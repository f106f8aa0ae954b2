/- Append: the reference. Condition: the bytes and the samples fit. -/
import Derived.Test.YtnodfnjmhcjnfaaGreatDoorHVParse
import Derived.Test.YtnodfnjmhcjnfaaGreatDoorHVChunks
import Derived.Test.YtnodfnjmhcjnfaaGreatDoorHVConcatU
import Derived.Test.YtnodfnjmhcjnfaaGreatDoorHVEncTop
namespace Go.Proofs.YtnodfnjmhcjnfaaGreatDoor
open Go Go.RowKit
set_option maxRecDepth 100000
set_option linter.all false
set_option maxHeartbeats 2000000
variable {H : Hp} {K : AV → Hp → Prop}
theorem parF_len (l : List UInt8) : ∀ (f p : Nat) (acc : List Pc), (parF l f p acc).1.length ≤ acc.length + (l.length - p)
  | 0, p, acc => by simp [parF]
  | f + 1, p, acc => by
    unfold parF
    split
    · split
      · dsimp only; omega
      · rename_i h0
        have h1 := decTop_ok (l := l) (p := p) (by simpa using h0)
        split
        · dsimp only; omega
        · have := parF_len l f (p + (decTop l p).1.long.toNat) (acc ++ [⟨(decTop l p).1, (decTop l p).2.1⟩])
          simp only [List.length_append, List.length_cons, List.length_nil] at this
          omega
    · dsimp only; omega
theorem par_len (l : List UInt8) : (par l).1.length ≤ l.length := by
  unfold par
  split
  · simp
  · have := parF_len l (l.length + 1) 0 []
    simpa using this
theorem par_small {l : List UInt8} (h : (par l).2.2 = 0) : l.length ≤ 200000 := by
  unfold par at h
  split at h
  · cases h
  · omega
theorem ACalls.litGr2 {P : Program} {f : FuncId} {tag : ByteArray} {rest : List AV} {i ty sz : Nat} {α : Type} {l : List α} {els : List (List AC)} (hi : H[i]? = some (grO ty sz els)) (hl : l.length = els.length) (hp : pureL els = true) (hr : rest.map (AV.frz1 i sz els) = rest)
    (h : ACalls P f ((.c (.str tag)) :: .c (.lst sz els) :: rest) (H.set i .dead) K) : ACalls P f ((.c (.str tag)) :: .c (grV i l) :: rest) H K := by
  cases els with
  | nil =>
    have h0 : l = [] := List.length_eq_zero_iff.1 hl
    subst h0
    rw [set_same (o := .dead) hi] at h
    refine ACalls.nilz [0, sz] (by simp) ?_
    exact h
  | cons y ys =>
    have h0 : l ≠ [] := by rintro rfl; simp at hl
    rw [grV_pos _ h0]
    refine ACalls.lit (i := i) (ty := ty) (sz := sz) (els := y :: ys) (own := true) hi hp (args' := (.c (.str tag)) :: .c (.lst sz (y :: ys)) :: rest) ?_ h
    rw [List.map_cons, List.map_cons, hr]
    simp [AV.frz1, AC.frz, hl]
def lateL (last : Int) (l : List Smp) : List Smp := l.filter fun x => decide (¬ last < x.t)
def normL (last : Int) (l : List Smp) : List Smp := l.filter fun x => decide (last < x.t)
def appB (file : List UInt8) (tag : ByteArray) (l : List Smp) : List UInt8 := file ++ (chB tag (lateL (lastO (par file).1 tag) l) true (List.range (nch (lateL (lastO (par file).1 tag) l))) ++ chB tag (normL (lastO (par file).1 tag) l) false (List.range (nch (normL (lastO (par file).1 tag) l))))
def appRes (file : List UInt8) (tag : ByteArray) (l : List Smp) : List UInt8 × Int :=
  if (par file).2.2 ≠ 0 then ([], (par file).2.2) else if ¬ isKey tag then ([], 5) else if serF l ≠ 0 then ([], serF l) else if 200000 < (appB file tag l).length then ([], 12) else (appB file tag l, 0)
theorem appendOf_a (file : List UInt8) (tag : ByteArray) (l : List Smp) (hf : file.length ≤ 100000000) (ht : tag.size ≤ 1000) (hl : l.length ≤ 5000) (hk1 : (appRes file tag l).2 ≠ 0 → K (.tup [.c (.sl none 0), (.c (.int .i64 ((appRes file tag l).2)))]) H) (hk0 : (appRes file tag l).2 = 0 → K (.tup [.c (grV H.length (appRes file tag l).1), (.c (.int .i64 0))]) (H ++ [grO 5 1 ((appRes file tag l).1.map encU)])) : ACalls Tryz.prog 152 [.c (.lst 1 (file.map encU)), (.c (.str tag)), .c (.lst 3 (l.map encS))] H K := by
  unfold appRes at hk1 hk0
  refine acalls Tryz.func152 rfl (by kernel_rfl) (by simp (disch := first | omega | (simp only [go_sem]; first | done | omega)) only [go_sem]) (fun hH => ?_)
  simp (disch := first | omega | (simp only [go_sem]; first | done | omega)) only [go_sem]
  refine parse_a file hf ?_
  simp (disch := first | omega | (simp only [go_sem]; first | done | omega)) only [go_sem]
  by_cases h0 : (par file).2.2 = 0
  case neg =>
    rw [if_pos h0] at hk1
    have hk := hk1 h0
    simp (disch := first | omega | (simp only [go_sem]; first | done | omega)) only [go_sem, h0]
    exact Ret.same (Nat.le_refl _) hk
  rw [if_neg (by simpa using h0)] at hk1 hk0
  simp (disch := first | omega | (simp only [go_sem]; first | done | omega)) only [go_sem, h0]
  refine keyR_a tag (by omega) ?_
  by_cases h1 : isKey tag
  case neg =>
    rw [if_pos h1] at hk1
    have hk := hk1 (by decide)
    rw [decide_eq_false h1]
    simp (disch := first | omega | (simp only [go_sem]; first | done | omega)) only [go_sem]
    exact Ret.same (Nat.le_refl _) hk
  rw [if_neg (by simpa using h1)] at hk1 hk0
  rw [decide_eq_true h1]
  simp (disch := first | omega | (simp only [go_sem]; first | done | omega)) only [go_sem]
  refine seriesFault_a l (by omega) ?_
  simp (disch := first | omega | (simp only [go_sem]; first | done | omega)) only [go_sem]
  by_cases h2 : serF l = 0
  case neg =>
    rw [if_pos h2] at hk1
    have hk := hk1 h2
    simp (disch := first | omega | (simp only [go_sem]; first | done | omega)) only [go_sem, h2]
    exact Ret.same (Nat.le_refl _) hk
  rw [if_neg (by simpa using h2)] at hk1 hk0
  simp (disch := first | omega | (simp only [go_sem]; first | done | omega)) only [go_sem, h2]
  have hpl := par_len file
  have hfs := par_small h0
  refine lastOf_a (par file).1 tag (by omega) ?_
  unfold appB at hk1 hk0
  generalize lastO (par file).1 tag = last at *
  simp (disch := first | omega | (simp only [go_sem]; first | done | omega)) only [go_sem]
  refine AWp.upto (H.length) [0, 1, 11, 37, 38] [12, 13, 39] (l.length) (fun k => [(12, .c (grV H.length (lateL last (l.take k)))), (13, .c (grV (H.length + 1) (normL last (l.take k)))), (39, (.c (.int .i64 k)))]) (fun k => H ++ [grO 38 3 ((lateL last (l.take k)).map encS), grO 38 3 ((normL last (l.take k)).map encS)]) (by kernel_rfl) (fun _ => rfl) (by kernel_rfl) (by first | (simp; done) | omega) (by first | (simp; done) | (simp; omega) | omega) kl ?_ (fun k hk1 _ _ => ?_)
  · refine Next.mk 0 rfl ?_
    simp (disch := first | omega | (simp only [go_sem]; first | done | omega)) only [go_sem]
    exact WkL.trans (WkL.pad (by simp)) (WkL.padP [_] (by simp))
  have hl1 : (lateL last (l.take k)).length ≤ k := by have h1 := List.length_filter_le (fun x : Smp => decide (¬ last < x.t)) (l.take k); rw [List.length_take] at h1; unfold lateL; omega
  have hl2 : (normL last (l.take k)).length ≤ k := by have h1 := List.length_filter_le (fun x : Smp => decide (last < x.t)) (l.take k); rw [List.length_take] at h1; unfold normL; omega
  by_cases hlt : k < l.length
  · by_cases hx : last < l[k].t
    · have n1 : lateL last (l.take (k + 1)) = lateL last (l.take k) := by rw [List.take_succ_eq_append_getElem hlt, lateL, List.filter_append]; simp [hx, lateL]
      have n2 : normL last (l.take (k + 1)) = normL last (l.take k) ++ [l[k]] := by rw [List.take_succ_eq_append_getElem hlt, normL, List.filter_append]; simp [hx, normL]
      simp (disch := first | omega | (simp only [go_sem]; first | done | omega)) only [go_sem, hlt, hx]
      (refine app_gr (enc := encS) (e := 38) (sz := 3) (bs := 24) (z := [.int .i64 0, .int .i64 0, .int .i64 0]) (normL last (l.take k)) (l[k]) (by kernel_rfl) (by kernel_rfl) (by kernel_rfl) (by kernel_rfl) (by first | ((repeat first | exact at0 (by simp) | refine atS ?_); done) | assumption) (by first | (simp (disch := first | omega | (simp only [go_sem]; first | done | omega)) only [go_sem]; done) | (simp (disch := first | omega | (simp only [go_sem]; first | done | omega)) only [go_sem]; rfl) | (simp (disch := first | omega | (simp only [go_sem]; first | done | omega)) only [go_sem]; simp [go_sem]; done) | (simp (disch := first | omega | (simp only [go_sem]; first | done | omega)) only [go_sem]; simp [*]; done)) rfl (by decide) (by omega) (by omega) (by rfl) ?_)
      simp (disch := first | omega | (simp only [go_sem]; first | done | omega)) only [go_sem]
      refine Next.mk (k + 1) (by first | rfl | exact ⟨rfl, hlt⟩) ?_
      (try dsimp only)
      rw [n1, n2]
      ((try simp (disch := first | omega | (simp only [go_sem]; first | done | omega)) only [go_sem]); (refine WkL.pick [0, 4] ?_ ?_ rfl ?_ ?_ ?_ ?_) <;> first | (simp only [List.map_cons, List.map_nil, av_ren_gr]; (try simp only [AV.ren, AV.ren1, AC.ren, renP]); (try simp only [pickS_add, pickS_zero]); rfl) | (simp only [List.all_cons, List.all_nil, Bool.and_true, Bool.and_eq_true]; (repeat' apply And.intro) <;> first | exact pureO_gr (pureL_map _ (fun x => by simp [go_sem, AC.pure])) | (simp [AObj.pureO, pureL, go_sem, AC.pure]; done)) | assumption | exact HOk.str (by assumption) | (simp; done) | (simp; omega) | (simp [pureO_gr, AObj.pureO, pureL, go_sem, AC.pure]; done) | (simp only [List.all_cons, List.all_nil, Bool.and_true]; exact pureO_gr (pureL_map _ (fun x => by simp [go_sem, AC.pure]))) | ((try simp only [List.map_cons, List.map_nil, av_ren_gr]); simp [AV.ren, AV.ren1, AC.ren, renP, pickS]; first | done | omega) | (simp only [List.forall_mem_cons, List.not_mem_nil, false_implies, implies_true, and_true]; (repeat' apply And.intro) <;> first | trivial | exact grV_ok (by simp) _ | exact okN_grO (fun x => by simp [go_sem, AC.pure]) | exact okN_map (fun x => by simp [go_sem, AC.pure]) | (simp [AV.ok, AV.ok1, AC.ok]; done) | (simp [AV.ok, AV.ok1, AC.ok]; omega) | (simp [AObj.okN, AC.ok]; done)) | (simp [AObj.okN]; done))
    · have n1 : lateL last (l.take (k + 1)) = lateL last (l.take k) ++ [l[k]] := by rw [List.take_succ_eq_append_getElem hlt, lateL, List.filter_append]; simp [lateL]; omega
      have n2 : normL last (l.take (k + 1)) = normL last (l.take k) := by rw [List.take_succ_eq_append_getElem hlt, normL, List.filter_append]; simp [hx, normL]
      simp (disch := first | omega | (simp only [go_sem]; first | done | omega)) only [go_sem, hlt, hx]
      (refine app_gr (enc := encS) (e := 38) (sz := 3) (bs := 24) (z := [.int .i64 0, .int .i64 0, .int .i64 0]) (lateL last (l.take k)) (l[k]) (by kernel_rfl) (by kernel_rfl) (by kernel_rfl) (by kernel_rfl) (by first | ((repeat first | exact at0 (by simp) | refine atS ?_); done) | assumption) (by first | (simp (disch := first | omega | (simp only [go_sem]; first | done | omega)) only [go_sem]; done) | (simp (disch := first | omega | (simp only [go_sem]; first | done | omega)) only [go_sem]; rfl) | (simp (disch := first | omega | (simp only [go_sem]; first | done | omega)) only [go_sem]; simp [go_sem]; done) | (simp (disch := first | omega | (simp only [go_sem]; first | done | omega)) only [go_sem]; simp [*]; done)) rfl (by decide) (by omega) (by omega) (by rfl) ?_)
      simp (disch := first | omega | (simp only [go_sem]; first | done | omega)) only [go_sem]
      refine Next.mk (k + 1) (by first | rfl | exact ⟨rfl, hlt⟩) ?_
      (try dsimp only)
      rw [n1, n2]
      ((try simp (disch := first | omega | (simp only [go_sem]; first | done | omega)) only [go_sem]); (refine WkL.pick [4, 1] ?_ ?_ rfl ?_ ?_ ?_ ?_) <;> first | (simp only [List.map_cons, List.map_nil, av_ren_gr]; (try simp only [AV.ren, AV.ren1, AC.ren, renP]); (try simp only [pickS_add, pickS_zero]); rfl) | (simp only [List.all_cons, List.all_nil, Bool.and_true, Bool.and_eq_true]; (repeat' apply And.intro) <;> first | exact pureO_gr (pureL_map _ (fun x => by simp [go_sem, AC.pure])) | (simp [AObj.pureO, pureL, go_sem, AC.pure]; done)) | assumption | exact HOk.str (by assumption) | (simp; done) | (simp; omega) | (simp [pureO_gr, AObj.pureO, pureL, go_sem, AC.pure]; done) | (simp only [List.all_cons, List.all_nil, Bool.and_true]; exact pureO_gr (pureL_map _ (fun x => by simp [go_sem, AC.pure]))) | ((try simp only [List.map_cons, List.map_nil, av_ren_gr]); simp [AV.ren, AV.ren1, AC.ren, renP, pickS]; first | done | omega) | (simp only [List.forall_mem_cons, List.not_mem_nil, false_implies, implies_true, and_true]; (repeat' apply And.intro) <;> first | trivial | exact grV_ok (by simp) _ | exact okN_grO (fun x => by simp [go_sem, AC.pure]) | exact okN_map (fun x => by simp [go_sem, AC.pure]) | (simp [AV.ok, AV.ok1, AC.ok]; done) | (simp [AV.ok, AV.ok1, AC.ok]; omega) | (simp [AObj.okN, AC.ok]; done)) | (simp [AObj.okN]; done))
  have : k = l.length := by omega
  subst this
  rw [List.take_of_length_le (Nat.le_refl _)] at hl1 hl2 ⊢
  simp (disch := first | omega | (simp only [go_sem]; first | done | omega)) only [go_sem, hlt]
  have hsm := serF_sml h2
  have ht0 : 0 < tag.size := by have := h1.1; omega
  have m1 : ∀ x ∈ lateL last l, smlS x := fun x hx => hsm x (List.mem_filter.1 hx).1
  have m2 : ∀ x ∈ normL last l, smlS x := fun x hx => hsm x (List.mem_filter.1 hx).1
  have k1 := chB_len tag (lateL last l) true ht m1 (List.range (nch (lateL last l)))
  have k2 := chB_len tag (normL last l) false ht m2 (List.range (nch (normL last l)))
  rw [List.length_range] at k1 k2
  have q1 : nch (lateL last l) ≤ 51 := by unfold nch; omega
  have q2 : nch (normL last l) ≤ 51 := by unfold nch; omega
  refine ACalls.litGr2 (by first | ((repeat first | exact at0 (by simp) | refine atS ?_); done) | assumption) (by simp) (pureL_map _ (fun x => by simp [go_sem, AC.pure])) rfl ?_
  simp (disch := first | omega | (simp only [go_sem]; first | done | omega)) only [go_sem]
  refine chunksR_a tag (lateL last l) true ht0 ht (by omega) m1 ?_
  simp (disch := first | omega | (simp only [go_sem]; first | done | omega)) only [go_sem]
  refine ACalls.litGr2 (by first | ((repeat first | exact at0 (by simp) | refine atS ?_); done) | assumption) (by simp) (pureL_map _ (fun x => by simp [go_sem, AC.pure])) rfl ?_
  simp (disch := first | omega | (simp only [go_sem]; first | done | omega)) only [go_sem]
  refine chunksR_a tag (normL last l) false ht0 ht (by omega) m2 ?_
  simp (disch := first | omega | (simp only [go_sem]; first | done | omega)) only [go_sem]
  generalize chB tag (lateL last l) true (List.range (nch (lateL last l))) = X at *
  generalize chB tag (normL last l) false (List.range (nch (normL last l))) = Y at *
  refine ACalls.lit (i := H.length + 2) (ty := 64) (sz := 1) (els := [file, X, Y].map encUL) (own := true) (by rw [List.getElem?_append_right (by omega)]; simp [encUL]) (by simp [pureL, AC.pure, encUL]) (args' := [.c (.lst 1 ([file, X, Y].map encUL))]) (by simp [AV.frz1, AC.frz]) ?_
  simp (disch := first | omega | (simp only [go_sem]; first | done | omega)) only [go_sem]
  have hfl : [file, X, Y].flatten = file ++ (X ++ Y) := by simp
  refine concatU_o [file, X, Y] (by simp) (by rw [hfl]; simp; omega) ?_
  rw [hfl]
  have hlen : (file ++ (X ++ Y)).length ≤ 10000000 := by simp; omega
  generalize file ++ (X ++ Y) = Z at *
  by_cases h3 : 200000 < Z.length
  · rw [if_pos h3] at hk1
    have hk := hk1 (by decide)
    have e3 : ((200000 : Int) < Z.length) = True := by simp; omega
    simp (disch := first | omega | (simp only [go_sem]; first | done | omega)) only [go_sem, e3]
    exact Ret.drop hH (Nat.le_refl _) (by simp [AV.ok, AV.ok1, AC.ok]) hk
  · rw [if_neg h3] at hk0
    have hk := hk0 rfl
    have e3 : ((200000 : Int) < Z.length) = False := by simp; omega
    simp (disch := first | omega | (simp only [go_sem]; first | done | omega)) only [go_sem, e3]
    dsimp only at hk
    refine Ret.pick [3] hH (Nat.le_refl _) (L := [grO 5 1 (Z.map encU)]) rfl (by simp) (by simp only [List.all_cons, List.all_nil, Bool.and_true]; exact pureO_gr (pureL_U _)) (v' := .tup [.c (grV H.length Z), (.c (.int .i64 0))]) ?_ ?_ hk
    · cases Z <;> simp [AV.ren, AV.ren1, AC.ren, pickS, grV]
    · intro v hv
      simp only [List.mem_cons, List.not_mem_nil, or_false] at hv
      rcases hv with rfl | rfl
      · cases Z <;> simp [AV.ok1, AC.ok, grV]
      · trivial
end Go.Proofs.YtnodfnjmhcjnfaaGreatDoor
