/- What the program's Find answers. Condition: names are not longer than a machine holds. -/
import Derived.Test.YtgcjenfdndhhpaaGreatHVBlkP
namespace Go.Proofs.YtgcjenfdndhhpaaGreat
open Go Go.RowKit
set_option maxRecDepth 100000
set_option linter.all false
set_option maxHeartbeats 2000000
variable {H : Hp} {K : AV → Hp → Prop}
def fndB (tag : ByteArray) (a b : Int) (x : Pc) : Bool := decide (x.b.tag = tag) && decide (max x.b.first a < min (x.b.last + 1) b)
def findF (ps : List Pc) (tag : ByteArray) (a b : Int) : List Blk := (ps.filter (fndB tag a b)).map (·.b)
def fRes (l : List UInt8) (tag : ByteArray) (w : Win) : List Blk × Int := if tgE l tag ≠ 0 then ([], tgE l tag) else if winE w ≠ 0 then ([], 1) else (findF (par l).1 tag w.a w.b, 0)
theorem appBk {i q ty : Nat} {own : Bool} {J : AV → Hp → Prop} (l : List Blk) (x : Blk) (l2 : List Blk) (e : l2 = l ++ [x]) (hi : H[i]? = some (grO 66 7 (l.map encBk))) (hj : H[q]? = some (.row ty 7 [encBk x] own)) (hb : l.length ≤ 1000000000)
    (h : J (.c (grV H.length l2)) (H.set i .dead ++ [grO 66 7 (l2.map encBk)])) : aBuiltin Tryz.prog .append #[48, 48] [.c (grV i l), .c (.sl (some (q, 0)) 1)] H J := by
  subst e
  exact app_grR (enc := encBk) (e := 66) (sz := 7) (bs := 64) (z := [.int .i64 0, .int .i64 0, .str ⟨#[]⟩, .int .i64 0, .int .i64 0, .int .i64 0, .bool false]) l [x] (by kernel_rfl) (by kernel_rfl) (by kernel_rfl) (by kernel_rfl) hi (by rw [hj]; rfl) (by simp) rfl (by decide) (by simp; omega) (by simp; omega) h
theorem findTop_a (l : List UInt8) (tag : ByteArray) (w : Win) (hl : l.length ≤ 100000000) (ht : tag.size ≤ 1099511627776) (hlast : (par l).2.2 = 0 → ∀ x ∈ (par l).1, 0 ≤ x.b.last ∧ x.b.last ≤ 1000000000000000) (hk : K (.tup [.c (.lst 7 ((fRes l tag w).1.map encBk)), (.c (.int .i64 ((fRes l tag w).2)))]) H) : ACalls Tryz.prog 25 [.c (.lst 1 (l.map encU)), (.c (.str tag)), .agg (encW w)] H K := by
  unfold fRes at hk
  refine acalls Tryz.func25 rfl (by kernel_rfl) (by simp (disch := first | omega | (simp only [go_sem]; first | done | omega)) only [go_sem]) (fun hH => ?_)
  simp (disch := first | omega | (simp only [go_sem]; first | done | omega)) only [go_sem]
  refine tagged_a l tag hl ht (fun h => ?_) (fun h => ?_)
  · rw [if_pos h] at hk
    simp (disch := first | omega | (simp only [go_sem]; first | done | omega)) only [go_sem, h]
    exact Ret.nilT hH (Nat.le_refl _) rfl hk
  obtain ⟨h1, h2⟩ := tgE_0 h
  obtain ⟨g1, g2, g3, g4⟩ := par_good h1
  have hlast := hlast h1
  rw [if_neg (by simp [h])] at hk
  simp (disch := first | omega | (simp only [go_sem]; first | done | omega)) only [go_sem]
  refine window_a w ?_
  by_cases hw : winE w = 0
  rotate_left
  · rw [if_pos hw] at hk
    rw [decide_eq_false hw]
    simp (disch := first | omega | (simp only [go_sem]; first | done | omega)) only [go_sem]
    exact Ret.nilT hH (Nat.le_refl _) rfl hk
  rw [if_neg (by simp [hw])] at hk
  rw [decide_eq_true hw]
  generalize (par l).2.1 = p at *
  generalize (par l).1 = ps at *
  simp (disch := first | omega | (simp only [go_sem]; first | done | omega)) only [go_sem]
  simp only [Nat.add_assoc, Nat.reduceAdd, Nat.add_sub_cancel_left, List.getElem_cons_succ, List.getElem_cons_zero]
  simp (disch := first | omega | (simp only [go_sem]; first | done | omega)) only [go_sem]
  refine AWp.loop (H.length + 4) [1, 5, 30, 31] [32, 10] (fun (k : Nat) => k ≤ ps.length) (fun (k : Nat) => [(32, (.c (.int .i64 k))), (10, .c (grV (H.length + 4) (findF (ps.take k) tag w.a w.b)))]) (fun (k : Nat) => H ++ [.row 45 2 [encW w] true, lastMp ps, wlk 99 l p (H.length + 3) (H.length + 1) ps, grO 121 8 (ps.map encPc), grO 66 7 ((findF (ps.take k) tag w.a w.b).map encBk)]) (fun (k : Nat) => ps.length - k) (by kernel_rfl) (fun _ => rfl) (by kernel_rfl) (by first | (simp; done) | omega) (by first | (simp; done) | (simp; omega) | omega) kl ?_ (fun k q1 _ _ => ?_)
  · refine Next.mk 0 (Nat.zero_le _) ?_
    simp (disch := first | omega | (simp only [go_sem]; first | done | omega)) only [go_sem]
    exact WkL.padP [_, _, _, _] (by simp)
  by_cases hlt : k < ps.length
  · obtain ⟨x, hx⟩ : ∃ x, x = ps[k] := ⟨_, rfl⟩
    have hxl := hlast x (hx ▸ List.getElem_mem hlt)
    have hnx : findF (ps.take (k + 1)) tag w.a w.b = findF (ps.take k) tag w.a w.b ++ (if fndB tag w.a w.b x = true then [x.b] else []) := by
      unfold findF
      rw [List.take_succ_eq_append_getElem hlt, ← hx, List.filter_append, List.map_append, List.filter_cons]
      split <;> rfl
    have hln : (findF (ps.take k) tag w.a w.b).length ≤ k := by
      unfold findF
      rw [List.length_map]
      have := List.length_filter_le (fndB tag w.a w.b) (ps.take k)
      rw [List.length_take] at this
      omega
    generalize findF (ps.take k) tag w.a w.b = T at *
    have hdone : ∀ (i : Nat) {T2 : List Blk} (G : Hp), G[i]? = some (grO 66 7 (T2.map encBk)) → WkL (H.length + 4) [(.c (.int .i64 ((k : Int) + 1))), .c (grV (H.length + 4 + i) T2)] (H ++ ([.row 45 2 [encW w] true, lastMp ps, wlk 99 l p (H.length + 3) (H.length + 1) ps, grO 121 8 (ps.map encPc)] ++ G)) [(.c (.int .i64 ((k : Int) + 1))), .c (grV (H.length + 4) T2)] (H ++ ([.row 45 2 [encW w] true, lastMp ps, wlk 99 l p (H.length + 3) (H.length + 1) ps, grO 121 8 (ps.map encPc)] ++ [grO 66 7 (T2.map encBk)])) := by
      intro i T2 G hG
      refine WkL.pickAt [.row 45 2 [encW w] true, lastMp ps, wlk 99 l p (H.length + 3) (H.length + 1) ps, grO 121 8 (ps.map encPc)] [i] (L := [grO 66 7 (T2.map encBk)]) hH ?_ ?_ (by simp [hG]) (by simp) ?_ ?_ ?_
      · intro o ho
        simp only [List.mem_cons, List.not_mem_nil, or_false] at ho
        rcases ho with rfl | rfl | rfl | rfl
        · exact okN_map (l := [w]) (fun x => by simp [go_sem, AC.pure])
        · exact lastMp_ok ps _
        · exact wlk_ok l p ps (by simp) (by simp)
        · exact prt_ok ps _
      · simp
      · simp only [List.all_cons, List.all_nil, Bool.and_true]
        exact pureO_gr (pureL_map _ (fun x => by simp [encBk, AC.pure]))
      · simp only [List.map_cons, List.map_nil, av_ren_gr]
        simp [AV.ren, AV.ren1, AC.ren, pickS]
      · simp only [List.forall_mem_cons, List.not_mem_nil, false_implies, implies_true, and_true]
        exact ⟨trivial, grV_ok (by simp) _⟩
    by_cases ht : x.b.tag = tag
    · by_cases hm : max x.b.first w.a < min (x.b.last + 1) w.b
      · rw [if_pos (by simp [fndB, ht, hm])] at hnx
        simp (disch := first | omega | (simp only [go_sem]; first | done | omega)) only [go_sem, hlt, ← hx, ht, hm]
        refine appBk (ty := 66) (own := true) T x.b _ hnx (by first | exact at4 (by simp) | exact at4 (by omega)) (atG 6 (by simp) (by simp [encBk, ht])) (by omega) ?_
        simp (disch := first | omega | (simp only [go_sem]; first | done | omega)) only [go_sem]
        refine Next.mk (k + 1) ⟨by omega, by omega⟩ ?_
        simp (disch := first | omega | (simp only [go_sem]; first | done | omega)) only [go_sem]
        exact hdone 3 (T2 := findF (ps.take (k + 1)) tag w.a w.b) _ rfl
      · rw [if_neg (by simp [fndB, hm]), List.append_nil] at hnx
        simp (disch := first | omega | (simp only [go_sem]; first | done | omega)) only [go_sem, hlt, ← hx, ht, hm]
        refine Next.mk (k + 1) ⟨by omega, by omega⟩ ?_
        rw [hnx]
        simp (disch := first | omega | (simp only [go_sem]; first | done | omega)) only [go_sem]
        exact hdone 0 (T2 := T) _ rfl
    · rw [if_neg (by simp [fndB, ht]), List.append_nil] at hnx
      simp (disch := first | omega | (simp only [go_sem]; first | done | omega)) only [go_sem, hlt, ← hx, ht]
      refine Next.mk (k + 1) ⟨by omega, by omega⟩ ?_
      rw [hnx]
      simp (disch := first | omega | (simp only [go_sem]; first | done | omega)) only [go_sem]
      exact hdone 0 (T2 := T) _ rfl
  · rw [List.take_of_length_le (by omega)]
    simp (disch := first | omega | (simp only [go_sem]; first | done | omega)) only [go_sem]
    exact Ret.frzGrT 4 hH (Nat.le_refl _) rfl (pureL_map _ (fun x => by simp [encBk, AC.pure])) rfl (map_grV _ _ _).symm hk
end Go.Proofs.YtgcjenfdndhhpaaGreat
