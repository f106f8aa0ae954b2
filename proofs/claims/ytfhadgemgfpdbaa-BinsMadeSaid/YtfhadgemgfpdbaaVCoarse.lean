/- Coarser bins: the program and the document's answer. Condition: the bins are right. -/
import Derived.Test.YtfhadgemgfpdbaaVSort
import Derived.Test.YtfhadgemgfpdbaaVGr
namespace Go.Proofs.Ytfhadgemgfpdbaa
open Go Go.RowKit
set_option maxRecDepth 100000
set_option linter.all false
set_option maxHeartbeats 1000000
variable {H : Hp} {K : AV → Hp → Prop}
theorem put_gr (i : Nat) (l : List Bin) (b : Bin) (hi : H[i]? = some (grO 62 6 (l.map encN))) (hlen : l.length ≤ 1000000) (hx : ∀ x ∈ l, x.bd 4611686018427387903) (hb : b.bd 4611686018427387903)
    (hk : K (.c (grV H.length (putB l b))) (H.set i .dead ++ [grO 62 6 ((putB l b).map encN)])) : ACalls Try.prog 50 [.c (grV i l), .agg (encN b)] H K := by
  rw [grV_pos _ (putB_ne _ _), grO_pos _ _ (by simpa using putB_ne l b)] at hk
  exact put_a i l b hi hlen hx hb hk
theorem fitsGr_a {i : Nat} (l : List Bin) (hi : H[i]? = some (grO 62 6 (l.map encN))) (hlen : l.length ≤ 1099511627776) (hk : K (.c (.int .i64 (fitsE l))) H) : ACalls Try.prog 51 [.c (grV i l)] H K := by
  rw [← map_grV encN]
  exact ACalls.lendGr (.c (.int .i64 (fitsE l))) hi (pureL_encN l) rfl rfl rfl (by simp [AV.ok1, AC.ok]) (fun G J hJ => fits_a l hlen hJ) hk
def toA (to : Int) (x : Bin) : Bin := ⟨x.a / to * to, x.s, x.n, x.m, x.lo, x.hi⟩
def coarse2 (b : List Bin) (step to : Int) : List Bin × Int := if ¬isStep to then ([], 1) else if to % step ≠ 0 then ([], 16) else if fitsE (foldB (b.map (toA to))) ≠ 0 then ([], 2) else (foldB (b.map (toA to)), 0)
def coarseRes (b : List Bin) (step to : Int) : List Bin × Int := if bnF b step ≠ 0 then ([], bnF b step) else coarse2 b step to
def Bin.right (x : Bin) : Prop := 0 ≤ x.a ∧ x.a ≤ 345686399999 ∧ 0 ≤ x.n ∧ x.n ≤ 5000000 ∧ 0 ≤ x.m ∧ x.m ≤ 5000000 ∧ -5000000000000 ≤ x.s ∧ x.s ≤ 5000000000000
theorem bnErr_ok {x : Bin} {step : Int} (h : bnErr x step = 0) : x.right := by
  have hlo : 0 ≤ x.n → x.n ≤ 5000000 → -1000000 ≤ x.lo → x.lo ≤ 1000000 → -5000000000000 ≤ x.n * x.lo ∧ x.n * x.lo ≤ 5000000000000 := mul_bd
  have hhi : 0 ≤ x.n → x.n ≤ 5000000 → -1000000 ≤ x.hi → x.hi ≤ 1000000 → -5000000000000 ≤ x.n * x.hi ∧ x.n * x.hi ≤ 5000000000000 := mul_bd
  unfold bnErr at h
  unfold Bin.right
  repeat' split at h
  all_goals omega
theorem bnF_ok {l : List Bin} {step : Int} (h : bnF l step = 0) : isStep step ∧ l.length ≤ 5000 ∧ ∀ x ∈ l, x.right := by
  unfold bnF at h
  split at h
  · cases h
  · split at h
    · cases h
    · rename_i h1 h2
      refine ⟨Classical.not_not.1 h1, by omega, fun x hx => ?_⟩
      obtain ⟨j, q, h3⟩ := errGo_all (bnGo step) l 0 _ h x hx
      unfold bnGo at h3
      split at h3
      · omega
      · rename_i h4; exact bnErr_ok (Classical.not_not.1 h4)
theorem Bin.right.bd {x : Bin} (h : x.right) : x.bd 5000000000000 := by simp only [Bin.right] at h; simp only [Bin.bd]; omega
theorem fold_bd {l : List Bin} (h : ∀ x ∈ l, x.bd 5000000000000) : (∀ y ∈ foldB l, y.bd (5000000000000 * l.length)) ∧ (foldB l).length ≤ l.length := by
  have key : ∀ (k : Nat), k ≤ l.length → (∀ y ∈ foldB (l.take k), y.bd (5000000000000 * k)) ∧ (foldB (l.take k)).length ≤ k := by
    intro k
    induction k with
    | zero => simp [foldB]
    | succ k ih =>
      intro hk
      obtain ⟨h1, h2⟩ := ih (by omega)
      rw [List.take_succ_eq_append_getElem (by omega), foldB_snoc]
      have := putB_bd2 h1 (h _ (List.getElem_mem (by omega : k < l.length))) (by omega) (by omega)
      refine ⟨fun y hy => ?_, by omega⟩
      have := this.1 y hy
      simp only [Bin.bd] at this ⊢
      omega
  have := key l.length (Nat.le_refl _)
  rwa [List.take_of_length_le (Nat.le_refl _)] at this
theorem fold_take {l : List Bin} (h : ∀ x ∈ l, x.bd 5000000000000) (hl : l.length ≤ 100000) (k : Nat) : (∀ y ∈ foldB (l.take k), y.bd 4611686018427387903) ∧ (foldB (l.take k)).length ≤ 100000 := by
  have := fold_bd (l := l.take k) (fun x hx => h x (List.mem_of_mem_take hx))
  have hl2 : (l.take k).length ≤ l.length := by simp; omega
  refine ⟨fun y hy => ?_, by omega⟩
  have := this.1 y hy
  simp only [Bin.bd] at this ⊢
  omega
theorem fold_next {l : List Bin} {k : Nat} (hk : k < l.length) : foldB (l.take (k + 1)) = putB (foldB (l.take k)) l[k] := by
  rw [List.take_succ_eq_append_getElem hk, foldB_snoc]
theorem fitsE_two (l : List Bin) : fitsE l ≠ 0 → fitsE l = 2 := by
  unfold fitsE
  split
  · intro _; rfl
  · intro h; exact absurd rfl h
theorem coarser_a (b : List Bin) (step to : Int) (hlen : b.length ≤ 1099511627776) (hk : K (.tup [.c (.lst 6 ((coarseRes b step to).1.map encN)), (.c (.int .i64 ((coarseRes b step to).2)))]) H) : ACalls Try.prog 21 [.c (.lst 6 (b.map encN)), (.c (.int .i64 step)), (.c (.int .i64 to))] H K := by
  refine acalls Try.func21 rfl (by kernel_rfl) (by simp (disch := first | omega | (simp only [go_sem]; first | done | omega)) only [go_sem]) (fun hH => ?_)
  simp (disch := first | omega | (simp only [go_sem]; first | done | omega)) only [go_sem]
  refine checkBins_a b step hlen ?_
  simp (disch := first | omega | (simp only [go_sem]; first | done | omega)) only [go_sem]
  refine acond_d (fun h1 => ?_) (fun h1 => ?_)
  rotate_left
  · simp (disch := first | omega | (simp only [go_sem]; first | done | omega)) only [go_sem]
    rw [show coarseRes b step to = ([], bnF b step) by simp [coarseRes, h1]] at hk
    exact Ret.nilS (Nat.le_refl _) rfl hk
  obtain ⟨hs, hl, hr⟩ := bnF_ok h1
  have hs0 : step ≠ 0 := by omega
  rw [show coarseRes b step to = coarse2 b step to by simp [coarseRes, h1]] at hk
  simp (disch := first | omega | (simp only [go_sem]; first | done | omega)) only [go_sem]
  refine isStep_a _ _ _ ?_
  simp (disch := first | omega | (simp only [go_sem]; first | done | omega)) only [go_sem]
  refine acond_d (fun h2 => ?_) (fun h2 => ?_)
  rotate_left
  · simp (disch := first | omega | (simp only [go_sem]; first | done | omega)) only [go_sem]
    rw [show coarse2 b step to = ([], 1) by simp only [coarse2, h2]; simp] at hk
    exact Ret.nilS (Nat.le_refl _) rfl hk
  simp (disch := first | omega | (simp only [go_sem]; first | done | omega)) only [go_sem]
  refine acond_d (fun h3 => ?_) (fun h3 => ?_)
  rotate_left
  · simp (disch := first | omega | (simp only [go_sem]; first | done | omega)) only [go_sem]
    rw [show coarse2 b step to = ([], 16) by unfold coarse2; rw [if_neg (not_not_intro h2), if_pos h3]] at hk
    exact Ret.nilS (Nat.le_refl _) rfl hk
  have hto : to ≠ 0 := by omega
  have hrb : ∀ x ∈ b.map (toA to), x.bd 5000000000000 := fun x hx => by
    obtain ⟨y, hy, rfl⟩ := List.mem_map.1 hx
    exact (hr y hy).bd
  have hml : (b.map (toA to)).length ≤ 100000 := by simp; omega
  simp (disch := first | omega | (simp only [go_sem]; first | done | omega)) only [go_sem]
  refine AWp.loop (H.length) [2, 28, 29] [30, 9] (fun (k : Nat) => k ≤ b.length) (fun (k : Nat) => [(30, (.c (.int .i64 k))), (9, .c (grV H.length (foldB ((b.map (toA to)).take k))))]) (fun (k : Nat) => H ++ [grO 62 6 ((foldB ((b.map (toA to)).take k)).map encN)]) (fun (k : Nat) => b.length - k) (by kernel_rfl) (fun _ => rfl) (by kernel_rfl) (by simp) (by first | (simp; done) | (simp; omega)) (by (try simp only [List.forall_mem_cons, List.not_mem_nil, false_implies, implies_true, and_true]); (try simp (disch := first | omega | (simp only [go_sem]; first | done | omega)) only [go_sem]); first | trivial | (simp [AV.ok, AV.ok1, AC.ok]; done) | (simp [AV.ok, AV.ok1, AC.ok]; omega) | ((repeat' apply And.intro) <;> first | trivial | (simp [AV.ok, AV.ok1, AC.ok]; done) | (simp [AV.ok, AV.ok1, AC.ok]; omega) | (refine grV_ok ?_ _; first | (simp; done) | (simp; omega) | omega))) ?_ (fun k hkb _ _ => ?_)
  · exact Next.mk 0 (by omega) (WkL.pad (by simp))
  obtain ⟨f1, f2⟩ := fold_take hrb hml k
  by_cases hlt : k < b.length
  · have hx := hr b[k] (List.getElem_mem hlt)
    have hn := fold_next (l := b.map (toA to)) (k := k) (by simpa using hlt)
    have hxb := hrb _ (List.getElem_mem (l := b.map (toA to)) (n := k) (by simpa using hlt))
    rw [List.getElem_map] at hn hxb
    simp only [Bin.right] at hx
    have t0 : 0 ≤ b[k].a / to := Int.ediv_nonneg (by omega) (by omega)
    have t1 : b[k].a / to * to ≤ b[k].a := Int.ediv_mul_le _ hto
    have t2 : 0 ≤ b[k].a / to * to := Int.mul_nonneg t0 (by omega)
    simp (disch := first | omega | (simp only [go_sem]; first | done | omega)) only [go_sem]
    refine put_gr H.length (foldB ((b.map (toA to)).take k)) (toA to b[k]) (by first | exact at0 (by simp) | exact at1 (by simp) | exact at2 (by simp) | exact at3 (by simp) | exact at4 (by simp) | exact at5 (by simp) | exact atG 6 (by simp) rfl | exact atG 7 (by simp) rfl | exact atG 8 (by simp) rfl | exact atG 9 (by simp) rfl | exact atG 10 (by simp) rfl | assumption) (by omega) f1 (by simp only [Bin.bd] at hxb ⊢; omega) ?_
    simp (disch := first | omega | (simp only [go_sem]; first | done | omega)) only [go_sem]
    rw [← hn]
    refine Next.mk (k + 1) ⟨by omega, by omega⟩ ?_
    ((try simp (disch := first | omega | (simp only [go_sem]; first | done | omega)) only [go_sem]); first | (refine WkL.pick [0] (by first | assumption | exact HOk.str (by assumption)) (by first | (simp; done) | (simp; omega)) rfl (by simp) (by first | (simp [pureO_gr, AObj.pureO, pureL, go_sem, AC.pure]; done) | (simp only [List.all_cons, List.all_nil, Bool.and_true]; exact pureO_gr (pureL_map _ (fun x => by simp [go_sem, AC.pure])))) (by (try simp only [List.map_cons, List.map_nil, av_ren_gr]); first | (simp [AV.ren, AV.ren1, AC.ren, pickS]; done) | (simp [AV.ren, AV.ren1, AC.ren, pickS]; omega)) (by simp only [List.forall_mem_cons, List.not_mem_nil, false_implies, implies_true, and_true]; (repeat' apply And.intro) <;> first | exact grV_ok (by simp) _ | (simp [AV.ok, AV.ok1, AC.ok]; done) | (simp [AV.ok, AV.ok1, AC.ok]; omega))) | (refine WkL.pick [1] (by first | assumption | exact HOk.str (by assumption)) (by first | (simp; done) | (simp; omega)) rfl (by simp) (by first | (simp [pureO_gr, AObj.pureO, pureL, go_sem, AC.pure]; done) | (simp only [List.all_cons, List.all_nil, Bool.and_true]; exact pureO_gr (pureL_map _ (fun x => by simp [go_sem, AC.pure])))) (by (try simp only [List.map_cons, List.map_nil, av_ren_gr]); first | (simp [AV.ren, AV.ren1, AC.ren, pickS]; done) | (simp [AV.ren, AV.ren1, AC.ren, pickS]; omega)) (by simp only [List.forall_mem_cons, List.not_mem_nil, false_implies, implies_true, and_true]; (repeat' apply And.intro) <;> first | exact grV_ok (by simp) _ | (simp [AV.ok, AV.ok1, AC.ok]; done) | (simp [AV.ok, AV.ok1, AC.ok]; omega))) | (refine WkL.pick [2] (by first | assumption | exact HOk.str (by assumption)) (by first | (simp; done) | (simp; omega)) rfl (by simp) (by first | (simp [pureO_gr, AObj.pureO, pureL, go_sem, AC.pure]; done) | (simp only [List.all_cons, List.all_nil, Bool.and_true]; exact pureO_gr (pureL_map _ (fun x => by simp [go_sem, AC.pure])))) (by (try simp only [List.map_cons, List.map_nil, av_ren_gr]); first | (simp [AV.ren, AV.ren1, AC.ren, pickS]; done) | (simp [AV.ren, AV.ren1, AC.ren, pickS]; omega)) (by simp only [List.forall_mem_cons, List.not_mem_nil, false_implies, implies_true, and_true]; (repeat' apply And.intro) <;> first | exact grV_ok (by simp) _ | (simp [AV.ok, AV.ok1, AC.ok]; done) | (simp [AV.ok, AV.ok1, AC.ok]; omega))) | (refine WkL.pick [3] (by first | assumption | exact HOk.str (by assumption)) (by first | (simp; done) | (simp; omega)) rfl (by simp) (by first | (simp [pureO_gr, AObj.pureO, pureL, go_sem, AC.pure]; done) | (simp only [List.all_cons, List.all_nil, Bool.and_true]; exact pureO_gr (pureL_map _ (fun x => by simp [go_sem, AC.pure])))) (by (try simp only [List.map_cons, List.map_nil, av_ren_gr]); first | (simp [AV.ren, AV.ren1, AC.ren, pickS]; done) | (simp [AV.ren, AV.ren1, AC.ren, pickS]; omega)) (by simp only [List.forall_mem_cons, List.not_mem_nil, false_implies, implies_true, and_true]; (repeat' apply And.intro) <;> first | exact grV_ok (by simp) _ | (simp [AV.ok, AV.ok1, AC.ok]; done) | (simp [AV.ok, AV.ok1, AC.ok]; omega))) | (refine WkL.pick [4] (by first | assumption | exact HOk.str (by assumption)) (by first | (simp; done) | (simp; omega)) rfl (by simp) (by first | (simp [pureO_gr, AObj.pureO, pureL, go_sem, AC.pure]; done) | (simp only [List.all_cons, List.all_nil, Bool.and_true]; exact pureO_gr (pureL_map _ (fun x => by simp [go_sem, AC.pure])))) (by (try simp only [List.map_cons, List.map_nil, av_ren_gr]); first | (simp [AV.ren, AV.ren1, AC.ren, pickS]; done) | (simp [AV.ren, AV.ren1, AC.ren, pickS]; omega)) (by simp only [List.forall_mem_cons, List.not_mem_nil, false_implies, implies_true, and_true]; (repeat' apply And.intro) <;> first | exact grV_ok (by simp) _ | (simp [AV.ok, AV.ok1, AC.ok]; done) | (simp [AV.ok, AV.ok1, AC.ok]; omega))) | (refine WkL.pick [5] (by first | assumption | exact HOk.str (by assumption)) (by first | (simp; done) | (simp; omega)) rfl (by simp) (by first | (simp [pureO_gr, AObj.pureO, pureL, go_sem, AC.pure]; done) | (simp only [List.all_cons, List.all_nil, Bool.and_true]; exact pureO_gr (pureL_map _ (fun x => by simp [go_sem, AC.pure])))) (by (try simp only [List.map_cons, List.map_nil, av_ren_gr]); first | (simp [AV.ren, AV.ren1, AC.ren, pickS]; done) | (simp [AV.ren, AV.ren1, AC.ren, pickS]; omega)) (by simp only [List.forall_mem_cons, List.not_mem_nil, false_implies, implies_true, and_true]; (repeat' apply And.intro) <;> first | exact grV_ok (by simp) _ | (simp [AV.ok, AV.ok1, AC.ok]; done) | (simp [AV.ok, AV.ok1, AC.ok]; omega))) | (refine WkL.pick [6] (by first | assumption | exact HOk.str (by assumption)) (by first | (simp; done) | (simp; omega)) rfl (by simp) (by first | (simp [pureO_gr, AObj.pureO, pureL, go_sem, AC.pure]; done) | (simp only [List.all_cons, List.all_nil, Bool.and_true]; exact pureO_gr (pureL_map _ (fun x => by simp [go_sem, AC.pure])))) (by (try simp only [List.map_cons, List.map_nil, av_ren_gr]); first | (simp [AV.ren, AV.ren1, AC.ren, pickS]; done) | (simp [AV.ren, AV.ren1, AC.ren, pickS]; omega)) (by simp only [List.forall_mem_cons, List.not_mem_nil, false_implies, implies_true, and_true]; (repeat' apply And.intro) <;> first | exact grV_ok (by simp) _ | (simp [AV.ok, AV.ok1, AC.ok]; done) | (simp [AV.ok, AV.ok1, AC.ok]; omega))) | (refine WkL.pick [7] (by first | assumption | exact HOk.str (by assumption)) (by first | (simp; done) | (simp; omega)) rfl (by simp) (by first | (simp [pureO_gr, AObj.pureO, pureL, go_sem, AC.pure]; done) | (simp only [List.all_cons, List.all_nil, Bool.and_true]; exact pureO_gr (pureL_map _ (fun x => by simp [go_sem, AC.pure])))) (by (try simp only [List.map_cons, List.map_nil, av_ren_gr]); first | (simp [AV.ren, AV.ren1, AC.ren, pickS]; done) | (simp [AV.ren, AV.ren1, AC.ren, pickS]; omega)) (by simp only [List.forall_mem_cons, List.not_mem_nil, false_implies, implies_true, and_true]; (repeat' apply And.intro) <;> first | exact grV_ok (by simp) _ | (simp [AV.ok, AV.ok1, AC.ok]; done) | (simp [AV.ok, AV.ok1, AC.ok]; omega))) | (refine WkL.pick [8] (by first | assumption | exact HOk.str (by assumption)) (by first | (simp; done) | (simp; omega)) rfl (by simp) (by first | (simp [pureO_gr, AObj.pureO, pureL, go_sem, AC.pure]; done) | (simp only [List.all_cons, List.all_nil, Bool.and_true]; exact pureO_gr (pureL_map _ (fun x => by simp [go_sem, AC.pure])))) (by (try simp only [List.map_cons, List.map_nil, av_ren_gr]); first | (simp [AV.ren, AV.ren1, AC.ren, pickS]; done) | (simp [AV.ren, AV.ren1, AC.ren, pickS]; omega)) (by simp only [List.forall_mem_cons, List.not_mem_nil, false_implies, implies_true, and_true]; (repeat' apply And.intro) <;> first | exact grV_ok (by simp) _ | (simp [AV.ok, AV.ok1, AC.ok]; done) | (simp [AV.ok, AV.ok1, AC.ok]; omega))) | (refine WkL.pick [9] (by first | assumption | exact HOk.str (by assumption)) (by first | (simp; done) | (simp; omega)) rfl (by simp) (by first | (simp [pureO_gr, AObj.pureO, pureL, go_sem, AC.pure]; done) | (simp only [List.all_cons, List.all_nil, Bool.and_true]; exact pureO_gr (pureL_map _ (fun x => by simp [go_sem, AC.pure])))) (by (try simp only [List.map_cons, List.map_nil, av_ren_gr]); first | (simp [AV.ren, AV.ren1, AC.ren, pickS]; done) | (simp [AV.ren, AV.ren1, AC.ren, pickS]; omega)) (by simp only [List.forall_mem_cons, List.not_mem_nil, false_implies, implies_true, and_true]; (repeat' apply And.intro) <;> first | exact grV_ok (by simp) _ | (simp [AV.ok, AV.ok1, AC.ok]; done) | (simp [AV.ok, AV.ok1, AC.ok]; omega))))
  · rw [List.take_of_length_le (by simp; omega)] at f1 f2 ⊢
    simp (disch := first | omega | (simp only [go_sem]; first | done | omega)) only [go_sem]
    refine fitsGr_a _ (by first | exact at0 (by simp) | exact at1 (by simp) | exact at2 (by simp) | exact at3 (by simp) | exact at4 (by simp) | exact at5 (by simp) | exact atG 6 (by simp) rfl | exact atG 7 (by simp) rfl | exact atG 8 (by simp) rfl | exact atG 9 (by simp) rfl | exact atG 10 (by simp) rfl | assumption) (by omega) ?_
    simp (disch := first | omega | (simp only [go_sem]; first | done | omega)) only [go_sem]
    have e : coarse2 b step to = if fitsE (foldB (b.map (toA to))) ≠ 0 then ([], 2) else (foldB (b.map (toA to)), 0) := by unfold coarse2; rw [if_neg (not_not_intro h2), if_neg (not_not_intro h3)]
    have e2 : fitsE (foldB (b.map (toA to))) ≠ 0 → fitsE (foldB (b.map (toA to))) = 2 := fitsE_two _
    refine acond_d (fun h4 => ?_) (fun h4 => ?_)
    · simp (disch := first | omega | (simp only [go_sem]; first | done | omega)) only [go_sem]
      rw [e, if_neg (not_not_intro h4)] at hk
      exact Ret.frzGrT 0 hH (Nat.le_refl _) rfl (pureL_encN _) rfl (map_grV _ _ _).symm hk
    · simp (disch := first | omega | (simp only [go_sem]; first | done | omega)) only [go_sem]
      rw [e, if_pos h4] at hk
      rw [e2 h4]
      exact Ret.nilT hH (Nat.le_refl _) rfl hk
theorem cloneN_a (l : List Bin) (hl : l.length ≤ 1099511627776) (hk : K (.c (clV H.length 6 (l.map encN))) (H ++ [grO 62 6 (l.map encN)])) : ACalls Try.prog 61 [.c (.lst 6 (l.map encN))] H K := by
  cases l with
  | nil =>
    refine acalls Try.func61 rfl (by kernel_rfl) (by simp (disch := first | omega | (simp only [go_sem]; first | done | omega)) only [go_sem]) (fun hH => ?_)
    simp (disch := first | omega | (simp only [go_sem]; first | done | omega)) only [go_sem]
    refine asome_i (fun b _ => ?_)
    cases b
    · simp (disch := first | omega | (simp only [go_sem]; first | done | omega)) only [go_sem]
      refine app_lst ?_
      simp (disch := first | omega | (simp only [go_sem]; first | done | omega)) only [go_sem]
      exact Ret.nil [6] (by simp) (Ret.cut hH (Nat.le_refl _) trivial (Ret.pad (Nat.le_refl _) (Ret.same (by simp) hk)))
    · simp (disch := first | omega | (simp only [go_sem]; first | done | omega)) only [go_sem]
      exact Ret.nil [6] (by simp) (Ret.pad (Nat.le_refl _) (Ret.same (by simp) hk))
  | cons x xs =>
    refine acalls Try.func61 rfl (by kernel_rfl) (by simp (disch := first | omega | (simp only [go_sem]; first | done | omega)) only [go_sem]) (fun hH => ?_)
    simp (disch := first | omega | (simp only [go_sem]; first | done | omega)) only [go_sem]
    refine asome_i (fun b hb => ?_)
    subst hb
    simp (disch := first | omega | (simp only [go_sem]; first | done | omega)) only [go_sem]
    refine app_lst ?_
    simp only [List.length_cons] at hl
    simp (disch := first | omega | (simp only [go_sem]; first | done | omega)) only [go_sem]
    refine Ret.pick [1] hH (Nat.le_refl _) (L := [.row 62 6 ((x :: xs).map encN) true]) rfl (by simp) (by simp [AObj.pureO, pureL, encN, AC.pure]) (v' := .c (.sl (some (H.length, 0)) (xs.length + 1))) ?_ (by simp [AV.ok, AV.ok1, AC.ok]) (by simpa [clV, grO] using hk)
    simp [AV.ren, AV.ren1, AC.ren, pickS]
theorem equalN_a (l m : List Bin) (hl : l.length ≤ 1099511627776) (hm : m.length ≤ 1099511627776) (hk : K (.c (.bool (decide (l = m)))) H) : ACalls Try.prog 31 [.c (.lst 6 (l.map encN)), .c (.lst 6 (m.map encN))] H K := by
  by_cases hlen : l.length = m.length
  · refine acalls Try.func31 rfl (by kernel_rfl) (by simp (disch := first | omega | (simp only [go_sem]; first | done | omega)) only [go_sem]) (fun hH => ?_)
    simp (disch := first | omega | (simp only [go_sem]; first | done | omega)) only [go_sem]
    refine AWp.loop (H.length) [0, 1, 12] [13] (fun (k : Nat) => k ≤ l.length ∧ ∀ (j : Nat) (x y : Bin), j < k → l[j]? = some x → m[j]? = some y → x = y) (fun (k : Nat) => [(13, (.c (.int .i64 k)))]) (fun (k : Nat) => H) (fun (k : Nat) => l.length - k) (by kernel_rfl) (fun _ => rfl) (by kernel_rfl) (by simp) (by first | (simp; done) | (simp; omega)) (by (try simp only [List.forall_mem_cons, List.not_mem_nil, false_implies, implies_true, and_true]); (try simp (disch := first | omega | (simp only [go_sem]; first | done | omega)) only [go_sem]); first | trivial | (simp [AV.ok, AV.ok1, AC.ok]; done) | (simp [AV.ok, AV.ok1, AC.ok]; omega) | ((repeat' apply And.intro) <;> first | trivial | (simp [AV.ok, AV.ok1, AC.ok]; done) | (simp [AV.ok, AV.ok1, AC.ok]; omega) | (refine grV_ok ?_ _; first | (simp; done) | (simp; omega) | omega))) ?_ (fun k hk1 _ _ => ?_)
    · exact Next.mk 0 (by simp) (by (try simp (disch := first | omega | (simp only [go_sem]; first | done | omega)) only [go_sem]); (first | refine WkL.eq ?_ ?_ | refine WkL.rest (by assumption) ?_ ?_ ?_ | refine WkL.keepL (by assumption) rfl ?_ ?_ ?_ ?_) <;> first | rfl | (simp; done) | (simp; omega) | (simp only [List.cons.injEq, AV.c.injEq, AC.int.injEq, AC.bool.injEq, AC.str.injEq, and_true, true_and, Int.natCast_add, Int.natCast_one, Int.cast_ofNat_Int]; omega) | (simp [AV.ok, AV.ok1, AC.ok]; done) | (simp [AV.ok, AV.ok1, AC.ok]; omega) | (simp only [List.forall_mem_cons, List.not_mem_nil, false_implies, implies_true, and_true]; (repeat' apply And.intro) <;> first | exact okN_map (fun x => by simp [go_sem, AC.pure]) | exact okN_grO (fun x => by simp [go_sem, AC.pure]) | (simp [AObj.okN, AC.ok]; done) | (simp [AObj.okN, AC.ok]; omega)) | (simp [*]; done) | grind)
    obtain ⟨hk1, hk2⟩ := hk1
    by_cases hlt : k < l.length
    · simp (disch := first | omega | (simp only [go_sem]; first | done | omega)) only [go_sem]
      refine w_draw (by kernel_rfl) (by decide +kernel) ?_
      simp (disch := first | omega | (simp only [go_sem]; first | done | omega)) only [go_sem]
      refine acond_b (fun c => ?_) (fun c => ?_)
      · simp (disch := first | omega | (simp only [go_sem]; first | done | omega)) only [go_sem]
        exact Next.mk (k + 1) ⟨⟨by omega, fun j x y hj hx hy => by
          rcases Nat.lt_or_ge j k with h | h
          · exact hk2 j x y h hx hy
          · obtain rfl : j = k := by omega
            rw [List.getElem?_eq_getElem hlt] at hx
            rw [List.getElem?_eq_getElem (by omega)] at hy
            injection hx with hx; injection hy with hy; rw [← hx, ← hy]; revert c; generalize l[j] = u; generalize m[j] = v; (try (cases u; cases v)); simp⟩, by omega⟩ (by (try simp (disch := first | omega | (simp only [go_sem]; first | done | omega)) only [go_sem]); (first | refine WkL.eq ?_ ?_ | refine WkL.rest (by assumption) ?_ ?_ ?_ | refine WkL.keepL (by assumption) rfl ?_ ?_ ?_ ?_) <;> first | rfl | (simp; done) | (simp; omega) | (simp only [List.cons.injEq, AV.c.injEq, AC.int.injEq, AC.bool.injEq, AC.str.injEq, and_true, true_and, Int.natCast_add, Int.natCast_one, Int.cast_ofNat_Int]; omega) | (simp [AV.ok, AV.ok1, AC.ok]; done) | (simp [AV.ok, AV.ok1, AC.ok]; omega) | (simp only [List.forall_mem_cons, List.not_mem_nil, false_implies, implies_true, and_true]; (repeat' apply And.intro) <;> first | exact okN_map (fun x => by simp [go_sem, AC.pure]) | exact okN_grO (fun x => by simp [go_sem, AC.pure]) | (simp [AObj.okN, AC.ok]; done) | (simp [AObj.okN, AC.ok]; omega)) | (simp [*]; done) | grind)
      · simp (disch := first | omega | (simp only [go_sem]; first | done | omega)) only [go_sem]
        have : l ≠ m := by rintro rfl; simp at c
        (first | refine Ret.sameE (Nat.le_refl _) (by assumption) ?_ | refine Ret.dropE (by assumption) (Nat.le_refl _) (by assumption) (by simp [AV.ok, AV.ok1, AC.ok]) ?_) <;> simp [this]
    · simp (disch := first | omega | (simp only [go_sem]; first | done | omega)) only [go_sem]
      have : l = m := by
        apply List.ext_getElem hlen
        intro j h1 h2
        exact hk2 j _ _ (by omega) (List.getElem?_eq_getElem h1) (List.getElem?_eq_getElem h2)
      (first | refine Ret.sameE (Nat.le_refl _) (by assumption) ?_ | refine Ret.dropE (by assumption) (Nat.le_refl _) (by assumption) (by simp [AV.ok, AV.ok1, AC.ok]) ?_) <;> simp [this]
  · have : l ≠ m := by rintro rfl; exact hlen rfl
    refine acalls Try.func31 rfl (by kernel_rfl) (by simp (disch := first | omega | (simp only [go_sem]; first | done | omega)) only [go_sem]) (fun hH => ?_)
    simp (disch := first | omega | (simp only [go_sem]; first | done | omega)) only [go_sem]
    (first | refine Ret.sameE (Nat.le_refl _) (by assumption) ?_ | refine Ret.dropE (by assumption) (Nat.le_refl _) (by assumption) (by simp [AV.ok, AV.ok1, AC.ok]) ?_) <;> simp [this]
end Go.Proofs.Ytfhadgemgfpdbaa
