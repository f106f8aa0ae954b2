/- sample.fixed, sample.series: the samples of a map, after fixes. No condition. -/
import Derived.Test.YtgcjenfdndhhpaaGreatDoorHVMapD
namespace Go.Proofs.YtgcjenfdndhhpaaGreatDoor
open Go Go.RowKit
set_option maxRecDepth 100000
set_option linter.all false
set_option maxHeartbeats 1000000
variable {H : Hp} {K : AV → Hp → Prop}
def apF (m : List Smp) (f : Fix) : List Smp := if f.kind = 1 then putS f.s m else if f.kind = 2 then delS f.t m else if f.kind = 3 then m.map (mkF f) else m
/-- fixes up to a moment -/
def fxUp (fs : List Fix) (at_ : Int) : List Fix := fs.takeWhile fun f => decide (f.made ≤ at_)
def fxM (l : List Smp) (fs : List Fix) : List Smp := fs.foldl apF (l.foldl (fun m x => putS x m) [])
theorem fxUp_take {fs : List Fix} {a : Int} : ∀ {k : Nat} (hk : k < fs.length), (∀ x ∈ fs.take k, x.made ≤ a) → ¬ fs[k].made ≤ a → fxUp fs a = fs.take k := by
  unfold fxUp
  induction fs with
  | nil => intro k hk; simp at hk
  | cons x r ih =>
    intro k hk h1 h2
    cases k with
    | zero =>
      simp only [List.getElem_cons_zero] at h2
      rw [List.takeWhile_cons, if_neg (by simpa using h2)]
      rfl
    | succ k =>
      rw [List.takeWhile_cons, if_pos (by simpa using h1 x (by simp)), List.take_succ_cons, ih (k := k) (by simpa using hk) (fun y hy => h1 y (by simp [hy])) (by simpa using h2)]
theorem fxUp_all {fs : List Fix} {a : Int} (h : ∀ x ∈ fs, x.made ≤ a) : fxUp fs a = fs := by
  unfold fxUp
  induction fs with
  | nil => rfl
  | cons x r ih => rw [List.takeWhile_cons, if_pos (by simpa using h x (by simp)), ih fun y hy => h y (by simp [hy])]
attribute [simp] md_okN
theorem md_nil : mpO [] = mdO [] 0 [] := rfl
theorem mdOk_nil : MdOk [] 0 [] := ⟨rfl, List.nodup_nil, by simp, List.nodup_nil⟩
theorem mark_ok {f : Fix} {bs : List Nat} {c : Nat} {m : List Smp} (ok : MdOk bs c m) : MdOk bs c (m.map (mkF f)) := by
  have := mz_ok f ok bs
  rwa [mz_all f ok.len (fun _ h => h)] at this
theorem fixed_a (l : List Smp) (fs : List Fix) (a : Int) (hl : l.length ≤ 1000000) (hfl : fs.length ≤ 1000000)
    (hk : ∀ bs c, MdOk bs c (fxM l (fxUp fs a)) → K (.c (.map (some H.length))) (H ++ [mdO bs c (fxM l (fxUp fs a))])) : ACalls Tryz.prog 73 [.c (.lst 3 (l.map encS)), .c (.lst 11 (fs.map encF)), (.c (.int .i64 a))] H K := by
  refine acalls Tryz.func73 rfl (by kernel_rfl) (by simp (disch := first | omega | (simp only [go_sem]; first | done | omega)) only [go_sem]) (fun hH => ?_)
  simp (disch := first | omega | (simp only [go_sem]; first | done | omega)) only [go_sem]
  rw [md_nil]
  refine AWp.loop (H.length + 1) [1, 2, 7, 13, 14] [15] (fun (u : Nat × List Nat × Nat) => u.1 ≤ l.length ∧ MdOk u.2.1 u.2.2 ((l.take u.1).foldl (fun m x => putS x m) [])) (fun (u : Nat × List Nat × Nat) => [(15, (.c (.int .i64 (u.1))))]) (fun (u : Nat × List Nat × Nat) => H ++ [mdO u.2.1 u.2.2 ((l.take u.1).foldl (fun m x => putS x m) [])]) (fun (u : Nat × List Nat × Nat) => l.length - u.1) (by kernel_rfl) (fun _ => rfl) (by kernel_rfl) (by first | (simp; done) | omega) (by first | (simp; done) | (simp; omega) | omega) (by (try simp only [List.forall_mem_cons, List.not_mem_nil, false_implies, implies_true, and_true]); (try simp (disch := first | omega | (simp only [go_sem]; first | done | omega)) only [go_sem]); all_goals first | trivial | (simp [AV.ok, AV.ok1, AC.ok]; done) | (simp [AV.ok, AV.ok1, AC.ok]; omega) | (simp [AV.ok, AV.ok1, AC.ok]; assumption) | ((repeat' apply And.intro) <;> first | trivial | (simp [AV.ok, AV.ok1, AC.ok]; done) | (simp [AV.ok, AV.ok1, AC.ok]; omega) | (simp [AV.ok, AV.ok1, AC.ok]; assumption) | (refine grV_ok ?_ _; first | (simp; done) | (simp; omega) | omega))) ?_ (fun u hu _ _ => ?_)
  · refine Next.mk (0, [], 0) ⟨Nat.zero_le _, mdOk_nil⟩ ?_
    (try simp (disch := first | omega | (simp only [go_sem]; first | done | omega)) only [go_sem]); (first | refine WkL.eq ?_ ?_ | refine WkL.rest (by assumption) ?_ ?_ ?_ | refine WkL.keepL (by assumption) rfl ?_ ?_ ?_ ?_) <;> first | rfl | (simp; done) | (simp; omega) | (simp only [List.cons.injEq, AV.c.injEq, AC.int.injEq, AC.bool.injEq, AC.str.injEq, and_true, true_and, Int.natCast_add, Int.natCast_one, Int.cast_ofNat_Int]; omega) | (simp [AV.ok, AV.ok1, AC.ok]; done) | (simp [AV.ok, AV.ok1, AC.ok]; omega) | (simp only [List.forall_mem_cons, List.not_mem_nil, false_implies, implies_true, and_true]; (repeat' apply And.intro) <;> first | exact okN_map (fun x => by simp [go_sem, AC.pure]) | exact okN_grO (fun x => by simp [go_sem, AC.pure]) | (simp [AObj.okN, AC.ok]; done) | (simp [AObj.okN, AC.ok]; omega)) | (simp [*]; done) | grind
  obtain ⟨k, bs, c⟩ := u
  obtain ⟨q1, ok⟩ := hu
  dsimp only at q1 ok ⊢
  by_cases hlt : k < l.length
  · obtain ⟨x, hx⟩ : ∃ x, x = l[k] := ⟨_, rfl⟩
    have htk : (l.take (k + 1)).foldl (fun m x => putS x m) [] = putS x ((l.take k).foldl (fun m x => putS x m) []) := by rw [List.take_succ_eq_append_getElem hlt, ← hx, List.foldl_append]; rfl
    simp (disch := first | omega | (simp only [go_sem]; first | done | omega)) only [go_sem, hlt, ← hx]
    refine mup_md ok (by kernel_rfl) (by kernel_rfl) (fun bs' c' ok' => ?_)
    simp (disch := first | omega | (simp only [go_sem]; first | done | omega)) only [go_sem]
    refine Next.mk (k + 1, bs', c') ⟨⟨by dsimp only; omega, by dsimp only; rw [htk]; exact ok'⟩, by dsimp only; omega⟩ ?_
    dsimp only
    rw [htk]
    (try simp (disch := first | omega | (simp only [go_sem]; first | done | omega)) only [go_sem]); (first | refine WkL.eq ?_ ?_ | refine WkL.rest (by assumption) ?_ ?_ ?_ | refine WkL.keepL (by assumption) rfl ?_ ?_ ?_ ?_) <;> first | rfl | (simp; done) | (simp; omega) | (simp only [List.cons.injEq, AV.c.injEq, AC.int.injEq, AC.bool.injEq, AC.str.injEq, and_true, true_and, Int.natCast_add, Int.natCast_one, Int.cast_ofNat_Int]; omega) | (simp [AV.ok, AV.ok1, AC.ok]; done) | (simp [AV.ok, AV.ok1, AC.ok]; omega) | (simp only [List.forall_mem_cons, List.not_mem_nil, false_implies, implies_true, and_true]; (repeat' apply And.intro) <;> first | exact okN_map (fun x => by simp [go_sem, AC.pure]) | exact okN_grO (fun x => by simp [go_sem, AC.pure]) | (simp [AObj.okN, AC.ok]; done) | (simp [AObj.okN, AC.ok]; omega)) | (simp [*]; done) | grind
  · have hkl : k = l.length := by omega
    subst hkl
    rw [List.take_length] at ok
    simp (disch := first | omega | (simp only [go_sem]; first | done | omega)) only [go_sem]
    generalize hm0 : l.foldl (fun m x => putS x m) [] = m0 at *
    refine AWp.loop (H.length + 1) [2, 7, 24, 25] [26] (fun (u : Nat × List Nat × Nat) => u.1 ≤ fs.length ∧ MdOk u.2.1 u.2.2 ((fs.take u.1).foldl apF m0) ∧ ∀ x ∈ fs.take u.1, x.made ≤ a) (fun (u : Nat × List Nat × Nat) => [(26, (.c (.int .i64 (u.1))))]) (fun (u : Nat × List Nat × Nat) => H ++ [mdO u.2.1 u.2.2 ((fs.take u.1).foldl apF m0)]) (fun (u : Nat × List Nat × Nat) => fs.length - u.1) (by kernel_rfl) (fun _ => rfl) (by kernel_rfl) (by first | (simp; done) | omega) (by first | (simp; done) | (simp; omega) | omega) (by (try simp only [List.forall_mem_cons, List.not_mem_nil, false_implies, implies_true, and_true]); (try simp (disch := first | omega | (simp only [go_sem]; first | done | omega)) only [go_sem]); all_goals first | trivial | (simp [AV.ok, AV.ok1, AC.ok]; done) | (simp [AV.ok, AV.ok1, AC.ok]; omega) | (simp [AV.ok, AV.ok1, AC.ok]; assumption) | ((repeat' apply And.intro) <;> first | trivial | (simp [AV.ok, AV.ok1, AC.ok]; done) | (simp [AV.ok, AV.ok1, AC.ok]; omega) | (simp [AV.ok, AV.ok1, AC.ok]; assumption) | (refine grV_ok ?_ _; first | (simp; done) | (simp; omega) | omega))) ?_ (fun u hu _ _ => ?_)
    · refine Next.mk (0, bs, c) ⟨Nat.zero_le _, by simpa using ok, by simp⟩ ?_
      (try simp (disch := first | omega | (simp only [go_sem]; first | done | omega)) only [go_sem]); (first | refine WkL.eq ?_ ?_ | refine WkL.rest (by assumption) ?_ ?_ ?_ | refine WkL.keepL (by assumption) rfl ?_ ?_ ?_ ?_) <;> first | rfl | (simp; done) | (simp; omega) | (simp only [List.cons.injEq, AV.c.injEq, AC.int.injEq, AC.bool.injEq, AC.str.injEq, and_true, true_and, Int.natCast_add, Int.natCast_one, Int.cast_ofNat_Int]; omega) | (simp [AV.ok, AV.ok1, AC.ok]; done) | (simp [AV.ok, AV.ok1, AC.ok]; omega) | (simp only [List.forall_mem_cons, List.not_mem_nil, false_implies, implies_true, and_true]; (repeat' apply And.intro) <;> first | exact okN_map (fun x => by simp [go_sem, AC.pure]) | exact okN_grO (fun x => by simp [go_sem, AC.pure]) | (simp [AObj.okN, AC.ok]; done) | (simp [AObj.okN, AC.ok]; omega)) | (simp [*]; done) | grind
    obtain ⟨k, bs, c⟩ := u
    obtain ⟨q1, ok, q2⟩ := hu
    dsimp only at q1 ok q2 ⊢
    by_cases hlt : k < fs.length
    · obtain ⟨x, hx⟩ : ∃ x, x = fs[k] := ⟨_, rfl⟩
      have htk : (fs.take (k + 1)).foldl apF m0 = apF ((fs.take k).foldl apF m0) x := by rw [List.take_succ_eq_append_getElem hlt, ← hx, List.foldl_append]; rfl
      by_cases hm : x.made ≤ a
      · have hq : ∀ y ∈ fs.take (k + 1), y.made ≤ a := fun y hy => by
          rw [List.take_succ_eq_append_getElem hlt, ← hx] at hy
          rcases List.mem_append.1 hy with h | h
          · exact q2 y h
          · simp only [List.mem_singleton] at h; subst h; exact hm
        by_cases k1 : x.kind = 1
        · simp (disch := first | omega | (simp only [go_sem]; first | done | omega)) only [go_sem, hlt, ← hx, hm, k1]
          refine mup_md ok (by kernel_rfl) (by kernel_rfl) (fun bs' c' ok' => ?_)
          simp (disch := first | omega | (simp only [go_sem]; first | done | omega)) only [go_sem]
          refine Next.mk (k + 1, bs', c') ⟨⟨by dsimp only; omega, by dsimp only; rw [htk]; unfold apF; rw [if_pos k1]; exact ok', hq⟩, by dsimp only; omega⟩ ?_
          dsimp only
          rw [htk]; unfold apF; rw [if_pos k1]
          (try simp (disch := first | omega | (simp only [go_sem]; first | done | omega)) only [go_sem]); (first | refine WkL.eq ?_ ?_ | refine WkL.rest (by assumption) ?_ ?_ ?_ | refine WkL.keepL (by assumption) rfl ?_ ?_ ?_ ?_) <;> first | rfl | (simp; done) | (simp; omega) | (simp only [List.cons.injEq, AV.c.injEq, AC.int.injEq, AC.bool.injEq, AC.str.injEq, and_true, true_and, Int.natCast_add, Int.natCast_one, Int.cast_ofNat_Int]; omega) | (simp [AV.ok, AV.ok1, AC.ok]; done) | (simp [AV.ok, AV.ok1, AC.ok]; omega) | (simp only [List.forall_mem_cons, List.not_mem_nil, false_implies, implies_true, and_true]; (repeat' apply And.intro) <;> first | exact okN_map (fun x => by simp [go_sem, AC.pure]) | exact okN_grO (fun x => by simp [go_sem, AC.pure]) | (simp [AObj.okN, AC.ok]; done) | (simp [AObj.okN, AC.ok]; omega)) | (simp [*]; done) | grind
        by_cases k2 : x.kind = 2
        · simp (disch := first | omega | (simp only [go_sem]; first | done | omega)) only [go_sem, hlt, ← hx, hm, k2]
          refine del_md ok (by kernel_rfl) (by kernel_rfl) (fun bs' c' ok' => ?_)
          simp (disch := first | omega | (simp only [go_sem]; first | done | omega)) only [go_sem]
          refine Next.mk (k + 1, bs', c') ⟨⟨by dsimp only; omega, by dsimp only; rw [htk]; unfold apF; rw [if_neg k1, if_pos k2]; exact ok', hq⟩, by dsimp only; omega⟩ ?_
          dsimp only
          rw [htk]; unfold apF; rw [if_neg k1, if_pos k2]
          (try simp (disch := first | omega | (simp only [go_sem]; first | done | omega)) only [go_sem]); (first | refine WkL.eq ?_ ?_ | refine WkL.rest (by assumption) ?_ ?_ ?_ | refine WkL.keepL (by assumption) rfl ?_ ?_ ?_ ?_) <;> first | rfl | (simp; done) | (simp; omega) | (simp only [List.cons.injEq, AV.c.injEq, AC.int.injEq, AC.bool.injEq, AC.str.injEq, and_true, true_and, Int.natCast_add, Int.natCast_one, Int.cast_ofNat_Int]; omega) | (simp [AV.ok, AV.ok1, AC.ok]; done) | (simp [AV.ok, AV.ok1, AC.ok]; omega) | (simp only [List.forall_mem_cons, List.not_mem_nil, false_implies, implies_true, and_true]; (repeat' apply And.intro) <;> first | exact okN_map (fun x => by simp [go_sem, AC.pure]) | exact okN_grO (fun x => by simp [go_sem, AC.pure]) | (simp [AObj.okN, AC.ok]; done) | (simp [AObj.okN, AC.ok]; omega)) | (simp [*]; done) | grind
        by_cases k3 : x.kind = 3
        · obtain ⟨x1, x2, x3, x4, x5, x6, x7, x8, x9⟩ := x
          dsimp only at hm k1 k2 k3
          subst k3
          simp (disch := first | omega | (simp only [go_sem]; first | done | omega)) only [go_sem, hlt, ← hx, hm]
          refine mark_a H.length bs c _ ⟨x1, x2, x3, 3, x5, x6, x7, x8, x9⟩ ok (by first | ((repeat first | exact at0 (by simp) | refine atS ?_); done) | assumption) ?_
          simp (disch := first | omega | (simp only [go_sem]; first | done | omega)) only [go_sem]
          refine Next.mk (k + 1, bs, c) ⟨⟨by dsimp only; omega, by dsimp only; rw [htk]; unfold apF; rw [if_neg k1, if_neg k2, if_pos rfl]; exact mark_ok ok, hq⟩, by dsimp only; omega⟩ ?_
          dsimp only
          rw [htk]; unfold apF; rw [if_neg k1, if_neg k2, if_pos rfl]
          (try simp (disch := first | omega | (simp only [go_sem]; first | done | omega)) only [go_sem]); (first | refine WkL.eq ?_ ?_ | refine WkL.rest (by assumption) ?_ ?_ ?_ | refine WkL.keepL (by assumption) rfl ?_ ?_ ?_ ?_) <;> first | rfl | (simp; done) | (simp; omega) | (simp only [List.cons.injEq, AV.c.injEq, AC.int.injEq, AC.bool.injEq, AC.str.injEq, and_true, true_and, Int.natCast_add, Int.natCast_one, Int.cast_ofNat_Int]; omega) | (simp [AV.ok, AV.ok1, AC.ok]; done) | (simp [AV.ok, AV.ok1, AC.ok]; omega) | (simp only [List.forall_mem_cons, List.not_mem_nil, false_implies, implies_true, and_true]; (repeat' apply And.intro) <;> first | exact okN_map (fun x => by simp [go_sem, AC.pure]) | exact okN_grO (fun x => by simp [go_sem, AC.pure]) | (simp [AObj.okN, AC.ok]; done) | (simp [AObj.okN, AC.ok]; omega)) | (simp [*]; done) | grind
        · simp (disch := first | omega | (simp only [go_sem]; first | done | omega)) only [go_sem, hlt, ← hx, hm, k1, k2, k3]
          refine Next.mk (k + 1, bs, c) ⟨⟨by dsimp only; omega, by dsimp only; rw [htk]; unfold apF; rw [if_neg k1, if_neg k2, if_neg k3]; exact ok, hq⟩, by dsimp only; omega⟩ ?_
          dsimp only
          rw [htk]; unfold apF; rw [if_neg k1, if_neg k2, if_neg k3]
          (try simp (disch := first | omega | (simp only [go_sem]; first | done | omega)) only [go_sem]); (first | refine WkL.eq ?_ ?_ | refine WkL.rest (by assumption) ?_ ?_ ?_ | refine WkL.keepL (by assumption) rfl ?_ ?_ ?_ ?_) <;> first | rfl | (simp; done) | (simp; omega) | (simp only [List.cons.injEq, AV.c.injEq, AC.int.injEq, AC.bool.injEq, AC.str.injEq, and_true, true_and, Int.natCast_add, Int.natCast_one, Int.cast_ofNat_Int]; omega) | (simp [AV.ok, AV.ok1, AC.ok]; done) | (simp [AV.ok, AV.ok1, AC.ok]; omega) | (simp only [List.forall_mem_cons, List.not_mem_nil, false_implies, implies_true, and_true]; (repeat' apply And.intro) <;> first | exact okN_map (fun x => by simp [go_sem, AC.pure]) | exact okN_grO (fun x => by simp [go_sem, AC.pure]) | (simp [AObj.okN, AC.ok]; done) | (simp [AObj.okN, AC.ok]; omega)) | (simp [*]; done) | grind
      · have e := fxUp_take hlt q2 (by rw [← hx]; exact hm)
        simp (disch := first | omega | (simp only [go_sem]; first | done | omega)) only [go_sem, hlt, ← hx, hm]
        have hk2 := hk bs c
        unfold fxM at hk2
        rw [e, hm0] at hk2
        exact Ret.wk (WkL.keepL (L' := [_]) hH rfl (by simp) rfl (by simp) (by simp [AV.ok, AV.ok1, AC.ok])) (hk2 ok)
    · have hkl : k = fs.length := by omega
      subst hkl
      rw [List.take_length] at ok q2
      have e := fxUp_all q2
      have hk2 := hk bs c
      unfold fxM at hk2
      rw [e, hm0] at hk2
      simp (disch := first | omega | (simp only [go_sem]; first | done | omega)) only [go_sem]
      exact Ret.same (by simp) (hk2 ok)
@[go_sem] theorem mapZ_iS : (mapE Tryz.prog 127).bind (zeroA Tryz.prog) = some (.agg [.int .i64 0, .int .i64 0, .int .i64 0]) := (by kernel_rfl)
theorem mkeys_a (i : Nat) (hk : K (.c (.fn 176 [] [(H.length, 0, 0)])) (H ++ [.row 127 1 [[.map (some i)]] true])) : ACalls Tryz.prog 131 [.c (.map (some i))] H K := by
  refine acalls Tryz.func131 rfl (by kernel_rfl) (by simp (disch := first | omega | (simp only [go_sem]; first | done | omega)) only [go_sem]) (fun hH => ?_)
  simp (disch := first | omega | (simp only [go_sem]; first | done | omega)) only [go_sem]
  exact Ret.same (by simp) hk
theorem keysSf_a (m : List Smp) (bs : List Nat) (c i j t : Nat) (ok : MdOk bs c m) (hi : H[i]? = some (mdO bs c m)) (hj : H[j]? = some (.row t 1 [[.map (some i)]] true)) (hw : ∀ x ∈ m, -9223372036854775808 ≤ x.t ∧ x.t ≤ 9223372036854775807) (hl : m.length ≤ 1000000)
    (hk : K (.c (.lst 1 ((srtI (m.map (·.t))).map encI))) H) : ACalls Tryz.prog 130 [.c (.fn 176 [] [(j, 0, 0)])] H K := by
  refine ACalls.postR (keysS_a m (·.t) (fun x => .agg (encS x)) bs c i j t hi hj ok.nd ok.lt ok.keys hw hl (K := fun v G => v = .c (grV H.length (srtI (m.map (·.t)))) ∧ G = H ++ [grO 3 1 ((srtI (m.map (·.t))).map encI)]) ⟨rfl, rfl⟩) ?_
  rintro hH _ _ ⟨rfl, rfl⟩
  exact Ret.frzGr 0 hH (Nat.le_refl _) rfl (pureL_map _ (fun x => by simp [go_sem, AC.pure])) (map_grV _ _ _).symm hk
/-- the samples of a map, by their moments -/
def serM (m : List Smp) : List Smp := (srtI (m.map (·.t))).filterMap fun t => m.find? fun y => decide (t = y.t)
theorem serM_at {m : List Smp} : ∀ (ks : List Int), (∀ t ∈ ks, t ∈ m.map (·.t)) → (ks.filterMap fun t => m.find? fun y => decide (t = y.t)).length = ks.length ∧ ∀ (k : Nat) (t : Int), ks[k]? = some t → ∃ x, m.find? (fun y => decide (t = y.t)) = some x ∧ (ks.filterMap fun t => m.find? fun y => decide (t = y.t))[k]? = some x
  | [], _ => ⟨rfl, by simp⟩
  | t :: r, h => by
    obtain ⟨h1, h2⟩ := serM_at r (fun y hy => h y (by simp [hy]))
    obtain ⟨y, hy, e⟩ := List.mem_map.1 (h t (by simp))
    obtain ⟨x, hx⟩ : ∃ x, m.find? (fun y => decide (t = y.t)) = some x := by
      cases hf : m.find? (fun y => decide (t = y.t)) with
      | some x => exact ⟨x, rfl⟩
      | none => exact absurd (List.find?_eq_none.1 hf y hy) (by simp [e])
    rw [List.filterMap_cons, hx]
    refine ⟨by simp [h1], fun k t' hk => ?_⟩
    cases k with
    | zero =>
      simp only [List.getElem?_cons_zero, Option.some.injEq] at hk
      subst hk
      exact ⟨x, hx, rfl⟩
    | succ k => exact h2 k t' (by simpa using hk)
theorem series_a (m : List Smp) (bs : List Nat) (c i : Nat) (ok : MdOk bs c m) (hi : H[i]? = some (mdO bs c m)) (hw : ∀ x ∈ m, -9223372036854775808 ≤ x.t ∧ x.t ≤ 9223372036854775807) (hl : m.length ≤ 1000000)
    (hk : K (.c (.lst 3 ((serM m).map encS))) H) : ACalls Tryz.prog 72 [.c (.map (some i))] H K := by
  have hil := getElem?_lt hi
  have hi2 : H[i] = mdO bs c m := by rw [List.getElem?_eq_getElem hil] at hi; injection hi
  refine acalls Tryz.func72 rfl (by kernel_rfl) (by simp (disch := first | omega | (simp only [go_sem]; first | done | omega)) only [go_sem]) (fun hH => ?_)
  simp (disch := first | omega | (simp only [go_sem]; first | done | omega)) only [go_sem]
  refine mkeys_a i ?_
  simp (disch := first | omega | (simp only [go_sem]; first | done | omega)) only [go_sem]
  refine keysSf_a m bs c i H.length 127 ok (get_old hi _) (by first | ((repeat first | exact at0 (by simp) | refine atS ?_); done) | assumption) hw hl ?_
  have hmem : ∀ t ∈ srtI (m.map (·.t)), t ∈ m.map (·.t) := fun t ht => List.mem_mergeSort.1 ht
  obtain ⟨hsl, hsa⟩ := serM_at _ hmem
  have hkl : (srtI (m.map (·.t))).length = m.length := by rw [srtI_len, List.length_map]
  have hsm : serM m = (srtI (m.map (·.t))).filterMap fun t => m.find? fun y => decide (t = y.t) := rfl
  rw [← hsm] at hsl hsa
  generalize hks : srtI (m.map (·.t)) = ks at *
  generalize serM m = S at *
  simp (disch := first | omega | (simp only [go_sem]; first | done | omega)) only [go_sem]
  refine AWp.loop (H.length) [0, 8, 9] [10, 3] (fun (k : Nat) => k ≤ ks.length) (fun (k : Nat) => [(10, (.c (.int .i64 k))), (3, .c (grV H.length (S.take k)))]) (fun (k : Nat) => H ++ [grO 43 3 ((S.take k).map encS)]) (fun (k : Nat) => ks.length - k) (by kernel_rfl) (fun _ => rfl) (by kernel_rfl) (by first | (simp; done) | omega) (by first | (simp; done) | (simp; omega) | omega) (by (try simp only [List.forall_mem_cons, List.not_mem_nil, false_implies, implies_true, and_true]); (try simp (disch := first | omega | (simp only [go_sem]; first | done | omega)) only [go_sem]); all_goals first | trivial | (simp [AV.ok, AV.ok1, AC.ok]; done) | (simp [AV.ok, AV.ok1, AC.ok]; omega) | (simp [AV.ok, AV.ok1, AC.ok]; assumption) | ((repeat' apply And.intro) <;> first | trivial | (simp [AV.ok, AV.ok1, AC.ok]; done) | (simp [AV.ok, AV.ok1, AC.ok]; omega) | (simp [AV.ok, AV.ok1, AC.ok]; assumption) | (refine grV_ok ?_ _; first | (simp; done) | (simp; omega) | omega))) ?_ (fun k q1 _ _ => ?_)
  · refine Next.mk 0 (Nat.zero_le _) ?_
    refine WkL.trans (H1 := H) (vs1 := [.c (.int .i64 0), .c (.sl none 0)]) (WkL.rest hH (Nat.le_refl _) (by rfl) (by simp [AV.ok, AV.ok1, AC.ok])) ?_
    exact WkL.pad (Nat.le_refl _)
  by_cases hlt : k < ks.length
  · obtain ⟨x, hx1, hx2⟩ := hsa k ks[k] (by simp [hlt])
    have htk : S.take (k + 1) = S.take k ++ [x] := by
      rw [List.take_add_one, hx2]; rfl
    have hlen : (S.take k).length ≤ 1000000 := by rw [List.length_take]; omega
    simp (disch := first | omega | (simp only [go_sem]; first | done | omega)) only [go_sem, hlt]
    rw [hi2]
    refine look_md (by kernel_rfl) (by kernel_rfl) hx1 ?_
    generalize S.take k = L at *
    simp (disch := first | omega | (simp only [go_sem]; first | done | omega)) only [go_sem]
    (refine app_gr (enc := encS) (e := 43) (sz := 3) (bs := 24) (z := [.int .i64 0, .int .i64 0, .int .i64 0]) (L) (x) (by kernel_rfl) (by kernel_rfl) (by kernel_rfl) (by kernel_rfl) (by first | ((repeat first | exact at0 (by simp) | refine atS ?_); done) | assumption) (by first | (simp (disch := first | omega | (simp only [go_sem]; first | done | omega)) only [go_sem]; done) | (simp (disch := first | omega | (simp only [go_sem]; first | done | omega)) only [go_sem]; rfl) | (simp (disch := first | omega | (simp only [go_sem]; first | done | omega)) only [go_sem]; simp [go_sem]; done) | (simp (disch := first | omega | (simp only [go_sem]; first | done | omega)) only [go_sem]; simp [*]; done)) rfl (by decide) (by omega) (by omega) (by rfl) ?_)
    simp (disch := first | omega | (simp only [go_sem]; first | done | omega)) only [go_sem]
    refine Next.mk (k + 1) ⟨by omega, by omega⟩ ?_
    rw [htk]
    ((try simp (disch := first | omega | (simp only [go_sem]; first | done | omega)) only [go_sem]); (first | refine WkL.pick [0] ?_ ?_ rfl ?_ ?_ ?_ ?_ | refine WkL.pick [1] ?_ ?_ rfl ?_ ?_ ?_ ?_ | refine WkL.pick [2] ?_ ?_ rfl ?_ ?_ ?_ ?_ | refine WkL.pick [3] ?_ ?_ rfl ?_ ?_ ?_ ?_ | refine WkL.pick [4] ?_ ?_ rfl ?_ ?_ ?_ ?_ | refine WkL.pick [5] ?_ ?_ rfl ?_ ?_ ?_ ?_ | refine WkL.pick [6] ?_ ?_ rfl ?_ ?_ ?_ ?_ | refine WkL.pick [7] ?_ ?_ rfl ?_ ?_ ?_ ?_ | refine WkL.pick [8] ?_ ?_ rfl ?_ ?_ ?_ ?_ | refine WkL.pick [9] ?_ ?_ rfl ?_ ?_ ?_ ?_ | refine WkL.pick [10] ?_ ?_ rfl ?_ ?_ ?_ ?_ | refine WkL.pick [11] ?_ ?_ rfl ?_ ?_ ?_ ?_ | refine WkL.pick [12] ?_ ?_ rfl ?_ ?_ ?_ ?_ | refine WkL.pick [13] ?_ ?_ rfl ?_ ?_ ?_ ?_ | refine WkL.pick [14] ?_ ?_ rfl ?_ ?_ ?_ ?_ | refine WkL.pick [15] ?_ ?_ rfl ?_ ?_ ?_ ?_) <;> first | assumption | exact HOk.str (by assumption) | (simp; done) | (simp; omega) | (simp [pureO_gr, AObj.pureO, pureL, go_sem, AC.pure]; done) | (simp only [List.all_cons, List.all_nil, Bool.and_true]; exact pureO_gr (pureL_map _ (fun x => by simp [go_sem, AC.pure]))) | ((try simp only [List.map_cons, List.map_nil, av_ren_gr]); simp [AV.ren, AV.ren1, AC.ren, renP, pickS]; first | done | omega) | (simp only [List.forall_mem_cons, List.not_mem_nil, false_implies, implies_true, and_true]; (repeat' apply And.intro) <;> first | trivial | exact grV_ok (by simp) _ | exact okN_grO (fun x => by simp [go_sem, AC.pure]) | exact okN_map (fun x => by simp [go_sem, AC.pure]) | (simp [AV.ok, AV.ok1, AC.ok]; done) | (simp [AV.ok, AV.ok1, AC.ok]; omega) | (simp [AObj.okN, AC.ok]; done)) | (simp [AObj.okN]; done))
  · have hkk : k = ks.length := by omega
    subst hkk
    rw [← hsl, List.take_length]
    simp (disch := first | omega | (simp only [go_sem]; first | done | omega)) only [go_sem]
    exact Ret.frzGr 0 hH (Nat.le_refl _) rfl (pureL_map _ (fun x => by simp [go_sem, AC.pure])) (map_grV _ _ _).symm hk
end Go.Proofs.YtgcjenfdndhhpaaGreatDoor
