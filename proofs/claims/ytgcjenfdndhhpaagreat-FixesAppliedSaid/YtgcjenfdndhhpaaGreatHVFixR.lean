/- The document's answer for fixes: which moments they concern, and what a moment's sample is after them. No condition. -/
import Derived.Test.YtgcjenfdndhhpaaGreatHVFixM
import Derived.Test.YtgcjenfdndhhpaaGreatHVArrO
namespace Go.Proofs.YtgcjenfdndhhpaaGreat
open Go Go.RowKit
set_option maxRecDepth 100000
set_option linter.all false
set_option maxHeartbeats 1000000
variable {H : Hp} {K : AV → Hp → Prop}
theorem indexLstSm_a (f : FuncId) (caps : List (Nat × Nat × Nat)) (p : Smp → Bool) (he : entersB Tryz.prog f = true) (hc : ∀ (a b c : Nat), (a, b, c) ∈ caps → a < H.length) (l : List Smp) (hf : ∀ (x : Smp) (K : AV → Hp → Prop), x ∈ l → K (.c (.bool (p x))) H → ACalls Tryz.prog f (.agg (encS x) :: caps.map fun q => .c (.ptr (some q))) H K) (hlen : l.length ≤ 1099511627776)
    (hk0 : l.any p = false → K (.c (.int .i64 (-1))) H) (hk1 : ∀ k : Nat, (h : k < l.length) → p l[k] = true → (∀ j (h : j < l.length), j < k → p l[j] = false) → K (.c (.int .i64 k)) H) : ACalls Tryz.prog 161 [.c (.lst 3 (l.map encS)), .c (.fn f [] caps)] H K := by
  refine acalls Tryz.func161 rfl (by kernel_rfl) (by simp (disch := first | omega | (simp only [go_sem]; first | done | omega)) only [go_sem]) (fun hH => ?_)
  simp (disch := first | omega | (simp only [go_sem]; first | done | omega)) only [go_sem]
  refine AWp.loop (H.length) [0, 1, 7] [8] (fun (k : Nat) => k ≤ l.length ∧ ∀ j (h : j < l.length), j < k → p l[j] = false) (fun (k : Nat) => [(8, (.c (.int .i64 k)))]) (fun (k : Nat) => H) (fun (k : Nat) => l.length - k) (by kernel_rfl) (fun _ => rfl) (by kernel_rfl) (by first | (simp; done) | omega) (by first | (simp; done) | (simp; omega) | omega) (by (try simp only [List.forall_mem_cons, List.not_mem_nil, false_implies, implies_true, and_true]); (try simp (disch := first | omega | (simp only [go_sem]; first | done | omega)) only [go_sem]); all_goals first | trivial | (simp [AV.ok, AV.ok1, AC.ok]; done) | (simp [AV.ok, AV.ok1, AC.ok]; omega) | (simp [AV.ok, AV.ok1, AC.ok]; assumption) | ((repeat' apply And.intro) <;> first | trivial | (simp [AV.ok, AV.ok1, AC.ok]; done) | (simp [AV.ok, AV.ok1, AC.ok]; omega) | (simp [AV.ok, AV.ok1, AC.ok]; assumption) | (refine grV_ok ?_ _; first | (simp; done) | (simp; omega) | omega))) ?_ (fun k hk1' _ _ => ?_)
  · exact Next.mk 0 (by simp) (by (try simp (disch := first | omega | (simp only [go_sem]; first | done | omega)) only [go_sem]); (first | refine WkL.eq ?_ ?_ | refine WkL.rest (by assumption) ?_ ?_ ?_ | refine WkL.keepL (by assumption) rfl ?_ ?_ ?_ ?_) <;> first | rfl | (simp; done) | (simp; omega) | (simp only [List.cons.injEq, AV.c.injEq, AC.int.injEq, AC.bool.injEq, AC.str.injEq, and_true, true_and, Int.natCast_add, Int.natCast_one, Int.cast_ofNat_Int]; omega) | (simp [AV.ok, AV.ok1, AC.ok]; done) | (simp [AV.ok, AV.ok1, AC.ok]; omega) | (simp only [List.forall_mem_cons, List.not_mem_nil, false_implies, implies_true, and_true]; (repeat' apply And.intro) <;> first | exact okN_map (fun x => by simp [go_sem, AC.pure]) | exact okN_grO (fun x => by simp [go_sem, AC.pure]) | (simp [AObj.okN, AC.ok]; done) | (simp [AObj.okN, AC.ok]; omega)) | (simp [*]; done) | grind)
  obtain ⟨hk1', hk2⟩ := hk1'
  by_cases hlt : k < l.length
  · simp (disch := first | omega | (simp only [go_sem]; first | done | omega)) only [go_sem, he]
    refine hf l[k] _ (List.getElem_mem hlt) ?_
    simp (disch := first | omega | (simp only [go_sem]; first | done | omega)) only [go_sem]
    refine acond_b (fun c => ?_) (fun c => ?_)
    · simp (disch := first | omega | (simp only [go_sem]; first | done | omega)) only [go_sem]
      exact Ret.same (Nat.le_refl _) (hk1 k hlt c hk2)
    · simp (disch := first | omega | (simp only [go_sem]; first | done | omega)) only [go_sem]
      refine Next.mk (k + 1) ⟨⟨by omega, fun j h hj => ?_⟩, by omega⟩ (by (try simp (disch := first | omega | (simp only [go_sem]; first | done | omega)) only [go_sem]); (first | refine WkL.eq ?_ ?_ | refine WkL.rest (by assumption) ?_ ?_ ?_ | refine WkL.keepL (by assumption) rfl ?_ ?_ ?_ ?_) <;> first | rfl | (simp; done) | (simp; omega) | (simp only [List.cons.injEq, AV.c.injEq, AC.int.injEq, AC.bool.injEq, AC.str.injEq, and_true, true_and, Int.natCast_add, Int.natCast_one, Int.cast_ofNat_Int]; omega) | (simp [AV.ok, AV.ok1, AC.ok]; done) | (simp [AV.ok, AV.ok1, AC.ok]; omega) | (simp only [List.forall_mem_cons, List.not_mem_nil, false_implies, implies_true, and_true]; (repeat' apply And.intro) <;> first | exact okN_map (fun x => by simp [go_sem, AC.pure]) | exact okN_grO (fun x => by simp [go_sem, AC.pure]) | (simp [AObj.okN, AC.ok]; done) | (simp [AObj.okN, AC.ok]; omega)) | (simp [*]; done) | grind)
      rcases Nat.lt_or_ge j k with h1 | h1
      · exact hk2 j h h1
      · obtain rfl : j = k := by omega
        simpa using c
  · simp (disch := first | omega | (simp only [go_sem]; first | done | omega)) only [go_sem]
    refine Ret.same (Nat.le_refl _) (hk0 ?_)
    rw [List.any_eq_false]
    intro x hx
    obtain ⟨j, hj, rfl⟩ := List.getElem_of_mem hx
    simpa using hk2 j hj (by omega)
def tchB (x : Fix) (t : Int) : Bool := if x.kind = 1 then decide (x.s.t = t) else if x.kind = 2 then decide (x.t = t) else decide (x.w1 ≤ t ∧ t < x.w2)
theorem touches_a (x : Fix) (t : Int) (hk : K (.c (.bool (tchB x t))) H) : ACalls Tryz.prog 163 [.agg (encF x), (.c (.int .i64 t))] H K := by
  unfold tchB at hk
  refine acalls Tryz.func163 rfl (by kernel_rfl) (by simp (disch := first | omega | (simp only [go_sem]; first | done | omega)) only [go_sem]) (fun hH => ?_)
  simp (disch := first | omega | (simp only [go_sem]; first | done | omega)) only [go_sem]
  by_cases k1 : x.kind = 1
  · rw [if_pos k1] at hk
    simp (disch := first | omega | (simp only [go_sem]; first | done | omega)) only [go_sem, k1]
    exact Ret.drop hH (Nat.le_refl _) trivial hk
  by_cases k2 : x.kind = 2
  · rw [if_neg k1, if_pos k2] at hk
    simp (disch := first | omega | (simp only [go_sem]; first | done | omega)) only [go_sem, k1, k2]
    exact Ret.drop hH (Nat.le_refl _) trivial hk
  rw [if_neg k1, if_neg k2] at hk
  by_cases h1 : x.w1 ≤ t
  · by_cases h2 : t < x.w2
    · rw [decide_eq_true ⟨h1, h2⟩] at hk
      simp (disch := first | omega | (simp only [go_sem]; first | done | omega)) only [go_sem, k1, k2, h1, h2]
      exact Ret.drop hH (Nat.le_refl _) trivial hk
    · rw [decide_eq_false (fun h => h2 h.2)] at hk
      simp (disch := first | omega | (simp only [go_sem]; first | done | omega)) only [go_sem, k1, k2, h1, h2]
      exact Ret.drop hH (Nat.le_refl _) trivial hk
  · rw [decide_eq_false (fun h => h1 h.1)] at hk
    simp (disch := first | omega | (simp only [go_sem]; first | done | omega)) only [go_sem, k1, k2, h1]
    exact Ret.drop hH (Nat.le_refl _) trivial hk
theorem fxAt_a (x : Smp) (t : Int) {i ty : Nat} {own : Bool} (hi : H[i]? = some (.row ty 1 [[.int .i64 t]] own)) (hk : K (.c (.bool (decide (x.t = t)))) H) : ACalls Tryz.prog 162 [.agg (encS x), .c (.ptr (some (i, 0, 0)))] H K := by
  have hilt := getElem?_lt hi
  refine acalls Tryz.func162 rfl (by kernel_rfl) (by simp (disch := first | omega | (simp only [go_sem]; first | done | omega)) only [go_sem]) (fun hH => ?_)
  simp (disch := first | omega | (simp only [go_sem]; first | done | omega)) only [go_sem, hi]
  exact Ret.drop hH (Nat.le_refl _) trivial hk
/-- one fix more, at a moment -/
def stF (made t : Int) (u : Smp × Bool) (y : Fix) : Smp × Bool := if ¬ y.made ≤ made ∨ tchB y t = false then u else if y.kind = 1 then (y.s, true) else if y.kind = 2 then (u.1, false) else
  if u.1.q ≠ 2 then (if y.q = 2 then (⟨u.1.t, 0, y.q⟩, u.2) else (⟨u.1.t, u.1.v, y.q⟩, u.2)) else (⟨u.1.t, 0, u.1.q⟩, u.2)
def iniF (l : List Smp) (t : Int) : Smp × Bool := match l.find? (fun x => decide (x.t = t)) with
  | some x => (x, true)
  | none => (⟨0, 0, 0⟩, false)
def fxAt (l : List Smp) (fs : List Fix) (t made : Int) : Smp × Bool := fs.foldl (stF made t) (iniF l t)
theorem find_first {α : Type} (p : α → Bool) : ∀ (l : List α) (k : Nat) (h : k < l.length), p l[k] = true → (∀ j (h : j < l.length), j < k → p l[j] = false) → l.find? p = some l[k]
  | [], k, h, _, _ => by simp at h
  | x :: r, 0, h, h1, _ => by
    have h1 : p x = true := h1
    rw [List.find?_cons, h1]
    rfl
  | x :: r, k + 1, h, h1, h2 => by
    have h3 : p x = false := h2 0 (by simp) (by omega)
    rw [List.find?_cons, h3]
    have hr : k < r.length := by simpa using h
    exact find_first p r k hr h1 (fun j hj hk => h2 (j + 1) (by simp; omega) (by omega))
theorem fixedAt_a (l : List Smp) (fs : List Fix) (t made : Int) (hl : l.length ≤ 1000000) (hfl : fs.length ≤ 1000000) (hk : K (.tup [.agg (encS (fxAt l fs t made).1), (.c (.bool ((fxAt l fs t made).2)))]) H) :
    ACalls Tryz.prog 120 [.c (.lst 3 (l.map encS)), .c (.lst 11 (fs.map encF)), (.c (.int .i64 t)), (.c (.int .i64 made))] H K := by
  refine acalls Tryz.func120 rfl (by kernel_rfl) (by simp (disch := first | omega | (simp only [go_sem]; first | done | omega)) only [go_sem]) (fun hH => ?_)
  simp (disch := first | omega | (simp only [go_sem]; first | done | omega)) only [go_sem]
  refine indexLstSm_a 162 [(H.length, 0, 0)] (fun x => decide (x.t = t)) (by kernel_rfl) (by intro a b c h; simp only [List.mem_singleton, Prod.mk.injEq] at h; simp; omega) l (fun x K hx hk => fxAt_a x t (by first | ((repeat first | exact at0 (by simp) | refine atS ?_); done) | assumption) hk) (by omega) (fun hn => ?_) (fun k hkl hk1 hk2 => ?_)
  focus
    have hini : iniF l t = (⟨0, 0, 0⟩, false) := by
      unfold iniF
      rw [List.find?_eq_none.2 (fun x hx => by simpa using List.any_eq_false.1 hn x hx)]
    simp (disch := first | omega | (simp only [go_sem]; first | done | omega)) only [go_sem]
  rotate_left
  focus
    have hini : iniF l t = (l[k], true) := by
      unfold iniF
      rw [find_first _ l k hkl hk1 hk2]
    have hk0 : (0 : Int) ≤ k := by omega
    simp (disch := first | omega | (simp only [go_sem]; first | done | omega)) only [go_sem, hk0, hkl]
  all_goals
    refine AWp.loop (H.length + 3) [3, 6, 8, 11, 25, 26] [27, 12] (fun (w : Nat × Smp × Bool) => w.1 ≤ fs.length ∧ w.2 = (fs.take w.1).foldl (stF made t) (iniF l t)) (fun (w : Nat × Smp × Bool) => [(27, (.c (.int .i64 (w.1)))), (12, (.c (.bool (w.2.2))))]) (fun (w : Nat × Smp × Bool) => H ++ [.row 3 1 [[.int .i64 t]] true, .row 69 3 [[.int .i64 0, .int .i64 0, .int .i64 0]] true, .row 69 3 [encS w.2.1] true]) (fun (w : Nat × Smp × Bool) => fs.length - w.1) (by kernel_rfl) (fun _ => rfl) (by kernel_rfl) (by first | (simp; done) | omega) (by first | (simp; done) | (simp; omega) | omega) (by (try simp only [List.forall_mem_cons, List.not_mem_nil, false_implies, implies_true, and_true]); (try simp (disch := first | omega | (simp only [go_sem]; first | done | omega)) only [go_sem]); all_goals first | trivial | (simp [AV.ok, AV.ok1, AC.ok]; done) | (simp [AV.ok, AV.ok1, AC.ok]; omega) | (simp [AV.ok, AV.ok1, AC.ok]; assumption) | ((repeat' apply And.intro) <;> first | trivial | (simp [AV.ok, AV.ok1, AC.ok]; done) | (simp [AV.ok, AV.ok1, AC.ok]; omega) | (simp [AV.ok, AV.ok1, AC.ok]; assumption) | (refine grV_ok ?_ _; first | (simp; done) | (simp; omega) | omega))) ?_ (fun w hw _ _ => ?_)
    · refine Next.mk (0, iniF l t) ⟨Nat.zero_le _, by simp⟩ ?_
      rw [hini]
      (try simp (disch := first | omega | (simp only [go_sem]; first | done | omega)) only [go_sem]); (first | refine WkL.eq ?_ ?_ | refine WkL.rest (by assumption) ?_ ?_ ?_ | refine WkL.keepL (by assumption) rfl ?_ ?_ ?_ ?_) <;> first | rfl | (simp; done) | (simp; omega) | (simp only [List.cons.injEq, AV.c.injEq, AC.int.injEq, AC.bool.injEq, AC.str.injEq, and_true, true_and, Int.natCast_add, Int.natCast_one, Int.cast_ofNat_Int]; omega) | (simp [AV.ok, AV.ok1, AC.ok]; done) | (simp [AV.ok, AV.ok1, AC.ok]; omega) | (simp only [List.forall_mem_cons, List.not_mem_nil, false_implies, implies_true, and_true]; (repeat' apply And.intro) <;> first | exact okN_map (fun x => by simp [go_sem, AC.pure]) | exact okN_grO (fun x => by simp [go_sem, AC.pure]) | (simp [AObj.okN, AC.ok]; done) | (simp [AObj.okN, AC.ok]; omega)) | (simp [*]; done) | grind
    obtain ⟨k', u, b⟩ := w
    obtain ⟨w1, w2⟩ := hw
    dsimp only at w1 w2 ⊢
    clear hini
    by_cases hlt : k' < fs.length
    · obtain ⟨y, hy⟩ : ∃ y, y = fs[k'] := ⟨_, rfl⟩
      have htk : (fs.take (k' + 1)).foldl (stF made t) (iniF l t) = stF made t (u, b) y := by rw [List.take_succ_eq_append_getElem hlt, ← hy, List.foldl_append, ← w2]; rfl
      by_cases hm : y.made ≤ made
      · simp (disch := first | omega | (simp only [go_sem]; first | done | omega)) only [go_sem, hlt, ← hy, hm]
        refine touches_a y t ?_
        by_cases htb : tchB y t = false
        · have e : stF made t (u, b) y = (u, b) := by unfold stF; rw [if_pos (Or.inr htb)]
          rw [e] at htk
          simp (disch := first | omega | (simp only [go_sem]; first | done | omega)) only [go_sem, htb]
          refine Next.mk (k' + 1, u, b) ⟨⟨by dsimp only; omega, htk.symm⟩, by dsimp only; omega⟩ ?_
          (try simp (disch := first | omega | (simp only [go_sem]; first | done | omega)) only [go_sem]); (first | refine WkL.eq ?_ ?_ | refine WkL.rest (by assumption) ?_ ?_ ?_ | refine WkL.keepL (by assumption) rfl ?_ ?_ ?_ ?_) <;> first | rfl | (simp; done) | (simp; omega) | (simp only [List.cons.injEq, AV.c.injEq, AC.int.injEq, AC.bool.injEq, AC.str.injEq, and_true, true_and, Int.natCast_add, Int.natCast_one, Int.cast_ofNat_Int]; omega) | (simp [AV.ok, AV.ok1, AC.ok]; done) | (simp [AV.ok, AV.ok1, AC.ok]; omega) | (simp only [List.forall_mem_cons, List.not_mem_nil, false_implies, implies_true, and_true]; (repeat' apply And.intro) <;> first | exact okN_map (fun x => by simp [go_sem, AC.pure]) | exact okN_grO (fun x => by simp [go_sem, AC.pure]) | (simp [AObj.okN, AC.ok]; done) | (simp [AObj.okN, AC.ok]; omega)) | (simp [*]; done) | grind
        have htb2 : tchB y t = true := by simpa using htb
        have hn : ¬ (¬ y.made ≤ made ∨ tchB y t = false) := fun h => h.elim (fun h => h hm) htb
        unfold stF at htk
        rw [if_neg hn] at htk
        by_cases k1 : y.kind = 1
        · rw [if_pos k1] at htk
          simp (disch := first | omega | (simp only [go_sem]; first | done | omega)) only [go_sem, htb2, k1]
          refine Next.mk (k' + 1, y.s, true) ⟨⟨by dsimp only; omega, htk.symm⟩, by dsimp only; omega⟩ ?_
          (try simp (disch := first | omega | (simp only [go_sem]; first | done | omega)) only [go_sem]); (first | refine WkL.eq ?_ ?_ | refine WkL.rest (by assumption) ?_ ?_ ?_ | refine WkL.keepL (by assumption) rfl ?_ ?_ ?_ ?_) <;> first | rfl | (simp; done) | (simp; omega) | (simp only [List.cons.injEq, AV.c.injEq, AC.int.injEq, AC.bool.injEq, AC.str.injEq, and_true, true_and, Int.natCast_add, Int.natCast_one, Int.cast_ofNat_Int]; omega) | (simp [AV.ok, AV.ok1, AC.ok]; done) | (simp [AV.ok, AV.ok1, AC.ok]; omega) | (simp only [List.forall_mem_cons, List.not_mem_nil, false_implies, implies_true, and_true]; (repeat' apply And.intro) <;> first | exact okN_map (fun x => by simp [go_sem, AC.pure]) | exact okN_grO (fun x => by simp [go_sem, AC.pure]) | (simp [AObj.okN, AC.ok]; done) | (simp [AObj.okN, AC.ok]; omega)) | (simp [*]; done) | grind
        rw [if_neg k1] at htk
        by_cases k2 : y.kind = 2
        · rw [if_pos k2] at htk
          simp (disch := first | omega | (simp only [go_sem]; first | done | omega)) only [go_sem, htb2, k1, k2]
          refine Next.mk (k' + 1, u, false) ⟨⟨by dsimp only; omega, htk.symm⟩, by dsimp only; omega⟩ ?_
          (try simp (disch := first | omega | (simp only [go_sem]; first | done | omega)) only [go_sem]); (first | refine WkL.eq ?_ ?_ | refine WkL.rest (by assumption) ?_ ?_ ?_ | refine WkL.keepL (by assumption) rfl ?_ ?_ ?_ ?_) <;> first | rfl | (simp; done) | (simp; omega) | (simp only [List.cons.injEq, AV.c.injEq, AC.int.injEq, AC.bool.injEq, AC.str.injEq, and_true, true_and, Int.natCast_add, Int.natCast_one, Int.cast_ofNat_Int]; omega) | (simp [AV.ok, AV.ok1, AC.ok]; done) | (simp [AV.ok, AV.ok1, AC.ok]; omega) | (simp only [List.forall_mem_cons, List.not_mem_nil, false_implies, implies_true, and_true]; (repeat' apply And.intro) <;> first | exact okN_map (fun x => by simp [go_sem, AC.pure]) | exact okN_grO (fun x => by simp [go_sem, AC.pure]) | (simp [AObj.okN, AC.ok]; done) | (simp [AObj.okN, AC.ok]; omega)) | (simp [*]; done) | grind
        rw [if_neg k2] at htk
        dsimp only at htk
        by_cases q1 : u.q = 2
        · rw [if_neg (by simpa using q1)] at htk
          simp (disch := first | omega | (simp only [go_sem]; first | done | omega)) only [go_sem, htb2, k1, k2, q1]
          refine Next.mk (k' + 1, ⟨u.t, 0, u.q⟩, b) ⟨⟨by dsimp only; omega, htk.symm⟩, by dsimp only; omega⟩ ?_
          dsimp only
          rw [q1]
          (try simp (disch := first | omega | (simp only [go_sem]; first | done | omega)) only [go_sem]); (first | refine WkL.eq ?_ ?_ | refine WkL.rest (by assumption) ?_ ?_ ?_ | refine WkL.keepL (by assumption) rfl ?_ ?_ ?_ ?_) <;> first | rfl | (simp; done) | (simp; omega) | (simp only [List.cons.injEq, AV.c.injEq, AC.int.injEq, AC.bool.injEq, AC.str.injEq, and_true, true_and, Int.natCast_add, Int.natCast_one, Int.cast_ofNat_Int]; omega) | (simp [AV.ok, AV.ok1, AC.ok]; done) | (simp [AV.ok, AV.ok1, AC.ok]; omega) | (simp only [List.forall_mem_cons, List.not_mem_nil, false_implies, implies_true, and_true]; (repeat' apply And.intro) <;> first | exact okN_map (fun x => by simp [go_sem, AC.pure]) | exact okN_grO (fun x => by simp [go_sem, AC.pure]) | (simp [AObj.okN, AC.ok]; done) | (simp [AObj.okN, AC.ok]; omega)) | (simp [*]; done) | grind
        · rw [if_pos q1] at htk
          by_cases q2 : y.q = 2
          · rw [if_pos q2] at htk
            simp (disch := first | omega | (simp only [go_sem]; first | done | omega)) only [go_sem, htb2, k1, k2, q1, q2]
            refine Next.mk (k' + 1, ⟨u.t, 0, y.q⟩, b) ⟨⟨by dsimp only; omega, htk.symm⟩, by dsimp only; omega⟩ ?_
            dsimp only
            rw [q2]
            (try simp (disch := first | omega | (simp only [go_sem]; first | done | omega)) only [go_sem]); (first | refine WkL.eq ?_ ?_ | refine WkL.rest (by assumption) ?_ ?_ ?_ | refine WkL.keepL (by assumption) rfl ?_ ?_ ?_ ?_) <;> first | rfl | (simp; done) | (simp; omega) | (simp only [List.cons.injEq, AV.c.injEq, AC.int.injEq, AC.bool.injEq, AC.str.injEq, and_true, true_and, Int.natCast_add, Int.natCast_one, Int.cast_ofNat_Int]; omega) | (simp [AV.ok, AV.ok1, AC.ok]; done) | (simp [AV.ok, AV.ok1, AC.ok]; omega) | (simp only [List.forall_mem_cons, List.not_mem_nil, false_implies, implies_true, and_true]; (repeat' apply And.intro) <;> first | exact okN_map (fun x => by simp [go_sem, AC.pure]) | exact okN_grO (fun x => by simp [go_sem, AC.pure]) | (simp [AObj.okN, AC.ok]; done) | (simp [AObj.okN, AC.ok]; omega)) | (simp [*]; done) | grind
          · rw [if_neg q2] at htk
            simp (disch := first | omega | (simp only [go_sem]; first | done | omega)) only [go_sem, htb2, k1, k2, q1, q2]
            refine Next.mk (k' + 1, ⟨u.t, u.v, y.q⟩, b) ⟨⟨by dsimp only; omega, htk.symm⟩, by dsimp only; omega⟩ ?_
            (try simp (disch := first | omega | (simp only [go_sem]; first | done | omega)) only [go_sem]); (first | refine WkL.eq ?_ ?_ | refine WkL.rest (by assumption) ?_ ?_ ?_ | refine WkL.keepL (by assumption) rfl ?_ ?_ ?_ ?_) <;> first | rfl | (simp; done) | (simp; omega) | (simp only [List.cons.injEq, AV.c.injEq, AC.int.injEq, AC.bool.injEq, AC.str.injEq, and_true, true_and, Int.natCast_add, Int.natCast_one, Int.cast_ofNat_Int]; omega) | (simp [AV.ok, AV.ok1, AC.ok]; done) | (simp [AV.ok, AV.ok1, AC.ok]; omega) | (simp only [List.forall_mem_cons, List.not_mem_nil, false_implies, implies_true, and_true]; (repeat' apply And.intro) <;> first | exact okN_map (fun x => by simp [go_sem, AC.pure]) | exact okN_grO (fun x => by simp [go_sem, AC.pure]) | (simp [AObj.okN, AC.ok]; done) | (simp [AObj.okN, AC.ok]; omega)) | (simp [*]; done) | grind
      · have e : stF made t (u, b) y = (u, b) := by unfold stF; rw [if_pos (Or.inl hm)]
        rw [e] at htk
        simp (disch := first | omega | (simp only [go_sem]; first | done | omega)) only [go_sem, hlt, ← hy, hm]
        refine Next.mk (k' + 1, u, b) ⟨⟨by dsimp only; omega, htk.symm⟩, by dsimp only; omega⟩ ?_
        (try simp (disch := first | omega | (simp only [go_sem]; first | done | omega)) only [go_sem]); (first | refine WkL.eq ?_ ?_ | refine WkL.rest (by assumption) ?_ ?_ ?_ | refine WkL.keepL (by assumption) rfl ?_ ?_ ?_ ?_) <;> first | rfl | (simp; done) | (simp; omega) | (simp only [List.cons.injEq, AV.c.injEq, AC.int.injEq, AC.bool.injEq, AC.str.injEq, and_true, true_and, Int.natCast_add, Int.natCast_one, Int.cast_ofNat_Int]; omega) | (simp [AV.ok, AV.ok1, AC.ok]; done) | (simp [AV.ok, AV.ok1, AC.ok]; omega) | (simp only [List.forall_mem_cons, List.not_mem_nil, false_implies, implies_true, and_true]; (repeat' apply And.intro) <;> first | exact okN_map (fun x => by simp [go_sem, AC.pure]) | exact okN_grO (fun x => by simp [go_sem, AC.pure]) | (simp [AObj.okN, AC.ok]; done) | (simp [AObj.okN, AC.ok]; omega)) | (simp [*]; done) | grind
    · have hkl2 : k' = fs.length := by omega
      subst hkl2
      rw [List.take_length] at w2
      have e : fxAt l fs t made = (u, b) := w2.symm
      rw [e] at hk
      simp (disch := first | omega | (simp only [go_sem]; first | done | omega)) only [go_sem]
      exact Ret.drop hH (Nat.le_refl _) (by simp [AV.ok, AV.ok1, AC.ok]) hk
def setsF (fs : List Fix) : List Int := (fs.filter fun f => decide (f.kind = 1)).map fun f => f.s.t
theorem setsF_next {fs : List Fix} {k : Nat} (h : k < fs.length) : setsF (fs.take (k + 1)) = setsF (fs.take k) ++ (if fs[k].kind = 1 then [fs[k].s.t] else []) := by
  unfold setsF
  rw [List.take_succ_eq_append_getElem h, List.filter_append, List.map_append]
  congr 1
  by_cases e : fs[k].kind = 1 <;> simp [e]
theorem setsF_len (fs : List Fix) (k : Nat) : (setsF (fs.take k)).length ≤ k := by
  unfold setsF
  have h1 := List.length_filter_le (fun f : Fix => decide (f.kind = 1)) (fs.take k)
  rw [List.length_take] at h1
  rw [List.length_map]
  omega
/-- the moments of a series and its fixes, rising -/
def momsF (l : List Smp) (fs : List Fix) : List Int := cplF (srtI (l.map (·.t) ++ setsF fs))
theorem moments_a (l : List Smp) (fs : List Fix) (hl : l.length ≤ 100000) (hfl : fs.length ≤ 100000) (hk : K (.c (.lst 1 ((momsF l fs).map encI))) H) : ACalls Tryz.prog 119 [.c (.lst 3 (l.map encS)), .c (.lst 11 (fs.map encF))] H K := by
  refine acalls Tryz.func119 rfl (by kernel_rfl) (by simp (disch := first | omega | (simp only [go_sem]; first | done | omega)) only [go_sem]) (fun hH => ?_)
  simp (disch := first | omega | (simp only [go_sem]; first | done | omega)) only [go_sem]
  refine AWp.loop (H.length) [1, 10, 11] [12, 5] (fun (k : Nat) => k ≤ l.length) (fun (k : Nat) => [(12, (.c (.int .i64 k))), (5, .c (grV H.length ((l.take k).map (·.t))))]) (fun (k : Nat) => H ++ [grO 3 1 (((l.take k).map (·.t)).map encI)]) (fun (k : Nat) => l.length - k) (by kernel_rfl) (fun _ => rfl) (by kernel_rfl) (by first | (simp; done) | omega) (by first | (simp; done) | (simp; omega) | omega) (by (try simp only [List.forall_mem_cons, List.not_mem_nil, false_implies, implies_true, and_true]); (try simp (disch := first | omega | (simp only [go_sem]; first | done | omega)) only [go_sem]); all_goals first | trivial | (simp [AV.ok, AV.ok1, AC.ok]; done) | (simp [AV.ok, AV.ok1, AC.ok]; omega) | (simp [AV.ok, AV.ok1, AC.ok]; assumption) | ((repeat' apply And.intro) <;> first | trivial | (simp [AV.ok, AV.ok1, AC.ok]; done) | (simp [AV.ok, AV.ok1, AC.ok]; omega) | (simp [AV.ok, AV.ok1, AC.ok]; assumption) | (refine grV_ok ?_ _; first | (simp; done) | (simp; omega) | omega))) ?_ (fun k q1 _ _ => ?_)
  · refine Next.mk 0 (Nat.zero_le _) ?_
    exact WkL.pad (by omega)
  by_cases hlt : k < l.length
  · obtain ⟨x, hx⟩ : ∃ x, x = l[k] := ⟨_, rfl⟩
    have hnx : (l.take (k + 1)).map (·.t) = (l.take k).map (·.t) ++ [x.t] := by rw [List.take_succ_eq_append_getElem hlt, ← hx, List.map_append]; rfl
    have hln : ((l.take k).map (·.t)).length ≤ k := by rw [List.length_map, List.length_take]; omega
    generalize (l.take k).map (·.t) = ns at *
    simp (disch := first | omega | (simp only [go_sem]; first | done | omega)) only [go_sem, hlt, ← hx]
    refine appI ns x.t _ hnx (by first | ((repeat first | exact at0 (by simp) | refine atS ?_); done) | assumption) (by first | ((repeat first | exact at0 (by simp) | refine atS ?_); done) | assumption) (by omega) ?_
    simp (disch := first | omega | (simp only [go_sem]; first | done | omega)) only [go_sem]
    refine Next.mk (k + 1) ⟨by omega, by omega⟩ ?_
    ((try simp (disch := first | omega | (simp only [go_sem]; first | done | omega)) only [go_sem]); (first | refine WkL.pick [0] ?_ ?_ rfl ?_ ?_ ?_ ?_ | refine WkL.pick [1] ?_ ?_ rfl ?_ ?_ ?_ ?_ | refine WkL.pick [2] ?_ ?_ rfl ?_ ?_ ?_ ?_ | refine WkL.pick [3] ?_ ?_ rfl ?_ ?_ ?_ ?_ | refine WkL.pick [4] ?_ ?_ rfl ?_ ?_ ?_ ?_ | refine WkL.pick [5] ?_ ?_ rfl ?_ ?_ ?_ ?_ | refine WkL.pick [6] ?_ ?_ rfl ?_ ?_ ?_ ?_ | refine WkL.pick [7] ?_ ?_ rfl ?_ ?_ ?_ ?_ | refine WkL.pick [8] ?_ ?_ rfl ?_ ?_ ?_ ?_ | refine WkL.pick [9] ?_ ?_ rfl ?_ ?_ ?_ ?_ | refine WkL.pick [10] ?_ ?_ rfl ?_ ?_ ?_ ?_ | refine WkL.pick [11] ?_ ?_ rfl ?_ ?_ ?_ ?_ | refine WkL.pick [12] ?_ ?_ rfl ?_ ?_ ?_ ?_ | refine WkL.pick [13] ?_ ?_ rfl ?_ ?_ ?_ ?_ | refine WkL.pick [14] ?_ ?_ rfl ?_ ?_ ?_ ?_ | refine WkL.pick [15] ?_ ?_ rfl ?_ ?_ ?_ ?_) <;> first | assumption | exact HOk.str (by assumption) | (simp; done) | (simp; omega) | (simp [pureO_gr, AObj.pureO, pureL, go_sem, AC.pure]; done) | (simp only [List.all_cons, List.all_nil, Bool.and_true]; exact pureO_gr (pureL_map _ (fun x => by simp [go_sem, AC.pure]))) | ((try simp only [List.map_cons, List.map_nil, av_ren_gr]); simp [AV.ren, AV.ren1, AC.ren, renP, pickS]; first | done | omega) | (simp only [List.forall_mem_cons, List.not_mem_nil, false_implies, implies_true, and_true]; (repeat' apply And.intro) <;> first | trivial | exact grV_ok (by simp) _ | exact okN_grO (fun x => by simp [go_sem, AC.pure]) | exact okN_map (fun x => by simp [go_sem, AC.pure]) | (simp [AV.ok, AV.ok1, AC.ok]; done) | (simp [AV.ok, AV.ok1, AC.ok]; omega) | (simp [AObj.okN, AC.ok]; done)) | (simp [AObj.okN]; done))
  · have hkl : k = l.length := by omega
    subst hkl
    rw [List.take_length]
    simp (disch := first | omega | (simp only [go_sem]; first | done | omega)) only [go_sem]
    refine AWp.loop (H.length) [22, 23] [24, 5] (fun (k : Nat) => k ≤ fs.length) (fun (k : Nat) => [(24, (.c (.int .i64 k))), (5, .c (grV H.length (l.map (·.t) ++ setsF (fs.take k))))]) (fun (k : Nat) => H ++ [grO 3 1 ((l.map (·.t) ++ setsF (fs.take k)).map encI)]) (fun (k : Nat) => fs.length - k) (by kernel_rfl) (fun _ => rfl) (by kernel_rfl) (by first | (simp; done) | omega) (by first | (simp; done) | (simp; omega) | omega) (by (try simp only [List.forall_mem_cons, List.not_mem_nil, false_implies, implies_true, and_true]); (try simp (disch := first | omega | (simp only [go_sem]; first | done | omega)) only [go_sem]); all_goals first | trivial | (simp [AV.ok, AV.ok1, AC.ok]; done) | (simp [AV.ok, AV.ok1, AC.ok]; omega) | (simp [AV.ok, AV.ok1, AC.ok]; assumption) | ((repeat' apply And.intro) <;> first | trivial | (simp [AV.ok, AV.ok1, AC.ok]; done) | (simp [AV.ok, AV.ok1, AC.ok]; omega) | (simp [AV.ok, AV.ok1, AC.ok]; assumption) | (refine grV_ok ?_ _; first | (simp; done) | (simp; omega) | omega))) ?_ (fun k q1 _ _ => ?_)
    · refine Next.mk 0 (Nat.zero_le _) ?_
      rw [show setsF (fs.take 0) = [] from rfl, List.append_nil]
      (try simp (disch := first | omega | (simp only [go_sem]; first | done | omega)) only [go_sem]); (first | refine WkL.eq ?_ ?_ | refine WkL.rest (by assumption) ?_ ?_ ?_ | refine WkL.keepL (by assumption) rfl ?_ ?_ ?_ ?_) <;> first | rfl | (simp; done) | (simp; omega) | (simp only [List.cons.injEq, AV.c.injEq, AC.int.injEq, AC.bool.injEq, AC.str.injEq, and_true, true_and, Int.natCast_add, Int.natCast_one, Int.cast_ofNat_Int]; omega) | (simp [AV.ok, AV.ok1, AC.ok]; done) | (simp [AV.ok, AV.ok1, AC.ok]; omega) | (simp only [List.forall_mem_cons, List.not_mem_nil, false_implies, implies_true, and_true]; (repeat' apply And.intro) <;> first | exact okN_map (fun x => by simp [go_sem, AC.pure]) | exact okN_grO (fun x => by simp [go_sem, AC.pure]) | (simp [AObj.okN, AC.ok]; done) | (simp [AObj.okN, AC.ok]; omega)) | (simp [*]; done) | grind
    by_cases hlt : k < fs.length
    · obtain ⟨y, hy⟩ : ∃ y, y = fs[k] := ⟨_, rfl⟩
      have hnx := setsF_next hlt
      have hln : (l.map (·.t) ++ setsF (fs.take k)).length ≤ 200000 := by have := setsF_len fs k; rw [List.length_append, List.length_map]; omega
      rw [← hy] at hnx
      have hnx2 : l.map (·.t) ++ setsF (fs.take (k + 1)) = (l.map (·.t) ++ setsF (fs.take k)) ++ (if y.kind = 1 then [y.s.t] else []) := by rw [hnx, List.append_assoc]
      generalize l.map (·.t) ++ setsF (fs.take k) = ns at *
      by_cases k1 : y.kind = 1
      · rw [if_pos k1] at hnx2
        simp (disch := first | omega | (simp only [go_sem]; first | done | omega)) only [go_sem, hlt, ← hy, k1]
        refine appI ns y.s.t _ hnx2 (by first | ((repeat first | exact at0 (by simp) | refine atS ?_); done) | assumption) (by first | ((repeat first | exact at0 (by simp) | refine atS ?_); done) | assumption) (by omega) ?_
        simp (disch := first | omega | (simp only [go_sem]; first | done | omega)) only [go_sem]
        refine Next.mk (k + 1) ⟨by omega, by omega⟩ ?_
        ((try simp (disch := first | omega | (simp only [go_sem]; first | done | omega)) only [go_sem]); (first | refine WkL.pick [0] ?_ ?_ rfl ?_ ?_ ?_ ?_ | refine WkL.pick [1] ?_ ?_ rfl ?_ ?_ ?_ ?_ | refine WkL.pick [2] ?_ ?_ rfl ?_ ?_ ?_ ?_ | refine WkL.pick [3] ?_ ?_ rfl ?_ ?_ ?_ ?_ | refine WkL.pick [4] ?_ ?_ rfl ?_ ?_ ?_ ?_ | refine WkL.pick [5] ?_ ?_ rfl ?_ ?_ ?_ ?_ | refine WkL.pick [6] ?_ ?_ rfl ?_ ?_ ?_ ?_ | refine WkL.pick [7] ?_ ?_ rfl ?_ ?_ ?_ ?_ | refine WkL.pick [8] ?_ ?_ rfl ?_ ?_ ?_ ?_ | refine WkL.pick [9] ?_ ?_ rfl ?_ ?_ ?_ ?_ | refine WkL.pick [10] ?_ ?_ rfl ?_ ?_ ?_ ?_ | refine WkL.pick [11] ?_ ?_ rfl ?_ ?_ ?_ ?_ | refine WkL.pick [12] ?_ ?_ rfl ?_ ?_ ?_ ?_ | refine WkL.pick [13] ?_ ?_ rfl ?_ ?_ ?_ ?_ | refine WkL.pick [14] ?_ ?_ rfl ?_ ?_ ?_ ?_ | refine WkL.pick [15] ?_ ?_ rfl ?_ ?_ ?_ ?_) <;> first | assumption | exact HOk.str (by assumption) | (simp; done) | (simp; omega) | (simp [pureO_gr, AObj.pureO, pureL, go_sem, AC.pure]; done) | (simp only [List.all_cons, List.all_nil, Bool.and_true]; exact pureO_gr (pureL_map _ (fun x => by simp [go_sem, AC.pure]))) | ((try simp only [List.map_cons, List.map_nil, av_ren_gr]); simp [AV.ren, AV.ren1, AC.ren, renP, pickS]; first | done | omega) | (simp only [List.forall_mem_cons, List.not_mem_nil, false_implies, implies_true, and_true]; (repeat' apply And.intro) <;> first | trivial | exact grV_ok (by simp) _ | exact okN_grO (fun x => by simp [go_sem, AC.pure]) | exact okN_map (fun x => by simp [go_sem, AC.pure]) | (simp [AV.ok, AV.ok1, AC.ok]; done) | (simp [AV.ok, AV.ok1, AC.ok]; omega) | (simp [AObj.okN, AC.ok]; done)) | (simp [AObj.okN]; done))
      · rw [if_neg k1, List.append_nil] at hnx2
        simp (disch := first | omega | (simp only [go_sem]; first | done | omega)) only [go_sem, hlt, ← hy, k1]
        refine Next.mk (k + 1) ⟨by omega, by omega⟩ ?_
        rw [hnx2]
        ((try simp (disch := first | omega | (simp only [go_sem]; first | done | omega)) only [go_sem]); (first | refine WkL.pick [0] ?_ ?_ rfl ?_ ?_ ?_ ?_ | refine WkL.pick [1] ?_ ?_ rfl ?_ ?_ ?_ ?_ | refine WkL.pick [2] ?_ ?_ rfl ?_ ?_ ?_ ?_ | refine WkL.pick [3] ?_ ?_ rfl ?_ ?_ ?_ ?_ | refine WkL.pick [4] ?_ ?_ rfl ?_ ?_ ?_ ?_ | refine WkL.pick [5] ?_ ?_ rfl ?_ ?_ ?_ ?_ | refine WkL.pick [6] ?_ ?_ rfl ?_ ?_ ?_ ?_ | refine WkL.pick [7] ?_ ?_ rfl ?_ ?_ ?_ ?_ | refine WkL.pick [8] ?_ ?_ rfl ?_ ?_ ?_ ?_ | refine WkL.pick [9] ?_ ?_ rfl ?_ ?_ ?_ ?_ | refine WkL.pick [10] ?_ ?_ rfl ?_ ?_ ?_ ?_ | refine WkL.pick [11] ?_ ?_ rfl ?_ ?_ ?_ ?_ | refine WkL.pick [12] ?_ ?_ rfl ?_ ?_ ?_ ?_ | refine WkL.pick [13] ?_ ?_ rfl ?_ ?_ ?_ ?_ | refine WkL.pick [14] ?_ ?_ rfl ?_ ?_ ?_ ?_ | refine WkL.pick [15] ?_ ?_ rfl ?_ ?_ ?_ ?_) <;> first | assumption | exact HOk.str (by assumption) | (simp; done) | (simp; omega) | (simp [pureO_gr, AObj.pureO, pureL, go_sem, AC.pure]; done) | (simp only [List.all_cons, List.all_nil, Bool.and_true]; exact pureO_gr (pureL_map _ (fun x => by simp [go_sem, AC.pure]))) | ((try simp only [List.map_cons, List.map_nil, av_ren_gr]); simp [AV.ren, AV.ren1, AC.ren, renP, pickS]; first | done | omega) | (simp only [List.forall_mem_cons, List.not_mem_nil, false_implies, implies_true, and_true]; (repeat' apply And.intro) <;> first | trivial | exact grV_ok (by simp) _ | exact okN_grO (fun x => by simp [go_sem, AC.pure]) | exact okN_map (fun x => by simp [go_sem, AC.pure]) | (simp [AV.ok, AV.ok1, AC.ok]; done) | (simp [AV.ok, AV.ok1, AC.ok]; omega) | (simp [AObj.okN, AC.ok]; done)) | (simp [AObj.okN]; done))
    · have hkl : k = fs.length := by omega
      subst hkl
      unfold momsF at hk
      rw [List.take_length]
      have hln : (l.map (·.t) ++ setsF fs).length ≤ 200000 := by have := setsF_len fs fs.length; rw [List.take_length] at this; rw [List.length_append, List.length_map]; omega
      generalize l.map (·.t) ++ setsF fs = ns at *
      simp (disch := first | omega | (simp only [go_sem]; first | done | omega)) only [go_sem]
      refine sortV_a ns (by first | ((repeat first | exact at0 (by simp) | refine atS ?_); done) | assumption) (by omega) ?_
      have hvl : grV H.length ns = grV H.length (srtI ns) := by
        have hSl := srtI_len ns
        cases ns with
        | nil => rw [List.length_eq_zero_iff.1 hSl]
        | cons x t => rw [grV_pos _ (by simp), grV_pos _ (by intro h; rw [h] at hSl; simp at hSl), hSl]
      simp (disch := first | omega | (simp only [go_sem]; first | done | omega)) only [go_sem]
      rw [hvl]
      refine compactVI_a (srtI ns) (by first | ((repeat first | exact at0 (by simp) | refine atS ?_); done) | assumption) (by rw [srtI_len]; omega) ?_
      simp (disch := first | omega | (simp only [go_sem]; first | done | omega)) only [go_sem]
      exact Ret.drop hH (Nat.le_refl _) (by simp [AV.ok, AV.ok1, AC.ok]) hk
/-- the document's series, moment by moment -/
def fxdF (l : List Smp) (fs : List Fix) (a : Int) : List Smp := (momsF l fs).filterMap fun t => if (fxAt l fs t a).2 then some (fxAt l fs t a).1 else none
theorem fixedOf_a (l : List Smp) (fs : List Fix) (a : Int) (hl : l.length ≤ 1000) (hfl : fs.length ≤ 1000) (hk : K (.tup [.c (.lst 3 ((fxdF l fs a).map encS)), (.c (.int .i64 0))]) H) : ACalls Tryz.prog 53 [.c (.lst 3 (l.map encS)), .c (.lst 11 (fs.map encF)), (.c (.int .i64 a))] H K := by
  have hml : (momsF l fs).length ≤ 2000 := by
    unfold momsF
    have h1 := cplF_le (srtI (l.map (·.t) ++ setsF fs))
    have h2 := setsF_len fs fs.length
    rw [List.take_length] at h2
    rw [srtI_len, List.length_append, List.length_map] at h1
    omega
  refine acalls Tryz.func53 rfl (by kernel_rfl) (by simp (disch := first | omega | (simp only [go_sem]; first | done | omega)) only [go_sem]) (fun hH => ?_)
  simp (disch := first | omega | (simp only [go_sem]; first | done | omega)) only [go_sem]
  refine moments_a l fs (by omega) (by omega) ?_
  have hg : ∀ k, k < (momsF l fs).length → ((momsF l fs).take (k + 1)).filterMap (fun t => if (fxAt l fs t a).2 then some (fxAt l fs t a).1 else none) = ((momsF l fs).take k).filterMap (fun t => if (fxAt l fs t a).2 then some (fxAt l fs t a).1 else none) ++ (if (fxAt l fs ((momsF l fs)[k]!) a).2 then [(fxAt l fs ((momsF l fs)[k]!) a).1] else []) := by
    intro k hk
    rw [List.take_succ_eq_append_getElem hk, List.filterMap_append, getElem!_pos _ k hk]
    congr 1
    split <;> simp [*]
  unfold fxdF at hk
  generalize momsF l fs = ms at *
  simp (disch := first | omega | (simp only [go_sem]; first | done | omega)) only [go_sem]
  refine AWp.loop (H.length) [0, 1, 2, 15, 16] [17, 8] (fun (k : Nat) => k ≤ ms.length) (fun (k : Nat) => [(17, (.c (.int .i64 k))), (8, .c (grV H.length ((ms.take k).filterMap fun t => if (fxAt l fs t a).2 then some (fxAt l fs t a).1 else none)))]) (fun (k : Nat) => H ++ [grO 69 3 (((ms.take k).filterMap fun t => if (fxAt l fs t a).2 then some (fxAt l fs t a).1 else none).map encS)]) (fun (k : Nat) => ms.length - k) (by kernel_rfl) (fun _ => rfl) (by kernel_rfl) (by first | (simp; done) | omega) (by first | (simp; done) | (simp; omega) | omega) (by (try simp only [List.forall_mem_cons, List.not_mem_nil, false_implies, implies_true, and_true]); (try simp (disch := first | omega | (simp only [go_sem]; first | done | omega)) only [go_sem]); all_goals first | trivial | (simp [AV.ok, AV.ok1, AC.ok]; done) | (simp [AV.ok, AV.ok1, AC.ok]; omega) | (simp [AV.ok, AV.ok1, AC.ok]; assumption) | ((repeat' apply And.intro) <;> first | trivial | (simp [AV.ok, AV.ok1, AC.ok]; done) | (simp [AV.ok, AV.ok1, AC.ok]; omega) | (simp [AV.ok, AV.ok1, AC.ok]; assumption) | (refine grV_ok ?_ _; first | (simp; done) | (simp; omega) | omega))) ?_ (fun k q1 _ _ => ?_)
  · refine Next.mk 0 (Nat.zero_le _) ?_
    exact WkL.pad (by omega)
  by_cases hlt : k < ms.length
  · have hnx := hg k hlt
    have hln : ((ms.take k).filterMap fun t => if (fxAt l fs t a).2 then some (fxAt l fs t a).1 else none).length ≤ 2000 := by
      have := List.length_filterMap_le (fun t => if (fxAt l fs t a).2 then some (fxAt l fs t a).1 else none) (ms.take k)
      rw [List.length_take] at this
      omega
    rw [getElem!_pos _ k hlt] at hnx
    generalize (ms.take k).filterMap (fun t => if (fxAt l fs t a).2 then some (fxAt l fs t a).1 else none) = L at *
    simp (disch := first | omega | (simp only [go_sem]; first | done | omega)) only [go_sem, hlt]
    refine fixedAt_a l fs ms[k] a (by omega) (by omega) ?_
    generalize fxAt l fs ms[k] a = u at *
    obtain ⟨x, b⟩ := u
    cases b with
    | true =>
      rw [if_pos rfl] at hnx
      dsimp only at hnx
      simp (disch := first | omega | (simp only [go_sem]; first | done | omega)) only [go_sem]
      (refine app_gr (enc := encS) (e := 69) (sz := 3) (bs := 24) (z := [.int .i64 0, .int .i64 0, .int .i64 0]) (L) (x) (by kernel_rfl) (by kernel_rfl) (by kernel_rfl) (by kernel_rfl) (by first | ((repeat first | exact at0 (by simp) | refine atS ?_); done) | assumption) (by first | (simp (disch := first | omega | (simp only [go_sem]; first | done | omega)) only [go_sem]; done) | (simp (disch := first | omega | (simp only [go_sem]; first | done | omega)) only [go_sem]; rfl) | (simp (disch := first | omega | (simp only [go_sem]; first | done | omega)) only [go_sem]; simp [go_sem]; done) | (simp (disch := first | omega | (simp only [go_sem]; first | done | omega)) only [go_sem]; simp [*]; done)) rfl (by decide) (by omega) (by omega) (by rfl) ?_)
      simp (disch := first | omega | (simp only [go_sem]; first | done | omega)) only [go_sem]
      refine Next.mk (k + 1) ⟨by omega, by omega⟩ ?_
      rw [hnx]
      ((try simp (disch := first | omega | (simp only [go_sem]; first | done | omega)) only [go_sem]); (first | refine WkL.pick [0] ?_ ?_ rfl ?_ ?_ ?_ ?_ | refine WkL.pick [1] ?_ ?_ rfl ?_ ?_ ?_ ?_ | refine WkL.pick [2] ?_ ?_ rfl ?_ ?_ ?_ ?_ | refine WkL.pick [3] ?_ ?_ rfl ?_ ?_ ?_ ?_ | refine WkL.pick [4] ?_ ?_ rfl ?_ ?_ ?_ ?_ | refine WkL.pick [5] ?_ ?_ rfl ?_ ?_ ?_ ?_ | refine WkL.pick [6] ?_ ?_ rfl ?_ ?_ ?_ ?_ | refine WkL.pick [7] ?_ ?_ rfl ?_ ?_ ?_ ?_ | refine WkL.pick [8] ?_ ?_ rfl ?_ ?_ ?_ ?_ | refine WkL.pick [9] ?_ ?_ rfl ?_ ?_ ?_ ?_ | refine WkL.pick [10] ?_ ?_ rfl ?_ ?_ ?_ ?_ | refine WkL.pick [11] ?_ ?_ rfl ?_ ?_ ?_ ?_ | refine WkL.pick [12] ?_ ?_ rfl ?_ ?_ ?_ ?_ | refine WkL.pick [13] ?_ ?_ rfl ?_ ?_ ?_ ?_ | refine WkL.pick [14] ?_ ?_ rfl ?_ ?_ ?_ ?_ | refine WkL.pick [15] ?_ ?_ rfl ?_ ?_ ?_ ?_) <;> first | assumption | exact HOk.str (by assumption) | (simp; done) | (simp; omega) | (simp [pureO_gr, AObj.pureO, pureL, go_sem, AC.pure]; done) | (simp only [List.all_cons, List.all_nil, Bool.and_true]; exact pureO_gr (pureL_map _ (fun x => by simp [go_sem, AC.pure]))) | ((try simp only [List.map_cons, List.map_nil, av_ren_gr]); simp [AV.ren, AV.ren1, AC.ren, renP, pickS]; first | done | omega) | (simp only [List.forall_mem_cons, List.not_mem_nil, false_implies, implies_true, and_true]; (repeat' apply And.intro) <;> first | trivial | exact grV_ok (by simp) _ | exact okN_grO (fun x => by simp [go_sem, AC.pure]) | exact okN_map (fun x => by simp [go_sem, AC.pure]) | (simp [AV.ok, AV.ok1, AC.ok]; done) | (simp [AV.ok, AV.ok1, AC.ok]; omega) | (simp [AObj.okN, AC.ok]; done)) | (simp [AObj.okN]; done))
    | false =>
      rw [if_neg (by simp), List.append_nil] at hnx
      simp (disch := first | omega | (simp only [go_sem]; first | done | omega)) only [go_sem]
      refine Next.mk (k + 1) ⟨by omega, by omega⟩ ?_
      rw [hnx]
      ((try simp (disch := first | omega | (simp only [go_sem]; first | done | omega)) only [go_sem]); (first | refine WkL.pick [0] ?_ ?_ rfl ?_ ?_ ?_ ?_ | refine WkL.pick [1] ?_ ?_ rfl ?_ ?_ ?_ ?_ | refine WkL.pick [2] ?_ ?_ rfl ?_ ?_ ?_ ?_ | refine WkL.pick [3] ?_ ?_ rfl ?_ ?_ ?_ ?_ | refine WkL.pick [4] ?_ ?_ rfl ?_ ?_ ?_ ?_ | refine WkL.pick [5] ?_ ?_ rfl ?_ ?_ ?_ ?_ | refine WkL.pick [6] ?_ ?_ rfl ?_ ?_ ?_ ?_ | refine WkL.pick [7] ?_ ?_ rfl ?_ ?_ ?_ ?_ | refine WkL.pick [8] ?_ ?_ rfl ?_ ?_ ?_ ?_ | refine WkL.pick [9] ?_ ?_ rfl ?_ ?_ ?_ ?_ | refine WkL.pick [10] ?_ ?_ rfl ?_ ?_ ?_ ?_ | refine WkL.pick [11] ?_ ?_ rfl ?_ ?_ ?_ ?_ | refine WkL.pick [12] ?_ ?_ rfl ?_ ?_ ?_ ?_ | refine WkL.pick [13] ?_ ?_ rfl ?_ ?_ ?_ ?_ | refine WkL.pick [14] ?_ ?_ rfl ?_ ?_ ?_ ?_ | refine WkL.pick [15] ?_ ?_ rfl ?_ ?_ ?_ ?_) <;> first | assumption | exact HOk.str (by assumption) | (simp; done) | (simp; omega) | (simp [pureO_gr, AObj.pureO, pureL, go_sem, AC.pure]; done) | (simp only [List.all_cons, List.all_nil, Bool.and_true]; exact pureO_gr (pureL_map _ (fun x => by simp [go_sem, AC.pure]))) | ((try simp only [List.map_cons, List.map_nil, av_ren_gr]); simp [AV.ren, AV.ren1, AC.ren, renP, pickS]; first | done | omega) | (simp only [List.forall_mem_cons, List.not_mem_nil, false_implies, implies_true, and_true]; (repeat' apply And.intro) <;> first | trivial | exact grV_ok (by simp) _ | exact okN_grO (fun x => by simp [go_sem, AC.pure]) | exact okN_map (fun x => by simp [go_sem, AC.pure]) | (simp [AV.ok, AV.ok1, AC.ok]; done) | (simp [AV.ok, AV.ok1, AC.ok]; omega) | (simp [AObj.okN, AC.ok]; done)) | (simp [AObj.okN]; done))
  · have hkk : k = ms.length := by omega
    subst hkk
    have hln : (ms.filterMap fun t => if (fxAt l fs t a).2 then some (fxAt l fs t a).1 else none).length ≤ 2000 := by
      have := List.length_filterMap_le (fun t => if (fxAt l fs t a).2 then some (fxAt l fs t a).1 else none) ms
      omega
    rw [List.take_length]
    generalize ms.filterMap (fun t => if (fxAt l fs t a).2 then some (fxAt l fs t a).1 else none) = L at *
    have h5 : ¬ (5000 : Int) < L.length := by omega
    simp (disch := first | omega | (simp only [go_sem]; first | done | omega)) only [go_sem, h5]
    exact Ret.frzGrT 0 hH (Nat.le_refl _) rfl (pureL_map _ (fun x => by simp [go_sem, AC.pure])) rfl (map_grV _ _ _).symm hk
end Go.Proofs.YtgcjenfdndhhpaaGreat
