/- Fixes: their order, who made them twice, and what is wrong with a list of them. Condition: names are not longer than a machine holds. -/
import Derived.Test.YtgcjenfdndhhpaaGreatDoorHVFixF
namespace Go.Proofs.YtgcjenfdndhhpaaGreatDoor
open Go Go.RowKit
set_option maxRecDepth 100000
set_option linter.all false
set_option maxHeartbeats 1000000
variable {H : Hp} {K : AV → Hp → Prop}
def fxC (a b : Fix) : Int := if a.made ≠ b.made then sgn a.made b.made else if a.by_ ≠ b.by_ then cmpS a.by_ b.by_ else sgn a.no b.no
theorem fxC_flip (a b : Fix) : fxC b a = -fxC a b := by
  have h1 := cmpS_flip a.by_ b.by_
  unfold fxC sgn
  grind
theorem fxC_go (a b : Fix) : firstE [cmpI a.made b.made, cmpS a.by_ b.by_, cmpI a.no b.no] = fxC a b := by
  have h1 := cmpS_eq a.by_ b.by_
  simp only [firstE, fxC, sgn, cmpI]
  by_cases h : a.made = b.made
  · by_cases h2 : a.by_ = b.by_
    · grind
    · grind
  · grind
theorem byMade_a (a b : Fix) (hk : K (.c (.int .i64 (fxC a b))) H) : ACalls Tryz.prog 67 [.agg (encF a), .agg (encF b)] H K := by
  refine acalls Tryz.func67 rfl (by kernel_rfl) (by simp (disch := first | omega | (simp only [go_sem]; first | done | omega)) only [go_sem]) (fun hH => ?_)
  simp (disch := first | omega | (simp only [go_sem]; first | done | omega)) only [go_sem]
  refine w_drawS specA_ok (by kernel_rfl) (by decide +kernel) ?_
  simp (disch := first | omega | (simp only [go_sem]; first | done | omega)) only [go_sem]
  refine cmpOr_lit (cmpI a.made b.made) (cmpS a.by_ b.by_) (cmpI a.no b.no) (by first | ((repeat first | exact at0 (by simp) | refine atS ?_); done) | assumption) rfl rfl ?_
  rw [fxC_go]
  simp (disch := first | omega | (simp only [go_sem]; first | done | omega)) only [go_sem]
  exact Ret.drop hH (Nat.le_refl _) trivial hk
theorem fixOrder_a (a b : Fix) (h : -1000000000000000 ≤ a.made ∧ a.made ≤ 1000000000000000) (h2 : -1000000000000000 ≤ b.made ∧ b.made ≤ 1000000000000000) (h3 : -1000000000000000 ≤ a.no ∧ a.no ≤ 1000000000000000) (h4 : -1000000000000000 ≤ b.no ∧ b.no ≤ 1000000000000000) (hk : K (.c (.int .i64 (fxC a b))) H) : ACalls Tryz.prog 119 [.agg (encF a), .agg (encF b)] H K := by
  refine acalls Tryz.func119 rfl (by kernel_rfl) (by simp (disch := first | omega | (simp only [go_sem]; first | done | omega)) only [go_sem]) (fun hH => ?_)
  simp (disch := first | omega | (simp only [go_sem]; first | done | omega)) only [go_sem]
  repeat' (first | ((first | refine acond_d ?_ ?_ | refine acond_b ?_ ?_ | refine ag_d ?_ ?_ | refine ag_n ?_ ?_ | refine ag_bt ?_ ?_ | refine ag_bf ?_ ?_) <;> intro c <;> try simp (disch := first | omega | (simp only [go_sem]; first | done | omega)) only [go_sem, c]) | ((first | refine w_draw (by kernel_rfl) (by decide +kernel) ?_ | refine cmpStr_a _ _ ?_ | refine sign_a _ _ _ ?_) <;> try simp (disch := first | omega | (simp only [go_sem]; first | done | omega)) only [go_sem]))
  all_goals (first | refine Ret.sameE (Nat.le_refl _) (by assumption) ?_ | refine Ret.dropE (by assumption) (Nat.le_refl _) (by assumption) (by simp [AV.ok, AV.ok1, AC.ok]) ?_) <;> grind [fxC, sgn]
/-- one author and number -/
def sameX (a b : Fix) : Bool := decide (a.by_ = b.by_) && decide (a.no = b.no)
theorem sameFix_a (a b : Fix) (hk : K (.c (.bool (sameX a b))) H) : ACalls Tryz.prog 123 [.agg (encF a), .agg (encF b)] H K := by
  unfold sameX at hk
  by_cases h : a.by_ = b.by_
  · rw [decide_eq_true h, Bool.true_and] at hk
    refine acalls Tryz.func123 rfl (by kernel_rfl) (by simp (disch := first | omega | (simp only [go_sem]; first | done | omega)) only [go_sem]) (fun hH => ?_)
    simp (disch := first | omega | (simp only [go_sem]; first | done | omega)) only [go_sem, h]
    exact Ret.drop hH (Nat.le_refl _) trivial hk
  · rw [decide_eq_false h, Bool.false_and] at hk
    refine acalls Tryz.func123 rfl (by kernel_rfl) (by simp (disch := first | omega | (simp only [go_sem]; first | done | omega)) only [go_sem]) (fun hH => ?_)
    simp (disch := first | omega | (simp only [go_sem]; first | done | omega)) only [go_sem, h]
    exact Ret.drop hH (Nat.le_refl _) trivial hk
def twG : List Fix → List Fix → Bool
  | _, [] => false
  | pre, x :: t => pre.any (fun o => sameX o x) || twG (pre ++ [x]) t
def twF (l : List Fix) : Bool := twG [] l
theorem twG_next {l : List Fix} {k : Nat} (h : k < l.length) : twG (l.take k) (l.drop k) = ((l.take k).any (fun o => sameX o l[k]) || twG (l.take (k + 1)) (l.drop (k + 1))) := by
  rw [List.drop_eq_getElem_cons h, twG, List.take_succ_eq_append_getElem h]
def encAu (x : Fix) : AV × AV := (.agg [.str x.by_, .int .i64 x.no], .c (.bool true))
@[go_sem] theorem mapK_au : mapK Tryz.prog 188 = some 190 := (by kernel_rfl)
@[go_sem] theorem mapZ_au : (mapE Tryz.prog 188).bind (zeroA Tryz.prog) = some (.c (.bool false)) := (by kernel_rfl)
theorem fields_au : fieldsK Tryz.prog 190 = some [(0, 3), (1, 1)] := (by kernel_rfl)
theorem find_any {α : Type} (p : α → Bool) (l : List α) : (l.find? p).isSome = l.any p := by
  induction l with
  | nil => rfl
  | cons x t ih => rw [List.find?_cons, List.any_cons]; cases p x <;> simp [ih]
theorem look_au (x : Fix) (S : List Fix) (ht : keyT Tryz.prog 190 (.agg [.str x.by_, .int .i64 x.no]) = true) : mapGet Tryz.prog 190 (.agg [.str x.by_, .int .i64 x.no]) (some (.c (.bool false))) (S.map encAu) = some (.c (.bool (S.any fun o => sameX o x)), S.any fun o => sameX o x) := by
  rw [get_of (e := encAu) (p := fun y => decide (x.by_ = y.by_) && decide (x.no = y.no)) ht (findA_si fields_au x.by_ x.no (fun y : Fix => y.by_) (fun y : Fix => y.no) (fun _ : Fix => .c (.bool true)) S)]
  have e : (fun o => sameX o x) = fun y : Fix => decide (x.by_ = y.by_) && decide (x.no = y.no) := by
    funext o
    unfold sameX
    simp only [eq_comm]
  rw [e, ← find_any]
  cases List.find? (fun y : Fix => decide (x.by_ = y.by_) && decide (x.no = y.no)) S <;> rfl
theorem put_au (x : Fix) (S : List Fix) (ht : keyT Tryz.prog 190 (.agg [.str x.by_, .int .i64 x.no]) = true) (h : (S.any fun o => sameX o x) = false) : mapPut Tryz.prog 190 (.agg [.str x.by_, .int .i64 x.no]) (.c (.bool true)) (S.map encAu) = some ((S ++ [x]).map encAu) := by
  have h1 := put_of (P := Tryz.prog) (e := encAu) (p := fun y => decide (x.by_ = y.by_) && decide (x.no = y.no)) (x := x) (l := S) ht (findA_si fields_au x.by_ x.no (fun y : Fix => y.by_) (fun y : Fix => y.no) (fun _ : Fix => .c (.bool true)) S) rfl
  have h2 : upsert (fun y : Fix => decide (x.by_ = y.by_) && decide (x.no = y.no)) x S = S ++ [x] := by
    unfold upsert
    rw [List.findIdx?_eq_none_iff.2 (by
      intro y hy
      have := List.any_eq_false.1 h y hy
      unfold sameX at this
      simp only [eq_comm] at this ⊢
      simpa using this)]
  rw [h2] at h1
  exact h1
theorem au_okN (S : List Fix) (n : Nat) : (mpO (S.map encAu)).okN n := by
  intro p hp
  obtain ⟨x, _, rfl⟩ := List.mem_map.1 hp
  exact ⟨by intro y hy; simp only [List.mem_cons, List.not_mem_nil, or_false] at hy; rcases hy with rfl | rfl <;> trivial, trivial⟩
attribute [simp] au_okN
theorem twice_a (l : List Fix) (hl : l.length ≤ 1000000) (hk : K (.c (.bool (twF l))) H) : ACalls Tryz.prog 69 [.c (.lst 11 (l.map encF))] H K := by
  refine acalls Tryz.func69 rfl (by kernel_rfl) (by simp (disch := first | omega | (simp only [go_sem]; first | done | omega)) only [go_sem]) (fun hH => ?_)
  simp (disch := first | omega | (simp only [go_sem]; first | done | omega)) only [go_sem]
  refine AWp.loop (H.length + 1) [3, 8, 9] [10] (fun (k : Nat) => k ≤ l.length ∧ twG (l.take k) (l.drop k) = twF l) (fun (k : Nat) => [(10, (.c (.int .i64 k)))]) (fun (k : Nat) => H ++ [mpO ((l.take k).map encAu)]) (fun (k : Nat) => l.length - k) (by kernel_rfl) (fun _ => rfl) (by kernel_rfl) (by first | (simp; done) | omega) (by first | (simp; done) | (simp; omega) | omega) (by (try simp only [List.forall_mem_cons, List.not_mem_nil, false_implies, implies_true, and_true]); (try simp (disch := first | omega | (simp only [go_sem]; first | done | omega)) only [go_sem]); all_goals first | trivial | (simp [AV.ok, AV.ok1, AC.ok]; done) | (simp [AV.ok, AV.ok1, AC.ok]; omega) | (simp [AV.ok, AV.ok1, AC.ok]; assumption) | ((repeat' apply And.intro) <;> first | trivial | (simp [AV.ok, AV.ok1, AC.ok]; done) | (simp [AV.ok, AV.ok1, AC.ok]; omega) | (simp [AV.ok, AV.ok1, AC.ok]; assumption) | (refine grV_ok ?_ _; first | (simp; done) | (simp; omega) | omega))) ?_ (fun k q _ _ => ?_)
  · refine Next.mk 0 ⟨Nat.zero_le _, rfl⟩ ?_
    (try simp (disch := first | omega | (simp only [go_sem]; first | done | omega)) only [go_sem]); (first | refine WkL.eq ?_ ?_ | refine WkL.rest (by assumption) ?_ ?_ ?_ | refine WkL.keepL (by assumption) rfl ?_ ?_ ?_ ?_) <;> first | rfl | (simp; done) | (simp; omega) | (simp only [List.cons.injEq, AV.c.injEq, AC.int.injEq, AC.bool.injEq, AC.str.injEq, and_true, true_and, Int.natCast_add, Int.natCast_one, Int.cast_ofNat_Int]; omega) | (simp [AV.ok, AV.ok1, AC.ok]; done) | (simp [AV.ok, AV.ok1, AC.ok]; omega) | (simp only [List.forall_mem_cons, List.not_mem_nil, false_implies, implies_true, and_true]; (repeat' apply And.intro) <;> first | exact okN_map (fun x => by simp [go_sem, AC.pure]) | exact okN_grO (fun x => by simp [go_sem, AC.pure]) | (simp [AObj.okN, AC.ok]; done) | (simp [AObj.okN, AC.ok]; omega)) | (simp [*]; done) | grind
  obtain ⟨q1, q2⟩ := q
  by_cases hlt : k < l.length
  · obtain ⟨x, hx⟩ : ∃ x, x = l[k] := ⟨_, rfl⟩
    have hnx := twG_next hlt
    rw [← hx, q2] at hnx
    have htk : l.take (k + 1) = l.take k ++ [x] := by rw [List.take_succ_eq_append_getElem hlt, ← hx]
    simp (disch := first | omega | (simp only [go_sem]; first | done | omega)) only [go_sem, hlt, ← hx]
    refine look_mp (by kernel_rfl) (look_au x _ (by kernel_rfl)) rfl ?_
    cases ha : (l.take k).any (fun o => sameX o x) with
    | true =>
      rw [ha, Bool.true_or] at hnx
      rw [hnx] at hk
      simp (disch := first | omega | (simp only [go_sem]; first | done | omega)) only [go_sem]
      exact Ret.drop hH (Nat.le_refl _) trivial hk
    | false =>
      rw [ha, Bool.false_or] at hnx
      simp (disch := first | omega | (simp only [go_sem]; first | done | omega)) only [go_sem]
      refine mup_mp (by kernel_rfl) (put_au x _ (by kernel_rfl) ha) ?_
      rw [← htk]
      simp (disch := first | omega | (simp only [go_sem]; first | done | omega)) only [go_sem]
      refine Next.mk (k + 1) ⟨⟨by omega, hnx.symm⟩, by omega⟩ ?_
      clear hnx htk q2 ha
      generalize l.take (k + 1) = T
      clear hx
      (try simp (disch := first | omega | (simp only [go_sem]; first | done | omega)) only [go_sem]); (first | refine WkL.eq ?_ ?_ | refine WkL.rest (by assumption) ?_ ?_ ?_ | refine WkL.keepL (by assumption) rfl ?_ ?_ ?_ ?_) <;> first | rfl | (simp; done) | (simp; omega) | (simp only [List.cons.injEq, AV.c.injEq, AC.int.injEq, AC.bool.injEq, AC.str.injEq, and_true, true_and, Int.natCast_add, Int.natCast_one, Int.cast_ofNat_Int]; omega) | (simp [AV.ok, AV.ok1, AC.ok]; done) | (simp [AV.ok, AV.ok1, AC.ok]; omega) | (simp only [List.forall_mem_cons, List.not_mem_nil, false_implies, implies_true, and_true]; (repeat' apply And.intro) <;> first | exact okN_map (fun x => by simp [go_sem, AC.pure]) | exact okN_grO (fun x => by simp [go_sem, AC.pure]) | (simp [AObj.okN, AC.ok]; done) | (simp [AObj.okN, AC.ok]; omega)) | (simp [*]; done) | grind
  · rw [List.drop_eq_nil_of_le (by omega)] at q2
    have e : twF l = false := q2.symm
    rw [e] at hk
    simp (disch := first | omega | (simp only [go_sem]; first | done | omega)) only [go_sem, hlt]
    exact Ret.drop hH (Nat.le_refl _) trivial hk
def fxS (p : Option Fix) (a : Fix) : Int := if fxErr a ≠ 0 then fxErr a else match p with | none => 0 | some b => if fxC a b ≤ 0 then 7 else 0
def fxGo : Option Fix → List Fix → Int
  | _, [] => 0
  | p, a :: t => if fxS p a ≠ 0 then fxS p a else fxGo (some a) t
/-- what is wrong with fixes -/
def fxF (l : List Fix) : Int := if 2000 < l.length then 2 else if fxGo none l ≠ 0 then fxGo none l else if twF l = true then 6 else 0
def prevF (l : List Fix) (k : Nat) : Option Fix := if k = 0 then none else l[k - 1]?
theorem fxGo_next {l : List Fix} {k : Nat} (h : k < l.length) : fxGo (prevF l k) (l.drop k) = if fxS (prevF l k) l[k] ≠ 0 then fxS (prevF l k) l[k] else fxGo (prevF l (k + 1)) (l.drop (k + 1)) := by
  rw [List.drop_eq_getElem_cons h, fxGo]
  have : prevF l (k + 1) = some l[k] := by unfold prevF; rw [if_neg (by omega), Nat.add_sub_cancel, List.getElem?_eq_getElem h]
  rw [this]
theorem fxErr_bd {a : Fix} (h : fxErr a = 0) : (0 ≤ a.made ∧ a.made ≤ 345686399999) ∧ 1 ≤ a.no ∧ a.no ≤ 1000000 := by
  unfold fxErr at h
  split at h
  · omega
  · split at h
    · omega
    · omega
theorem checkFixes_a (l : List Fix) (hsz : ∀ x ∈ l, x.by_.size ≤ 1099511627776) (hl : l.length ≤ 1000000) (hk : K (.c (.int .i64 (fxF l))) H) : ACalls Tryz.prog 64 [.c (.lst 11 (l.map encF))] H K := by
  unfold fxF at hk
  by_cases h0 : 2000 < l.length
  · rw [if_pos h0] at hk
    have h0' : (2000 : Int) < l.length := by omega
    refine acalls Tryz.func64 rfl (by kernel_rfl) (by simp (disch := first | omega | (simp only [go_sem]; first | done | omega)) only [go_sem]) (fun hH => ?_)
    simp (disch := first | omega | (simp only [go_sem]; first | done | omega)) only [go_sem, decide_eq_true h0']
    exact Ret.same (Nat.le_refl _) hk
  rw [if_neg h0] at hk
  have h0' : ¬ (2000 : Int) < l.length := by omega
  refine acalls Tryz.func64 rfl (by kernel_rfl) (by simp (disch := first | omega | (simp only [go_sem]; first | done | omega)) only [go_sem]) (fun hH => ?_)
  simp (disch := first | omega | (simp only [go_sem]; first | done | omega)) only [go_sem, decide_eq_false h0']
  refine AWp.loop (H.length) [0, 9, 10] [11] (fun (k : Nat) => k ≤ l.length ∧ fxGo (prevF l k) (l.drop k) = fxGo none l) (fun (k : Nat) => [(11, (.c (.int .i64 k)))]) (fun (k : Nat) => H) (fun (k : Nat) => l.length - k) (by kernel_rfl) (fun _ => rfl) (by kernel_rfl) (by first | (simp; done) | omega) (by first | (simp; done) | (simp; omega) | omega) (by (try simp only [List.forall_mem_cons, List.not_mem_nil, false_implies, implies_true, and_true]); (try simp (disch := first | omega | (simp only [go_sem]; first | done | omega)) only [go_sem]); all_goals first | trivial | (simp [AV.ok, AV.ok1, AC.ok]; done) | (simp [AV.ok, AV.ok1, AC.ok]; omega) | (simp [AV.ok, AV.ok1, AC.ok]; assumption) | ((repeat' apply And.intro) <;> first | trivial | (simp [AV.ok, AV.ok1, AC.ok]; done) | (simp [AV.ok, AV.ok1, AC.ok]; omega) | (simp [AV.ok, AV.ok1, AC.ok]; assumption) | (refine grV_ok ?_ _; first | (simp; done) | (simp; omega) | omega))) ?_ (fun k q _ _ => ?_)
  · refine Next.mk 0 ⟨Nat.zero_le _, rfl⟩ ?_
    (try simp (disch := first | omega | (simp only [go_sem]; first | done | omega)) only [go_sem]); (first | refine WkL.eq ?_ ?_ | refine WkL.rest (by assumption) ?_ ?_ ?_ | refine WkL.keepL (by assumption) rfl ?_ ?_ ?_ ?_) <;> first | rfl | (simp; done) | (simp; omega) | (simp only [List.cons.injEq, AV.c.injEq, AC.int.injEq, AC.bool.injEq, AC.str.injEq, and_true, true_and, Int.natCast_add, Int.natCast_one, Int.cast_ofNat_Int]; omega) | (simp [AV.ok, AV.ok1, AC.ok]; done) | (simp [AV.ok, AV.ok1, AC.ok]; omega) | (simp only [List.forall_mem_cons, List.not_mem_nil, false_implies, implies_true, and_true]; (repeat' apply And.intro) <;> first | exact okN_map (fun x => by simp [go_sem, AC.pure]) | exact okN_grO (fun x => by simp [go_sem, AC.pure]) | (simp [AObj.okN, AC.ok]; done) | (simp [AObj.okN, AC.ok]; omega)) | (simp [*]; done) | grind
  obtain ⟨q1, q3⟩ := q
  by_cases hlt : k < l.length
  · obtain ⟨x, hx⟩ : ∃ x, x = l[k] := ⟨_, rfl⟩
    have hstep := fxGo_next hlt
    rw [q3, ← hx] at hstep
    have z1 := hsz x (hx ▸ List.getElem_mem hlt)
    simp (disch := first | omega | (simp only [go_sem]; first | done | omega)) only [go_sem, hlt, ← hx]
    refine fixFault_a x z1 ?_
    by_cases he : fxErr x = 0
    · by_cases hk0 : k = 0
      · subst hk0
        have e : fxS (prevF l 0) x = 0 := by unfold fxS prevF; simp [he]
        rw [e] at hstep
        simp (disch := first | omega | (simp only [go_sem]; first | done | omega)) only [go_sem, he]
        refine w_draw (by kernel_rfl) (by decide +kernel) ?_
        simp (disch := first | omega | (simp only [go_sem]; first | done | omega)) only [go_sem, he]
        refine Next.mk 1 ⟨⟨by omega, by rw [hstep]; rfl⟩, by omega⟩ ?_
        (try simp (disch := first | omega | (simp only [go_sem]; first | done | omega)) only [go_sem]); (first | refine WkL.eq ?_ ?_ | refine WkL.rest (by assumption) ?_ ?_ ?_ | refine WkL.keepL (by assumption) rfl ?_ ?_ ?_ ?_) <;> first | rfl | (simp; done) | (simp; omega) | (simp only [List.cons.injEq, AV.c.injEq, AC.int.injEq, AC.bool.injEq, AC.str.injEq, and_true, true_and, Int.natCast_add, Int.natCast_one, Int.cast_ofNat_Int]; omega) | (simp [AV.ok, AV.ok1, AC.ok]; done) | (simp [AV.ok, AV.ok1, AC.ok]; omega) | (simp only [List.forall_mem_cons, List.not_mem_nil, false_implies, implies_true, and_true]; (repeat' apply And.intro) <;> first | exact okN_map (fun x => by simp [go_sem, AC.pure]) | exact okN_grO (fun x => by simp [go_sem, AC.pure]) | (simp [AObj.okN, AC.ok]; done) | (simp [AObj.okN, AC.ok]; omega)) | (simp [*]; done) | grind
      · obtain ⟨y, hy⟩ : ∃ y, y = l[k - 1] := ⟨_, rfl⟩
        have e : fxS (prevF l k) x = if fxC x y ≤ 0 then 7 else 0 := by unfold fxS prevF; rw [if_neg (by simp [he]), if_neg hk0, List.getElem?_eq_getElem (by omega), ← hy]
        rw [e] at hstep
        have hk1 : (0 : Int) < k := by omega
        have hix : ((k : Int) - 1).toNat = k - 1 := by omega
        simp (disch := first | omega | (simp only [go_sem]; first | done | omega)) only [go_sem, he]
        repeat' (first | ((first | refine acond_d ?_ ?_ | refine acond_b ?_ ?_ | refine ag_d ?_ ?_ | refine ag_n ?_ ?_ | refine ag_bt ?_ ?_ | refine ag_bf ?_ ?_) <;> intro c <;> try simp (disch := first | omega | (simp only [go_sem]; first | done | omega)) only [go_sem, c, decide_eq_true hk1, hix, ← hy, hlt]) | ((first | refine w_draw (by kernel_rfl) (by decide +kernel) ?_ | refine byMade_a x y ?_) <;> try simp (disch := first | omega | (simp only [go_sem]; first | done | omega)) only [go_sem, decide_eq_true hk1, hix, ← hy, hlt]))
        · rw [if_pos c, if_pos (by decide)] at hstep
          rw [hstep, if_pos (by decide)] at hk
          exact Ret.drop hH (Nat.le_refl _) trivial hk
        · rw [if_neg c, if_neg (by simp)] at hstep
          refine Next.mk (k + 1) ⟨⟨by omega, hstep.symm⟩, by omega⟩ ?_
          (try simp (disch := first | omega | (simp only [go_sem]; first | done | omega)) only [go_sem]); (first | refine WkL.eq ?_ ?_ | refine WkL.rest (by assumption) ?_ ?_ ?_ | refine WkL.keepL (by assumption) rfl ?_ ?_ ?_ ?_) <;> first | rfl | (simp; done) | (simp; omega) | (simp only [List.cons.injEq, AV.c.injEq, AC.int.injEq, AC.bool.injEq, AC.str.injEq, and_true, true_and, Int.natCast_add, Int.natCast_one, Int.cast_ofNat_Int]; omega) | (simp [AV.ok, AV.ok1, AC.ok]; done) | (simp [AV.ok, AV.ok1, AC.ok]; omega) | (simp only [List.forall_mem_cons, List.not_mem_nil, false_implies, implies_true, and_true]; (repeat' apply And.intro) <;> first | exact okN_map (fun x => by simp [go_sem, AC.pure]) | exact okN_grO (fun x => by simp [go_sem, AC.pure]) | (simp [AObj.okN, AC.ok]; done) | (simp [AObj.okN, AC.ok]; omega)) | (simp [*]; done) | grind
    · have e : fxS (prevF l k) x = fxErr x := by unfold fxS; rw [if_pos he]
      rw [e, if_pos he] at hstep
      rw [hstep, if_pos he] at hk
      simp (disch := first | omega | (simp only [go_sem]; first | done | omega)) only [go_sem, he]
      exact Ret.drop hH (Nat.le_refl _) trivial hk
  · rw [List.drop_eq_nil_of_le (by omega)] at q3
    have q4 : fxGo none l = 0 := by rw [← q3]; cases prevF l k <;> rfl
    rw [q4, if_neg (by simp)] at hk
    simp (disch := first | omega | (simp only [go_sem]; first | done | omega)) only [go_sem, hlt]
    refine twice_a l hl ?_
    cases h2 : twF l with
    | true =>
      rw [h2, if_pos rfl] at hk
      simp (disch := first | omega | (simp only [go_sem]; first | done | omega)) only [go_sem]
      exact Ret.same (Nat.le_refl _) hk
    | false =>
      rw [h2, if_neg (by simp)] at hk
      simp (disch := first | omega | (simp only [go_sem]; first | done | omega)) only [go_sem]
      exact Ret.same (Nat.le_refl _) hk
theorem indexLstFx_a (f : FuncId) (caps : List (Nat × Nat × Nat)) (p : Fix → Bool) (he : entersB Tryz.prog f = true) (hc : ∀ (a b c : Nat), (a, b, c) ∈ caps → a < H.length) (l : List Fix) (hf : ∀ (x : Fix) (K : AV → Hp → Prop), x ∈ l → K (.c (.bool (p x))) H → ACalls Tryz.prog f (.agg (encF x) :: caps.map fun q => .c (.ptr (some q))) H K) (hlen : l.length ≤ 1099511627776)
    (hk0 : l.any p = false → K (.c (.int .i64 (-1))) H) (hk1 : ∀ k : Nat, (h : k < l.length) → p l[k] = true → (∀ j (h : j < l.length), j < k → p l[j] = false) → K (.c (.int .i64 k)) H) : ACalls Tryz.prog 167 [.c (.lst 11 (l.map encF)), .c (.fn f [] caps)] H K := by
  refine acalls Tryz.func167 rfl (by kernel_rfl) (by simp (disch := first | omega | (simp only [go_sem]; first | done | omega)) only [go_sem]) (fun hH => ?_)
  simp (disch := first | omega | (simp only [go_sem]; first | done | omega)) only [go_sem]
  refine AWp.loop (H.length) [0, 1, 7] [8] (fun (k : Nat) => k ≤ l.length ∧ ∀ j (h : j < l.length), j < k → p l[j] = false) (fun (k : Nat) => [(8, (.c (.int .i64 k)))]) (fun (k : Nat) => H) (fun (k : Nat) => l.length - k) (by kernel_rfl) (fun _ => rfl) (by kernel_rfl) (by first | (simp; done) | omega) (by first | (simp; done) | (simp; omega) | omega) (by (try simp only [List.forall_mem_cons, List.not_mem_nil, false_implies, implies_true, and_true]); (try simp (disch := first | omega | (simp only [go_sem]; first | done | omega)) only [go_sem]); all_goals first | trivial | (simp [AV.ok, AV.ok1, AC.ok]; done) | (simp [AV.ok, AV.ok1, AC.ok]; omega) | (simp [AV.ok, AV.ok1, AC.ok]; assumption) | ((repeat' apply And.intro) <;> first | trivial | (simp [AV.ok, AV.ok1, AC.ok]; done) | (simp [AV.ok, AV.ok1, AC.ok]; omega) | (simp [AV.ok, AV.ok1, AC.ok]; assumption) | (refine grV_ok ?_ _; first | (simp; done) | (simp; omega) | omega))) ?_ (fun k hk1' _ _ => ?_)
  · exact Next.mk 0 (by simp) (by (try simp (disch := first | omega | (simp only [go_sem]; first | done | omega)) only [go_sem]); (first | refine WkL.eq ?_ ?_ | refine WkL.rest (by assumption) ?_ ?_ ?_ | refine WkL.keepL (by assumption) rfl ?_ ?_ ?_ ?_) <;> first | rfl | (simp; done) | (simp; omega) | (simp only [List.cons.injEq, AV.c.injEq, AC.int.injEq, AC.bool.injEq, AC.str.injEq, and_true, true_and, Int.natCast_add, Int.natCast_one, Int.cast_ofNat_Int]; omega) | (simp [AV.ok, AV.ok1, AC.ok]; done) | (simp [AV.ok, AV.ok1, AC.ok]; omega) | (simp only [List.forall_mem_cons, List.not_mem_nil, false_implies, implies_true, and_true]; (repeat' apply And.intro) <;> first | exact okN_map (fun x => by simp [go_sem, AC.pure]) | exact okN_grO (fun x => by simp [go_sem, AC.pure]) | (simp [AObj.okN, AC.ok]; done) | (simp [AObj.okN, AC.ok]; omega)) | (simp [*]; done) | grind)
  obtain ⟨hk1', hk2⟩ := hk1'
  by_cases hlt : k < l.length
  · simp (disch := first | omega | (simp only [go_sem]; first | done | omega)) only [go_sem, he]
    refine hf l[k] _ (List.getElem_mem hlt) ?_
    simp (disch := first | omega | (simp only [go_sem]; first | done | omega)) only [go_sem]
    refine acond_b (fun c => ?_) (fun c => ?_)
    · simp (disch := first | omega | (simp only [go_sem]; first | done | omega)) only [go_sem]
      exact Ret.same (Nat.le_refl _) (hk1 k hlt c hk2)
    · simp (disch := first | omega | (simp only [go_sem]; first | done | omega)) only [go_sem]
      refine Next.mk (k + 1) ⟨⟨by omega, fun j h hj => ?_⟩, by omega⟩ (by (try simp (disch := first | omega | (simp only [go_sem]; first | done | omega)) only [go_sem]); (first | refine WkL.eq ?_ ?_ | refine WkL.rest (by assumption) ?_ ?_ ?_ | refine WkL.keepL (by assumption) rfl ?_ ?_ ?_ ?_) <;> first | rfl | (simp; done) | (simp; omega) | (simp only [List.cons.injEq, AV.c.injEq, AC.int.injEq, AC.bool.injEq, AC.str.injEq, and_true, true_and, Int.natCast_add, Int.natCast_one, Int.cast_ofNat_Int]; omega) | (simp [AV.ok, AV.ok1, AC.ok]; done) | (simp [AV.ok, AV.ok1, AC.ok]; omega) | (simp only [List.forall_mem_cons, List.not_mem_nil, false_implies, implies_true, and_true]; (repeat' apply And.intro) <;> first | exact okN_map (fun x => by simp [go_sem, AC.pure]) | exact okN_grO (fun x => by simp [go_sem, AC.pure]) | (simp [AObj.okN, AC.ok]; done) | (simp [AObj.okN, AC.ok]; omega)) | (simp [*]; done) | grind)
      rcases Nat.lt_or_ge j k with h1 | h1
      · exact hk2 j h h1
      · obtain rfl : j = k := by omega
        simpa using c
  · simp (disch := first | omega | (simp only [go_sem]; first | done | omega)) only [go_sem]
    refine Ret.same (Nat.le_refl _) (hk0 ?_)
    rw [List.any_eq_false]
    intro x hx
    obtain ⟨j, hj, rfl⟩ := List.getElem_of_mem hx
    simpa using hk2 j hj (by omega)
theorem contLstFx_a (f : FuncId) (caps : List (Nat × Nat × Nat)) (p : Fix → Bool) (he : entersB Tryz.prog f = true) (hc : ∀ (a b c : Nat), (a, b, c) ∈ caps → a < H.length) (l : List Fix) (hf : ∀ (x : Fix) (K : AV → Hp → Prop), x ∈ l → K (.c (.bool (p x))) H → ACalls Tryz.prog f (.agg (encF x) :: caps.map fun q => .c (.ptr (some q))) H K) (hlen : l.length ≤ 1099511627776)
    (hk : K (.c (.bool (l.any p))) H) : ACalls Tryz.prog 121 [.c (.lst 11 (l.map encF)), .c (.fn f [] caps)] H K := by
  refine acalls Tryz.func121 rfl (by kernel_rfl) (by simp (disch := first | omega | (simp only [go_sem]; first | done | omega)) only [go_sem]) (fun hH => ?_)
  simp (disch := first | omega | (simp only [go_sem]; first | done | omega)) only [go_sem]
  refine indexLstFx_a f caps p he hc l hf hlen (fun h => ?_) (fun k h1 h2 _ => ?_)
  · rw [h] at hk
    simp (disch := first | omega | (simp only [go_sem]; first | done | omega)) only [go_sem]
    exact Ret.same (Nat.le_refl _) hk
  · rw [show l.any p = true from List.any_eq_true.2 ⟨_, List.getElem_mem h1, h2⟩] at hk
    simp (disch := first | omega | (simp only [go_sem]; first | done | omega)) only [go_sem]
    exact Ret.same (Nat.le_refl _) hk
theorem ffFn_a (o x : Fix) {i ty : Nat} {own : Bool} (hi : H[i]? = some (.row ty 11 [encF x] own)) (hk : K (.c (.bool (sameX o x))) H) : ACalls Tryz.prog 122 [.agg (encF o), .c (.ptr (some (i, 0, 0)))] H K := by
  have hilt := getElem?_lt hi
  refine acalls Tryz.func122 rfl (by kernel_rfl) (by simp (disch := first | omega | (simp only [go_sem]; first | done | omega)) only [go_sem]) (fun hH => ?_)
  simp (disch := first | omega | (simp only [go_sem]; first | done | omega)) only [go_sem, hi]
  refine sameFix_a o x ?_
  simp (disch := first | omega | (simp only [go_sem]; first | done | omega)) only [go_sem]
  exact Ret.drop hH (Nat.le_refl _) trivial hk
theorem fixesFault_a (l : List Fix) (hsz : ∀ x ∈ l, x.by_.size ≤ 1099511627776) (hl : l.length ≤ 1000000) (hk : K (.c (.int .i64 (fxF l))) H) : ACalls Tryz.prog 62 [.c (.lst 11 (l.map encF))] H K := by
  unfold fxF at hk
  by_cases h0 : 2000 < l.length
  · rw [if_pos h0] at hk
    have h0' : (2000 : Int) < l.length := by omega
    refine acalls Tryz.func62 rfl (by kernel_rfl) (by simp (disch := first | omega | (simp only [go_sem]; first | done | omega)) only [go_sem]) (fun hH => ?_)
    simp (disch := first | omega | (simp only [go_sem]; first | done | omega)) only [go_sem, decide_eq_true h0']
    exact Ret.same (Nat.le_refl _) hk
  rw [if_neg h0] at hk
  have h0' : ¬ (2000 : Int) < l.length := by omega
  refine acalls Tryz.func62 rfl (by kernel_rfl) (by simp (disch := first | omega | (simp only [go_sem]; first | done | omega)) only [go_sem]) (fun hH => ?_)
  simp (disch := first | omega | (simp only [go_sem]; first | done | omega)) only [go_sem, decide_eq_false h0']
  refine AWp.loop (H.length) [0, 11, 12] [13] (fun (k : Nat) => k ≤ l.length ∧ fxGo (prevF l k) (l.drop k) = fxGo none l ∧ ∀ y, prevF l k = some y → fxErr y = 0) (fun (k : Nat) => [(13, (.c (.int .i64 k)))]) (fun (k : Nat) => H) (fun (k : Nat) => l.length - k) (by kernel_rfl) (fun _ => rfl) (by kernel_rfl) (by first | (simp; done) | omega) (by first | (simp; done) | (simp; omega) | omega) (by (try simp only [List.forall_mem_cons, List.not_mem_nil, false_implies, implies_true, and_true]); (try simp (disch := first | omega | (simp only [go_sem]; first | done | omega)) only [go_sem]); all_goals first | trivial | (simp [AV.ok, AV.ok1, AC.ok]; done) | (simp [AV.ok, AV.ok1, AC.ok]; omega) | (simp [AV.ok, AV.ok1, AC.ok]; assumption) | ((repeat' apply And.intro) <;> first | trivial | (simp [AV.ok, AV.ok1, AC.ok]; done) | (simp [AV.ok, AV.ok1, AC.ok]; omega) | (simp [AV.ok, AV.ok1, AC.ok]; assumption) | (refine grV_ok ?_ _; first | (simp; done) | (simp; omega) | omega))) ?_ (fun k q _ _ => ?_)
  · refine Next.mk 0 ⟨Nat.zero_le _, rfl, by intro y hy; cases hy⟩ ?_
    (try simp (disch := first | omega | (simp only [go_sem]; first | done | omega)) only [go_sem]); (first | refine WkL.eq ?_ ?_ | refine WkL.rest (by assumption) ?_ ?_ ?_ | refine WkL.keepL (by assumption) rfl ?_ ?_ ?_ ?_) <;> first | rfl | (simp; done) | (simp; omega) | (simp only [List.cons.injEq, AV.c.injEq, AC.int.injEq, AC.bool.injEq, AC.str.injEq, and_true, true_and, Int.natCast_add, Int.natCast_one, Int.cast_ofNat_Int]; omega) | (simp [AV.ok, AV.ok1, AC.ok]; done) | (simp [AV.ok, AV.ok1, AC.ok]; omega) | (simp only [List.forall_mem_cons, List.not_mem_nil, false_implies, implies_true, and_true]; (repeat' apply And.intro) <;> first | exact okN_map (fun x => by simp [go_sem, AC.pure]) | exact okN_grO (fun x => by simp [go_sem, AC.pure]) | (simp [AObj.okN, AC.ok]; done) | (simp [AObj.okN, AC.ok]; omega)) | (simp [*]; done) | grind
  obtain ⟨q1, q3, q4⟩ := q
  by_cases hlt : k < l.length
  · obtain ⟨x, hx⟩ : ∃ x, x = l[k] := ⟨_, rfl⟩
    have hstep := fxGo_next hlt
    have hpv : prevF l (k + 1) = some x := by unfold prevF; rw [if_neg (by omega), Nat.add_sub_cancel, List.getElem?_eq_getElem hlt, hx]
    rw [q3, ← hx] at hstep
    have z1 := hsz x (hx ▸ List.getElem_mem hlt)
    simp (disch := first | omega | (simp only [go_sem]; first | done | omega)) only [go_sem, hlt, ← hx]
    refine fixFaultR_a x z1 ?_
    by_cases he : fxErr x = 0
    · have hq4 : ∀ y, prevF l (k + 1) = some y → fxErr y = 0 := by intro y hy; rw [hpv] at hy; injection hy with hy; subst hy; exact he
      by_cases hk0 : k = 0
      · subst hk0
        have e : fxS (prevF l 0) x = 0 := by unfold fxS prevF; simp [he]
        rw [e] at hstep
        simp (disch := first | omega | (simp only [go_sem]; first | done | omega)) only [go_sem, he]
        refine w_draw (by kernel_rfl) (by decide +kernel) ?_
        simp (disch := first | omega | (simp only [go_sem]; first | done | omega)) only [go_sem, he]
        refine Next.mk 1 ⟨⟨by omega, by rw [hstep]; rfl, hq4⟩, by omega⟩ ?_
        (try simp (disch := first | omega | (simp only [go_sem]; first | done | omega)) only [go_sem]); (first | refine WkL.eq ?_ ?_ | refine WkL.rest (by assumption) ?_ ?_ ?_ | refine WkL.keepL (by assumption) rfl ?_ ?_ ?_ ?_) <;> first | rfl | (simp; done) | (simp; omega) | (simp only [List.cons.injEq, AV.c.injEq, AC.int.injEq, AC.bool.injEq, AC.str.injEq, and_true, true_and, Int.natCast_add, Int.natCast_one, Int.cast_ofNat_Int]; omega) | (simp [AV.ok, AV.ok1, AC.ok]; done) | (simp [AV.ok, AV.ok1, AC.ok]; omega) | (simp only [List.forall_mem_cons, List.not_mem_nil, false_implies, implies_true, and_true]; (repeat' apply And.intro) <;> first | exact okN_map (fun x => by simp [go_sem, AC.pure]) | exact okN_grO (fun x => by simp [go_sem, AC.pure]) | (simp [AObj.okN, AC.ok]; done) | (simp [AObj.okN, AC.ok]; omega)) | (simp [*]; done) | grind
      · obtain ⟨y, hy⟩ : ∃ y, y = l[k - 1] := ⟨_, rfl⟩
        have e : fxS (prevF l k) x = if fxC x y ≤ 0 then 7 else 0 := by unfold fxS prevF; rw [if_neg (by simp [he]), if_neg hk0, List.getElem?_eq_getElem (by omega), ← hy]
        have ey : fxErr y = 0 := q4 y (by unfold prevF; rw [if_neg hk0, List.getElem?_eq_getElem (by omega), ← hy])
        obtain ⟨b1, b2⟩ := fxErr_bd he
        obtain ⟨b3, b4⟩ := fxErr_bd ey
        rw [e] at hstep
        have hk1 : (0 : Int) < k := by omega
        have hix : ((k : Int) - 1).toNat = k - 1 := by omega
        have hfl := fxC_flip x y
        simp (disch := first | omega | (simp only [go_sem]; first | done | omega)) only [go_sem, he]
        repeat' (first | ((first | refine acond_d ?_ ?_ | refine acond_b ?_ ?_ | refine ag_d ?_ ?_ | refine ag_n ?_ ?_ | refine ag_bt ?_ ?_ | refine ag_bf ?_ ?_) <;> intro c <;> try simp (disch := first | omega | (simp only [go_sem]; first | done | omega)) only [go_sem, c, decide_eq_true hk1, hix, ← hy, hlt]) | ((first | refine w_draw (by kernel_rfl) (by decide +kernel) ?_ | refine fixOrder_a y x (by omega) (by omega) (by omega) (by omega) ?_) <;> try simp (disch := first | omega | (simp only [go_sem]; first | done | omega)) only [go_sem, decide_eq_true hk1, hix, ← hy, hlt]))
        all_goals first
          | (rw [if_neg (show ¬ fxC x y ≤ 0 by omega), if_neg (by simp)] at hstep; exact Next.mk (k + 1) ⟨⟨by omega, hstep.symm, hq4⟩, by omega⟩ (by (try simp (disch := first | omega | (simp only [go_sem]; first | done | omega)) only [go_sem]); (first | refine WkL.eq ?_ ?_ | refine WkL.rest (by assumption) ?_ ?_ ?_ | refine WkL.keepL (by assumption) rfl ?_ ?_ ?_ ?_) <;> first | rfl | (simp; done) | (simp; omega) | (simp only [List.cons.injEq, AV.c.injEq, AC.int.injEq, AC.bool.injEq, AC.str.injEq, and_true, true_and, Int.natCast_add, Int.natCast_one, Int.cast_ofNat_Int]; omega) | (simp [AV.ok, AV.ok1, AC.ok]; done) | (simp [AV.ok, AV.ok1, AC.ok]; omega) | (simp only [List.forall_mem_cons, List.not_mem_nil, false_implies, implies_true, and_true]; (repeat' apply And.intro) <;> first | exact okN_map (fun x => by simp [go_sem, AC.pure]) | exact okN_grO (fun x => by simp [go_sem, AC.pure]) | (simp [AObj.okN, AC.ok]; done) | (simp [AObj.okN, AC.ok]; omega)) | (simp [*]; done) | grind))
          | (rw [if_pos (show fxC x y ≤ 0 by omega), if_pos (by decide)] at hstep; rw [hstep, if_pos (by decide)] at hk; exact Ret.drop hH (Nat.le_refl _) trivial hk)
    · have e : fxS (prevF l k) x = fxErr x := by unfold fxS; rw [if_pos he]
      rw [e, if_pos he] at hstep
      rw [hstep, if_pos he] at hk
      simp (disch := first | omega | (simp only [go_sem]; first | done | omega)) only [go_sem, he]
      exact Ret.drop hH (Nat.le_refl _) trivial hk
  · rw [List.drop_eq_nil_of_le (by omega)] at q3
    have q4 : fxGo none l = 0 := by rw [← q3]; cases prevF l k <;> rfl
    rw [q4, if_neg (by simp)] at hk
    clear q1 q3 q4
    simp (disch := first | omega | (simp only [go_sem]; first | done | omega)) only [go_sem, hlt]
    refine AWp.loop (H.length) [0, 36, 37] [38] (fun (k : Nat) => k ≤ l.length ∧ twG (l.take k) (l.drop k) = twF l) (fun (k : Nat) => [(38, (.c (.int .i64 k)))]) (fun (k : Nat) => H) (fun (k : Nat) => l.length - k) (by kernel_rfl) (fun _ => rfl) (by kernel_rfl) (by first | (simp; done) | omega) (by first | (simp; done) | (simp; omega) | omega) (by (try simp only [List.forall_mem_cons, List.not_mem_nil, false_implies, implies_true, and_true]); (try simp (disch := first | omega | (simp only [go_sem]; first | done | omega)) only [go_sem]); all_goals first | trivial | (simp [AV.ok, AV.ok1, AC.ok]; done) | (simp [AV.ok, AV.ok1, AC.ok]; omega) | (simp [AV.ok, AV.ok1, AC.ok]; assumption) | ((repeat' apply And.intro) <;> first | trivial | (simp [AV.ok, AV.ok1, AC.ok]; done) | (simp [AV.ok, AV.ok1, AC.ok]; omega) | (simp [AV.ok, AV.ok1, AC.ok]; assumption) | (refine grV_ok ?_ _; first | (simp; done) | (simp; omega) | omega))) ?_ (fun k q _ _ => ?_)
    · refine Next.mk 0 ⟨Nat.zero_le _, rfl⟩ ?_
      (try simp (disch := first | omega | (simp only [go_sem]; first | done | omega)) only [go_sem]); (first | refine WkL.eq ?_ ?_ | refine WkL.rest (by assumption) ?_ ?_ ?_ | refine WkL.keepL (by assumption) rfl ?_ ?_ ?_ ?_) <;> first | rfl | (simp; done) | (simp; omega) | (simp only [List.cons.injEq, AV.c.injEq, AC.int.injEq, AC.bool.injEq, AC.str.injEq, and_true, true_and, Int.natCast_add, Int.natCast_one, Int.cast_ofNat_Int]; omega) | (simp [AV.ok, AV.ok1, AC.ok]; done) | (simp [AV.ok, AV.ok1, AC.ok]; omega) | (simp only [List.forall_mem_cons, List.not_mem_nil, false_implies, implies_true, and_true]; (repeat' apply And.intro) <;> first | exact okN_map (fun x => by simp [go_sem, AC.pure]) | exact okN_grO (fun x => by simp [go_sem, AC.pure]) | (simp [AObj.okN, AC.ok]; done) | (simp [AObj.okN, AC.ok]; omega)) | (simp [*]; done) | grind
    obtain ⟨q1, q2⟩ := q
    by_cases hlt : k < l.length
    · obtain ⟨x, hx⟩ : ∃ x, x = l[k] := ⟨_, rfl⟩
      have hnx := twG_next hlt
      rw [← hx, q2] at hnx
      simp (disch := first | omega | (simp only [go_sem]; first | done | omega)) only [go_sem, hlt, ← hx]
      rw [show List.take (k - 0) (l.map encF) = (l.take k).map encF by rw [Nat.sub_zero, List.map_take]]
      refine contLstFx_a 122 [(H.length, 0, 0)] (fun o => sameX o x) (by kernel_rfl) (by intro a b c h; simp only [List.mem_singleton, Prod.mk.injEq] at h; simp; omega) (l.take k) (fun o K ho hk => ffFn_a o x (by first | ((repeat first | exact at0 (by simp) | refine atS ?_); done) | assumption) hk) (by rw [List.length_take]; omega) ?_
      cases ha : (l.take k).any (fun o => sameX o x) with
      | true =>
        rw [ha, Bool.true_or] at hnx
        rw [hnx, if_pos rfl] at hk
        simp (disch := first | omega | (simp only [go_sem]; first | done | omega)) only [go_sem]
        exact Ret.drop hH (Nat.le_refl _) trivial hk
      | false =>
        rw [ha, Bool.false_or] at hnx
        simp (disch := first | omega | (simp only [go_sem]; first | done | omega)) only [go_sem]
        refine Next.mk (k + 1) ⟨⟨by omega, hnx.symm⟩, by omega⟩ ?_
        (try simp (disch := first | omega | (simp only [go_sem]; first | done | omega)) only [go_sem]); (first | refine WkL.eq ?_ ?_ | refine WkL.rest (by assumption) ?_ ?_ ?_ | refine WkL.keepL (by assumption) rfl ?_ ?_ ?_ ?_) <;> first | rfl | (simp; done) | (simp; omega) | (simp only [List.cons.injEq, AV.c.injEq, AC.int.injEq, AC.bool.injEq, AC.str.injEq, and_true, true_and, Int.natCast_add, Int.natCast_one, Int.cast_ofNat_Int]; omega) | (simp [AV.ok, AV.ok1, AC.ok]; done) | (simp [AV.ok, AV.ok1, AC.ok]; omega) | (simp only [List.forall_mem_cons, List.not_mem_nil, false_implies, implies_true, and_true]; (repeat' apply And.intro) <;> first | exact okN_map (fun x => by simp [go_sem, AC.pure]) | exact okN_grO (fun x => by simp [go_sem, AC.pure]) | (simp [AObj.okN, AC.ok]; done) | (simp [AObj.okN, AC.ok]; omega)) | (simp [*]; done) | grind
    · rw [List.drop_eq_nil_of_le (by omega)] at q2
      have e : twF l = false := q2.symm
      rw [e, if_neg (by simp)] at hk
      simp (disch := first | omega | (simp only [go_sem]; first | done | omega)) only [go_sem, hlt]
      exact Ret.same (Nat.le_refl _) hk
end Go.Proofs.YtgcjenfdndhhpaaGreatDoor
