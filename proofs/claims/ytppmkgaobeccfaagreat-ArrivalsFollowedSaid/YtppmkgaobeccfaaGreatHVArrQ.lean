/- The numbers that are missing: between those that arrived, and one by one: the same rows; and the document's answer. Condition: at most a million. -/
import Derived.Test.YtppmkgaobeccfaaGreatHVArrP
namespace Go.Proofs.YtppmkgaobeccfaaGreat
open Go Go.RowKit
set_option maxRecDepth 100000
set_option linter.all false
set_option maxHeartbeats 1000000
variable {H : Hp} {K : AV → Hp → Prop}
def gapGo (fr : Int) : List Int → List (Int × Int)
  | [] => []
  | n :: t => (if fr < n then [(fr, n)] else []) ++ gapGo (n + 1) t
theorem rowsF_app (xs ys : List Int) : rowsF (xs ++ ys) = ys.foldl rowAdd (rowsF xs) := by unfold rowsF; rw [List.foldl_append]
theorem rowAdd_to (rs : List (Int × Int)) (n : Int) : ∀ r ∈ rowAdd rs n, r ∈ rs ∨ r.2 = n + 1 := by
  intro r hr
  unfold rowAdd at hr
  split at hr
  · rcases List.mem_append.1 hr with h | h
    · exact Or.inl ((List.dropLast_sublist rs).subset h)
    · simp at h; subst h; exact Or.inr rfl
  · rcases List.mem_append.1 hr with h | h
    · exact Or.inl h
    · simp at h; subst h; exact Or.inr rfl
theorem rowsF_to : ∀ (xs : List Int), ∀ r ∈ rowsF xs, r.2 - 1 ∈ xs := by
  have key : ∀ (xs : List Int) (rs : List (Int × Int)), ∀ r ∈ xs.foldl rowAdd rs, r ∈ rs ∨ r.2 - 1 ∈ xs := by
    intro xs
    induction xs with
    | nil => intro rs r h; exact Or.inl h
    | cons x t ih =>
      intro rs r h
      rw [List.foldl_cons] at h
      rcases ih _ r h with h | h
      · rcases rowAdd_to rs x r h with h | h
        · exact Or.inl h
        · exact Or.inr (by rw [show r.2 - 1 = x by omega]; exact List.mem_cons_self)
      · exact Or.inr (List.mem_cons_of_mem _ h)
  intro xs r h
  rcases key xs [] r h with h | h
  · simp at h
  · exact h
theorem rows_run (rs : List (Int × Int)) (c : Int) (h : ∀ r ∈ rs, r.2 ≠ c) : ∀ m : Nat, ((List.range m).map fun i : Nat => c + (i : Int)).foldl rowAdd rs = if m = 0 then rs else rs ++ [(c, c + (m : Int))]
  | 0 => rfl
  | m + 1 => by
    rw [List.range_succ, List.map_append, List.foldl_append, rows_run rs c h m, if_neg (show ¬ m + 1 = 0 by omega)]
    by_cases h0 : m = 0
    · subst h0
      simp only [if_true, List.map_cons, List.map_nil, List.foldl_cons, List.foldl_nil]
      unfold rowAdd
      rw [if_neg]
      · simp
      · intro e
        cases hq : rs.getLast? with
        | none => rw [hq] at e; simp at e
        | some r =>
          rw [hq] at e
          simp at e
          exact h r (List.mem_of_getLast? hq) (by omega)
    · rw [if_neg h0]
      simp only [List.map_cons, List.map_nil, List.foldl_cons, List.foldl_nil]
      unfold rowAdd
      rw [if_pos (by simp)]
      simp
      omega
theorem msF_none {S : List Int} {a : Nat} : ∀ {m : Nat}, (∀ y : Int, (a : Int) < y → y ≤ (a : Int) + m → y ∉ S) → msF S (a + m) = msF S a ++ ((List.range m).map fun i : Nat => ((a : Int) + 1) + (i : Int))
  | 0, _ => by simp
  | m + 1, h => by
    rw [show a + (m + 1) = (a + m) + 1 by omega, msF_next, msF_none (fun y h1 h2 => h y h1 (by omega)), if_neg (h _ (by omega) (by omega)), List.range_succ, List.map_append, List.append_assoc]
    congr 2
    simp
    omega
theorem gap_rows (S : List Int) : ∀ (A : List Int) (a : Nat), A.Pairwise (fun x y => x < y) → (∀ y ∈ A, (a : Int) < y) → (∀ y : Int, (a : Int) < y → (y ∈ A ↔ y ∈ S)) → (a = 0 ∨ (a : Int) ∈ S) →
    rowsF (msF S (A.getLastD (a : Int)).toNat) = rowsF (msF S a) ++ gapGo ((a : Int) + 1) A
  | [], a, _, _, _, _ => by simp [gapGo]
  | b :: t, a, hp, hlo, hS, ha => by
    obtain ⟨h1, h2⟩ := List.pairwise_cons.1 hp
    have hab := hlo b (by simp)
    obtain ⟨m, hm⟩ : ∃ m : Nat, b = ((a + m + 1 : Nat) : Int) := ⟨(b - a - 1).toNat, by omega⟩
    have hbS : b ∈ S := (hS b hab).1 (by simp)
    have ih := gap_rows S t (a + m + 1) h2 (fun y hy => by have := h1 y hy; omega) (fun y hy => by
      rw [← hS y (by omega), List.mem_cons]
      constructor
      · exact Or.inr
      · rintro (e | e)
        · omega
        · exact e) (Or.inr (hm ▸ hbS))
    have e1 : ((b :: t).getLastD (a : Int)) = t.getLastD ((a + m + 1 : Nat) : Int) := by
      rw [← hm]
      cases t with
      | nil => rfl
      | cons c u =>
        simp only [List.getLastD_eq_getLast?, List.getLast?_cons_cons]
        cases hq : (c :: u).getLast? with
        | none => simp at hq
        | some y => rfl
    rw [e1, ih]
    have e2 : msF S (a + m + 1) = msF S a ++ ((List.range m).map fun i : Nat => ((a : Int) + 1) + (i : Int)) := by
      rw [msF_next, if_pos (by rw [show (((a + m : Nat) : Int) + 1) = b by omega]; exact hbS), List.append_nil]
      refine msF_none (fun y g1 g2 => fun hy => ?_)
      rcases List.mem_cons.1 ((hS y g1).2 hy) with e | e
      · omega
      · have := h1 y e; omega
    have e3 : ∀ r ∈ rowsF (msF S a), r.2 ≠ (a : Int) + 1 := by
      intro r hr e
      have := rowsF_to _ r hr
      rw [show r.2 - 1 = (a : Int) by omega] at this
      have hb := msF_bd S a _ this
      rcases ha with h | h
      · omega
      · unfold msF at this
        have := (List.mem_filter.1 this).2
        simp [h] at this
    rw [e2, rowsF_app, rows_run _ _ e3, gapGo]
    by_cases h0 : m = 0
    · subst h0
      rw [if_pos rfl, if_neg (show ¬ ((a : Int) + 1 < b) by omega), List.nil_append, ← hm]
    · rw [if_neg h0, if_pos (show (a : Int) + 1 < b by omega), List.append_assoc, ← hm, show (a : Int) + 1 + (m : Int) = b by omega]
theorem srtI_sorted_id {l : List Int} (h : l.Pairwise (fun x y => x ≤ y)) : srtI l = l := by
  unfold srtI
  exact List.mergeSort_of_pairwise (h.imp (fun h => by simpa using h))
theorem msF_sorted (S : List Int) (k : Nat) : (msF S k).Pairwise (fun x y => x ≤ y) := by
  unfold msF
  refine List.Pairwise.filter _ ?_
  rw [List.pairwise_map]
  exact List.pairwise_lt_range.imp (fun h => by omega)
theorem srtI_le (l : List Int) : (srtI l).Pairwise (fun x y => x ≤ y) := by
  have h := List.pairwise_mergeSort (le := fun x y : Int => decide (x ≤ y)) (by intro a b c h1 h2; simp at h1 h2 ⊢; omega) (by intro a b; simp; omega) l
  exact h.imp (fun h => by simpa using h)
theorem arvF_lt (l : List Arr) (n : ByteArray) : (arvF l n).Pairwise (fun x y => x < y) := by
  unfold arvF
  exact (cplF_lt (fun a b h1 h2 => by omega) (srtI_le _)).imp (fun h => by omega)
theorem moF_max (n : ByteArray) : ∀ (l : List Arr) (y : Int), y ∈ evF l n → y ≤ moF l n := by
  have key : ∀ (l : List Arr) (s : List Int) (m : Int), (∀ y ∈ s, y ≤ m) → ∀ y ∈ l.foldl (fun s x => if x.nd = n then addE s x.p.n else s) s, y ≤ l.foldl (fun s x => if x.nd = n then max s x.p.n else s) m := by
    intro l
    induction l with
    | nil => intro s m h y hy; exact h y hy
    | cons a t ih =>
      intro s m h
      rw [List.foldl_cons, List.foldl_cons]
      by_cases ha : a.nd = n
      · rw [if_pos ha, if_pos ha]
        refine ih _ _ (fun y hy => ?_)
        rcases addE_mem2 hy with hy | hy
        · have := h y hy; omega
        · omega
      · rw [if_neg ha, if_neg ha]
        exact ih _ _ h
  intro l y hy
  exact key l [] 0 (by simp) y hy
theorem moF_in (n : ByteArray) : ∀ (l : List Arr), moF l n = 0 ∨ moF l n ∈ evF l n := by
  have key : ∀ (l : List Arr) (s : List Int) (m : Int), (m = 0 ∨ m ∈ s) → (l.foldl (fun s x => if x.nd = n then max s x.p.n else s) m = 0 ∨ l.foldl (fun s x => if x.nd = n then max s x.p.n else s) m ∈ l.foldl (fun s x => if x.nd = n then addE s x.p.n else s) s) := by
    intro l
    induction l with
    | nil => intro s m h; exact h
    | cons a t ih =>
      intro s m h
      rw [List.foldl_cons, List.foldl_cons]
      by_cases ha : a.nd = n
      · rw [if_pos ha, if_pos ha]
        refine ih _ _ ?_
        by_cases hm : m ≤ a.p.n
        · right
          rw [Int.max_eq_right hm]
          exact addE_mem.2 (Or.inr rfl)
        · rw [Int.max_eq_left (by omega)]
          rcases h with h | h
          · exact Or.inl h
          · exact Or.inr (addE_mem.2 (Or.inl h))
      · rw [if_neg ha, if_neg ha]
        exact ih _ _ h
  intro l
  exact key l [] 0 (Or.inl rfl)
theorem gap_is {l : List Arr} {n : ByteArray} (h : arF l = 0) : rowsF (srtI (miF l n)) = gapGo 1 (arvF l n) := by
  unfold miF
  rw [srtI_sorted_id (msF_sorted _ _)]
  have hbd := evF_bd (n := n) h
  have hmx := moF_max n l
  have hin := moF_in n l
  have hlt := arvF_lt l n
  have hmem : ∀ y, y ∈ arvF l n ↔ y ∈ evF l n := fun y => arvF_mem
  have hg := gap_rows (evF l n) (arvF l n) 0 hlt (fun y hy => by have := (hbd y ((hmem y).1 hy)).1; omega) (fun y _ => hmem y) (Or.inl rfl)
  have hz : rowsF (msF (evF l n) 0) = [] := rfl
  rw [hz, List.nil_append] at hg
  have e0 : (((0 : Nat) : Int) + 1) = 1 := rfl
  rw [e0] at hg
  rw [← hg]
  congr 1
  rcases hin with h0 | h0
  · have : arvF l n = [] := by
      cases hc : arvF l n with
      | nil => rfl
      | cons b t =>
        have hb := (hmem b).1 (by rw [hc]; simp)
        have := hmx b hb
        have := (hbd b hb).1
        omega
    rw [this, h0]
    rfl
  · have hpos := (hbd _ h0).1
    have hl : (arvF l n).getLastD ((0 : Nat) : Int) = moF l n := by
      have hm := (hmem _).2 h0
      rcases List.eq_nil_or_concat (arvF l n) with hc | ⟨q, b, hc⟩
      · rw [hc] at hm; simp at hm
      · rw [List.concat_eq_append] at hc
        rw [hc] at hm hlt ⊢
        have hb := hmx b ((hmem b).1 (by rw [hc]; simp))
        simp only [List.getLastD_concat]
        rcases List.mem_append.1 hm with g | g
        · have := (List.pairwise_append.1 hlt).2.2 _ g b (by simp)
          omega
        · simp at g; omega
    rw [hl]
    obtain ⟨m, hm⟩ : ∃ m : Nat, moF l n = ((m + 1 : Nat) : Int) := ⟨(moF l n - 1).toNat, by omega⟩
    rw [hm] at h0 ⊢
    rw [show (((m + 1 : Nat) : Int) - 1).toNat = m by omega, Int.toNat_natCast, msF_next, if_pos (by rw [Int.natCast_add] at h0; exact h0), List.append_nil]
def mgF (A : List Int) (k : Nat) : Int × List (Int × Int) := (A.take k).foldl (fun s n => (n + 1, if s.1 < n then s.2 ++ [(s.1, n)] else s.2)) (1, [])
theorem mgF_next {A : List Int} {k : Nat} (h : k < A.length) : mgF A (k + 1) = (A[k] + 1, if (mgF A k).1 < A[k] then (mgF A k).2 ++ [((mgF A k).1, A[k])] else (mgF A k).2) := by
  unfold mgF
  rw [List.take_succ_eq_append_getElem h, List.foldl_append]
  rfl
theorem mgF_len (A : List Int) : ∀ k, k ≤ A.length → (mgF A k).2.length ≤ k
  | 0, _ => by simp [mgF]
  | k + 1, h => by
    rw [mgF_next (by omega)]
    have := mgF_len A k (by omega)
    dsimp only
    split
    · simp; omega
    · omega
theorem mgF_gap (A : List Int) : (mgF A A.length).2 = gapGo 1 A := by
  have key : ∀ (A : List Int) (fr : Int) (out : List (Int × Int)), (A.foldl (fun s n => (n + 1, if s.1 < n then s.2 ++ [(s.1, n)] else s.2)) (fr, out)).2 = out ++ gapGo fr A := by
    intro A
    induction A with
    | nil => intro fr out; simp [gapGo]
    | cons b t ih =>
      intro fr out
      rw [List.foldl_cons, ih, gapGo]
      dsimp only
      split <;> simp
  unfold mgF
  rw [List.take_length, key]
  simp
theorem mgF_from {A : List Int} (hA : ∀ y ∈ A, 1 ≤ y ∧ y ≤ 1000000) : ∀ k, k ≤ A.length → 1 ≤ (mgF A k).1 ∧ (mgF A k).1 ≤ 1000001
  | 0, _ => by simp [mgF]
  | k + 1, h => by
    rw [mgF_next (by omega)]
    have := hA A[k] (List.getElem_mem _)
    dsimp only
    omega
theorem missingOf_a (l : List Arr) (n : ByteArray) (hl : l.length ≤ 1000000) (he : arF l = 0) (hk : K (.c (.lst 2 ((rowsF (srtI (miF l n))).map encRw))) H) : ACalls Tryz.prog 36 [.c (.lst 7 (l.map encAr)), (.c (.str n))] H K := by
  rw [gap_is he] at hk
  have hbd := evF_bd (n := n) he
  have hA : ∀ y ∈ arvF l n, 1 ≤ y ∧ y ≤ 1000000 := fun y hy => hbd y (arvF_mem.1 hy)
  have hal := arvF_len l n
  refine acalls Tryz.func36 rfl (by kernel_rfl) (by simp (disch := first | omega | (simp only [go_sem]; first | done | omega)) only [go_sem]) (fun hH => ?_)
  simp (disch := first | omega | (simp only [go_sem]; first | done | omega)) only [go_sem]
  refine arrived_a l n hl ?_
  generalize arvF l n = A at *
  simp (disch := first | omega | (simp only [go_sem]; first | done | omega)) only [go_sem]
  refine AWp.loop (H.length) [11, 12] [13, 5, 6] (fun (k : Nat) => k ≤ A.length) (fun (k : Nat) => [(13, (.c (.int .i64 k))), (5, .c (grV H.length (mgF A k).2)), (6, (.c (.int .i64 ((mgF A k).1))))]) (fun (k : Nat) => H ++ [grO 79 2 ((mgF A k).2.map encRw)]) (fun (k : Nat) => A.length - k) (by kernel_rfl) (fun _ => rfl) (by kernel_rfl) (by first | (simp; done) | omega) (by first | (simp; done) | (simp; omega) | omega) (by (try simp only [List.forall_mem_cons, List.not_mem_nil, false_implies, implies_true, and_true]); (try simp (disch := first | omega | (simp only [go_sem]; first | done | omega)) only [go_sem]); all_goals first | trivial | (simp [AV.ok, AV.ok1, AC.ok]; done) | (simp [AV.ok, AV.ok1, AC.ok]; omega) | (simp [AV.ok, AV.ok1, AC.ok]; assumption) | ((repeat' apply And.intro) <;> first | trivial | (simp [AV.ok, AV.ok1, AC.ok]; done) | (simp [AV.ok, AV.ok1, AC.ok]; omega) | (simp [AV.ok, AV.ok1, AC.ok]; assumption) | (refine grV_ok ?_ _; first | (simp; done) | (simp; omega) | omega))) ?_ (fun k q1 _ _ => ?_)
  · refine Next.mk 0 (Nat.zero_le _) ?_
    exact WkL.pad (by omega)
  by_cases hlt : k < A.length
  · have hnx := mgF_next hlt
    have hln := mgF_len A k q1
    have hfr := mgF_from hA k q1
    have hy := hA A[k] (List.getElem_mem hlt)
    obtain ⟨y, hyk⟩ : ∃ y, y = A[k] := ⟨_, rfl⟩
    rw [← hyk] at hnx hy
    generalize mgF A k = g at *
    obtain ⟨fr, rs⟩ := g
    dsimp only at hnx hln hfr ⊢
    by_cases hc : fr < y
    · rw [if_pos hc] at hnx
      obtain ⟨r2, hr2⟩ : ∃ r2, r2 = rs ++ [(fr, y)] := ⟨_, rfl⟩
      rw [← hr2] at hnx
      simp (disch := first | omega | (simp only [go_sem]; first | done | omega)) only [go_sem, hlt, ← hyk, hc]
      refine appRw rs (fr, y) r2 hr2 (by first | exact at0 (by simp) | exact at1 (by simp) | exact at2 (by simp) | exact at3 (by simp) | exact at4 (by simp) | exact at5 (by simp) | exact atG 6 (by simp) rfl | exact atG 7 (by simp) rfl | exact atG 8 (by simp) rfl | exact atG 9 (by simp) rfl | exact atG 10 (by simp) rfl | exact atG 11 (by simp) rfl | exact atG 12 (by simp) rfl | exact atG 13 (by simp) rfl | exact atG 14 (by simp) rfl | exact atG 15 (by simp) rfl | assumption) (by first | exact at0 (by simp) | exact at1 (by simp) | exact at2 (by simp) | exact at3 (by simp) | exact at4 (by simp) | exact at5 (by simp) | exact atG 6 (by simp) rfl | exact atG 7 (by simp) rfl | exact atG 8 (by simp) rfl | exact atG 9 (by simp) rfl | exact atG 10 (by simp) rfl | exact atG 11 (by simp) rfl | exact atG 12 (by simp) rfl | exact atG 13 (by simp) rfl | exact atG 14 (by simp) rfl | exact atG 15 (by simp) rfl | assumption) (by omega) ?_
      simp (disch := first | omega | (simp only [go_sem]; first | done | omega)) only [go_sem]
      refine Next.mk (k + 1) ⟨by omega, by omega⟩ ?_
      rw [hnx]
      ((try simp (disch := first | omega | (simp only [go_sem]; first | done | omega)) only [go_sem]); (first | refine WkL.pick [0] ?_ ?_ rfl ?_ ?_ ?_ ?_ | refine WkL.pick [1] ?_ ?_ rfl ?_ ?_ ?_ ?_ | refine WkL.pick [2] ?_ ?_ rfl ?_ ?_ ?_ ?_ | refine WkL.pick [3] ?_ ?_ rfl ?_ ?_ ?_ ?_ | refine WkL.pick [4] ?_ ?_ rfl ?_ ?_ ?_ ?_ | refine WkL.pick [5] ?_ ?_ rfl ?_ ?_ ?_ ?_ | refine WkL.pick [6] ?_ ?_ rfl ?_ ?_ ?_ ?_ | refine WkL.pick [7] ?_ ?_ rfl ?_ ?_ ?_ ?_ | refine WkL.pick [8] ?_ ?_ rfl ?_ ?_ ?_ ?_ | refine WkL.pick [9] ?_ ?_ rfl ?_ ?_ ?_ ?_ | refine WkL.pick [10] ?_ ?_ rfl ?_ ?_ ?_ ?_ | refine WkL.pick [11] ?_ ?_ rfl ?_ ?_ ?_ ?_ | refine WkL.pick [12] ?_ ?_ rfl ?_ ?_ ?_ ?_ | refine WkL.pick [13] ?_ ?_ rfl ?_ ?_ ?_ ?_ | refine WkL.pick [14] ?_ ?_ rfl ?_ ?_ ?_ ?_ | refine WkL.pick [15] ?_ ?_ rfl ?_ ?_ ?_ ?_) <;> first | assumption | exact HOk.str (by assumption) | (simp; done) | (simp; omega) | (simp [pureO_gr, AObj.pureO, pureL, go_sem, AC.pure]; done) | (simp only [List.all_cons, List.all_nil, Bool.and_true]; exact pureO_gr (pureL_map _ (fun x => by simp [go_sem, AC.pure]))) | ((try simp only [List.map_cons, List.map_nil, av_ren_gr]); simp [AV.ren, AV.ren1, AC.ren, pickS]; first | done | omega) | (simp only [List.forall_mem_cons, List.not_mem_nil, false_implies, implies_true, and_true]; (repeat' apply And.intro) <;> first | trivial | exact grV_ok (by simp) _ | exact okN_grO (fun x => by simp [go_sem, AC.pure]) | exact okN_map (fun x => by simp [go_sem, AC.pure]) | (simp [AV.ok, AV.ok1, AC.ok]; done) | (simp [AV.ok, AV.ok1, AC.ok]; omega) | (simp [AObj.okN, AC.ok]; done)) | (simp [AObj.okN]; done))
    · rw [if_neg hc] at hnx
      simp (disch := first | omega | (simp only [go_sem]; first | done | omega)) only [go_sem, hlt, ← hyk, hc]
      refine Next.mk (k + 1) ⟨by omega, by omega⟩ ?_
      rw [hnx]
      ((try simp (disch := first | omega | (simp only [go_sem]; first | done | omega)) only [go_sem]); (first | refine WkL.pick [0] ?_ ?_ rfl ?_ ?_ ?_ ?_ | refine WkL.pick [1] ?_ ?_ rfl ?_ ?_ ?_ ?_ | refine WkL.pick [2] ?_ ?_ rfl ?_ ?_ ?_ ?_ | refine WkL.pick [3] ?_ ?_ rfl ?_ ?_ ?_ ?_ | refine WkL.pick [4] ?_ ?_ rfl ?_ ?_ ?_ ?_ | refine WkL.pick [5] ?_ ?_ rfl ?_ ?_ ?_ ?_ | refine WkL.pick [6] ?_ ?_ rfl ?_ ?_ ?_ ?_ | refine WkL.pick [7] ?_ ?_ rfl ?_ ?_ ?_ ?_ | refine WkL.pick [8] ?_ ?_ rfl ?_ ?_ ?_ ?_ | refine WkL.pick [9] ?_ ?_ rfl ?_ ?_ ?_ ?_ | refine WkL.pick [10] ?_ ?_ rfl ?_ ?_ ?_ ?_ | refine WkL.pick [11] ?_ ?_ rfl ?_ ?_ ?_ ?_ | refine WkL.pick [12] ?_ ?_ rfl ?_ ?_ ?_ ?_ | refine WkL.pick [13] ?_ ?_ rfl ?_ ?_ ?_ ?_ | refine WkL.pick [14] ?_ ?_ rfl ?_ ?_ ?_ ?_ | refine WkL.pick [15] ?_ ?_ rfl ?_ ?_ ?_ ?_) <;> first | assumption | exact HOk.str (by assumption) | (simp; done) | (simp; omega) | (simp [pureO_gr, AObj.pureO, pureL, go_sem, AC.pure]; done) | (simp only [List.all_cons, List.all_nil, Bool.and_true]; exact pureO_gr (pureL_map _ (fun x => by simp [go_sem, AC.pure]))) | ((try simp only [List.map_cons, List.map_nil, av_ren_gr]); simp [AV.ren, AV.ren1, AC.ren, pickS]; first | done | omega) | (simp only [List.forall_mem_cons, List.not_mem_nil, false_implies, implies_true, and_true]; (repeat' apply And.intro) <;> first | trivial | exact grV_ok (by simp) _ | exact okN_grO (fun x => by simp [go_sem, AC.pure]) | exact okN_map (fun x => by simp [go_sem, AC.pure]) | (simp [AV.ok, AV.ok1, AC.ok]; done) | (simp [AV.ok, AV.ok1, AC.ok]; omega) | (simp [AObj.okN, AC.ok]; done)) | (simp [AObj.okN]; done))
  · have hkl : k = A.length := by omega
    subst hkl
    rw [mgF_gap]
    simp (disch := first | omega | (simp only [go_sem]; first | done | omega)) only [go_sem]
    exact Ret.frzGr 0 hH (by omega) rfl (pureL_map _ (fun x => by simp [go_sem, AC.pure])) (by rw [map_grV]; simp) hk
end Go.Proofs.YtppmkgaobeccfaaGreat
