/- Several texts in one: Duplicates: the program's answer, and what follows. No condition. -/
import Derived.Test.YtppmkgaobeccfaaGreatDoorHVArrH
/- Duplicates: the program's answer. Condition: names' sizes; at most a million. -/
namespace Go.Proofs.YtppmkgaobeccfaaGreatDoor
open Go Go.RowKit
set_option maxRecDepth 100000
set_option linter.all false
set_option maxHeartbeats 1000000
variable {H : Hp} {K : AV → Hp → Prop}
theorem fsF_get (l : List Arr) (i : Nat) (h : i < (fsF l).length) : (fsF l)[i] = !isD l i := by simp [fsF]
theorem fsF_len (l : List Arr) : (fsF l).length = l.length := by simp [fsF]
theorem duplicates_a (l : List Arr) (hsz : ∀ x ∈ l, x.nd.size ≤ 1099511627776 ∧ x.p.tag.size ≤ 1099511627776) (hl : l.length ≤ 1000000) (hk : K (.tup [.c (.lst 1 ((if arF l = 0 then dupF l l.length else []).map encI)), (.c (.int .i64 (arF l)))]) H) : ACalls Tryz.prog 7 [.c (.lst 7 (l.map encAr))] H K := by
  refine acalls Tryz.func7 rfl (by kernel_rfl) (by simp (disch := first | omega | (simp only [go_sem]; first | done | omega)) only [go_sem]) (fun hH => ?_)
  simp (disch := first | omega | (simp only [go_sem]; first | done | omega)) only [go_sem]
  refine checkArrivals_a l hsz hl ?_
  by_cases he : arF l = 0
  · rw [he, if_pos rfl] at hk
    simp (disch := first | omega | (simp only [go_sem]; first | done | omega)) only [go_sem, he]
    refine firsts_a l hl ?_
    have hfl := fsF_len l
    simp (disch := first | omega | (simp only [go_sem]; first | done | omega)) only [go_sem, hfl]
    refine AWp.loop (H.length) [14, 15] [16, 5] (fun (k : Nat) => k ≤ l.length) (fun (k : Nat) => [(16, (.c (.int .i64 k))), (5, .c (grV H.length (dupF l k)))]) (fun (k : Nat) => H ++ [grO 3 1 ((dupF l k).map encI)]) (fun (k : Nat) => l.length - k) (by kernel_rfl) (fun _ => rfl) (by kernel_rfl) (by first | (simp; done) | omega) (by first | (simp; done) | (simp; omega) | omega) (by (try simp only [List.forall_mem_cons, List.not_mem_nil, false_implies, implies_true, and_true]); (try simp (disch := first | omega | (simp only [go_sem]; first | done | omega)) only [go_sem]); all_goals first | trivial | (simp [AV.ok, AV.ok1, AC.ok]; done) | (simp [AV.ok, AV.ok1, AC.ok]; omega) | (simp [AV.ok, AV.ok1, AC.ok]; assumption) | ((repeat' apply And.intro) <;> first | trivial | (simp [AV.ok, AV.ok1, AC.ok]; done) | (simp [AV.ok, AV.ok1, AC.ok]; omega) | (simp [AV.ok, AV.ok1, AC.ok]; assumption) | (refine grV_ok ?_ _; first | (simp; done) | (simp; omega) | omega))) ?_ (fun k q1 _ _ => ?_)
    · refine Next.mk 0 (Nat.zero_le _) ?_
      exact WkL.pad (by omega)
    by_cases hlt : k < l.length
    · have hnx := dupF_next l k
      have hln := dupF_len l k
      have hg : ∀ h, (fsF l)[k]'h = !isD l k := fun h => fsF_get l k h
      generalize dupF l k = ds at *
      cases hb : isD l k with
      | true =>
        rw [hb, if_pos rfl] at hnx
        simp (disch := first | omega | (simp only [go_sem]; first | done | omega)) only [go_sem, hlt, hfl, hg, hb]
        refine appI ds (k : Int) _ hnx (by first | exact at0 (by simp) | exact at1 (by simp) | exact at2 (by simp) | exact at3 (by simp) | exact at4 (by simp) | exact at5 (by simp) | exact atG 6 (by simp) rfl | exact atG 7 (by simp) rfl | exact atG 8 (by simp) rfl | exact atG 9 (by simp) rfl | exact atG 10 (by simp) rfl | exact atG 11 (by simp) rfl | exact atG 12 (by simp) rfl | exact atG 13 (by simp) rfl | exact atG 14 (by simp) rfl | exact atG 15 (by simp) rfl | assumption) (by first | exact at0 (by simp) | exact at1 (by simp) | exact at2 (by simp) | exact at3 (by simp) | exact at4 (by simp) | exact at5 (by simp) | exact atG 6 (by simp) rfl | exact atG 7 (by simp) rfl | exact atG 8 (by simp) rfl | exact atG 9 (by simp) rfl | exact atG 10 (by simp) rfl | exact atG 11 (by simp) rfl | exact atG 12 (by simp) rfl | exact atG 13 (by simp) rfl | exact atG 14 (by simp) rfl | exact atG 15 (by simp) rfl | assumption) (by omega) ?_
        simp (disch := first | omega | (simp only [go_sem]; first | done | omega)) only [go_sem]
        refine Next.mk (k + 1) ⟨by omega, by omega⟩ ?_
        ((try simp (disch := first | omega | (simp only [go_sem]; first | done | omega)) only [go_sem]); (first | refine WkL.pick [0] ?_ ?_ rfl ?_ ?_ ?_ ?_ | refine WkL.pick [1] ?_ ?_ rfl ?_ ?_ ?_ ?_ | refine WkL.pick [2] ?_ ?_ rfl ?_ ?_ ?_ ?_ | refine WkL.pick [3] ?_ ?_ rfl ?_ ?_ ?_ ?_ | refine WkL.pick [4] ?_ ?_ rfl ?_ ?_ ?_ ?_ | refine WkL.pick [5] ?_ ?_ rfl ?_ ?_ ?_ ?_ | refine WkL.pick [6] ?_ ?_ rfl ?_ ?_ ?_ ?_ | refine WkL.pick [7] ?_ ?_ rfl ?_ ?_ ?_ ?_ | refine WkL.pick [8] ?_ ?_ rfl ?_ ?_ ?_ ?_ | refine WkL.pick [9] ?_ ?_ rfl ?_ ?_ ?_ ?_ | refine WkL.pick [10] ?_ ?_ rfl ?_ ?_ ?_ ?_ | refine WkL.pick [11] ?_ ?_ rfl ?_ ?_ ?_ ?_ | refine WkL.pick [12] ?_ ?_ rfl ?_ ?_ ?_ ?_ | refine WkL.pick [13] ?_ ?_ rfl ?_ ?_ ?_ ?_ | refine WkL.pick [14] ?_ ?_ rfl ?_ ?_ ?_ ?_ | refine WkL.pick [15] ?_ ?_ rfl ?_ ?_ ?_ ?_) <;> first | assumption | exact HOk.str (by assumption) | (simp; done) | (simp; omega) | (simp [pureO_gr, AObj.pureO, pureL, go_sem, AC.pure]; done) | (simp only [List.all_cons, List.all_nil, Bool.and_true]; exact pureO_gr (pureL_map _ (fun x => by simp [go_sem, AC.pure]))) | ((try simp only [List.map_cons, List.map_nil, av_ren_gr]); simp [AV.ren, AV.ren1, AC.ren, renP, pickS]; first | done | omega) | (simp only [List.forall_mem_cons, List.not_mem_nil, false_implies, implies_true, and_true]; (repeat' apply And.intro) <;> first | trivial | exact grV_ok (by simp) _ | exact okN_grO (fun x => by simp [go_sem, AC.pure]) | exact okN_map (fun x => by simp [go_sem, AC.pure]) | (simp [AV.ok, AV.ok1, AC.ok]; done) | (simp [AV.ok, AV.ok1, AC.ok]; omega) | (simp [AObj.okN, AC.ok]; done)) | (simp [AObj.okN]; done))
      | false =>
        rw [hb, if_neg (by simp), List.append_nil] at hnx
        simp (disch := first | omega | (simp only [go_sem]; first | done | omega)) only [go_sem, hlt, hfl, hg, hb]
        refine Next.mk (k + 1) ⟨by omega, by omega⟩ ?_
        rw [hnx]
        ((try simp (disch := first | omega | (simp only [go_sem]; first | done | omega)) only [go_sem]); (first | refine WkL.pick [0] ?_ ?_ rfl ?_ ?_ ?_ ?_ | refine WkL.pick [1] ?_ ?_ rfl ?_ ?_ ?_ ?_ | refine WkL.pick [2] ?_ ?_ rfl ?_ ?_ ?_ ?_ | refine WkL.pick [3] ?_ ?_ rfl ?_ ?_ ?_ ?_ | refine WkL.pick [4] ?_ ?_ rfl ?_ ?_ ?_ ?_ | refine WkL.pick [5] ?_ ?_ rfl ?_ ?_ ?_ ?_ | refine WkL.pick [6] ?_ ?_ rfl ?_ ?_ ?_ ?_ | refine WkL.pick [7] ?_ ?_ rfl ?_ ?_ ?_ ?_ | refine WkL.pick [8] ?_ ?_ rfl ?_ ?_ ?_ ?_ | refine WkL.pick [9] ?_ ?_ rfl ?_ ?_ ?_ ?_ | refine WkL.pick [10] ?_ ?_ rfl ?_ ?_ ?_ ?_ | refine WkL.pick [11] ?_ ?_ rfl ?_ ?_ ?_ ?_ | refine WkL.pick [12] ?_ ?_ rfl ?_ ?_ ?_ ?_ | refine WkL.pick [13] ?_ ?_ rfl ?_ ?_ ?_ ?_ | refine WkL.pick [14] ?_ ?_ rfl ?_ ?_ ?_ ?_ | refine WkL.pick [15] ?_ ?_ rfl ?_ ?_ ?_ ?_) <;> first | assumption | exact HOk.str (by assumption) | (simp; done) | (simp; omega) | (simp [pureO_gr, AObj.pureO, pureL, go_sem, AC.pure]; done) | (simp only [List.all_cons, List.all_nil, Bool.and_true]; exact pureO_gr (pureL_map _ (fun x => by simp [go_sem, AC.pure]))) | ((try simp only [List.map_cons, List.map_nil, av_ren_gr]); simp [AV.ren, AV.ren1, AC.ren, renP, pickS]; first | done | omega) | (simp only [List.forall_mem_cons, List.not_mem_nil, false_implies, implies_true, and_true]; (repeat' apply And.intro) <;> first | trivial | exact grV_ok (by simp) _ | exact okN_grO (fun x => by simp [go_sem, AC.pure]) | exact okN_map (fun x => by simp [go_sem, AC.pure]) | (simp [AV.ok, AV.ok1, AC.ok]; done) | (simp [AV.ok, AV.ok1, AC.ok]; omega) | (simp [AObj.okN, AC.ok]; done)) | (simp [AObj.okN]; done))
    · have hkl : k = l.length := by omega
      subst hkl
      simp (disch := first | omega | (simp only [go_sem]; first | done | omega)) only [go_sem, hfl]
      exact Ret.frzGrT 0 hH (by omega) rfl (pureL_map _ (fun x => by simp [go_sem, AC.pure])) rfl (by rw [map_grV]; simp) hk
  · rw [if_neg he] at hk
    simp (disch := first | omega | (simp only [go_sem]; first | done | omega)) only [go_sem, he]
    refine Ret.nil [1, 0] (Nat.le_refl _) ?_
    exact Ret.same (Nat.le_refl _) hk
end Go.Proofs.YtppmkgaobeccfaaGreatDoor
/- The numbers of a node: the program's answer. Condition: names' sizes; at most a million. -/
namespace Go.Proofs.YtppmkgaobeccfaaGreatDoor
open Go Go.RowKit
set_option maxRecDepth 100000
set_option linter.all false
set_option maxHeartbeats 1000000
variable {H : Hp} {K : AV → Hp → Prop}
def ndErr (l : List Arr) (n : ByteArray) : Int := if arF l ≠ 0 then arF l else if isKey n then 0 else 5
theorem nodeFault_a (l : List Arr) (n : ByteArray) (hn : n.size ≤ 1099511627776) (hsz : ∀ x ∈ l, x.nd.size ≤ 1099511627776 ∧ x.p.tag.size ≤ 1099511627776) (hl : l.length ≤ 1000000) (hk : K (.c (.int .i64 (ndErr l n))) H) : ACalls Tryz.prog 53 [.c (.lst 7 (l.map encAr)), (.c (.str n))] H K := by
  refine acalls Tryz.func53 rfl (by kernel_rfl) (by simp (disch := first | omega | (simp only [go_sem]; first | done | omega)) only [go_sem]) (fun hH => ?_)
  simp (disch := first | omega | (simp only [go_sem]; first | done | omega)) only [go_sem]
  refine checkArrivals_a l hsz hl ?_
  unfold ndErr at hk
  by_cases he : arF l = 0
  · simp (disch := first | omega | (simp only [go_sem]; first | done | omega)) only [go_sem, he]
    repeat' (first | ((first | refine acond_d ?_ ?_ | refine acond_b ?_ ?_ | refine ag_d ?_ ?_ | refine ag_n ?_ ?_ | refine ag_bt ?_ ?_ | refine ag_bf ?_ ?_) <;> intro c <;> try simp (disch := first | omega | (simp only [go_sem]; first | done | omega)) only [go_sem, c]) | ((first | refine w_draw (by kernel_rfl) (by decide +kernel) ?_ | refine key_a _ hn ?_) <;> try simp (disch := first | omega | (simp only [go_sem]; first | done | omega)) only [go_sem]))
    all_goals first
      | (first | refine Ret.sameE (Nat.le_refl _) (by assumption) ?_ | refine Ret.dropE (by assumption) (Nat.le_refl _) (by assumption) (by simp [AV.ok, AV.ok1, AC.ok]) ?_) <;> grind
  · rw [if_pos he] at hk
    simp (disch := first | omega | (simp only [go_sem]; first | done | omega)) only [go_sem, he]
    exact Ret.same (Nat.le_refl _) hk
def evF (l : List Arr) (n : ByteArray) : List Int := l.foldl (fun s x => if x.nd = n then addE s x.p.n else s) []
def moF (l : List Arr) (n : ByteArray) : Int := l.foldl (fun s x => if x.nd = n then max s x.p.n else s) 0
theorem evF_next {l : List Arr} {n : ByteArray} {k : Nat} (h : k < l.length) : evF (l.take (k + 1)) n = if l[k].nd = n then addE (evF (l.take k) n) l[k].p.n else evF (l.take k) n := by
  unfold evF; rw [List.take_succ_eq_append_getElem h, List.foldl_append]; rfl
theorem moF_next {l : List Arr} {n : ByteArray} {k : Nat} (h : k < l.length) : moF (l.take (k + 1)) n = if l[k].nd = n then max (moF (l.take k) n) l[k].p.n else moF (l.take k) n := by
  unfold moF; rw [List.take_succ_eq_append_getElem h, List.foldl_append]; rfl
theorem okN_ev (S : List Int) (n : Nat) : (mpO (S.map encEv)).okN n := by
  unfold mpO AObj.okN
  intro p hp
  obtain ⟨x, _, rfl⟩ := List.mem_map.1 hp
  exact ⟨trivial, trivial⟩
theorem numbers_a (l : List Arr) (n : ByteArray) (hl : l.length ≤ 1000000) (hk : K (.tup [.c (.map (some H.length)), (.c (.int .i64 (moF l n)))]) (H ++ [mpO ((evF l n).map encEv)])) : ACalls Tryz.prog 54 [.c (.lst 7 (l.map encAr)), (.c (.str n))] H K := by
  refine acalls Tryz.func54 rfl (by kernel_rfl) (by simp (disch := first | omega | (simp only [go_sem]; first | done | omega)) only [go_sem]) (fun hH => ?_)
  simp (disch := first | omega | (simp only [go_sem]; first | done | omega)) only [go_sem]
  refine AWp.loop (H.length + 1) [1, 6, 11, 12] [13, 7] (fun (k : Nat) => k ≤ l.length) (fun (k : Nat) => [(13, (.c (.int .i64 k))), (7, (.c (.int .i64 (moF (l.take k) n))))]) (fun (k : Nat) => H ++ [mpO ((evF (l.take k) n).map encEv)]) (fun (k : Nat) => l.length - k) (by kernel_rfl) (fun _ => rfl) (by kernel_rfl) (by first | (simp; done) | omega) (by first | (simp; done) | (simp; omega) | omega) (by (try simp only [List.forall_mem_cons, List.not_mem_nil, false_implies, implies_true, and_true]); (try simp (disch := first | omega | (simp only [go_sem]; first | done | omega)) only [go_sem]); all_goals first | trivial | (simp [AV.ok, AV.ok1, AC.ok]; done) | (simp [AV.ok, AV.ok1, AC.ok]; omega) | (simp [AV.ok, AV.ok1, AC.ok]; assumption) | ((repeat' apply And.intro) <;> first | trivial | (simp [AV.ok, AV.ok1, AC.ok]; done) | (simp [AV.ok, AV.ok1, AC.ok]; omega) | (simp [AV.ok, AV.ok1, AC.ok]; assumption) | (refine grV_ok ?_ _; first | (simp; done) | (simp; omega) | omega))) ?_ (fun k q1 _ _ => ?_)
  · refine Next.mk 0 (Nat.zero_le _) ?_
    (try simp (disch := first | omega | (simp only [go_sem]; first | done | omega)) only [go_sem]); (first | refine WkL.eq ?_ ?_ | refine WkL.rest (by assumption) ?_ ?_ ?_ | refine WkL.keepL (by assumption) rfl ?_ ?_ ?_ ?_) <;> first | rfl | (simp; done) | (simp; omega) | (simp only [List.cons.injEq, AV.c.injEq, AC.int.injEq, AC.bool.injEq, AC.str.injEq, and_true, true_and, Int.natCast_add, Int.natCast_one, Int.cast_ofNat_Int]; omega) | (simp [AV.ok, AV.ok1, AC.ok]; done) | (simp [AV.ok, AV.ok1, AC.ok]; omega) | (simp only [List.forall_mem_cons, List.not_mem_nil, false_implies, implies_true, and_true]; (repeat' apply And.intro) <;> first | exact okN_map (fun x => by simp [go_sem, AC.pure]) | exact okN_grO (fun x => by simp [go_sem, AC.pure]) | (simp [AObj.okN, AC.ok]; done) | (simp [AObj.okN, AC.ok]; omega)) | (simp [*]; done) | grind
  by_cases hlt : k < l.length
  · obtain ⟨x, hx⟩ : ∃ x, x = l[k] := ⟨_, rfl⟩
    have h1 := evF_next (n := n) hlt
    have h2 := moF_next (n := n) hlt
    rw [← hx] at h1 h2
    have hpt := fun ht => put_ever (kt := 3) x.p.n (evF (l.take k) n) ht
    generalize evF (l.take k) n = S at *
    generalize moF (l.take k) n = m at *
    by_cases hn : x.nd = n
    · rw [if_pos hn] at h1 h2
      simp (disch := first | omega | (simp only [go_sem]; first | done | omega)) only [go_sem, hlt, ← hx, hn]
      refine mup_mp (by kernel_rfl) (hpt (by kernel_rfl)) ?_
      simp (disch := first | omega | (simp only [go_sem]; first | done | omega)) only [go_sem]
      refine Next.mk (k + 1) ⟨by omega, by omega⟩ ?_
      rw [h1, h2]
      refine WkL.keepL hH rfl (by simp) rfl ?_ ?_
      · intro o ho
        simp only [List.mem_singleton] at ho
        subst ho
        exact okN_ev _ _
      · intro v hv
        simp only [newV, List.map_cons, List.map_nil, List.mem_cons, List.not_mem_nil, or_false] at hv
        rcases hv with rfl | rfl <;> trivial
    · rw [if_neg hn] at h1 h2
      simp (disch := first | omega | (simp only [go_sem]; first | done | omega)) only [go_sem, hlt, ← hx, hn]
      refine Next.mk (k + 1) ⟨by omega, by omega⟩ ?_
      rw [h1, h2]
      refine WkL.keepL hH rfl (by simp) rfl ?_ ?_
      · intro o ho
        simp only [List.mem_singleton] at ho
        subst ho
        exact okN_ev _ _
      · intro v hv
        simp only [newV, List.map_cons, List.map_nil, List.mem_cons, List.not_mem_nil, or_false] at hv
        rcases hv with rfl | rfl <;> trivial
  · rw [List.take_of_length_le (by omega)]
    simp (disch := first | omega | (simp only [go_sem]; first | done | omega)) only [go_sem, hlt]
    exact Ret.same (by simp) hk
end Go.Proofs.YtppmkgaobeccfaaGreatDoor
/- Complete and Missing: the program's answers. Condition: names' sizes; at most a million. -/
namespace Go.Proofs.YtppmkgaobeccfaaGreatDoor
open Go Go.RowKit
set_option maxRecDepth 100000
set_option linter.all false
set_option maxHeartbeats 1000000
variable {H : Hp} {K : AV → Hp → Prop}
theorem arGo_all : ∀ {l : List Arr} {p : Option Arr}, arGo p l = 0 → ∀ x ∈ l, arrErr x = 0
  | [], _, _ => by simp
  | a :: t, p, h => by
    unfold arGo at h
    split at h
    · rename_i c; exact absurd h c
    · rename_i c
      have c : arS p a = 0 := by omega
      intro x hx
      rcases List.mem_cons.1 hx with rfl | hx
      · unfold arS at c
        split at c
        · exact c
        · omega
      · exact arGo_all h x hx
theorem arF_all {l : List Arr} (h : arF l = 0) : ∀ x ∈ l, arrErr x = 0 := by
  unfold arF at h
  split at h
  · omega
  · split at h
    · omega
    · rename_i c; exact arGo_all (p := none) (by omega)
theorem addE_mem2 {l : List Int} {x y : Int} (h : y ∈ addE l x) : y ∈ l ∨ y = x := by
  unfold addE at h
  split at h
  · exact Or.inl h
  · simpa using h
theorem evF_mem {n : ByteArray} : ∀ (l : List Arr) (y : Int), y ∈ evF l n → ∃ a ∈ l, a.nd = n ∧ a.p.n = y := by
  have key : ∀ (l : List Arr) (s : List Int) (y : Int), y ∈ l.foldl (fun s x => if x.nd = n then addE s x.p.n else s) s → y ∈ s ∨ ∃ a ∈ l, a.nd = n ∧ a.p.n = y := by
    intro l
    induction l with
    | nil => intro s y h; exact Or.inl h
    | cons a t ih =>
      intro s y h
      rw [List.foldl_cons] at h
      rcases ih _ y h with h | ⟨b, hb, e⟩
      · by_cases ha : a.nd = n
        · rw [if_pos ha] at h
          rcases addE_mem2 h with h | h
          · exact Or.inl h
          · exact Or.inr ⟨a, List.mem_cons_self, ha, h.symm⟩
        · rw [if_neg ha] at h
          exact Or.inl h
      · exact Or.inr ⟨b, List.mem_cons_of_mem _ hb, e⟩
  intro l y h
  rcases key l [] y h with h | h
  · simp at h
  · exact h
theorem evF_bd {l : List Arr} {n : ByteArray} (h : arF l = 0) : ∀ y ∈ evF l n, 1 ≤ y ∧ y ≤ 1000000 := by
  intro y hy
  obtain ⟨a, ha, _, rfl⟩ := evF_mem l y hy
  exact (arrErr_bd (arF_all h a ha)).2
end Go.Proofs.YtppmkgaobeccfaaGreatDoor
