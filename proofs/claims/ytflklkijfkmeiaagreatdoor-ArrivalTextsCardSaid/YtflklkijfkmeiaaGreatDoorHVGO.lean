/- Several texts in one: Arrivals sorted, joined and compacted: the program's Merge, and what follows. No condition. -/
import Derived.Test.YtflklkijfkmeiaaGreatDoorHVArrK
import Derived.Test.YtflklkijfkmeiaaGreatDoorHVGD
import Derived.Test.YtflklkijfkmeiaaGreatDoorHVCptQ
import Derived.Test.YtflklkijfkmeiaaGreatDoorHVGM
import Derived.Shelf.SlSortCmp.WholeK
import Derived.Test.YtflklkijfkmeiaaGreatDoorHVGA
import Derived.Test.YtflklkijfkmeiaaGreatDoorProg
import Derived.Test.YtflklkijfkmeiaaGreatDoorHVSteps
/- Arrivals sorted, joined and compacted: the program's Merge. Condition: names' sizes; at most 20 arrivals. -/
namespace Go.Proofs.YtflklkijfkmeiaaGreatDoor
open Go Go.RowKit
set_option maxRecDepth 100000
set_option linter.all false
set_option maxHeartbeats 1000000
variable {H : Hp} {K : AV → Hp → Prop}
instance arrDec : DecidableEq Arr := fun a b =>
  if h : a.nd = b.nd ∧ a.t = b.t ∧ a.p = b.p then isTrue (by cases a; cases b; simp_all) else isFalse (by rintro rfl; simp at h)
theorem arr_eqs (a b : Arr) : (decide (a.nd = b.nd) && (decide (a.t = b.t) && (decide (a.p.n = b.p.n) && (decide (a.p.tag = b.p.tag) && (decide (a.p.s.t = b.p.s.t) && (decide (a.p.s.v = b.p.s.v) && decide (a.p.s.q = b.p.s.q))))))) = decide (a = b) := by
  rw [Bool.eq_iff_iff]
  simp only [Bool.and_eq_true, decide_eq_true_eq]
  obtain ⟨a1, a2, a3, a4, a5⟩ := a
  obtain ⟨b1, b2, b3, b4, b5⟩ := b
  cases a5; cases b5
  constructor
  · rintro ⟨rfl, rfl, rfl, rfl, rfl, rfl, rfl⟩; rfl
  · intro h; cases h; exact ⟨rfl, rfl, rfl, rfl, rfl, rfl, rfl⟩
attribute [simp] encAr
theorem insertionAr_a (f : FuncId) (cf : Arr → Arr → Int) (lt : Arr → Arr → Bool) (P : Arr → Prop) (he : entersB Tryz.prog f = true) (hc : ∀ x y, P x → P y → (cf x y < 0 ↔ lt x y = true)) (hf : ∀ (x y : Arr) (H : Hp) (K : AV → Hp → Prop), P x → P y → K (.c (.int .i64 (cf x y))) H → ACalls Tryz.prog f [.agg (encAr x), .agg (encAr y)] H K)
    {i n : Nat} (l : List Arr) (hi : H[i]? = some (.row 67 7 (l.map encAr) true)) (hn : n = l.length) (hP : ∀ x ∈ l, P x) (hlen : l.length ≤ 1000000) (hk : K (.tup []) (H.set i (.row 67 7 ((isortG lt l).map encAr) true))) :
    ACalls Tryz.prog 219 [.c (.sl (some (i, 0)) n), (.c (.int .i64 0)), (.c (.int .i64 n)), .c (.fn f [] [])] H K := by
  subst hn
  have hlt := getElem?_lt hi
  refine acalls Tryz.func219 rfl (by kernel_rfl) (by simp (disch := first | omega | (simp only [go_sem]; first | done | omega)) only [go_sem]) (fun hH => ?_)
  simp (disch := first | omega | (simp only [go_sem]; first | done | omega)) only [go_sem]
  refine AWp.loop (H.length) [0, 1, 2, 3] [8] (fun (q : Nat × List Arr) => 1 ≤ q.1 ∧ (q.1 ≤ l.length ∨ q.1 = 1) ∧ q.2.length = l.length ∧ (∀ x ∈ q.2, P x) ∧ isortGoG lt (l.length - q.1) q.1 q.2 = isortG lt l) (fun (q : Nat × List Arr) => [(8, (.c (.int .i64 (q.1))))]) (fun (q : Nat × List Arr) => H.set i (.row 67 7 (q.2.map encAr) true)) (fun (q : Nat × List Arr) => l.length - q.1) (by kernel_rfl) (fun _ => rfl) (by kernel_rfl) (by first | (simp; done) | omega) (by first | (simp; done) | (simp; omega) | omega) kl ?_ (fun q hq _ _ => ?_)
  · refine Next.mk (1, l) ⟨by simp, by simp, rfl, hP, rfl⟩ ?_
    have e : H.set i (.row 67 7 (l.map encAr) true) = H := by
      apply List.ext_getElem?
      intro j
      by_cases h : i = j
      · subst h; rw [List.getElem?_set_self hlt, hi]
      · rw [List.getElem?_set_ne h]
    dsimp only
    rw [e]
    exact wk
  obtain ⟨k, cur⟩ := q
  obtain ⟨hk1, hk2, hcl, hcP, hcE⟩ := hq
  dsimp only at hk1 hk2 hcl hcP hcE
  by_cases hkl : k < l.length
  · simp (disch := first | omega | (simp only [go_sem]; first | done | omega)) only [go_sem]
    refine AWp.loop (H.length) [0, 1, 2, 3, 8] [9] (fun (q : Nat × List Arr) => q.1 ≤ k ∧ q.2.length = l.length ∧ (∀ x ∈ q.2, P x) ∧ sinkG lt q.1 q.2 = sinkG lt k cur) (fun (q : Nat × List Arr) => [(9, (.c (.int .i64 (q.1))))]) (fun (q : Nat × List Arr) => H.set i (.row 67 7 (q.2.map encAr) true)) (fun (q : Nat × List Arr) => q.1) (by kernel_rfl) (fun _ => rfl) (by kernel_rfl) (by first | (simp; done) | omega) (by first | (simp; done) | (simp; omega) | omega) kl ?_ (fun q hq _ _ => ?_)
    · exact Next.mk (k, cur) ⟨Nat.le_refl _, hcl, hcP, rfl⟩ wk
    obtain ⟨j, cu⟩ := q
    obtain ⟨hj1, hj2, hjP, hjE⟩ := hq
    dsimp only at hj1 hj2 hjP hjE
    have hdone : sinkG lt j cu = cu → WkL H.length [(.c (.int .i64 ((k + 1 : Nat))))] (H.set i (.row 67 7 (cu.map encAr) true)) [(.c (.int .i64 ((k + 1 : Nat))))] (H.set i (.row 67 7 ((sinkG lt k cur).map encAr) true)) := fun h => by
      rw [← hjE, h]; exact WkL.refl (by simp)
    have hnx : sinkG lt j cu = cu → (1 ≤ k + 1 ∧ (k + 1 ≤ l.length ∨ k + 1 = 1) ∧ (sinkG lt k cur).length = l.length ∧ (∀ x ∈ sinkG lt k cur, P x) ∧ isortGoG lt (l.length - (k + 1)) (k + 1) (sinkG lt k cur) = isortG lt l) ∧ l.length - (k + 1) < l.length - k := fun h => by
      refine ⟨⟨by omega, .inl (by omega), by rw [← hjE, h]; exact hj2, by rw [← hjE, h]; exact hjP, ?_⟩, by omega⟩
      rw [← hcE, show l.length - k = (l.length - (k + 1)) + 1 by omega]; rfl
    rcases j with _ | j
    · simp (disch := first | omega | (simp only [go_sem]; first | done | omega)) only [go_sem]
      repeat' (first | ((first | refine acond_d ?_ ?_ | refine acond_b ?_ ?_ | refine ag_d ?_ ?_ | refine ag_n ?_ ?_ | refine ag_bt ?_ ?_ | refine ag_bf ?_ ?_) <;> intro c <;> try simp (disch := first | omega | (simp only [go_sem]; first | done | omega)) only [go_sem, c]) | ((first | refine w_draw (by kernel_rfl) (by decide +kernel) ?_) <;> try simp (disch := first | omega | (simp only [go_sem]; first | done | omega)) only [go_sem]))
      exact Next.mk (k + 1, sinkG lt k cur) (hnx rfl) (hdone rfl)
    · have hjl : j + 1 < cu.length := by omega
      have hst := sinkG_step lt j cu hjl
      have hx : cu[(((j + 1 : Nat) : Int) - 1).toNat]'(by omega) = cu[j] := by congr 1; omega
      simp (disch := first | omega | (simp only [go_sem]; first | done | omega)) only [go_sem]
      repeat' (first | ((first | refine acond_d ?_ ?_ | refine acond_b ?_ ?_ | refine ag_d ?_ ?_ | refine ag_n ?_ ?_ | refine ag_bt ?_ ?_ | refine ag_bf ?_ ?_) <;> intro c <;> try simp (disch := first | omega | (simp only [go_sem]; first | done | omega)) only [go_sem, c, he, hx]) | ((first | refine w_draw (by kernel_rfl) (by decide +kernel) ?_ | refine hf cu[j + 1] cu[j] _ _ (hjP _ (List.getElem_mem _)) (hjP _ (List.getElem_mem _)) ?_) <;> try simp (disch := first | omega | (simp only [go_sem]; first | done | omega)) only [go_sem, he, hx]))
      · have lt := (hc _ _ (hjP _ (List.getElem_mem _)) (hjP _ (List.getElem_mem _))).1 c
        have hmp : ∀ q, q = j → ((cu.map encAr).set (j + 1) (encAr cu[j])).set q (encAr cu[j + 1]) = (((cu.set (j + 1) cu[j]).set j cu[j + 1])).map encAr := by
          rintro q rfl; simp [List.map_set, -encAr]
        have hmp := hmp (((j + 1 : Nat) : Int) - 1).toNat (by omega)
        refine Next.mk (j, (cu.set (j + 1) cu[j]).set j cu[j + 1]) ⟨⟨by omega, by simpa using hj2, fun x hx' => ?_, by rw [← hjE, hst, if_pos lt]⟩, by dsimp only; omega⟩ ?_
        · rcases List.mem_or_eq_of_mem_set hx' with h | rfl
          · rcases List.mem_or_eq_of_mem_set h with h | rfl
            · exact hjP x h
            · exact hjP _ (List.getElem_mem _)
          · exact hjP _ (List.getElem_mem _)
        · dsimp only
          rw [← hmp]
          exact wk
      · have ge : ¬lt cu[j + 1] cu[j] = true := fun h => c ((hc _ _ (hjP _ (List.getElem_mem _)) (hjP _ (List.getElem_mem _))).2 h)
        have h : sinkG lt (j + 1) cu = cu := by rw [hst, if_neg ge]
        exact Next.mk (k + 1, sinkG lt k cur) (hnx h) (hdone h)
  · simp (disch := first | omega | (simp only [go_sem]; first | done | omega)) only [go_sem]
    have e : cur = isortG lt l := by rw [← hcE, show l.length - k = 0 by omega]; rfl
    rw [e]
    exact Ret.same (by simp) hk
structure CmpAr (f : FuncId) (P : Arr → Prop) : Prop where
  he : entersB Tryz.prog f = true
  hf : ∀ (x y : Arr) (H : Hp) (K : AV → Hp → Prop), P x → P y → K (.c (.int .i64 (arrC x y))) H → ACalls Tryz.prog f [.agg (encAr x), .agg (encAr y)] H K
def arLt (x y : Arr) : Bool := decide (arrC x y < 0)
theorem insNilAr_a {f : FuncId} (hk : K (.tup []) H) : ACalls Tryz.prog 219 [.c (.sl none 0), (.c (.int .i64 0)), (.c (.int .i64 0)), .c (.fn f [] [])] H K := by
  refine acalls Tryz.func219 rfl (by kernel_rfl) (by simp (disch := first | omega | (simp only [go_sem]; first | done | omega)) only [go_sem]) (fun hH => ?_)
  simp (disch := first | omega | (simp only [go_sem]; first | done | omega)) only [go_sem]
  refine AWp.loop (H.length) [0, 1, 2, 3] [8] (fun (q : Unit) => True) (fun (q : Unit) => [(8, (.c (.int .i64 1)))]) (fun (q : Unit) => H) (fun (q : Unit) => 0) (by kernel_rfl) (fun _ => rfl) (by kernel_rfl) (by first | (simp; done) | omega) (by first | (simp; done) | (simp; omega) | omega) kl ?_ (fun q hq _ _ => ?_)
  · exact Next.mk () trivial wk
  simp (disch := first | omega | (simp only [go_sem]; first | done | omega)) only [go_sem]
  exact Ret.same (Nat.le_refl _) hk
theorem stableNil_a {f : FuncId} (hk : K (.tup []) H) : ACalls Tryz.prog 152 [.c (.sl none 0), (.c (.int .i64 0)), .c (.fn f [] [])] H K := by
  refine acalls Tryz.func152 rfl (by kernel_rfl) (by simp (disch := first | omega | (simp only [go_sem]; first | done | omega)) only [go_sem]) (fun hH => ?_)
  simp (disch := first | omega | (simp only [go_sem]; first | done | omega)) only [go_sem]
  refine AWp.loop (H.length) [0, 1, 2, 6] [7, 8] (fun (q : Unit) => True) (fun (q : Unit) => [(7, (.c (.int .i64 0))), (8, (.c (.int .i64 20)))]) (fun (q : Unit) => H) (fun (q : Unit) => 0) (by kernel_rfl) (fun _ => rfl) (by kernel_rfl) (by first | (simp; done) | omega) (by first | (simp; done) | (simp; omega) | omega) kl ?_ (fun q hq _ _ => ?_)
  · exact Next.mk () trivial wk
  simp (disch := first | omega | (simp only [go_sem]; first | done | omega)) only [go_sem]
  refine insNilAr_a ?_
  simp (disch := first | omega | (simp only [go_sem]; first | done | omega)) only [go_sem]
  refine AWp.loop (H.length) [0, 1, 2] [6] (fun (q : Unit) => True) (fun (q : Unit) => [(6, (.c (.int .i64 20)))]) (fun (q : Unit) => H) (fun (q : Unit) => 0) (by kernel_rfl) (fun _ => rfl) (by kernel_rfl) (by first | (simp; done) | omega) (by first | (simp; done) | (simp; omega) | omega) kl ?_ (fun q hq _ _ => ?_)
  · exact Next.mk () trivial wk
  simp (disch := first | omega | (simp only [go_sem]; first | done | omega)) only [go_sem]
  exact Ret.same (Nat.le_refl _) hk
theorem insEnd_a {f : FuncId} {i n : Nat} (hil : i < H.length) (hk : K (.tup []) H) : ACalls Tryz.prog 219 [.c (.sl (some (i, 0)) n), (.c (.int .i64 20)), (.c (.int .i64 20)), .c (.fn f [] [])] H K := by
  refine acalls Tryz.func219 rfl (by kernel_rfl) (by simp (disch := first | omega | (simp only [go_sem]; first | done | omega)) only [go_sem]) (fun hH => ?_)
  simp (disch := first | omega | (simp only [go_sem]; first | done | omega)) only [go_sem]
  refine AWp.loop (H.length) [0, 1, 2, 3] [8] (fun (q : Unit) => True) (fun (q : Unit) => [(8, (.c (.int .i64 21)))]) (fun (q : Unit) => H) (fun (q : Unit) => 0) (by kernel_rfl) (fun _ => rfl) (by kernel_rfl) (by first | (simp; done) | omega) (by first | (simp; done) | (simp; omega) | omega) kl ?_ (fun q hq _ _ => ?_)
  · exact Next.mk () trivial wk
  simp (disch := first | omega | (simp only [go_sem]; first | done | omega)) only [go_sem]
  exact Ret.same (Nat.le_refl _) hk
theorem stable_a {f : FuncId} {P : Arr → Prop} (hc : CmpAr f P) {i n : Nat} (l : List Arr) (hi : H[i]? = some (.row 67 7 (l.map encAr) true)) (hn : n = l.length) (h20 : l.length ≤ 20) (hP : ∀ x ∈ l, P x)
    (hk : K (.tup []) (H.set i (.row 67 7 ((isortG arLt l).map encAr) true))) :
    ACalls Tryz.prog 152 [.c (.sl (some (i, 0)) n), (.c (.int .i64 n)), .c (.fn f [] [])] H K := by
  subst hn
  have hilt := getElem?_lt hi
  have he := hc.he
  have hlt : ∀ x y, P x → P y → (arrC x y < 0 ↔ arLt x y = true) := fun x y _ _ => by unfold arLt; rw [decide_eq_true_eq]
  have h21 : ¬ (20 : Int) < l.length := by omega
  refine acalls Tryz.func152 rfl (by kernel_rfl) (by simp (disch := first | omega | (simp only [go_sem]; first | done | omega)) only [go_sem]) (fun hH => ?_)
  simp (disch := first | omega | (simp only [go_sem]; first | done | omega)) only [go_sem]
  by_cases h : l.length = 20
  · have h1 : (20 : Int) ≤ l.length := by omega
    have h2 : ¬ (40 : Int) ≤ l.length := by omega
    refine AWp.loop (H.length) [0, 1, 2, 6] [7, 8] (fun (q : Nat) => q = 0 ∨ q = 1) (fun (q : Nat) => [(7, (.c (.int .i64 (20 * (q : Int))))), (8, (.c (.int .i64 (20 * (q : Int) + 20))))]) (fun (q : Nat) => if q = 0 then H else H.set i (.row 67 7 ((isortG arLt l).map encAr) true)) (fun (q : Nat) => 1 - q) (by kernel_rfl) (fun _ => rfl) (by kernel_rfl) (by first | (simp; done) | omega) (by first | (simp; done) | (simp; omega) | omega) kl ?_ (fun q hq _ _ => ?_)
    · exact Next.mk 0 (Or.inl rfl) wk
    rcases hq with rfl | rfl
    · rw [if_pos rfl]
      simp (disch := first | omega | (simp only [go_sem]; first | done | omega)) only [go_sem, h1]
      rw [show AV.c (.int .i64 (20 : Int)) = .c (.int .i64 (l.length : Int)) by rw [h]; rfl]
      refine insertionAr_a f arrC arLt P he hlt hc.hf l hi rfl hP (by omega) ?_
      simp (disch := first | omega | (simp only [go_sem]; first | done | omega)) only [go_sem]
      refine Next.mk 1 ⟨Or.inr rfl, by omega⟩ ?_
      rw [if_neg (by omega)]
      exact wk
    · rw [if_neg (by omega)]
      simp (disch := first | omega | (simp only [go_sem]; first | done | omega)) only [go_sem, h2]
      rw [show AV.c (.int .i64 (l.length : Int)) = .c (.int .i64 (20 : Int)) by rw [h]; rfl]
      refine insEnd_a (by simpa using hilt) ?_
      simp (disch := first | omega | (simp only [go_sem]; first | done | omega)) only [go_sem]
      refine AWp.loop (H.length) [0, 1, 2] [6] (fun (q : Unit) => True) (fun (q : Unit) => [(6, (.c (.int .i64 20)))]) (fun (q : Unit) => H.set i (.row 67 7 ((isortG arLt l).map encAr) true)) (fun (q : Unit) => 0) (by kernel_rfl) (fun _ => rfl) (by kernel_rfl) (by first | (simp; done) | omega) (by first | (simp; done) | (simp; omega) | omega) kl ?_ (fun q hq _ _ => ?_)
      · exact Next.mk () trivial wk
      simp (disch := first | omega | (simp only [go_sem]; first | done | omega)) only [go_sem, h21]
      exact Ret.same (by simp) hk
  have h1 : ¬ (20 : Int) ≤ l.length := by omega
  refine AWp.loop (H.length) [0, 1, 2, 6] [7, 8] (fun (q : Unit) => True) (fun (q : Unit) => [(7, (.c (.int .i64 0))), (8, (.c (.int .i64 20)))]) (fun (q : Unit) => H) (fun (q : Unit) => 0) (by kernel_rfl) (fun _ => rfl) (by kernel_rfl) (by first | (simp; done) | omega) (by first | (simp; done) | (simp; omega) | omega) kl ?_ (fun q hq _ _ => ?_)
  · exact Next.mk () trivial wk
  simp (disch := first | omega | (simp only [go_sem]; first | done | omega)) only [go_sem, h1]
  refine insertionAr_a f arrC arLt P he hlt hc.hf l hi rfl hP (by omega) ?_
  simp (disch := first | omega | (simp only [go_sem]; first | done | omega)) only [go_sem]
  refine AWp.loop (H.length) [0, 1, 2] [6] (fun (q : Unit) => True) (fun (q : Unit) => [(6, (.c (.int .i64 20)))]) (fun (q : Unit) => H.set i (.row 67 7 ((isortG arLt l).map encAr) true)) (fun (q : Unit) => 0) (by kernel_rfl) (fun _ => rfl) (by kernel_rfl) (by first | (simp; done) | omega) (by first | (simp; done) | (simp; omega) | omega) kl ?_ (fun q hq _ _ => ?_)
  · exact Next.mk () trivial wk
  simp (disch := first | omega | (simp only [go_sem]; first | done | omega)) only [go_sem, h21]
  exact Ret.same (by simp) hk
theorem sortStable_a {f : FuncId} {P : Arr → Prop} (hc : CmpAr f P) {i : Nat} (l : List Arr) (hi : H[i]? = some (grO 67 7 (l.map encAr))) (h20 : l.length ≤ 20) (hP : ∀ x ∈ l, P x)
    (hk : K (.tup []) (H.set i (grO 67 7 ((isortG arLt l).map encAr)))) :
    ACalls Tryz.prog 82 [.c (grV i l), .c (.fn f [] [])] H K := by
  have hlen := isortG_len arLt l
  by_cases h : l = []
  · subst h
    have e : isortG arLt [] = [] := rfl
    rw [e, set_same hi] at hk
    refine acalls Tryz.func82 rfl (by kernel_rfl) (by simp (disch := first | omega | (simp only [go_sem]; first | done | omega)) only [go_sem]) (fun hH => ?_)
    simp (disch := first | omega | (simp only [go_sem]; first | done | omega)) only [go_sem]
    refine stableNil_a ?_
    simp (disch := first | omega | (simp only [go_sem]; first | done | omega)) only [go_sem]
    exact Ret.same (Nat.le_refl _) hk
  · have h2 : l.map encAr ≠ [] := by simpa using h
    have h3 : (isortG arLt l).map encAr ≠ [] := by
      intro h4
      have := congrArg List.length h4
      rw [List.length_map, hlen] at this
      exact h (List.length_eq_zero_iff.1 this)
    rw [grO_pos _ _ h2] at hi
    rw [grO_pos _ _ h3] at hk
    rw [grV_pos _ h]
    have hilt := getElem?_lt hi
    have he := hc.he
    refine acalls Tryz.func82 rfl (by kernel_rfl) (by simp (disch := first | omega | (simp only [go_sem]; first | done | omega)) only [go_sem]) (fun hH => ?_)
    simp (disch := first | omega | (simp only [go_sem]; first | done | omega)) only [go_sem, hi]
    refine stable_a hc l hi rfl h20 hP ?_
    simp (disch := first | omega | (simp only [go_sem]; first | done | omega)) only [go_sem]
    exact Ret.same (by simp) hk
theorem cmpOrder : CmpAr 83 (fun x => (-1000000000000000 ≤ x.t ∧ x.t ≤ 1000000000000000) ∧ (-1000000000000000 ≤ x.p.n ∧ x.p.n ≤ 1000000000000000)) where
  he := by kernel_rfl
  hf := fun x y H K hx hy hk => arrivalOrder_a x y hx.1 hy.1 hx.2 hy.2 hk
theorem grV_lenA {α β : Type} (i : Nat) (l : List α) (m : List β) (h : l.length = m.length) : grV i l = grV i m := by
  cases l with
  | nil => cases m with
    | nil => rfl
    | cons y ys => cases h
  | cons x xs => cases m with
    | nil => cases h
    | cons y ys =>
      show AC.sl (some (i, 0)) (xs.length + 1) = AC.sl (some (i, 0)) (ys.length + 1)
      rw [show xs.length + 1 = ys.length + 1 from h]
end Go.Proofs.YtflklkijfkmeiaaGreatDoor
/- Arrivals sorted: one list, whichever way they are sorted. No program in sight. -/
namespace Go.Proofs.YtflklkijfkmeiaaGreatDoor
open Go Go.RowKit
set_option maxRecDepth 100000
set_option linter.all false
set_option maxHeartbeats 1000000
theorem cmpB_trans : ∀ a b c : List UInt8, Lib.compareBytes a b < 0 → Lib.compareBytes b c < 0 → Lib.compareBytes a c < 0
  | [], [], c, h, _ => by simp [Lib.compareBytes] at h
  | [], _ :: _, [], _, h => by simp [Lib.compareBytes] at h
  | [], _ :: _, _ :: _, _, _ => by simp [Lib.compareBytes]
  | _ :: _, [], _, h, _ => by simp [Lib.compareBytes] at h
  | _ :: _, _ :: _, [], _, h => by simp [Lib.compareBytes] at h
  | x :: a, y :: b, z :: c, h1, h2 => by
    have ih := cmpB_trans a b c
    unfold Lib.compareBytes at h1 h2 ⊢
    have tr : ∀ p q r : UInt8, p < q → q < r → p < r := fun p q r => UInt8.lt_trans
    have eq : ∀ p q : UInt8, ¬ p < q → ¬ q < p → p = q := fun p q h1 h2 => UInt8.le_antisymm (UInt8.not_lt.1 h2) (UInt8.not_lt.1 h1)
    by_cases a1 : x < y
    · by_cases b1 : y < z
      · rw [if_pos (tr _ _ _ a1 b1)]; omega
      · rw [if_neg b1] at h2
        by_cases b2 : z < y
        · rw [if_pos b2] at h2; omega
        · rw [eq _ _ b1 b2] at a1
          rw [if_pos a1]; omega
    · rw [if_neg a1] at h1
      by_cases a2 : y < x
      · rw [if_pos a2] at h1; omega
      · rw [if_neg a2] at h1
        have e := eq _ _ a1 a2
        subst e
        by_cases b1 : x < z
        · rw [if_pos b1]; omega
        · rw [if_neg b1] at h2 ⊢
          by_cases b2 : z < x
          · rw [if_pos b2] at h2; omega
          · rw [if_neg b2] at h2 ⊢
            exact ih h1 h2
theorem arLt_iff (a b : Arr) : arLt a b = true ↔ (a.t < b.t ∨ (a.t = b.t ∧ (cmpS a.nd b.nd < 0 ∨ (a.nd = b.nd ∧ a.p.n < b.p.n)))) := by
  unfold arLt arrC sgn
  rw [decide_eq_true_eq]
  have h1 := cmpS_eq a.nd b.nd
  by_cases h : a.t = b.t
  · rw [if_neg (by simp [h])]
    by_cases h2 : a.nd = b.nd
    · rw [if_neg (by simp [h2])]
      have h4 := h1.2 h2
      constructor
      · intro h3
        refine Or.inr ⟨h, Or.inr ⟨h2, ?_⟩⟩
        split at h3
        · assumption
        · split at h3 <;> omega
      · rintro (h3 | ⟨_, h3 | ⟨_, h3⟩⟩)
        · omega
        · omega
        · rw [if_pos h3]; omega
    · rw [if_pos h2]
      constructor
      · intro h3; exact Or.inr ⟨h, Or.inl h3⟩
      · rintro (h3 | ⟨_, h3 | ⟨h3, _⟩⟩)
        · omega
        · exact h3
        · exact absurd h3 h2
  · rw [if_pos h]
    split
    · simp; omega
    · split
      · simp; omega
      · omega
theorem cmpS_trans (a b c : ByteArray) (h1 : cmpS a b < 0) (h2 : cmpS b c < 0) : cmpS a c < 0 := cmpB_trans _ _ _ h1 h2
theorem arLt_trans (x y z : Arr) (h1 : arLt x y = true) (h2 : arLt y z = true) : arLt x z = true := by
  rw [arLt_iff] at *
  rcases h1 with h1 | ⟨e1, h1 | ⟨n1, h1⟩⟩ <;> rcases h2 with h2 | ⟨e2, h2 | ⟨n2, h2⟩⟩
  · left; omega
  · left; omega
  · left; omega
  · left; omega
  · exact Or.inr ⟨by omega, Or.inl (cmpS_trans _ _ _ h1 h2)⟩
  · exact Or.inr ⟨by omega, Or.inl (n2 ▸ h1)⟩
  · left; omega
  · exact Or.inr ⟨by omega, Or.inl (n1 ▸ h2)⟩
  · exact Or.inr ⟨by omega, Or.inr ⟨n1.trans n2, by omega⟩⟩
end Go.Proofs.YtflklkijfkmeiaaGreatDoor
/- Arrivals sorted by slices.SortFunc: the document's order, walked in the kit's words, and the kit's contract laid. Condition: numbers are not huge. -/
namespace Go.Proofs.YtflklkijfkmeiaaGreatDoor
open Go Go.RowKit Go.Shelf
set_option maxRecDepth 100000
set_option linter.all false
set_option maxHeartbeats 2000000
variable {H : Hp} {K : AV → Hp → Prop}
def arOk (x : Arr) : Prop := (-1000000000000000 ≤ x.t ∧ x.t ≤ 1000000000000000) ∧ (-1000000000000000 ≤ x.p.n ∧ x.p.n ≤ 1000000000000000)
end Go.Proofs.YtflklkijfkmeiaaGreatDoor
/- Arrivals that are drawn. No condition. -/
namespace Go.Proofs.YtflklkijfkmeiaaGreatDoor
open Go Go.RowKit
set_option maxRecDepth 100000
set_option linter.all false
set_option maxHeartbeats 2000000
variable {H : Hp} {K : AV → Hp → Prop}
def arFine (x : Arr) : Prop := x.nd.size ≤ 1000 ∧ x.p.tag.size ≤ 1000 ∧ (-1100000000000 ≤ x.t ∧ x.t ≤ 1100000000000) ∧ (-1100000000000 ≤ x.p.n ∧ x.p.n ≤ 1100000000000) ∧ (x.p.n ≤ 10 ∨ 1000000 < x.p.n)
theorem arFine.ok {x : Arr} (h : arFine x) : arOk x := by
  obtain ⟨_, _, h3, h4, _⟩ := h
  exact ⟨by omega, by omega⟩
theorem compactFuncAr_a {f : FuncId} {e : Arr → Arr → Bool} (he : entersB Tryz.prog f = true) (l : List Arr) (hf : ∀ (x y : Arr) (H : Hp) (K : AV → Hp → Prop), x ∈ l → y ∈ l → K (.c (.bool (e x y))) H → ACalls Tryz.prog f [.agg (encAr x), .agg (encAr y)] H K) {i n : Nat} (hi : H[i]? = some (.row 67 7 (l.map encAr) true)) (hn : n = l.length) (hlen : l.length ≤ 1000000)
    (hk : K (.c (.lst 7 ((compactQ e l).map encAr))) (H.set i .dead)) :
    ACalls Tryz.prog 84 [.c (.sl (some (i, 0)) n), .c (.fn f [] [])] H K := by
  subst hn
  have hilt := getElem?_lt hi
  refine acalls Tryz.func84 rfl (by kernel_rfl) (by simp (disch := first | omega | (simp only [go_sem]; first | done | omega)) only [go_sem]) (fun hH => ?_)
  simp (disch := first | omega | (simp only [go_sem]; first | done | omega)) only [go_sem]
  by_cases h2 : l.length < 2
  · rw [compactQ_few e l h2] at hk
    simp (disch := first | omega | (simp only [go_sem]; first | done | omega)) only [go_sem]
    refine Ret.frzDead hi (pureL_map _ (fun x => by simp [go_sem, AC.pure])) (by simp) (Nat.le_refl _) ?_
    rw [List.take_of_length_le (by simp)]
    exact hk
  simp (disch := first | omega | (simp only [go_sem]; first | done | omega)) only [go_sem]
  refine AWp.loop (H.length) [0, 1] [5] (fun (k : Nat) => 1 ≤ k ∧ k ≤ l.length ∧ compactQ e (l.take k) = l.take k) (fun (k : Nat) => [(5, (.c (.int .i64 k)))]) (fun (k : Nat) => H) (fun (k : Nat) => l.length - k) (by kernel_rfl) (fun _ => rfl) (by kernel_rfl) (by first | (simp; done) | omega) (by first | (simp; done) | (simp; omega) | omega) kl ?_ (fun k hk1' _ _ => ?_)
  · refine Next.mk 1 ⟨Nat.le_refl _, by omega, ?_⟩ wk
    exact compactQ_few e _ (by rw [List.length_take]; omega)
  obtain ⟨k1, k2, k3⟩ := hk1'
  by_cases hlt : k < l.length
  · have hsu := compactQ_succ e l k1 hlt
    rw [k3] at hsu
    have hix : ((k : Int) - 1).toNat = k - 1 := by omega
    simp (disch := first | omega | (simp only [go_sem]; first | done | omega)) only [go_sem]
    repeat' (first | ((first | refine acond_d ?_ ?_ | refine acond_b ?_ ?_ | refine ag_d ?_ ?_ | refine ag_n ?_ ?_ | refine ag_bt ?_ ?_ | refine ag_bf ?_ ?_) <;> intro c <;> try simp (disch := first | omega | (simp only [go_sem]; first | done | omega)) only [go_sem, c, he, hi, hix]) | ((first | refine w_draw (by kernel_rfl) (by decide +kernel) ?_ | refine hf l[k] (l[k - 1]'(by omega)) _ _ (List.getElem_mem _) (List.getElem_mem _) ?_) <;> try simp (disch := first | omega | (simp only [go_sem]; first | done | omega)) only [go_sem, he, hi, hix]))
    · -- two that are equal: what follows is moved up
      rw [if_pos c, List.append_nil] at hsu
      refine AWp.loop (H.length) [0, 1, 6] [7, 5] (fun (s : Nat × List Arr) => 1 ≤ s.1 ∧ k + s.1 ≤ l.length ∧ s.2.length = l.length ∧ (compactQ e (l.take (k + s.1))).length < k + s.1 ∧ s.2.take (compactQ e (l.take (k + s.1))).length = compactQ e (l.take (k + s.1)) ∧ s.2.drop (k + s.1 - 1) = l.drop (k + s.1 - 1)) (fun (s : Nat × List Arr) => [(7, (.c (.int .i64 (s.1)))), (5, (.c (.int .i64 (((compactQ e (l.take (k + s.1))).length)))))]) (fun (s : Nat × List Arr) => H.set i (.row 67 7 (s.2.map encAr) true)) (fun (s : Nat × List Arr) => l.length - s.1) (by kernel_rfl) (fun _ => rfl) (by kernel_rfl) (by first | (simp; done) | omega) (by first | (simp; done) | (simp; omega) | omega) kl ?_ (fun s hs _ _ => ?_)
      · have hkl : (compactQ e (l.take (k + 1))).length = k := by rw [hsu, List.length_take]; omega
        refine Next.mk (1, l) ⟨Nat.le_refl _, by dsimp only; omega, rfl, by dsimp only; omega, ?_, rfl⟩ ?_
        · dsimp only
          rw [hkl]
          exact hsu.symm
        · dsimp only
          rw [hkl, set_same hi]
          exact wk
      obtain ⟨m, cur⟩ := s
      obtain ⟨s1, s2, s3, s4, s5, s6⟩ := hs
      dsimp only at s1 s2 s3 s4 s5 s6 ⊢
      obtain ⟨g, hg⟩ : ∃ g, g = compactQ e (l.take (k + m)) := ⟨_, rfl⟩
      rw [← hg] at s4 s5 ⊢
      by_cases hm : k + m < l.length
      · have hnx := compactQ_succ e l (show 1 ≤ k + m by omega) hm
        rw [← hg] at hnx
        have hjc : k + m < cur.length := by omega
        have hjc2 : k + m - 1 < cur.length := by omega
        have hc1 : cur[k + m] = l[k + m] := by
          have h1 := congrArg (fun z => z[1]?) s6
          simp only [List.getElem?_drop] at h1
          rw [show k + m - 1 + 1 = k + m by omega, List.getElem?_eq_getElem hjc, List.getElem?_eq_getElem hm] at h1
          exact Option.some.inj h1
        have hc0 : cur[k + m - 1] = l[k + m - 1] := by
          have h1 := congrArg (fun z => z[0]?) s6
          simp only [List.getElem?_drop, Nat.add_zero] at h1
          rw [List.getElem?_eq_getElem hjc2, List.getElem?_eq_getElem (by omega : k + m - 1 < l.length)] at h1
          exact Option.some.inj h1
        have hgc : g.length < cur.length := by omega
        have hc0' : cur[k + ((m : Int) - 1).toNat]'(by omega) = l[k + m - 1] := by
          have e : k + ((m : Int) - 1).toNat = k + m - 1 := by omega
          simp only [e]
          exact hc0
        have hdr : cur.drop (k + m) = l.drop (k + m) := by
          have h1 := congrArg (List.drop 1) s6
          rw [List.drop_drop, List.drop_drop, show k + m - 1 + 1 = k + m by omega] at h1
          exact h1
        simp (disch := first | omega | (simp only [go_sem]; first | done | omega)) only [go_sem]
        repeat' (first | ((first | refine acond_d ?_ ?_ | refine acond_b ?_ ?_ | refine ag_d ?_ ?_ | refine ag_n ?_ ?_ | refine ag_bt ?_ ?_ | refine ag_bf ?_ ?_) <;> intro c <;> try simp (disch := first | omega | (simp only [go_sem]; first | done | omega)) only [go_sem, c, he, hc1, hc0']) | ((first | refine w_draw (by kernel_rfl) (by decide +kernel) ?_ | refine hf l[k + m] (l[k + m - 1]'(by omega)) _ _ (List.getElem_mem _) (List.getElem_mem _) ?_) <;> try simp (disch := first | omega | (simp only [go_sem]; first | done | omega)) only [go_sem, he, hc1, hc0']))
        · rw [if_pos c, List.append_nil] at hnx
          refine Next.mk (m + 1, cur) ?_ ?_
          · dsimp only
            rw [← Nat.add_assoc, hnx, show k + m + 1 - 1 = k + m by omega]
            exact ⟨⟨by omega, by omega, s3, by omega, s5, hdr⟩, by omega⟩
          · dsimp only
            rw [← Nat.add_assoc, hnx]
            exact wk
        · rw [if_neg (by simp [c])] at hnx
          have hset : (cur.map encAr).set g.length (encAr l[k + m]) = (cur.set g.length l[k + m]).map encAr := by rw [List.map_set]
          simp only [encAr] at hset
          refine Next.mk (m + 1, cur.set g.length l[k + m]) ?_ ?_
          · dsimp only
            rw [← Nat.add_assoc, hnx, show k + m + 1 - 1 = k + m by omega]
            refine ⟨⟨by omega, by omega, by simpa using s3, by simp; omega, ?_, ?_⟩, by omega⟩
            · rw [List.length_append, List.length_singleton, List.take_succ_eq_append_getElem (by simpa using hgc), List.getElem_set_self]
              congr 1
              rw [List.take_set_of_le (Nat.le_refl _)]
              exact s5
            · rw [List.drop_set_of_lt (by omega)]
              exact hdr
          · dsimp only
            rw [← Nat.add_assoc, hnx, ← hset]
            exact wk
      · have hjl : k + m = l.length := by omega
        rw [hjl, List.take_length] at hg
        rw [← hg] at hk
        simp (disch := first | omega | (simp only [go_sem]; first | done | omega)) only [go_sem]
        refine aclr_pos _ _ (List.getElem?_set_self hilt) (by omega) rfl (by simp; omega) ?_
        rw [List.set_set, ← List.map_take, s5]
        simp (disch := first | omega | (simp only [go_sem]; first | done | omega)) only [go_sem]
        refine Ret.frzDead (List.getElem?_set_self hilt) (pureL_map _ (fun x => by simp [go_sem, AC.pure])) (by simp) (by simp) ?_
        rw [List.set_set, List.take_of_length_le (by simp)]
        exact hk
    · rw [if_neg (by simp [c])] at hsu
      refine Next.mk (k + 1) ⟨⟨by omega, by omega, ?_⟩, by omega⟩ wk
      rw [hsu, List.take_succ_eq_append_getElem hlt]
  · have hkl : k = l.length := by omega
    subst hkl
    rw [List.take_length] at k3
    rw [k3] at hk
    simp (disch := first | omega | (simp only [go_sem]; first | done | omega)) only [go_sem]
    refine Ret.frzDead hi (pureL_map _ (fun x => by simp [go_sem, AC.pure])) (by simp) (Nat.le_refl _) ?_
    rw [List.take_of_length_le (by simp)]
    exact hk
theorem compactFuncNilAr_a {f : FuncId} (hk : K (.c (.lst 7 [])) H) : ACalls Tryz.prog 84 [.c (.sl none 0), .c (.fn f [] [])] H K := by
  refine acalls Tryz.func84 rfl (by kernel_rfl) (by simp (disch := first | omega | (simp only [go_sem]; first | done | omega)) only [go_sem]) (fun hH => ?_)
  simp (disch := first | omega | (simp only [go_sem]; first | done | omega)) only [go_sem]
  refine Ret.nil [7] (Nat.le_refl _) ?_
  exact Ret.same (Nat.le_refl _) hk
theorem compactFuncVAr_a {f : FuncId} {e : Arr → Arr → Bool} (he : entersB Tryz.prog f = true) (l : List Arr) (hf : ∀ (x y : Arr) (H : Hp) (K : AV → Hp → Prop), x ∈ l → y ∈ l → K (.c (.bool (e x y))) H → ACalls Tryz.prog f [.agg (encAr x), .agg (encAr y)] H K) {i : Nat} (hi : H[i]? = some (grO 67 7 (l.map encAr))) (hlen : l.length ≤ 1000000)
    (hk : K (.c (.lst 7 ((compactQ e l).map encAr))) (H.set i .dead)) :
    ACalls Tryz.prog 84 [.c (grV i l), .c (.fn f [] [])] H K := by
  by_cases h : l = []
  · subst h
    have hi2 : H[i]? = some AObj.dead := hi
    rw [set_same hi2] at hk
    exact compactFuncNilAr_a hk
  · have h2 : l.map encAr ≠ [] := by simpa using h
    rw [grO_pos _ _ h2] at hi
    rw [grV_pos _ h]
    exact compactFuncAr_a he l hf hi rfl hlen hk
theorem arr1_a (x y : Arr) (hx : arOk x) (hy : arOk y) (hk : K (.c (.bool (decide (arrC x y = 0)))) H) : ACalls Tryz.prog 85 [.agg (encAr x), .agg (encAr y)] H K := by
  refine acalls Tryz.func85 rfl (by kernel_rfl) (by simp (disch := first | omega | (simp only [go_sem]; first | done | omega)) only [go_sem]) (fun hH => ?_)
  simp (disch := first | omega | (simp only [go_sem]; first | done | omega)) only [go_sem]
  refine arrivalOrder_a x y hx.1 hy.1 hx.2 hy.2 ?_
  simp (disch := first | omega | (simp only [go_sem]; first | done | omega)) only [go_sem]
  exact Ret.drop hH (Nat.le_refl _) trivial hk
theorem arrivals_a (s : Nat) (zs : List Int) (j many : Int) (hs : Str H s zs j) (hj : j ≤ 1000000000) (hm0 : 0 ≤ many) (hm1 : many ≤ 10)
    (hk : ∀ (l : List Arr) (j' : Int), j ≤ j' → j' ≤ j + 20 * many → (l.length : Int) ≤ many → (∀ x ∈ l, arFine x) → K (.c (.lst 7 (l.map encAr))) (H.set s (strO zs j'))) :
    ACalls Tryz.prog 24 [.c (.ptr (some (s, 0, 0))), (.c (.int .i64 many))] H K := by
  have hlt := hs.lt
  have hpos := hs.pos
  have hne : H.length ≠ s := by omega
  refine acallsS Tryz.func24 rfl (by simp (disch := first | omega | (simp only [go_sem]; first | done | omega)) only [go_sem]) (fun hH => ?_)
  (refine SWp.go (by kernel_rfl) ?_; simp (disch := first | omega | (simp only [go_sem]; first | done | omega)) only [go_sem])
  (refine SWp.go (by kernel_rfl) ?_; simp (disch := first | omega | (simp only [go_sem]; first | done | omega)) only [go_sem])
  (refine SWp.go (by kernel_rfl) ?_; simp (disch := first | omega | (simp only [go_sem]; first | done | omega)) only [go_sem])
  refine SWp.thn ?_
  (refine SWp.go (by kernel_rfl) ?_; simp (disch := first | omega | (simp only [go_sem]; first | done | omega)) only [go_sem])
  refine SWp.inB ?_
  refine SWp.loop (H.length) [0, 10] [11, 5, 6] (fun (q : Nat × List Arr × Int × Int) => (q.1 : Int) ≤ many ∧ q.2.1.length = q.1 ∧ (∀ x ∈ q.2.1, arFine x) ∧ (0 ≤ q.2.2.1 ∧ q.2.2.1 ≤ 10 + 20 * q.1) ∧ j ≤ q.2.2.2 ∧ q.2.2.2 ≤ j + 20 * q.1) (fun (q : Nat × List Arr × Int × Int) => [(11, (.c (.int .i64 (q.1)))), (5, .c (grV H.length q.2.1)), (6, (.c (.int .i64 (q.2.2.1))))]) (fun (q : Nat × List Arr × Int × Int) => H.set s (strO zs q.2.2.2) ++ [grO 67 7 (q.2.1.map encAr)]) (fun (q : Nat × List Arr × Int × Int) => many.toNat - q.1) (fun _ => rfl) (by kernel_rfl) (by first | (simp; done) | omega) (by first | (simp; done) | (simp; omega) | omega) kl ?_ (fun q hq _ _ => ?_)
  · refine Next.mk (0, [], 10, j) ⟨by simpa using hm0, rfl, by simp, by simp, by simp, by simp⟩ ?_
    dsimp only
    rw [set_same hs.2.2.2]
    exact WkL.pad (Nat.le_refl _)
  obtain ⟨k, l, tm, j1⟩ := q
  obtain ⟨q1, q2, q3, ⟨q4, q5⟩, q6, q7⟩ := hq
  dsimp only at q1 q2 q3 q4 q5 q6 q7 ⊢
  by_cases hkl : (k : Int) < many
  · refine SWp.go (by kernel_rfl) ?_
    simp (disch := first | omega | (simp only [go_sem]; first | done | omega)) only [go_sem, hkl]
    refine SWp.go (by kernel_rfl) ?_
    simp (disch := first | omega | (simp only [go_sem]; first | done | omega)) only [go_sem]
    refine SWp.thn (SWp.inB ?_)
    refine SWp.go (by kernel_rfl) ?_
    simp (disch := first | omega | (simp only [go_sem]; first | done | omega)) only [go_sem]
    refine pick_lit s zs j1 [0, 1, 5, 20] (by first | ((repeat first | exact at0 (by simp) | refine atS ?_); done) | assumption) rfl rfl (by first | exact hs | exact hs.app _ | exact hs.set (by omega) (by omega) | exact (hs.set (by omega) (by omega)).app _) (by omega) (by simp) (by simp) (fun d hd => ?_)
    simp only [List.mem_cons, List.not_mem_nil, or_false] at hd
    simp (disch := first | omega | (simp only [go_sem]; first | done | omega)) only [go_sem]
    (refine SWp.go (by kernel_rfl) ?_; simp (disch := first | omega | (simp only [go_sem]; first | done | omega)) only [go_sem])
    refine some_lit s zs (j1 + 1) [⟨#[110, 97]⟩, ⟨#[110, 97]⟩, ⟨#[110, 98]⟩] (by first | ((repeat first | exact at0 (by simp) | refine atS ?_); done) | assumption) rfl rfl (by first | exact hs | exact hs.app _ | exact hs.set (by omega) (by omega) | exact (hs.set (by omega) (by omega)).app _) (by omega) (by simp) (by simp) (fun nd hnd => ?_)
    have hns : nd.size ≤ 1000 := by
      have : ∀ x ∈ [(⟨#[110, 97]⟩ : ByteArray), ⟨#[110, 97]⟩, ⟨#[110, 98]⟩], x.size ≤ 1000 := by decide
      exact this nd hnd
    simp (disch := first | omega | (simp only [go_sem]; first | done | omega)) only [go_sem]
    (refine SWp.go (by kernel_rfl) ?_; simp (disch := first | omega | (simp only [go_sem]; first | done | omega)) only [go_sem])
    refine range_a s zs (j1 + 1 + 1) 1 8 (by first | exact hs | exact hs.app _ | exact hs.set (by omega) (by omega) | exact (hs.set (by omega) (by omega)).app _) (by omega) (by omega) (by omega) (fun sq s1 s2 => ?_)
    simp (disch := first | omega | (simp only [go_sem]; first | done | omega)) only [go_sem]
    clear hnd
    obtain ⟨tg, hts, hel⟩ : ∃ tg : ByteArray, tg.size ≤ 1000 ∧ ∀ h, ([[AC.str ⟨#[116, 97]⟩], [AC.str ⟨#[116, 98]⟩], [AC.str ⟨#[116, 97]⟩]] : List (List AC))[(sq % 3).toNat]'h = [AC.str tg] := by
      have h3 : (sq % 3).toNat = 0 ∨ (sq % 3).toNat = 1 ∨ (sq % 3).toNat = 2 := by omega
      rcases h3 with h | h | h
      · exact ⟨⟨#[116, 97]⟩, by decide, fun _ => by simp only [h]; rfl⟩
      · exact ⟨⟨#[116, 98]⟩, by decide, fun _ => by simp only [h]; rfl⟩
      · exact ⟨⟨#[116, 97]⟩, by decide, fun _ => by simp only [h]; rfl⟩
    refine SWp.cut (H.length + 1) [0, 10, 11, 5, 6, 7, 8] [9] (fun (u : Arr) => arFine u) (fun (u : Arr) => [(9, .c (.ptr (some (H.length + 1, 0, 0))))]) (fun (u : Arr) => H.set s (strO zs (j1 + 1 + 1 + 1 + 1)) ++ [grO 67 7 (l.map encAr), .row 67 7 [encAr u] true]) (fun _ => rfl) (by kernel_rfl) (by first | (simp; done) | omega) (by first | (simp; done) | (simp; omega) | omega) kl ?_ (fun u hu _ _ => ?_)
    · refine SWp.of (by kernel_rfl) ?_
      repeat' (first | ((first | refine acond_d ?_ ?_ | refine acond_b ?_ ?_ | refine ag_d ?_ ?_ | refine ag_n ?_ ?_ | refine ag_bt ?_ ?_ | refine ag_bf ?_ ?_ | refine agt_d ?_ ?_ | refine agt_n ?_ ?_ | refine agt_bt ?_ ?_ | refine agt_bf ?_ ?_) <;> intro c <;> try simp (disch := first | omega | (simp only [go_sem]; first | done | omega)) only [go_sem, c, hel]) | ((first | refine w_draw (by kernel_rfl) (by decide +kernel) ?_ | refine pick_lit s zs (j1 + 1 + 1 + 1) [0, 0, 0, 0, 0, 0, 1] (by first | ((repeat first | exact at0 (by simp) | refine atS ?_); done) | assumption) rfl rfl (by first | exact hs | exact hs.app _ | exact hs.set (by omega) (by omega) | exact (hs.set (by omega) (by omega)).app _) (by omega) (by simp) (by simp) (fun e he => ?_) | refine w_tree (.one 0 (.one 1 (.one 2 (.one 4 (.one 5 (.one 8 (.one 9 (.one 10 (.one 14 (.three 3 (.three 6 (.three 7 (.two 11 (.two 12 (.one 13 (.one 15 (.one 16 (.one 17 (.one 18 (.one 19 .done)))))) 18 (.one 12 (.one 13 (.one 15 (.one 16 (.one 17 (.one 19 .done))))))) 18 (.one 11 (.one 12 (.one 13 (.one 15 (.one 16 (.one 17 (.one 19 .done)))))))) 11 (.three 7 (.two 12 (.one 13 (.one 15 (.one 16 (.one 17 (.one 18 (.one 19 .done)))))) 18 (.one 12 (.one 13 (.one 15 (.one 16 (.one 17 (.one 19 .done))))))) 12 (.one 7 (.one 13 (.one 15 (.one 16 (.one 17 (.one 18 (.one 19 .done))))))) 18 (.two 7 (.one 12 (.one 13 (.one 15 (.one 16 (.one 17 (.one 19 .done)))))) 12 (.one 7 (.one 13 (.one 15 (.one 16 (.one 17 (.one 19 .done)))))))) 18 (.two 7 (.one 11 (.one 12 (.one 13 (.one 15 (.one 16 (.one 17 (.one 19 .done))))))) 11 (.two 7 (.one 12 (.one 13 (.one 15 (.one 16 (.one 17 (.one 19 .done)))))) 12 (.one 7 (.one 13 (.one 15 (.one 16 (.one 17 (.one 19 .done))))))))) 11 (.three 6 (.three 7 (.two 12 (.one 13 (.one 15 (.one 16 (.one 17 (.one 18 (.one 19 .done)))))) 18 (.one 12 (.one 13 (.one 15 (.one 16 (.one 17 (.one 19 .done))))))) 12 (.one 7 (.one 13 (.one 15 (.one 16 (.one 17 (.one 18 (.one 19 .done))))))) 18 (.two 7 (.one 12 (.one 13 (.one 15 (.one 16 (.one 17 (.one 19 .done)))))) 12 (.one 7 (.one 13 (.one 15 (.one 16 (.one 17 (.one 19 .done)))))))) 12 (.one 6 (.one 7 (.one 13 (.one 15 (.one 16 (.one 17 (.one 18 (.one 19 .done)))))))) 18 (.two 6 (.two 7 (.one 12 (.one 13 (.one 15 (.one 16 (.one 17 (.one 19 .done)))))) 12 (.one 7 (.one 13 (.one 15 (.one 16 (.one 17 (.one 19 .done))))))) 12 (.one 6 (.one 7 (.one 13 (.one 15 (.one 16 (.one 17 (.one 19 .done))))))))) 18 (.two 6 (.two 7 (.one 11 (.one 12 (.one 13 (.one 15 (.one 16 (.one 17 (.one 19 .done))))))) 11 (.two 7 (.one 12 (.one 13 (.one 15 (.one 16 (.one 17 (.one 19 .done)))))) 12 (.one 7 (.one 13 (.one 15 (.one 16 (.one 17 (.one 19 .done)))))))) 11 (.two 6 (.two 7 (.one 12 (.one 13 (.one 15 (.one 16 (.one 17 (.one 19 .done)))))) 12 (.one 7 (.one 13 (.one 15 (.one 16 (.one 17 (.one 19 .done))))))) 12 (.one 6 (.one 7 (.one 13 (.one 15 (.one 16 (.one 17 (.one 19 .done)))))))))) 11 (.three 3 (.three 6 (.three 7 (.two 12 (.one 13 (.one 15 (.one 16 (.one 17 (.one 18 (.one 19 .done)))))) 18 (.one 12 (.one 13 (.one 15 (.one 16 (.one 17 (.one 19 .done))))))) 12 (.one 7 (.one 13 (.one 15 (.one 16 (.one 17 (.one 18 (.one 19 .done))))))) 18 (.two 7 (.one 12 (.one 13 (.one 15 (.one 16 (.one 17 (.one 19 .done)))))) 12 (.one 7 (.one 13 (.one 15 (.one 16 (.one 17 (.one 19 .done)))))))) 12 (.one 6 (.one 7 (.one 13 (.one 15 (.one 16 (.one 17 (.one 18 (.one 19 .done)))))))) 18 (.two 6 (.two 7 (.one 12 (.one 13 (.one 15 (.one 16 (.one 17 (.one 19 .done)))))) 12 (.one 7 (.one 13 (.one 15 (.one 16 (.one 17 (.one 19 .done))))))) 12 (.one 6 (.one 7 (.one 13 (.one 15 (.one 16 (.one 17 (.one 19 .done))))))))) 12 (.one 13 (.one 15 (.two 3 (.one 6 (.one 7 (.one 16 (.one 17 (.one 18 (.one 19 .done)))))) 18 (.one 3 (.one 6 (.one 7 (.one 16 (.one 17 (.one 19 .done))))))))) 18 (.two 3 (.two 6 (.two 7 (.one 12 (.one 13 (.one 15 (.one 16 (.one 17 (.one 19 .done)))))) 12 (.one 7 (.one 13 (.one 15 (.one 16 (.one 17 (.one 19 .done))))))) 12 (.one 6 (.one 7 (.one 13 (.one 15 (.one 16 (.one 17 (.one 19 .done)))))))) 12 (.one 13 (.one 15 (.one 3 (.one 6 (.one 7 (.one 16 (.one 17 (.one 19 .done)))))))))) 18 (.two 3 (.two 6 (.two 7 (.one 11 (.one 12 (.one 13 (.one 15 (.one 16 (.one 17 (.one 19 .done))))))) 11 (.two 7 (.one 12 (.one 13 (.one 15 (.one 16 (.one 17 (.one 19 .done)))))) 12 (.one 7 (.one 13 (.one 15 (.one 16 (.one 17 (.one 19 .done)))))))) 11 (.two 6 (.two 7 (.one 12 (.one 13 (.one 15 (.one 16 (.one 17 (.one 19 .done)))))) 12 (.one 7 (.one 13 (.one 15 (.one 16 (.one 17 (.one 19 .done))))))) 12 (.one 6 (.one 7 (.one 13 (.one 15 (.one 16 (.one 17 (.one 19 .done))))))))) 11 (.two 3 (.two 6 (.two 7 (.one 12 (.one 13 (.one 15 (.one 16 (.one 17 (.one 19 .done)))))) 12 (.one 7 (.one 13 (.one 15 (.one 16 (.one 17 (.one 19 .done))))))) 12 (.one 6 (.one 7 (.one 13 (.one 15 (.one 16 (.one 17 (.one 19 .done)))))))) 12 (.one 13 (.one 15 (.one 3 (.one 6 (.one 7 (.one 16 (.one 17 (.one 19 .done)))))))))))))))))))) (by kernel_rfl) (by decide +kernel) ?_) <;> try simp (disch := first | omega | (simp only [go_sem]; first | done | omega)) only [go_sem, hel]) | (refine And.intro ?_ ?_ <;> try simp (disch := first | omega | (simp only [go_sem]; first | done | omega)) only [go_sem, hel]))
      all_goals
        simp only [List.mem_cons, List.not_mem_nil, or_false] at he
        refine Next.mk (⟨nd, tm + d, ⟨sq, tg, ⟨7 * sq - e, sq, 0⟩⟩⟩ : Arr) ⟨hns, hts, by dsimp only; omega, by dsimp only; omega, by dsimp only; omega⟩ ?_
        ((try simp (disch := first | omega | (simp only [go_sem]; first | done | omega)) only [go_sem]); (first | refine WkL.pickAt [_] [0] ?_ ?_ ?_ rfl ?_ ?_ ?_ ?_ | refine WkL.pickAt [_] [1] ?_ ?_ ?_ rfl ?_ ?_ ?_ ?_ | refine WkL.pickAt [_] [2] ?_ ?_ ?_ rfl ?_ ?_ ?_ ?_ | refine WkL.pickAt [_] [3] ?_ ?_ ?_ rfl ?_ ?_ ?_ ?_ | refine WkL.pickAt [_] [4] ?_ ?_ ?_ rfl ?_ ?_ ?_ ?_ | refine WkL.pickAt [_] [5] ?_ ?_ ?_ rfl ?_ ?_ ?_ ?_ | refine WkL.pickAt [_] [6] ?_ ?_ ?_ rfl ?_ ?_ ?_ ?_ | refine WkL.pickAt [_] [7] ?_ ?_ ?_ rfl ?_ ?_ ?_ ?_ | refine WkL.pickAt [_] [8] ?_ ?_ ?_ rfl ?_ ?_ ?_ ?_ | refine WkL.pickAt [_] [9] ?_ ?_ ?_ rfl ?_ ?_ ?_ ?_ | refine WkL.pickAt [_] [10] ?_ ?_ ?_ rfl ?_ ?_ ?_ ?_ | refine WkL.pickAt [_] [11] ?_ ?_ ?_ rfl ?_ ?_ ?_ ?_ | refine WkL.pickAt [_] [12] ?_ ?_ ?_ rfl ?_ ?_ ?_ ?_ | refine WkL.pickAt [_] [13] ?_ ?_ ?_ rfl ?_ ?_ ?_ ?_ | refine WkL.pickAt [_] [14] ?_ ?_ ?_ rfl ?_ ?_ ?_ ?_ | refine WkL.pickAt [_] [15] ?_ ?_ ?_ rfl ?_ ?_ ?_ ?_ | refine WkL.pickAt [_] [16] ?_ ?_ ?_ rfl ?_ ?_ ?_ ?_ | refine WkL.pickAt [_] [17] ?_ ?_ ?_ rfl ?_ ?_ ?_ ?_) <;> first | assumption | exact HOk.str (by assumption) | (simp; done) | (simp; omega) | (simp [pureO_gr, AObj.pureO, pureL, go_sem, AC.pure]; done) | (simp only [List.all_cons, List.all_nil, Bool.and_true]; exact pureO_gr (pureL_map _ (fun x => by simp [go_sem, AC.pure]))) | ((try simp only [List.map_cons, List.map_nil, av_ren_gr]); simp [AV.ren, AV.ren1, AC.ren, renP, pickS]; first | done | omega) | (simp only [List.forall_mem_cons, List.not_mem_nil, false_implies, implies_true, and_true]; (repeat' apply And.intro) <;> first | trivial | exact grV_ok (by simp) _ | exact okN_grO (fun x => by simp [go_sem, AC.pure]) | exact okN_map (fun x => by simp [go_sem, AC.pure]) | (simp [AV.ok, AV.ok1, AC.ok]; done) | (simp [AV.ok, AV.ok1, AC.ok]; omega) | (simp [AObj.okN, AC.ok]; done)) | (simp [AObj.okN]; done))
    refine SWp.cut (H.length + 2) [0, 10, 11, 5, 6, 7, 8, 9] [] (fun (u : Arr) => arFine u) (fun (u : Arr) => []) (fun (u : Arr) => H.set s (strO zs (j1 + 1 + 1 + 1 + 1)) ++ [grO 67 7 (l.map encAr), .row 67 7 [encAr u] true]) (fun _ => rfl) (by kernel_rfl) (by first | (simp; done) | omega) (by first | (simp; done) | (simp; omega) | omega) kl ?_ (fun u hu _ _ => ?_)
    · refine SWp.of (by kernel_rfl) ?_
      obtain ⟨h1, h2, h3, h4, h5⟩ := hu
      by_cases hb : nd = ⟨#[110, 98]⟩
      · simp (disch := first | omega | (simp only [go_sem]; first | done | omega)) only [go_sem, hb]
        refine Next.mk (⟨u.nd, u.t, ⟨u.p.n, ⟨#[116, 97]⟩, ⟨6 * sq, u.p.s.v, u.p.s.q⟩⟩⟩ : Arr) ⟨h1, (by decide : (⟨#[116, 97]⟩ : ByteArray).size ≤ 1000), h3, h4, h5⟩ ?_
        exact wk
      · simp (disch := first | omega | (simp only [go_sem]; first | done | omega)) only [go_sem, hb]
        refine Next.mk u ⟨h1, h2, h3, h4, h5⟩ ?_
        exact wk
    refine SWp.cut (H.length + 2) [0, 10, 11, 5, 6, 9] [] (fun (u : Arr × Int) => arFine u.1 ∧ j1 + 4 ≤ u.2 ∧ u.2 ≤ j1 + 18) (fun (u : Arr × Int) => []) (fun (u : Arr × Int) => H.set s (strO zs u.2) ++ [grO 67 7 (l.map encAr), .row 67 7 [encAr u.1] true]) (fun _ => rfl) (by kernel_rfl) (by first | (simp; done) | omega) (by first | (simp; done) | (simp; omega) | omega) kl ?_ (fun u hu _ _ => ?_)
    · refine SWp.of (by kernel_rfl) ?_
      obtain ⟨h1, h2, h3, h4, h5⟩ := hu
      simp (disch := first | omega | (simp only [go_sem]; first | done | omega)) only [go_sem]
      refine flip_a s zs (j1 + 1 + 1 + 1 + 1) 100 (by first | exact hs | exact hs.app _ | exact hs.set (by omega) (by omega) | exact (hs.set (by omega) (by omega)).app _) (by omega) (by omega) (fun b => ?_)
      simp (disch := first | omega | (simp only [go_sem]; first | done | omega)) only [go_sem]
      refine acond_b (fun c => ?_) (fun c => ?_)
      · simp (disch := first | omega | (simp only [go_sem]; first | done | omega)) only [go_sem]
        refine next_a s zs (j1 + 1 + 1 + 1 + 1 + 1) 3 (by first | exact hs | exact hs.app _ | exact hs.set (by omega) (by omega) | exact (hs.set (by omega) (by omega)).app _) (by omega) (by omega) (fun r hr0 hr1 => ?_)
        simp (disch := first | omega | (simp only [go_sem]; first | done | omega)) only [go_sem]
        have hr' : r = 0 ∨ r = 1 ∨ r = 2 := by omega
        clear hr0 hr1
        rcases hr' with rfl | rfl | rfl
        · simp (disch := first | omega | (simp only [go_sem]; first | done | omega)) only [go_sem]
          refine some_lit s zs (j1 + 1 + 1 + 1 + 1 + 1 + 1) [noS, ⟨#[110, 97]⟩] (by first | ((repeat first | exact at0 (by simp) | refine atS ?_); done) | assumption) rfl rfl (by first | exact hs | exact hs.app _ | exact hs.set (by omega) (by omega) | exact (hs.set (by omega) (by omega)).app _) (by omega) (by simp) (by simp) (fun nd2 hn2 => ?_)
          have hns2 : nd2.size ≤ 1000 := by
            have : ∀ x ∈ [noS, (⟨#[110, 97]⟩ : ByteArray)], x.size ≤ 1000 := by decide
            exact this nd2 hn2
          simp (disch := first | omega | (simp only [go_sem]; first | done | omega)) only [go_sem]
          refine odd_a s zs (j1 + 1 + 1 + 1 + 1 + 1 + 1 + 1) 0 50 (by first | exact hs | exact hs.app _ | exact hs.set (by omega) (by omega) | exact (hs.set (by omega) (by omega)).app _) (by omega) (by omega) (by omega) (by omega) (fun r1 j4 g1 g2 g3 => ?_)
          simp (disch := first | omega | (simp only [go_sem]; first | done | omega)) only [go_sem]
          have hHs : HOk (H.set s (strO zs j4)) := HOk.str hH
          exact Next.mk (⟨nd2, r1, u.p⟩, j4) ⟨⟨hns2, h2, by dsimp only; omega, h4, h5⟩, by dsimp only; omega, by dsimp only; omega⟩ wk
        · simp (disch := first | omega | (simp only [go_sem]; first | done | omega)) only [go_sem]
          refine odd_a s zs (j1 + 1 + 1 + 1 + 1 + 1 + 1) 1 9 (by first | exact hs | exact hs.app _ | exact hs.set (by omega) (by omega) | exact (hs.set (by omega) (by omega)).app _) (by omega) (by omega) (by omega) (by omega) (fun r1 j4 g1 g2 g3 => ?_)
          simp (disch := first | omega | (simp only [go_sem]; first | done | omega)) only [go_sem]
          refine some_lit s zs j4 [noS, ⟨#[116, 97]⟩] (by first | ((repeat first | exact at0 (by simp) | refine atS ?_); done) | assumption) rfl rfl (by first | exact hs | exact hs.app _ | exact hs.set (by omega) (by omega) | exact (hs.set (by omega) (by omega)).app _) (by omega) (by simp) (by simp) (fun tg2 ht2 => ?_)
          have hts2 : tg2.size ≤ 1000 := by
            have : ∀ x ∈ [noS, (⟨#[116, 97]⟩ : ByteArray)], x.size ≤ 1000 := by decide
            exact this tg2 ht2
          simp (disch := first | omega | (simp only [go_sem]; first | done | omega)) only [go_sem]
          have hHs : HOk (H.set s (strO zs (j4 + 1))) := HOk.str hH
          exact Next.mk (⟨u.nd, u.t, ⟨r1, tg2, u.p.s⟩⟩, j4 + 1) ⟨⟨h1, hts2, h3, by dsimp only; omega, by dsimp only; omega⟩, by dsimp only; omega, by dsimp only; omega⟩ wk
        · simp (disch := first | omega | (simp only [go_sem]; first | done | omega)) only [go_sem]
          refine oneSample_a s zs (j1 + 1 + 1 + 1 + 1 + 1 + 1) (by first | exact hs | exact hs.app _ | exact hs.set (by omega) (by omega) | exact (hs.set (by omega) (by omega)).app _) (by omega) (fun z _ _ _ => ?_)
          simp (disch := first | omega | (simp only [go_sem]; first | done | omega)) only [go_sem]
          exact Next.mk (⟨u.nd, u.t, ⟨u.p.n, u.p.tag, z⟩⟩, j1 + 1 + 1 + 1 + 1 + 1 + 1 + 1 + 1 + 1) ⟨⟨h1, h2, h3, h4, h5⟩, by dsimp only; omega, by dsimp only; omega⟩ wk
      · simp (disch := first | omega | (simp only [go_sem]; first | done | omega)) only [go_sem]
        exact Next.mk (u, j1 + 1 + 1 + 1 + 1 + 1) ⟨⟨h1, h2, h3, h4, h5⟩, by dsimp only; omega, by dsimp only; omega⟩ wk
    obtain ⟨y, j3⟩ := u
    obtain ⟨v1, v2, v3⟩ := hu
    dsimp only at v1 v2 v3 ⊢
    have hll : l.length ≤ 10 := by omega
    refine SWp.of (by kernel_rfl) ?_
    simp (disch := first | omega | (simp only [go_sem]; first | done | omega)) only [go_sem]
    (refine app_gr (enc := encAr) (e := 67) (sz := 7) (bs := 72) (z := [.str ⟨#[]⟩, .int .i64 0, .int .i64 0, .str ⟨#[]⟩, .int .i64 0, .int .i64 0, .int .i64 0]) (l) (y) (by kernel_rfl) (by kernel_rfl) (by kernel_rfl) (by kernel_rfl) (by first | ((repeat first | exact at0 (by simp) | refine atS ?_); done) | assumption) (by first | (simp (disch := first | omega | (simp only [go_sem]; first | done | omega)) only [go_sem]; done) | (simp (disch := first | omega | (simp only [go_sem]; first | done | omega)) only [go_sem]; rfl) | (simp (disch := first | omega | (simp only [go_sem]; first | done | omega)) only [go_sem]; simp [go_sem]; done) | (simp (disch := first | omega | (simp only [go_sem]; first | done | omega)) only [go_sem]; simp [*]; done)) rfl (by decide) (by omega) (by omega) (by rfl) ?_)
    simp (disch := first | omega | (simp only [go_sem]; first | done | omega)) only [go_sem]
    refine SWp.of (by kernel_rfl) ?_
    simp (disch := first | omega | (simp only [go_sem]; first | done | omega)) only [go_sem]
    refine Next.mk (k + 1, l ++ [y], tm + d, j3) ?_ ?_
    · refine ⟨⟨by dsimp only; omega, by simp [q2], fun z hz => ?_, ⟨by dsimp only; omega, by dsimp only; omega⟩, by dsimp only; omega, by dsimp only; omega⟩, by dsimp only; omega⟩
      rcases List.mem_append.1 hz with h | h
      · exact q3 z h
      · simp at h; subst h; exact v1
    · exact ow
  · refine SWp.go (by kernel_rfl) ?_
    simp (disch := first | omega | (simp only [go_sem]; first | done | omega)) only [go_sem, hkl]
    refine SWp.go (by kernel_rfl) ?_
    simp (disch := first | omega | (simp only [go_sem]; first | done | omega)) only [go_sem]
    refine SWp.of (by kernel_rfl) ?_
    simp (disch := first | omega | (simp only [go_sem]; first | done | omega)) only [go_sem]
    have hP : ∀ x ∈ l, arOk x := fun x hx => (q3 x hx).ok
    have hll : l.length ≤ 10 := by omega
    refine sortStable_a cmpOrder l (by first | ((repeat first | exact at0 (by simp) | refine atS ?_); done) | assumption) (by omega) hP ?_
    simp (disch := first | omega | (simp only [go_sem]; first | done | omega)) only [go_sem]
    have hil := isortG_len arLt l
    have hmem := isortG_mem arLt l
    rw [grV_lenA _ l (isortG arLt l) hil.symm]
    have hP2 : ∀ x ∈ isortG arLt l, arFine x := fun x hx => q3 x ((hmem x).1 hx)
    generalize isortG arLt l = l2 at *
    refine compactFuncVAr_a (e := fun x y => decide (arrC x y = 0)) (by kernel_rfl) l2 (fun x y H K hx hy hk => arr1_a x y (hP2 x hx).ok (hP2 y hy).ok hk) (by first | ((repeat first | exact at0 (by simp) | refine atS ?_); done) | assumption) (by omega) ?_
    simp (disch := first | omega | (simp only [go_sem]; first | done | omega)) only [go_sem]
    have hcl := compactQ_le (fun x y => decide (arrC x y = 0)) l2
    exact Ret.drop (HOk.str hH) (by simp) (by simp [AV.ok, AV.ok1, AC.ok]) (hk _ j1 q6 (by omega) (by omega) (fun x hx => hP2 x (compactQ_sub _ _ x hx)))
end Go.Proofs.YtflklkijfkmeiaaGreatDoor
