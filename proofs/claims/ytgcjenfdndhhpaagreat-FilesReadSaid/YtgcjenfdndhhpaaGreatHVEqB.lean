/- Equality of lists of blocks and of names; Index at any length; AppendOf, its bytes frozen. Condition: lengths below a machine's bounds. -/
import Derived.Test.YtgcjenfdndhhpaaGreatHVBlkA
import Derived.Test.YtgcjenfdndhhpaaGreatHVBlkR
import Derived.Test.YtgcjenfdndhhpaaGreatHVGE
namespace Go.Proofs.YtgcjenfdndhhpaaGreat
open Go Go.RowKit
set_option maxRecDepth 100000
set_option linter.all false
set_option maxHeartbeats 2000000
variable {H : Hp} {K : AV → Hp → Prop}
def LeN : List AV → List AV → Prop
  | [], [] => True
  | x :: xs, y :: ys => (x = y ∨ ∃ sz r, x = .c (.sl r 0) ∧ y = .c (.lst sz [])) ∧ LeN xs ys
  | _, _ => False
theorem leN_rel {ι : En} {n : Nat} : ∀ {xs ys : List AV} {us : List Value}, LeN xs ys → relAL ι xs us → (∀ x ∈ xs, x.ok n) → relAL ι ys us ∧ ∀ y ∈ ys, y.ok n
  | [], [], [], _, _, _ => ⟨trivial, by simp⟩
  | x :: xs, y :: ys, u :: us, h, hr, ho => by
    obtain ⟨h1, h2⟩ := leN_rel h.2 hr.2 (fun z hz => ho z (by simp [hz]))
    rcases h.1 with rfl | ⟨sz, r, rfl, rfl⟩
    · exact ⟨⟨hr.1, h1⟩, fun z hz => by
        rcases List.mem_cons.1 hz with rfl | hz
        · exact ho _ (by simp)
        · exact h2 z hz⟩
    · have h3 := AV.nilz_rel [sz] hr.1 (ho _ (by simp))
      exact ⟨⟨h3.1, h1⟩, fun z hz => by
        rcases List.mem_cons.1 hz with rfl | hz
        · exact h3.2
        · exact h2 z hz⟩
  | [], [], _ :: _, _, hr, _ => hr.elim
  | _ :: _, _ :: _, [], _, hr, _ => hr.elim
theorem WkL.nilA {m : Nat} {vs vs' : List AV} (h : LeN vs vs') (hm : m ≤ H.length) : WkL m vs H vs' H :=
  fun B w0 ι w us hs hr ho => by
    obtain ⟨h1, h2⟩ := leN_rel h hr ho
    exact ⟨ι, Agree.refl _ _, hm, hs, h1, h2⟩
instance blkDec : DecidableEq Blk := fun a b =>
  if h : a.at_ = b.at_ ∧ a.long = b.long ∧ a.tag = b.tag ∧ a.first = b.first ∧ a.last = b.last ∧ a.count = b.count ∧ a.over = b.over then isTrue (by cases a; cases b; simp_all) else isFalse (by rintro rfl; simp at h)
theorem blk_eqs (a b : Blk) : (decide (a.at_ = b.at_) && (decide (a.long = b.long) && (decide (a.tag = b.tag) && (decide (a.first = b.first) && (decide (a.last = b.last) && (decide (a.count = b.count) && a.over == b.over)))))) = decide (a = b) := by
  obtain ⟨a1, a2, a3, a4, a5, a6, a7⟩ := a
  obtain ⟨b1, b2, b3, b4, b5, b6, b7⟩ := b
  rw [Bool.eq_iff_iff]
  simp only [Bool.and_eq_true, decide_eq_true_eq, beq_iff_eq, Blk.mk.injEq]
theorem equalBq_a (l m : List Blk) (hl : l.length ≤ 1099511627776) (hm : m.length ≤ 1099511627776) (hk : K (.c (.bool (decide (l = m)))) H) : ACalls Tryz.prog 37 [.c (.lst 7 (l.map encBk)), .c (.lst 7 (m.map encBk))] H K := by
  by_cases hlen : l.length = m.length
  · refine acalls Tryz.func37 rfl (by kernel_rfl) (by simp (disch := first | omega | (simp only [go_sem]; first | done | omega)) only [go_sem]) (fun hH => ?_)
    simp (disch := first | omega | (simp only [go_sem]; first | done | omega)) only [go_sem]
    refine AWp.loop (H.length) [0, 1, 12] [13] (fun (k : Nat) => k ≤ l.length ∧ ∀ (j : Nat) (x y : Blk), j < k → l[j]? = some x → m[j]? = some y → x = y) (fun (k : Nat) => [(13, (.c (.int .i64 k)))]) (fun (k : Nat) => H) (fun (k : Nat) => l.length - k) (by kernel_rfl) (fun _ => rfl) (by kernel_rfl) (by first | (simp; done) | omega) (by first | (simp; done) | (simp; omega) | omega) kl ?_ (fun k hk1 _ _ => ?_)
    · exact Next.mk 0 (by simp) wk
    obtain ⟨hk1, hk2⟩ := hk1
    by_cases hlt : k < l.length
    · simp (disch := first | omega | (simp only [go_sem]; first | done | omega)) only [go_sem]
      refine w_draw (by kernel_rfl) (by decide +kernel) ?_
      simp (disch := first | omega | (simp only [go_sem]; first | done | omega)) only [go_sem, blk_eqs]
      refine acond_b (fun c => ?_) (fun c => ?_)
      · simp (disch := first | omega | (simp only [go_sem]; first | done | omega)) only [go_sem]
        exact Next.mk (k + 1) ⟨⟨by omega, fun j x y hj hx hy => by
          rcases Nat.lt_or_ge j k with h | h
          · exact hk2 j x y h hx hy
          · obtain rfl : j = k := by omega
            rw [List.getElem?_eq_getElem hlt] at hx
            rw [List.getElem?_eq_getElem (by omega)] at hy
            injection hx with hx; injection hy with hy; rw [← hx, ← hy]; exact of_decide_eq_true c⟩, by omega⟩ wk
      · simp (disch := first | omega | (simp only [go_sem]; first | done | omega)) only [go_sem]
        have : l ≠ m := by rintro rfl; simp at c
        (first | refine Ret.sameE (Nat.le_refl _) (by assumption) ?_ | refine Ret.dropE (by assumption) (Nat.le_refl _) (by assumption) (by simp [AV.ok, AV.ok1, AC.ok]) ?_) <;> simp [this]
    · simp (disch := first | omega | (simp only [go_sem]; first | done | omega)) only [go_sem]
      have : l = m := by
        apply List.ext_getElem hlen
        intro j h1 h2
        exact hk2 j _ _ (by omega) (List.getElem?_eq_getElem h1) (List.getElem?_eq_getElem h2)
      (first | refine Ret.sameE (Nat.le_refl _) (by assumption) ?_ | refine Ret.dropE (by assumption) (Nat.le_refl _) (by assumption) (by simp [AV.ok, AV.ok1, AC.ok]) ?_) <;> simp [this]
  · have : l ≠ m := by rintro rfl; exact hlen rfl
    refine acalls Tryz.func37 rfl (by kernel_rfl) (by simp (disch := first | omega | (simp only [go_sem]; first | done | omega)) only [go_sem]) (fun hH => ?_)
    simp (disch := first | omega | (simp only [go_sem]; first | done | omega)) only [go_sem]
    (first | refine Ret.sameE (Nat.le_refl _) (by assumption) ?_ | refine Ret.dropE (by assumption) (Nat.le_refl _) (by assumption) (by simp [AV.ok, AV.ok1, AC.ok]) ?_) <;> simp [this]
theorem equalTq_a (l m : List ByteArray) (hl : l.length ≤ 1099511627776) (hm : m.length ≤ 1099511627776) (hk : K (.c (.bool (decide (l = m)))) H) : ACalls Tryz.prog 39 [.c (.lst 1 (l.map encSs)), .c (.lst 1 (m.map encSs))] H K := by
  by_cases hlen : l.length = m.length
  · refine acalls Tryz.func39 rfl (by kernel_rfl) (by simp (disch := first | omega | (simp only [go_sem]; first | done | omega)) only [go_sem]) (fun hH => ?_)
    simp (disch := first | omega | (simp only [go_sem]; first | done | omega)) only [go_sem]
    refine AWp.loop (H.length) [0, 1, 12] [13] (fun (k : Nat) => k ≤ l.length ∧ ∀ (j : Nat) (x y : ByteArray), j < k → l[j]? = some x → m[j]? = some y → x = y) (fun (k : Nat) => [(13, (.c (.int .i64 k)))]) (fun (k : Nat) => H) (fun (k : Nat) => l.length - k) (by kernel_rfl) (fun _ => rfl) (by kernel_rfl) (by first | (simp; done) | omega) (by first | (simp; done) | (simp; omega) | omega) kl ?_ (fun k hk1 _ _ => ?_)
    · exact Next.mk 0 (by simp) wk
    obtain ⟨hk1, hk2⟩ := hk1
    by_cases hlt : k < l.length
    · simp (disch := first | omega | (simp only [go_sem]; first | done | omega)) only [go_sem]
      refine w_draw (by kernel_rfl) (by decide +kernel) ?_
      simp (disch := first | omega | (simp only [go_sem]; first | done | omega)) only [go_sem]
      refine acond_b (fun c => ?_) (fun c => ?_)
      · simp (disch := first | omega | (simp only [go_sem]; first | done | omega)) only [go_sem]
        exact Next.mk (k + 1) ⟨⟨by omega, fun j x y hj hx hy => by
          rcases Nat.lt_or_ge j k with h | h
          · exact hk2 j x y h hx hy
          · obtain rfl : j = k := by omega
            rw [List.getElem?_eq_getElem hlt] at hx
            rw [List.getElem?_eq_getElem (by omega)] at hy
            injection hx with hx; injection hy with hy; rw [← hx, ← hy]; revert c; generalize l[j] = u; generalize m[j] = v; first | (simp; done) | (cases u; cases v; simp)⟩, by omega⟩ wk
      · simp (disch := first | omega | (simp only [go_sem]; first | done | omega)) only [go_sem]
        have : l ≠ m := by rintro rfl; simp at c
        (first | refine Ret.sameE (Nat.le_refl _) (by assumption) ?_ | refine Ret.dropE (by assumption) (Nat.le_refl _) (by assumption) (by simp [AV.ok, AV.ok1, AC.ok]) ?_) <;> simp [this]
    · simp (disch := first | omega | (simp only [go_sem]; first | done | omega)) only [go_sem]
      have : l = m := by
        apply List.ext_getElem hlen
        intro j h1 h2
        exact hk2 j _ _ (by omega) (List.getElem?_eq_getElem h1) (List.getElem?_eq_getElem h2)
      (first | refine Ret.sameE (Nat.le_refl _) (by assumption) ?_ | refine Ret.dropE (by assumption) (Nat.le_refl _) (by assumption) (by simp [AV.ok, AV.ok1, AC.ok]) ?_) <;> simp [this]
  · have : l ≠ m := by rintro rfl; exact hlen rfl
    refine acalls Tryz.func39 rfl (by kernel_rfl) (by simp (disch := first | omega | (simp only [go_sem]; first | done | omega)) only [go_sem]) (fun hH => ?_)
    simp (disch := first | omega | (simp only [go_sem]; first | done | omega)) only [go_sem]
    (first | refine Ret.sameE (Nat.le_refl _) (by assumption) ?_ | refine Ret.dropE (by assumption) (Nat.le_refl _) (by assumption) (by simp [AV.ok, AV.ok1, AC.ok]) ?_) <;> simp [this]
theorem indexB_a (l : List UInt8) (hl : l.length ≤ 100000000) (hk : K (.tup [.c (.lst 7 ((idxB l).map encBk)), (.c (.int .i64 ((par l).2.2)))]) H) : ACalls Tryz.prog 24 [.c (.lst 1 (l.map encU))] H K := by
  by_cases h : l.length ≤ 200000
  · exact index_a l h hk
  · have e : par l = ([], 0, 2) := by unfold par; rw [if_pos (by omega)]
    refine acalls Tryz.func24 rfl (by kernel_rfl) (by simp (disch := first | omega | (simp only [go_sem]; first | done | omega)) only [go_sem]) (fun hH => ?_)
    simp (disch := first | omega | (simp only [go_sem]; first | done | omega)) only [go_sem]
    refine walkB_a l hl (fun h => ?_) (fun h => ?_)
    · unfold idxB at hk
      rw [if_pos h] at hk
      simp (disch := first | omega | (simp only [go_sem]; first | done | omega)) only [go_sem, h]
      exact Ret.nil [7] (by simp) (Ret.same (by simp) hk)
    · rw [e] at h
      cases h
theorem appendOf_f (file : List UInt8) (tag : ByteArray) (l : List Smp) (hf : file.length ≤ 100000000) (ht : tag.size ≤ 1000) (hl : l.length ≤ 5000) (hk : K (.tup [.c (.lst 1 ((appRes file tag l).1.map encU)), (.c (.int .i64 ((appRes file tag l).2)))]) H) : ACalls Tryz.prog 32 [.c (.lst 1 (file.map encU)), (.c (.str tag)), .c (.lst 3 (l.map encS))] H K := by
  have h0 : (appRes file tag l).2 ≠ 0 → (appRes file tag l).1 = [] := by
    unfold appRes
    intro h
    split
    · rfl
    · split
      · rfl
      · split
        · rfl
        · split
          · rfl
          · rename_i h1 h2 h3 h4
            rw [if_neg h1, if_neg h2, if_neg h3, if_neg h4] at h
            exact absurd rfl h
  refine ACalls.postR (appendOf_a file tag l hf ht hl (K := fun v G => ((appRes file tag l).2 ≠ 0 ∧ v = .tup [.c (.sl none 0), (.c (.int .i64 ((appRes file tag l).2)))] ∧ G = H) ∨ ((appRes file tag l).2 = 0 ∧ v = .tup [.c (grV H.length (appRes file tag l).1), (.c (.int .i64 0))] ∧ G = H ++ [grO 5 1 ((appRes file tag l).1.map encU)])) (fun h => .inl ⟨h, rfl, rfl⟩) (fun h => .inr ⟨h, rfl, rfl⟩)) ?_
  rintro hH _ _ (⟨h, rfl, rfl⟩ | ⟨h, rfl, rfl⟩)
  · rw [h0 h] at hk
    exact Ret.nilS (Nat.le_refl _) rfl hk
  · rw [h] at hk
    exact Ret.frzGrT 0 hH (Nat.le_refl _) rfl (pureL_U _) rfl (map_grV _ _ _).symm hk
end Go.Proofs.YtgcjenfdndhhpaaGreat
