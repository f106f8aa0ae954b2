/- Several texts in one: What is wrong with the clocks of nodes: the program's answer and the document's, and what follows. No condition. -/
import Derived.Test.YtnodfnjmhcjnfaaGreatDoorHVClock
import Derived.Test.YtnodfnjmhcjnfaaGreatDoorHVGD
import Derived.Test.YtnodfnjmhcjnfaaGreatDoorHVBlkA
import Derived.Test.YtnodfnjmhcjnfaaGreatDoorHVBlkR
import Derived.Test.YtnodfnjmhcjnfaaGreatDoorHVGL
/- What is wrong with the clocks of nodes: the program's answer and the document's. Condition: names' sizes; numbers near those of clocks. -/
namespace Go.Proofs.YtnodfnjmhcjnfaaGreatDoor
open Go Go.RowKit
set_option maxRecDepth 100000
set_option linter.all false
set_option maxHeartbeats 1000000
variable {H : Hp} {K : AV → Hp → Prop}
structure NCl where
  nd : ByteArray
  c : List Clk
def encC (x : NCl) : List AC := [.str x.nd, .lst 2 (x.c.map encK)]
attribute [go_sem] encC
def nkErr (i : Nat) (p x : NCl) : Int := if ¬isKey x.nd then 5 else if 0 < i ∧ leS x.nd p.nd = true then 7 else ckF x.c
def ncl0 : NCl := ⟨noS, []⟩
def nkF (l : List NCl) : Int := if 50 < l.length then 2 else errGo nkErr 0 ncl0 l
def NCl.fine (x : NCl) : Prop := x.nd.size ≤ 1000 ∧ x.c.length ≤ 1099511627776 ∧ ∀ y ∈ x.c, y.near
theorem clocksFault_a (l : List NCl) (hlen : l.length ≤ 1099511627776) (hs : ∀ x ∈ l, x.fine) (hk : K (.c (.int .i64 (nkF l))) H) : ACalls Tryz.prog 146 [.c (.lst 2 (l.map encC))] H K := by
  by_cases h6 : 50 < l.length
  · refine acalls Tryz.func146 rfl (by kernel_rfl) (by simp (disch := first | omega | (simp only [go_sem]; first | done | omega)) only [go_sem]) (fun hH => ?_)
    simp (disch := first | omega | (simp only [go_sem]; first | done | omega)) only [go_sem]
    (first | refine Ret.sameE (Nat.le_refl _) (by assumption) ?_ | refine Ret.dropE (by assumption) (Nat.le_refl _) (by assumption) (by simp [AV.ok, AV.ok1, AC.ok]) ?_) <;> simp [nkF, h6]
  have hF : nkF l = errGo nkErr 0 ncl0 l := by simp [nkF, h6]
  refine acalls Tryz.func146 rfl (by kernel_rfl) (by simp (disch := first | omega | (simp only [go_sem]; first | done | omega)) only [go_sem]) (fun hH => ?_)
  simp (disch := first | omega | (simp only [go_sem]; first | done | omega)) only [go_sem]
  refine AWp.loop (H.length) [0, 9, 10] [11] (fun (k : Nat) => k ≤ l.length ∧ errGo nkErr k (prv ncl0 l k) (l.drop k) = errGo nkErr 0 ncl0 l) (fun (k : Nat) => [(11, (.c (.int .i64 k)))]) (fun (k : Nat) => H) (fun (k : Nat) => l.length - k) (by kernel_rfl) (fun _ => rfl) (by kernel_rfl) (by first | (simp; done) | omega) (by first | (simp; done) | (simp; omega) | omega) kl ?_ (fun k hk1 _ _ => ?_)
  · exact Next.mk 0 ⟨by omega, rfl⟩ wk
  obtain ⟨hk1, hk2⟩ := hk1
  by_cases hlt : k < l.length
  · have hst := errGo_step nkErr ncl0 l k hlt
    have hp : ∀ h : 0 < k, prv ncl0 l k = l[((k : Int) - 1).toNat]'(by omega) := fun h => by rw [prv_pos _ _ _ hk1 h]; congr 1; omega
    have hv : nkErr k (prv ncl0 l k) l[k] ≠ 0 → nkErr k (prv ncl0 l k) l[k] = nkF l := fun h => by rw [hF, ← hk2, hst, if_neg h]
    have hn : nkErr k (prv ncl0 l k) l[k] = 0 → errGo nkErr (k + 1) (prv ncl0 l (k + 1)) (l.drop (k + 1)) = errGo nkErr 0 ncl0 l := fun h => by rw [← hk2, hst, if_pos h]
    obtain ⟨f1, f2, f3⟩ := hs l[k] (List.getElem_mem hlt)
    clear hst hF
    simp (disch := first | omega | (simp only [go_sem]; first | done | omega)) only [go_sem, hlt]
    repeat' (first | ((first | refine acond_d ?_ ?_ | refine acond_b ?_ ?_ | refine ag_d ?_ ?_ | refine ag_n ?_ ?_ | refine ag_bt ?_ ?_ | refine ag_bf ?_ ?_) <;> intro c <;> try simp (disch := first | omega | (simp only [go_sem]; first | done | omega)) only [go_sem, c]) | ((first | refine w_draw (by kernel_rfl) (by decide +kernel) ?_ | refine key_a _ (by omega) ?_ | refine checkClock_a _ f2 f3 ?_) <;> try simp (disch := first | omega | (simp only [go_sem]; first | done | omega)) only [go_sem]))
    all_goals first
      | (refine Next.mk (k + 1) (by grind [nkErr]) ?_; exact wk)
      | (first | refine Ret.sameE (Nat.le_refl _) (by assumption) ?_ | refine Ret.dropE (by assumption) (Nat.le_refl _) (by assumption) (by simp [AV.ok, AV.ok1, AC.ok]) ?_) <;> grind [nkErr]
  · simp (disch := first | omega | (simp only [go_sem]; first | done | omega)) only [go_sem, hlt]
    have := errGo_end nkErr (prv ncl0 l k) l k (by omega)
    (first | refine Ret.sameE (Nat.le_refl _) (by assumption) ?_ | refine Ret.dropE (by assumption) (Nat.le_refl _) (by assumption) (by simp [AV.ok, AV.ok1, AC.ok]) ?_) <;> (first | rfl | (simp only [AV.c.injEq, AC.bool.injEq]; rw [Bool.eq_iff_iff]; simp only [Bool.not_eq_true', decide_eq_true_eq, decide_eq_false_iff_not, Bool.and_eq_true, Bool.or_eq_true]; omega) | grind | (simp [*]; done) | (simp [*]; omega))
theorem nkF_ok {l : List NCl} (h : nkF l = 0) : l.length ≤ 50 ∧ ∀ x ∈ l, ckF x.c = 0 := by
  unfold nkF at h
  split at h
  · cases h
  · refine ⟨by omega, fun x hx => ?_⟩
    have hall := errGo_all0 nkErr ncl0 l h
    obtain ⟨k, hk, rfl⟩ := List.getElem_of_mem hx
    have h1 := hall k hk
    unfold nkErr at h1
    split at h1
    · cases h1
    · split at h1
      · cases h1
      · exact h1
end Go.Proofs.YtnodfnjmhcjnfaaGreatDoor
/- Compact: the program and the document. Condition: the bytes fit. -/
namespace Go.Proofs.YtnodfnjmhcjnfaaGreatDoor
open Go Go.RowKit
set_option maxRecDepth 100000
set_option linter.all false
set_option maxHeartbeats 2000000
variable {H : Hp} {K : AV → Hp → Prop}
theorem headB_40 (tag : ByteArray) (n : Nat) (o : Bool) (ht : tag.size ≤ 40) (hn : n ≤ 1000) : (headB tag n o).length ≤ 60 := by
  have h1 := vb6 (n := tag.size) ⟨by omega, by omega⟩
  have h2 := vb6 (n := n) ⟨by omega, by omega⟩
  have h3 : tag.data.toList.length = tag.size := Array.length_toList
  simp only [headB, List.length_append, List.length_cons, List.length_nil]
  omega
theorem blockB_40 (tag : ByteArray) (l : List Smp) (o : Bool) (ht2 : tag.size ≤ 40) (hl : l.length ≤ 100) (hs : ∀ s ∈ l, smlS s) : (blockB tag l o).length ≤ 2000 := by
  have h1 := headB_40 tag l.length o ht2 (by omega)
  have h2 := smpsB_len l ⟨0, 0, 0⟩ (by simp [smlS]) hs
  simp only [blockB, bodyB, List.length_append, List.length_cons, List.length_nil]
  omega
theorem chB_40 (tag : ByteArray) (l : List Smp) (o : Bool) (ht2 : tag.size ≤ 40) (hs : ∀ s ∈ l, smlS s) : ∀ ks : List Nat, (chB tag l o ks).length ≤ 2000 * ks.length
  | [] => by simp [chB]
  | k :: ks => by
    have h1 := blockB_40 tag (parts 100 l k) o ht2 (parts_len 100 l k) (fun s h => hs s (parts_mem h))
    have h2 := chB_40 tag l o ht2 hs ks
    simp only [chB, List.flatMap_cons, List.length_append, List.length_cons] at h2 ⊢
    omega
end Go.Proofs.YtnodfnjmhcjnfaaGreatDoor
/- What is appended to a file is found in it. No program in sight. -/
namespace Go.Proofs.YtnodfnjmhcjnfaaGreatDoor
open Go Go.RowKit
set_option maxRecDepth 100000
set_option linter.all false
set_option maxHeartbeats 2000000
theorem take_parts {α : Type} (n : Nat) (l : List α) : ∀ m, (List.range m).flatMap (parts n l) = l.take (m * n)
  | 0 => by simp
  | m + 1 => by
    rw [List.range_succ, List.flatMap_append, take_parts n l m]
    simp only [List.flatMap_cons, List.flatMap_nil, List.append_nil, parts]
    rw [Nat.succ_mul, List.take_add]
theorem pcs_flat (tag : ByteArray) (l : List Smp) (o : Bool) : ∀ (ks : List Nat) (p : Nat), (pcs tag l o p ks).flatMap (fun x => x.ss) = ks.flatMap (parts 100 l)
  | [], _ => rfl
  | k :: ks, p => by simp only [pcs, List.flatMap_cons, pcs_flat tag l o ks]
theorem pcs_tag (tag : ByteArray) (l : List Smp) (o : Bool) : ∀ (ks : List Nat) (p : Nat), ∀ x ∈ pcs tag l o p ks, x.b.tag = tag
  | [], _, x, h => by cases h
  | k :: ks, p, x, h => by
    simp only [pcs, List.mem_cons] at h
    rcases h with rfl | h
    · rfl
    · exact pcs_tag tag l o ks _ x h
theorem nch_flat (l : List Smp) : (List.range (nch l)).flatMap (parts 100 l) = l := by
  rw [take_parts]
  exact List.take_of_length_le (by unfold nch; omega)
theorem late_norm {last : Int} : ∀ {l : List Smp}, risS l → lateL last l ++ normL last l = l
  | [], _ => rfl
  | x :: r, h => by
    have hp := List.pairwise_cons.1 h
    have ih := late_norm (last := last) (l := r) hp.2
    by_cases hx : last < x.t
    · have h1 : lateL last (x :: r) = [] := by
        unfold lateL
        refine List.filter_eq_nil_iff.2 (fun y hy => ?_)
        rcases List.mem_cons.1 hy with rfl | hy
        · simp; omega
        · have := hp.1 y hy
          simp; omega
      have h2 : normL last (x :: r) = x :: r := by
        unfold normL
        refine List.filter_eq_self.2 (fun y hy => ?_)
        rcases List.mem_cons.1 hy with rfl | hy
        · exact decide_eq_true hx
        · have := hp.1 y hy
          exact decide_eq_true (by omega)
      rw [h1, h2]; rfl
    · have h1 : lateL last (x :: r) = x :: lateL last r := by unfold lateL; rw [List.filter_cons, if_pos (by simpa using hx)]
      have h2 : normL last (x :: r) = normL last r := by unfold normL; rw [List.filter_cons, if_neg (by simpa using hx)]
      rw [h1, h2, List.cons_append, ih]
theorem newP_flat {file : List UInt8} {tag : ByteArray} {l : List Smp} (h : risS l) : (newP file tag l).flatMap (fun x => x.ss) = l := by
  unfold newP
  rw [List.flatMap_append, pcs_flat, pcs_flat, nch_flat, nch_flat]
  exact late_norm h
theorem newP_tag {file : List UInt8} {tag : ByteArray} {l : List Smp} : ∀ x ∈ newP file tag l, x.b.tag = tag := by
  intro x h
  unfold newP at h
  rcases List.mem_append.1 h with h | h
  · exact pcs_tag _ _ _ _ _ x h
  · exact pcs_tag _ _ _ _ _ x h
theorem flat_tag {ps : List Pc} {tag : ByteArray} {a b : Int} (ht : ∀ x ∈ ps, x.b.tag = tag) (hs : ∀ y ∈ ps.flatMap (fun x => x.ss), a ≤ y.t ∧ y.t < b) : ps.flatMap (flatQ tag a b) = ps.flatMap (fun x => x.ss) := by
  induction ps with
  | nil => rfl
  | cons x r ih =>
    rw [List.flatMap_cons, List.flatMap_cons, ih (fun y hy => ht y (by simp [hy])) (fun y hy => hs y (by rw [List.flatMap_cons]; exact List.mem_append_right _ hy))]
    congr 1
    unfold flatQ
    rw [if_pos (ht x (by simp))]
    exact List.filter_eq_self.2 (fun y hy => decide_eq_true (hs y (by rw [List.flatMap_cons]; exact List.mem_append_left _ hy)))
def FGood (k : Nat) (f : List UInt8) : Prop := (par f).2.2 = 0 ∧ f.length ≤ 16000 * k ∧ ssL (par f).1 ≤ 205 * k
theorem FGood.nil : FGood 0 [] := ⟨rfl, by simp, by show ssL (par []).1 ≤ 0; exact Nat.le_of_eq rfl⟩
theorem FGood.up {k : Nat} {f : List UInt8} (h : FGood k f) : FGood (k + 1) f := ⟨h.1, by have := h.2.1; omega, by have := h.2.2; omega⟩
theorem appB_len {f : List UInt8} {tag : ByteArray} {l : List Smp} (hk : tag.size ≤ 40) (hs : ∀ s ∈ l, smlS s) (hl : l.length ≤ 205) : (appB f tag l).length ≤ f.length + 12000 := by
  have m1 : ∀ last, ∀ x ∈ lateL last l, smlS x := fun last x hx => hs x (List.mem_filter.1 hx).1
  have m2 : ∀ last, ∀ x ∈ normL last l, smlS x := fun last x hx => hs x (List.mem_filter.1 hx).1
  unfold appB
  generalize lastO (par f).1 tag = last
  have h1 := List.length_filter_le (fun x : Smp => decide (¬ last < x.t)) l
  have h2 := List.length_filter_le (fun x : Smp => decide (last < x.t)) l
  have k1 := chB_40 tag (lateL last l) true hk (m1 last) (List.range (nch (lateL last l)))
  have k2 := chB_40 tag (normL last l) false hk (m2 last) (List.range (nch (normL last l)))
  rw [List.length_range] at k1 k2
  have q1 : nch (lateL last l) ≤ 3 := by unfold nch lateL; omega
  have q2 : nch (normL last l) ≤ 3 := by unfold nch normL; omega
  rw [List.length_append, List.length_append]
  omega
theorem FGood.app {k : Nat} {f : List UInt8} {tag : ByteArray} {l : List Smp} (h : FGood k f) (hl : l.length ≤ 205) (he : (appRes f tag l).2 = 0) : FGood (k + 1) (appRes f tag l).1 := by
  obtain ⟨h1, h2, h3, h4, h5, h6⟩ := append_par he
  have hris := ((serP_iff l).1 h6).2.2
  refine ⟨by rw [h1], ?_, ?_⟩
  · rw [h4]
    have := appB_len (f := f) (tag := tag) (l := l) h5.2.1 (serF_sml h6) hl
    have := h.2.1
    omega
  · rw [h1]
    dsimp only
    rw [ssL_app]
    have e : ssL (newP f tag l) = l.length := by unfold ssL; rw [newP_flat hris]
    have := h.2.2
    omega
theorem FGood.res {k : Nat} {f : List UInt8} {tag : ByteArray} {l : List Smp} (h : FGood k f) (hk : k ≤ 6) (ht : isKey tag) (hs : serF l = 0) (hl : l.length ≤ 205) : appRes f tag l = (appB f tag l, 0) := by
  have h1 := appB_len (f := f) (tag := tag) (l := l) ht.2.1 (serF_sml hs) hl
  have h2 := h.2.1
  rw [appRes_tg, show tgE f tag = 0 by unfold tgE; rw [if_neg (by simpa using h.1), if_pos ht], if_neg (by decide), if_neg (by simpa using hs), if_neg (by omega)]
theorem keep_same {f : List UInt8} {tag : ByteArray} {l : List Smp} (he : (appRes f tag l).2 = 0) : (par (appRes f tag l).1).1.flatMap (flatQ tag 0 345686400000) = (par f).1.flatMap (flatQ tag 0 345686400000) ++ l := by
  obtain ⟨h1, h2, h3, h4, h5, h6⟩ := append_par he
  have hris := ((serP_iff l).1 h6).2.2
  have hmom : ∀ y ∈ l, (0 : Int) ≤ y.t ∧ y.t < 345686400000 := fun y hy => by
    have := ((serP_iff l).1 h6).2.1 y hy
    unfold smpErr at this
    split at this <;> omega
  rw [h1]
  dsimp only
  rw [List.flatMap_append, flat_tag newP_tag (by rw [newP_flat hris]; exact hmom), newP_flat hris]
end Go.Proofs.YtnodfnjmhcjnfaaGreatDoor
