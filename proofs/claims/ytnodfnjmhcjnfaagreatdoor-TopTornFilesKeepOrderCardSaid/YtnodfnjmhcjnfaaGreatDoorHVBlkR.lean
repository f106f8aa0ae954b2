/- Several texts in one: What the document answers of a file's blocks: its fault, index, tags, blocks found, and what follows. No condition. -/
import Derived.Test.YtnodfnjmhcjnfaaGreatDoorHVBlkP
import Derived.Test.YtnodfnjmhcjnfaaGreatDoorHVBlkA
import Derived.Test.YtnodfnjmhcjnfaaGreatDoorHVArrB
/- What the document answers of a file's blocks: its fault, index, tags, blocks found. No condition but that the file is no longer than a machine holds. -/
namespace Go.Proofs.YtnodfnjmhcjnfaaGreatDoor
open Go Go.RowKit
set_option maxRecDepth 100000
set_option linter.all false
set_option maxHeartbeats 2000000
variable {H : Hp} {K : AV → Hp → Prop}
attribute [go_sem, simp] encBk
end Go.Proofs.YtnodfnjmhcjnfaaGreatDoor
/- Compact: the program and the document. Condition: the bytes fit. -/
namespace Go.Proofs.YtnodfnjmhcjnfaaGreatDoor
open Go Go.RowKit
set_option maxRecDepth 100000
set_option linter.all false
set_option maxHeartbeats 2000000
variable {H : Hp} {K : AV → Hp → Prop}
theorem headB_40 (tag : ByteArray) (n : Nat) (o : Bool) (ht : tag.size ≤ 40) (hn : n ≤ 1000) : (headB tag n o).length ≤ 60 := by
  have h1 := vb6 (n := tag.size) ⟨by omega, by omega⟩
  have h2 := vb6 (n := n) ⟨by omega, by omega⟩
  have h3 : tag.data.toList.length = tag.size := Array.length_toList
  simp only [headB, List.length_append, List.length_cons, List.length_nil]
  omega
theorem blockB_40 (tag : ByteArray) (l : List Smp) (o : Bool) (ht2 : tag.size ≤ 40) (hl : l.length ≤ 100) (hs : ∀ s ∈ l, smlS s) : (blockB tag l o).length ≤ 2000 := by
  have h1 := headB_40 tag l.length o ht2 (by omega)
  have h2 := smpsB_len l ⟨0, 0, 0⟩ (by simp [smlS]) hs
  simp only [blockB, bodyB, List.length_append, List.length_cons, List.length_nil]
  omega
theorem chB_40 (tag : ByteArray) (l : List Smp) (o : Bool) (ht2 : tag.size ≤ 40) (hs : ∀ s ∈ l, smlS s) : ∀ ks : List Nat, (chB tag l o ks).length ≤ 2000 * ks.length
  | [] => by simp [chB]
  | k :: ks => by
    have h1 := blockB_40 tag (parts 100 l k) o ht2 (parts_len 100 l k) (fun s h => hs s (parts_mem h))
    have h2 := chB_40 tag l o ht2 hs ks
    simp only [chB, List.flatMap_cons, List.length_append, List.length_cons] at h2 ⊢
    omega
end Go.Proofs.YtnodfnjmhcjnfaaGreatDoor
/- What is appended to a file is found in it. No program in sight. -/
namespace Go.Proofs.YtnodfnjmhcjnfaaGreatDoor
open Go Go.RowKit
set_option maxRecDepth 100000
set_option linter.all false
set_option maxHeartbeats 2000000
theorem take_parts {α : Type} (n : Nat) (l : List α) : ∀ m, (List.range m).flatMap (parts n l) = l.take (m * n)
  | 0 => by simp
  | m + 1 => by
    rw [List.range_succ, List.flatMap_append, take_parts n l m]
    simp only [List.flatMap_cons, List.flatMap_nil, List.append_nil, parts]
    rw [Nat.succ_mul, List.take_add]
theorem pcs_flat (tag : ByteArray) (l : List Smp) (o : Bool) : ∀ (ks : List Nat) (p : Nat), (pcs tag l o p ks).flatMap (fun x => x.ss) = ks.flatMap (parts 100 l)
  | [], _ => rfl
  | k :: ks, p => by simp only [pcs, List.flatMap_cons, pcs_flat tag l o ks]
theorem pcs_tag (tag : ByteArray) (l : List Smp) (o : Bool) : ∀ (ks : List Nat) (p : Nat), ∀ x ∈ pcs tag l o p ks, x.b.tag = tag
  | [], _, x, h => by cases h
  | k :: ks, p, x, h => by
    simp only [pcs, List.mem_cons] at h
    rcases h with rfl | h
    · rfl
    · exact pcs_tag tag l o ks _ x h
theorem nch_flat (l : List Smp) : (List.range (nch l)).flatMap (parts 100 l) = l := by
  rw [take_parts]
  exact List.take_of_length_le (by unfold nch; omega)
theorem late_norm {last : Int} : ∀ {l : List Smp}, risS l → lateL last l ++ normL last l = l
  | [], _ => rfl
  | x :: r, h => by
    have hp := List.pairwise_cons.1 h
    have ih := late_norm (last := last) (l := r) hp.2
    by_cases hx : last < x.t
    · have h1 : lateL last (x :: r) = [] := by
        unfold lateL
        refine List.filter_eq_nil_iff.2 (fun y hy => ?_)
        rcases List.mem_cons.1 hy with rfl | hy
        · simp; omega
        · have := hp.1 y hy
          simp; omega
      have h2 : normL last (x :: r) = x :: r := by
        unfold normL
        refine List.filter_eq_self.2 (fun y hy => ?_)
        rcases List.mem_cons.1 hy with rfl | hy
        · exact decide_eq_true hx
        · have := hp.1 y hy
          exact decide_eq_true (by omega)
      rw [h1, h2]; rfl
    · have h1 : lateL last (x :: r) = x :: lateL last r := by unfold lateL; rw [List.filter_cons, if_pos (by simpa using hx)]
      have h2 : normL last (x :: r) = normL last r := by unfold normL; rw [List.filter_cons, if_neg (by simpa using hx)]
      rw [h1, h2, List.cons_append, ih]
theorem newP_flat {file : List UInt8} {tag : ByteArray} {l : List Smp} (h : risS l) : (newP file tag l).flatMap (fun x => x.ss) = l := by
  unfold newP
  rw [List.flatMap_append, pcs_flat, pcs_flat, nch_flat, nch_flat]
  exact late_norm h
theorem newP_tag {file : List UInt8} {tag : ByteArray} {l : List Smp} : ∀ x ∈ newP file tag l, x.b.tag = tag := by
  intro x h
  unfold newP at h
  rcases List.mem_append.1 h with h | h
  · exact pcs_tag _ _ _ _ _ x h
  · exact pcs_tag _ _ _ _ _ x h
theorem flat_tag {ps : List Pc} {tag : ByteArray} {a b : Int} (ht : ∀ x ∈ ps, x.b.tag = tag) (hs : ∀ y ∈ ps.flatMap (fun x => x.ss), a ≤ y.t ∧ y.t < b) : ps.flatMap (flatQ tag a b) = ps.flatMap (fun x => x.ss) := by
  induction ps with
  | nil => rfl
  | cons x r ih =>
    rw [List.flatMap_cons, List.flatMap_cons, ih (fun y hy => ht y (by simp [hy])) (fun y hy => hs y (by rw [List.flatMap_cons]; exact List.mem_append_right _ hy))]
    congr 1
    unfold flatQ
    rw [if_pos (ht x (by simp))]
    exact List.filter_eq_self.2 (fun y hy => decide_eq_true (hs y (by rw [List.flatMap_cons]; exact List.mem_append_left _ hy)))
def FGood (k : Nat) (f : List UInt8) : Prop := (par f).2.2 = 0 ∧ f.length ≤ 16000 * k ∧ ssL (par f).1 ≤ 205 * k
theorem FGood.nil : FGood 0 [] := ⟨rfl, by simp, by show ssL (par []).1 ≤ 0; exact Nat.le_of_eq rfl⟩
theorem appB_len {f : List UInt8} {tag : ByteArray} {l : List Smp} (hk : tag.size ≤ 40) (hs : ∀ s ∈ l, smlS s) (hl : l.length ≤ 205) : (appB f tag l).length ≤ f.length + 12000 := by
  have m1 : ∀ last, ∀ x ∈ lateL last l, smlS x := fun last x hx => hs x (List.mem_filter.1 hx).1
  have m2 : ∀ last, ∀ x ∈ normL last l, smlS x := fun last x hx => hs x (List.mem_filter.1 hx).1
  unfold appB
  generalize lastO (par f).1 tag = last
  have h1 := List.length_filter_le (fun x : Smp => decide (¬ last < x.t)) l
  have h2 := List.length_filter_le (fun x : Smp => decide (last < x.t)) l
  have k1 := chB_40 tag (lateL last l) true hk (m1 last) (List.range (nch (lateL last l)))
  have k2 := chB_40 tag (normL last l) false hk (m2 last) (List.range (nch (normL last l)))
  rw [List.length_range] at k1 k2
  have q1 : nch (lateL last l) ≤ 3 := by unfold nch lateL; omega
  have q2 : nch (normL last l) ≤ 3 := by unfold nch normL; omega
  rw [List.length_append, List.length_append]
  omega
theorem FGood.app {k : Nat} {f : List UInt8} {tag : ByteArray} {l : List Smp} (h : FGood k f) (hl : l.length ≤ 205) (he : (appRes f tag l).2 = 0) : FGood (k + 1) (appRes f tag l).1 := by
  obtain ⟨h1, h2, h3, h4, h5, h6⟩ := append_par he
  have hris := ((serP_iff l).1 h6).2.2
  refine ⟨by rw [h1], ?_, ?_⟩
  · rw [h4]
    have := appB_len (f := f) (tag := tag) (l := l) h5.2.1 (serF_sml h6) hl
    have := h.2.1
    omega
  · rw [h1]
    dsimp only
    rw [ssL_app]
    have e : ssL (newP f tag l) = l.length := by unfold ssL; rw [newP_flat hris]
    have := h.2.2
    omega
theorem FGood.res {k : Nat} {f : List UInt8} {tag : ByteArray} {l : List Smp} (h : FGood k f) (hk : k ≤ 6) (ht : isKey tag) (hs : serF l = 0) (hl : l.length ≤ 205) : appRes f tag l = (appB f tag l, 0) := by
  have h1 := appB_len (f := f) (tag := tag) (l := l) ht.2.1 (serF_sml hs) hl
  have h2 := h.2.1
  rw [appRes_tg, show tgE f tag = 0 by unfold tgE; rw [if_neg (by simpa using h.1), if_pos ht], if_neg (by decide), if_neg (by simpa using hs), if_neg (by omega)]
end Go.Proofs.YtnodfnjmhcjnfaaGreatDoor
/- A compacted file answers each query as before. No program in sight. -/
namespace Go.Proofs.YtnodfnjmhcjnfaaGreatDoor
open Go Go.RowKit
set_option maxRecDepth 100000
set_option linter.all false
set_option maxHeartbeats 2000000
theorem ser_mom {l : List Smp} (h : serF l = 0) : ∀ y ∈ l, (0 : Int) ≤ y.t ∧ y.t < 345686400000 := fun y hy => by
  have := ((serP_iff l).1 h).2.1 y hy
  unfold smpErr at this
  split at this <;> omega
open Classical in
/-! ### queries of all samples -/
theorem ris_nd {l : List Smp} (h : risS l) : (l.map (·.t)).Nodup := List.pairwise_map.2 (h.imp fun h e => by omega)
theorem ser_idem {X : List Smp} (h : risS X) : serM (pfS X) = X := by
  refine (sorted_ser (List.Perm.refl X) (h.imp fun h => by omega) (ris_nd h) (pfS_nd X) (fun t => ?_)).symm
  rw [pfS_fnd, fnd_rev (ris_nd h)]
end Go.Proofs.YtnodfnjmhcjnfaaGreatDoor
