/- Several texts in one: The coarsest level that answers a query: the document's answer, and what follows. No condition. -/
import Derived.Test.YtnodfnjmhcjnfaaGreatDoorHVStr
import Derived.Test.YtnodfnjmhcjnfaaGreatDoorHVGA
import Derived.Test.YtnodfnjmhcjnfaaGreatDoorHVGC
import Derived.Test.YtnodfnjmhcjnfaaGreatDoorHVBack
import Derived.Test.YtnodfnjmhcjnfaaGreatDoorHVGF
import Derived.Test.YtnodfnjmhcjnfaaGreatDoorHCoreRange
import Derived.RangeFuncBound
import Derived.RangeFuncCalls
import Derived.Shelf.Abstract
import Derived.WalkKit
import Derived.OwnWalkIn
import Derived.TacticsInMore
import Derived.LoopNIn
import Derived.LoopIn
import Derived.Test.YtnodfnjmhcjnfaaGreatDoorProg
/- The coarsest level that answers a query: the document's answer. Condition: few holds, numbers as those of levels. -/
namespace Go.Proofs.YtnodfnjmhcjnfaaGreatDoor
open Go Go.RowKit
set_option maxRecDepth 100000
set_option linter.all false
set_option maxHeartbeats 2000000
variable {H : Hp} {K : AV → Hp → Prop}
theorem WkL.hok {m : Nat} {vs vs' : List AV} {H G : Hp} (h : HOk H → WkL m vs H vs' G) : WkL m vs H vs' G := fun B w0 ι w zs hs => h hs.hok B w0 ι w zs hs
end Go.Proofs.YtnodfnjmhcjnfaaGreatDoor
/- slices.Chunk, gone through. No condition. -/
namespace Go.Proofs.YtnodfnjmhcjnfaaGreatDoor
open Go Go.RowKit Go.Shelf
theorem fen_round (r : Option Nat) : (fen r).round = r := rfl
theorem fen_depth (r : Option Nat) : (fen r).depth = none := rfl
attribute [local go_sem] Oper.semAt_some Oper.semAt_none fen_round fen_depth
set_option maxRecDepth 100000
set_option linter.all false in
set_option maxHeartbeats 2000000 in
theorem chunk1_in (l b1 o1 b2 o2 b off len cap n : Nat) (hn : 1 ≤ n) (hl : len + n < 1099511627776) (hc : len ≤ cap) (J Jx : List Nat → World → Prop)
    (hcell : ∀ pre W1, J pre W1 → W1.cell? ⟨b1, o1, none⟩ = some (.slice (some ⟨b, off, none⟩) len cap) ∧ W1.cell? ⟨b2, o2, none⟩ = some (.int .i64 n))
    (hY : ∀ pre k W1, J pre W1 → pre.length < len → k * n < len → YieldAt (fen none) 0 Tryz.prog l #[.slice (some ⟨b, off + k * n * 3, none⟩) (min n (len - k * n)) (min n (len - k * n))] W1 fun e W' => (e = .returned (.bool true) ∧ J (pre ++ [k]) W') ∨ (e = .returned (.bool false) ∧ Jx (pre ++ [k]) W'))
    (hdr : ∀ pre W1, J pre W1 → J pre W1.drew) (W : World) (h0 : J [] W) :
    CallsIn (fen none) 1 Tryz.prog 286 #[.func (.yield l) #[] #[], .pointer (some ⟨b1, o1, none⟩), .pointer (some ⟨b2, o2, none⟩)] W fun e W' => (∃ v, e = .returned v) ∧
      ((∃ q, len ≤ q * n ∧ (q = 0 ∨ (q - 1) * n < len) ∧ J (List.range q) W') ∨ (∃ pre, Jx pre W')) := by
  refine callsIn_of_wp Tryz.func286 rfl trivial ?_ rfl
  simp only [Tryz.ntmps286, List.size_toArray, List.length_cons, List.length_nil, Nat.reduceAdd, Nat.reduceSub, Array.replicate_succ, Array.replicate_zero, List.push_toArray, List.append_toArray, List.nil_append, List.cons_append]
  gi_wp2
  gi_loopw [4] (fun i wr => ∃ k : Nat, (k = 0 ∨ (k - 1) * n < len) ∧ i = .int .i64 (k * n : Nat) ∧ J (List.range k) wr)
    (fun i _ => len + n - (intOf i).toNat)
  case atStart => exact ⟨0, .inl rfl, by simp, h0⟩
  case round =>
    obtain ⟨k, hk, rfl, hJs⟩ := hrel
    obtain ⟨hc1, hc2⟩ := hcell _ _ hJs
    by_cases hlt : k * n < len
    · obtain ⟨fn, tmps, assign, body, hy, hR⟩ := hY _ k wr.drew (hdr _ _ hJs) (by simp; exact Nat.lt_of_le_of_lt (Nat.le_mul_of_pos_right k (by omega)) hlt) hlt
      have hmix : Tryz.prog.follows .mixedOrders = true := by kernel_rfl
      have hk1 : (k + 1) * n = k * n + n := by rw [Nat.add_mul, Nat.one_mul]
      generalize hq : k * n = q at *
      gi_wp2
      gi_region
      all_goals gi_wp2
      all_goals first
        | rw [show ((q : Int) + (n : Int)).toNat - q = min n (len - q) by omega, hy]
        | rw [show ((q : Int) + ((len - q : Nat) : Int)).toNat - q = min n (len - q) by omega, hy]
      all_goals gi_wp2
      all_goals refine hR.mono ?_
      all_goals
        rintro e W3 (⟨rfl, hJ3⟩ | ⟨rfl, hJx3⟩)
        · obtain ⟨hc3, hc4⟩ := hcell _ _ hJ3
          gi_wp2
          go_roundw
          case rel => exact ⟨k + 1, .inr (by simpa [hq] using hlt), by rw [hk1]; simp, by rw [List.range_succ]; exact hJ3⟩
          case measure => simp [intOf]; omega
        · gi_wp2
          refine bodyPost_ret (results_none rfl _ _ _) rfl ?_
          exact ⟨⟨_, rfl⟩, .inr ⟨_, hJx3⟩⟩
    · generalize hq : k * n = q at *
      gi_wp2
      go_end0
      exact ⟨⟨_, rfl⟩, .inl ⟨k, by omega, hk, hJs⟩⟩
def parts {α : Type} (n : Nat) (l : List α) (k : Nat) : List α := (l.drop (k * n)).take n
set_option maxRecDepth 100000 in
set_option maxHeartbeats 2000000 in
theorem chunk0_in (l b1 o1 b2 o2 n : Nat) (p : Option Addr) (cap : Nat) (J : List Nat → World → Prop)
    (hcell : ∀ pre W1, J pre W1 → W1.cell? ⟨b1, o1, none⟩ = some (.slice p 0 cap) ∧ W1.cell? ⟨b2, o2, none⟩ = some (.int .i64 n)) (W : World) (h0 : J [] W) :
    CallsIn (fen none) 1 Tryz.prog 286 #[.func (.yield l) #[] #[], .pointer (some ⟨b1, o1, none⟩), .pointer (some ⟨b2, o2, none⟩)] W fun e W' => (∃ v, e = .returned v) ∧ J [] W' := by
  refine callsIn_of_wp Tryz.func286 rfl trivial ?_ rfl
  simp only [Tryz.ntmps286, List.size_toArray, List.length_cons, List.length_nil, Nat.reduceAdd, Nat.reduceSub, Array.replicate_succ, Array.replicate_zero, List.push_toArray, List.append_toArray, List.nil_append, List.cons_append]
  gi_wp2
  gi_loopw [4] (fun i wr => i = .int .i64 0 ∧ J [] wr) (fun _ _ => 0)
  case atStart => exact ⟨rfl, h0⟩
  case round =>
    obtain ⟨rfl, hJs⟩ := hrel
    obtain ⟨hc1, hc2⟩ := hcell _ _ hJs
    gi_wp2
    go_end0
    exact ⟨⟨_, rfl⟩, hJs⟩
theorem relRows_at {Z : Nat → Nat → Option Value} {els : List (List AC)} {b o sz : Nat} (h : relRows Z els b o sz) (k : Nat) : relRows Z (els.drop k) b (o + k * sz) sz := by
  refine relRows_of fun q e hq => ?_
  rw [List.getElem?_drop] at hq
  have := relRows_get h _ e hq
  rwa [Nat.add_mul, ← Nat.add_assoc] at this
theorem relRows_part {Z : Nat → Nat → Option Value} {els : List (List AC)} {b o sz : Nat} (h : relRows Z els b o sz) (k n : Nat) : relRows Z ((els.drop k).take n) b (o + k * sz) sz := by
  refine relRows_of fun q e hq => ?_
  rw [List.getElem?_take] at hq
  split at hq
  · exact relRows_get (relRows_at h k) q e hq
  · cases hq
theorem chunk_iter {H : Hp} (i j n : Nat) (els : List (List AC)) (t1 t2 : Nat) (hn : 1 ≤ n) (hn2 : n ≤ 1000000) (hl : els.length ≤ 1000000) (hi : H[i]? = some (.row t1 1 [[.lst 3 els]] false)) (hj : H[j]? = some (.row t2 1 [[.int .i64 n]] false)) :
    Iter Tryz.prog 286 [(i, 0, 0), (j, 0, 0)] H (fun k : Nat => [.c (.lst 3 (parts n els k))]) (fun xs => ∃ q, els.length ≤ q * n ∧ (q = 0 ∨ (q - 1) * n < els.length) ∧ xs = List.range q) (fun pre _ => pre.length < els.length) := by
  intro B w0 ι w hs
  obtain ⟨v, hv, hr⟩ := row_cell (hs.obj i _ hi) (k := 0) (j := 0) rfl rfl
  obtain ⟨u, hu, hr2⟩ := row_cell (hs.obj j _ hj) (k := 0) (j := 0) rfl rfl
  have hr2 : u = .int .i64 n := hr2
  subst hr2
  have hr' := hr
  simp only [AC.rel, AC.relZ] at hr'
  obtain ⟨p, c, rfl, h1, h2, h3, h4⟩ := hr'
  have key : ∀ (b : Nat) (W1 : World), restB ι H w b → W1.heap[b]? = w.heap[b]? → ∀ o, W1.cell? ⟨b, o, none⟩ = w.cell? ⟨b, o, none⟩ := fun b W1 _ h o => World.cell?_of_block (w := w) h
  have own : ∀ (q : Nat) {t : Nat} {e : List (List AC)}, H[q]? = some (.row t 1 e false) → (∃ v, w.cell? ((ι q).at 0 0) = some v) → restB ι H w (ι q).block := by
    intro q t e hq hv
    obtain ⟨_, _, cur, fr, h5, _⟩ := hs.obj q _ hq
    refine ⟨(Array.getElem?_eq_some_iff.1 h5).1, fun q2 o2 h6 h7 h8 => ?_⟩
    by_cases e2 : q2 = q
    · subst e2; rw [hq] at h6; injection h6 with h6; subst h6; cases h7
    · exact hs.sep q2 q o2 _ e2 h6 h7 hq rfl h8
  have hB1 := own i hi ⟨_, hv⟩
  have hB2 := own j hj ⟨_, hu⟩
  have hcell : ∀ (J : List Nat → World → Prop), (∀ (pre : List Nat) (W1 : World), J pre W1 → ∀ (k : Nat), restB ι H w k → W1.heap[k]? = w.heap[k]?) → ∀ pre W1, J pre W1 → W1.cell? ⟨(ι i).block, (ι i).off + (0 * (ι i).sz + 0), none⟩ = some (.slice p els.length c) ∧ W1.cell? ⟨(ι j).block, (ι j).off + (0 * (ι j).sz + 0), none⟩ = some (.int .i64 n) := by
    intro J hJ pre W1 h5
    have e1 := key _ W1 hB1 (hJ pre W1 h5 _ hB1) ((ι i).off + (0 * (ι i).sz + 0))
    have e2 := key _ W1 hB2 (hJ pre W1 h5 _ hB2) ((ι j).off + (0 * (ι j).sz + 0))
    exact ⟨e1.trans hv, e2.trans hu⟩
  cases els with
  | nil =>
    refine ⟨fun _ => #[.slice none 0 0], fun x => ⟨⟨none, 0, by simp [parts], by simp [parts], by simp [parts], by simp [parts], by simp⟩, trivial⟩, fun l J Jx W hJ hdr hY h0 => ?_⟩
    refine (chunk0_in l _ _ _ _ n p c J (hcell J hJ) W h0).mono fun e W' ⟨g1, g2⟩ => ⟨g1, .inl ⟨[], ⟨0, by simp, .inl rfl, rfl⟩, g2⟩⟩
  | cons x0 els0 =>
    generalize hels : x0 :: els0 = els at *
    have hne : els ≠ [] := by rw [← hels]; simp
    cases p with
    | none => exact absurd (h3 rfl).1 hne
    | some a =>
      obtain ⟨h5, h6⟩ := h4 a rfl
      have h5 := h5.resolve_left hne
      obtain ⟨b, off, sp⟩ := a
      dsimp only at h5 h6
      subst h5
      refine ⟨fun k => if k * n < els.length then #[.slice (some ⟨b, off + k * n * 3, none⟩) (min n (els.length - k * n)) (min n (els.length - k * n))] else #[.slice none 0 0], fun k => ?_, fun l J Jx W hJ hdr hY h0 => ?_⟩
      · have hlen : (parts n els k).length = min n (els.length - k * n) := by simp [parts]
        dsimp only
        split
        · refine ⟨⟨some ⟨b, off + k * n * 3, none⟩, min n (els.length - k * n), by rw [hlen], by rw [hlen]; exact Nat.le_refl _, fun e he => h2 e (List.mem_of_mem_drop (List.mem_of_mem_take he)), by simp, fun a ha => ?_⟩, trivial⟩
          injection ha with ha
          subst ha
          exact ⟨.inr rfl, relRows_part h6 _ _⟩
        · rename_i h7
          have h8 : parts n els k = [] := by unfold parts; rw [List.drop_eq_nil_iff.2 (by omega)]; simp
          rw [h8]
          exact ⟨⟨none, 0, by simp, by simp, by simp, by simp, by simp⟩, trivial⟩
      · refine (chunk1_in l _ _ _ _ b off els.length c n hn (by omega) h1 J Jx (hcell J hJ) (fun pre k W1 g1 g2 g3 => ?_) hdr W h0).mono ?_
        · have := hY pre k W1 g1 g2
          dsimp only at this
          rw [if_pos g3] at this
          exact this
        · rintro e W' ⟨g1, ⟨q, g2, g3, g4⟩ | g2⟩
          · exact ⟨g1, .inl ⟨_, ⟨q, g2, g3, rfl⟩, g4⟩⟩
          · exact ⟨g1, .inr g2⟩
end Go.Proofs.YtnodfnjmhcjnfaaGreatDoor
