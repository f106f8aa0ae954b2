/- slices.Backward over levels, gone through. No condition. -/
import Derived.Test.YthgdllfkejlnmaaGreatHCoreRange
import Derived.Test.YthgdllfkejlnmaaGreatHVGA
import Derived.RangeFuncBound
import Derived.RangeFuncCalls
import Derived.Shelf.Abstract
import Derived.WalkKit
import Derived.OwnWalkIn
import Derived.TacticsInMore
import Derived.LoopNIn
import Derived.LoopIn
import Derived.Test.YthgdllfkejlnmaaGreatProg
namespace Go.Proofs.YthgdllfkejlnmaaGreat
open Go Go.RowKit Go.Shelf
theorem fenB_round (r : Option Nat) : (fen r).round = r := rfl
theorem fenB_depth (r : Option Nat) : (fen r).depth = none := rfl
attribute [local go_sem] Oper.semAt_some Oper.semAt_none fenB_round fenB_depth
set_option maxRecDepth 100000
set_option linter.all false in
set_option maxHeartbeats 2000000 in
theorem back1_in (l b1 o1 b off len cap : Nat) (S Q : Nat → Int) (hl : len < 1099511627776) (hc : len ≤ cap) (J Jx : List Nat → World → Prop)
    (hcell : ∀ pre W1, J pre W1 → W1.cell? ⟨b1, o1, none⟩ = some (.slice (some ⟨b, off, none⟩) len cap) ∧ ∀ k, k < len → W1.cell? ⟨b, off + k * 2, none⟩ = some (.int .i64 (S k)) ∧ W1.cell? ⟨b, off + k * 2 + 1, none⟩ = some (.int .i64 (Q k)))
    (hY : ∀ pre k W1, J pre W1 → pre.length + 1 + k = len → YieldAt (fen none) 0 Tryz.prog l #[.int .i64 k, .agg #[.int .i64 (S k), .int .i64 (Q k)]] W1 fun e W' => (e = .returned (.bool true) ∧ J (pre ++ [pre.length]) W') ∨ (e = .returned (.bool false) ∧ Jx (pre ++ [pre.length]) W'))
    (hdr : ∀ pre W1, J pre W1 → J pre W1.drew) (W : World) (h0 : J [] W) :
    CallsIn (fen none) 1 Tryz.prog 167 #[.func (.yield l) #[] #[], .pointer (some ⟨b1, o1, none⟩)] W fun e W' => (∃ v, e = .returned v) ∧
      (J (List.range len) W' ∨ (∃ pre, Jx pre W')) := by
  refine callsIn_of_wp Tryz.func167 rfl trivial ?_ rfl
  simp only [Tryz.ntmps167, List.size_toArray, List.length_cons, List.length_nil, Nat.reduceAdd, Nat.reduceSub, Array.replicate_succ, Array.replicate_zero, List.push_toArray, List.append_toArray, List.nil_append, List.cons_append]
  obtain ⟨hc1, -⟩ := hcell _ _ h0
  gi_wp2
  gi_loopw [3] (fun i wr => ∃ k : Nat, k ≤ len ∧ i = .int .i64 ((len : Int) - 1 - k) ∧ J (List.range k) wr)
    (fun i _ => (intOf i + 1).toNat)
  case atStart => exact ⟨0, by omega, by simp, h0⟩
  case round =>
    obtain ⟨k, hk, rfl, hJs⟩ := hrel
    obtain ⟨hc1, hc2⟩ := hcell _ _ hJs
    by_cases hlt : k < len
    · obtain ⟨q, hq⟩ : ∃ q : Nat, k + 1 + q = len := ⟨len - k - 1, by omega⟩
      obtain ⟨hs, hp⟩ := hc2 q (by omega)
      have e1 : (len : Int) - 1 - k = (q : Int) := by omega
      rw [e1]
      obtain ⟨fn, tmps, assign, body, hy, hR⟩ := hY _ q wr hJs (by simp; omega)
      gi_wp2
      refine hR.mono ?_
      rintro e W3 (⟨rfl, hJ3⟩ | ⟨rfl, hJx3⟩)
      · gi_wp2
        go_roundw
        case rel => exact ⟨k + 1, by omega, by congr 1; omega, by rw [List.range_succ]; rw [List.length_range] at hJ3; exact hJ3⟩
        case measure => first | (simp [intOf]; done) | (simp [intOf]; omega)
      · gi_wp2
        refine bodyPost_ret (results_none rfl _ _ _) rfl ?_
        exact ⟨⟨_, rfl⟩, .inr ⟨_, hJx3⟩⟩
    · have e1 : k = len := by omega
      subst e1
      gi_wp2
      go_end0
      exact ⟨⟨_, rfl⟩, .inl hJs⟩
set_option maxRecDepth 100000 in
set_option maxHeartbeats 2000000 in
theorem back0_in (l b1 o1 : Nat) (p : Option Addr) (cap : Nat) (J : List Nat → World → Prop)
    (hcell : ∀ pre W1, J pre W1 → W1.cell? ⟨b1, o1, none⟩ = some (.slice p 0 cap)) (W : World) (h0 : J [] W) :
    CallsIn (fen none) 1 Tryz.prog 167 #[.func (.yield l) #[] #[], .pointer (some ⟨b1, o1, none⟩)] W fun e W' => (∃ v, e = .returned v) ∧ J [] W' := by
  refine callsIn_of_wp Tryz.func167 rfl trivial ?_ rfl
  simp only [Tryz.ntmps167, List.size_toArray, List.length_cons, List.length_nil, Nat.reduceAdd, Nat.reduceSub, Array.replicate_succ, Array.replicate_zero, List.push_toArray, List.append_toArray, List.nil_append, List.cons_append]
  have hc1 := hcell _ _ h0
  gi_wp2
  gi_loopw [3] (fun i wr => i = .int .i64 (-1) ∧ J [] wr) (fun _ _ => 0)
  case atStart => exact ⟨rfl, h0⟩
  case round =>
    obtain ⟨rfl, hJs⟩ := hrel
    gi_wp2
    go_end0
    exact ⟨⟨_, rfl⟩, hJs⟩
def lvAt (lv : List Level) (k : Nat) : Level := lv.getD (lv.length - 1 - k) ⟨0, 0⟩
theorem cells_two {Z : Nat → Nat → Option Value} {a c : Int} {b o : Nat} (h : relCells Z [.int .i64 a, .int .i64 c] b o) : Z b o = some (.int .i64 a) ∧ Z b (o + 1) = some (.int .i64 c) := by
  obtain ⟨⟨u, h1, h2⟩, ⟨v, h3, h4⟩, _⟩ := h
  have h2 : u = .int .i64 a := h2
  have h4 : v = .int .i64 c := h4
  subst h2; subst h4
  exact ⟨h1, h3⟩
/-- slices.Backward's iterator, over a frozen list of levels -/
theorem back_iter {H : Hp} (i : Nat) (lv : List Level) (t1 : Nat) (hl : lv.length ≤ 1000000) (hi : H[i]? = some (.row t1 1 [[.lst 2 (lv.map encL)]] false)) :
    Iter Tryz.prog 167 [(i, 0, 0)] H (fun k : Nat => [(.c (.int .i64 ((lv.length : Int) - 1 - k))), .agg (encL (lvAt lv k))]) (fun xs => xs = List.range lv.length) (fun pre k => k = pre.length ∧ k < lv.length) := by
  intro B w0 ι w hs
  obtain ⟨v, hv, hr⟩ := row_cell (hs.obj i _ hi) (k := 0) (j := 0) rfl rfl
  have hr' := hr
  simp only [AC.rel, AC.relZ] at hr'
  obtain ⟨p, c, rfl, h1, h2, h3, h4⟩ := hr'
  have hB1 : restB ι H w (ι i).block := by
    obtain ⟨_, _, cur, fr, h5, _⟩ := hs.obj i _ hi
    refine ⟨(Array.getElem?_eq_some_iff.1 h5).1, fun q2 o2 h6 h7 h8 => ?_⟩
    by_cases e2 : q2 = i
    · subst e2; rw [hi] at h6; injection h6 with h6; subst h6; cases h7
    · exact hs.sep q2 i o2 _ e2 h6 h7 hi rfl h8
  have hBz : ∀ b o v, ι.fz b o = some v → restB ι H w b ∧ w.cell? ⟨b, o, none⟩ = some v := by
    intro b o v hz
    obtain ⟨cur, ty, fr, h5, h6⟩ := hs.froz b o v hz
    refine ⟨⟨(Array.getElem?_eq_some_iff.1 h5).1, fun q o2 g1 g2 g3 => ?_⟩, by simp [World.cell?, h5, h6]⟩
    have := hs.apart q o2 g1 g2 o
    rw [g3, hz] at this
    cases this
  have hcell : ∀ (J : List Nat → World → Prop), (∀ (pre : List Nat) (W1 : World), J pre W1 → ∀ (k : Nat), restB ι H w k → W1.heap[k]? = w.heap[k]?) → ∀ pre W1, J pre W1 → W1.cell? ⟨(ι i).block, (ι i).off + (0 * (ι i).sz + 0), none⟩ = some (.slice p (lv.map encL).length c) :=
    fun J hJ pre W1 h5 => (World.cell?_of_block (w := w) (hJ pre W1 h5 _ hB1)).trans hv
  cases lv with
  | nil =>
    refine ⟨fun k => #[.int .i64 (((0 : Nat) : Int) - 1 - k), .agg #[.int .i64 0, .int .i64 0]], fun x => ⟨rfl, ⟨[.int .i64 0, .int .i64 0], rfl, rfl, rfl, trivial⟩, trivial⟩, fun l J Jx W hJ hdr hY h0 => ?_⟩
    exact (back0_in l _ _ p c J (hcell J hJ) W h0).mono fun e W' ⟨g1, g2⟩ => ⟨g1, .inl ⟨[], rfl, g2⟩⟩
  | cons x0 lv0 =>
    generalize hels : x0 :: lv0 = lv at *
    have hne : lv.map encL ≠ [] := by rw [← hels]; simp
    cases p with
    | none => exact absurd (h3 rfl).1 hne
    | some a =>
      obtain ⟨h5, h6⟩ := h4 a rfl
      have h5 := h5.resolve_left hne
      obtain ⟨b, off, sp⟩ := a
      dsimp only at h5 h6
      subst h5
      have hget : ∀ k (hk : k < lv.length), w.cell? ⟨b, off + k * 2, none⟩ = some (.int .i64 lv[k].step) ∧ w.cell? ⟨b, off + k * 2 + 1, none⟩ = some (.int .i64 lv[k].keep) ∧ restB ι H w b := by
        intro k hk
        have h7 := relRows_get h6 k (encL lv[k]) (by simp [hk])
        obtain ⟨h8, h9⟩ := cells_two h7
        exact ⟨(hBz _ _ _ h8).2, (hBz _ _ _ h9).2, (hBz _ _ _ h8).1⟩
      have hlv : ∀ k (hk : k < lv.length), lv.getD k ⟨0, 0⟩ = lv[k] := fun k hk => by simp [List.getD, hk]
      refine ⟨fun k => #[.int .i64 ((lv.length : Int) - 1 - k), .agg #[.int .i64 (lvAt lv k).step, .int .i64 (lvAt lv k).keep]], fun x => ⟨rfl, ⟨[.int .i64 (lvAt lv x).step, .int .i64 (lvAt lv x).keep], rfl, rfl, rfl, trivial⟩, trivial⟩, fun l J Jx W hJ hdr hY h0 => ?_⟩
      refine (back1_in l _ _ b off lv.length c (fun k => (lv.getD k ⟨0, 0⟩).step) (fun k => (lv.getD k ⟨0, 0⟩).keep) (by omega) (by simpa using h1) J Jx (fun pre W1 g1 => ?_) (fun pre k W1 g1 g2 => ?_) hdr W h0).mono ?_
      · refine ⟨by simpa using hcell J hJ pre W1 g1, fun k hk => ?_⟩
        obtain ⟨q1, q2, q3⟩ := hget k hk
        rw [World.cell?_of_block (w := w) (hJ pre W1 g1 _ q3), World.cell?_of_block (w := w) (hJ pre W1 g1 _ q3), hlv k hk]
        exact ⟨q1, q2⟩
      · have := hY pre pre.length W1 g1 ⟨rfl, by omega⟩
        have e1 : (lv.length : Int) - 1 - (pre.length : Nat) = (k : Nat) := by omega
        have e2 : lv.length - 1 - pre.length = k := by omega
        dsimp only [lvAt] at this
        rw [e1, e2] at this
        exact this
      · rintro e W' ⟨g1, g2 | g2⟩
        · exact ⟨g1, .inl ⟨_, rfl, g2⟩⟩
        · exact ⟨g1, .inr g2⟩
end Go.Proofs.YthgdllfkejlnmaaGreat
