/- slices.Backward over pieces of a file, gone through. No condition. -/
import Derived.Test.YtnodfnjmhcjnfaaGreatHCoreRange
import Derived.Test.YtnodfnjmhcjnfaaGreatHVParse
import Derived.RangeFuncBound
import Derived.RangeFuncCalls
import Derived.Shelf.Abstract
import Derived.WalkKit
import Derived.OwnWalkIn
import Derived.TacticsInMore
import Derived.LoopNIn
import Derived.LoopIn
import Derived.Test.YtnodfnjmhcjnfaaGreatProg
namespace Go.Proofs.YtnodfnjmhcjnfaaGreat
open Go Go.RowKit Go.Shelf
theorem fenP_round (r : Option Nat) : (fen r).round = r := rfl
theorem fenP_depth (r : Option Nat) : (fen r).depth = none := rfl
attribute [local go_sem] Oper.semAt_some Oper.semAt_none fenP_round fenP_depth
set_option maxRecDepth 100000
set_option linter.all false in
set_option maxHeartbeats 2000000 in
theorem backP1_in (l b1 o1 b off len cap : Nat) (V0 V1 V2 V3 V4 V5 V6 V7 : Nat → Value) (hl : len < 1099511627776) (hc : len ≤ cap) (J Jx : List Nat → World → Prop)
    (hcell : ∀ pre W1, J pre W1 → W1.cell? ⟨b1, o1, none⟩ = some (.slice (some ⟨b, off, none⟩) len cap) ∧ ∀ k, k < len → W1.cell? ⟨b, off + k * 8, none⟩ = some (V0 k) ∧ W1.cell? ⟨b, off + k * 8 + 1, none⟩ = some (V1 k) ∧ W1.cell? ⟨b, off + k * 8 + 2, none⟩ = some (V2 k) ∧ W1.cell? ⟨b, off + k * 8 + 3, none⟩ = some (V3 k) ∧ W1.cell? ⟨b, off + k * 8 + 4, none⟩ = some (V4 k) ∧ W1.cell? ⟨b, off + k * 8 + 5, none⟩ = some (V5 k) ∧ W1.cell? ⟨b, off + k * 8 + 6, none⟩ = some (V6 k) ∧ W1.cell? ⟨b, off + k * 8 + 7, none⟩ = some (V7 k))
    (hY : ∀ pre k W1, J pre W1 → pre.length + 1 + k = len → YieldAt (fen none) 0 Tryz.prog l #[.int .i64 k, .agg #[V0 k, V1 k, V2 k, V3 k, V4 k, V5 k, V6 k, V7 k]] W1 fun e W' => (e = .returned (.bool true) ∧ J (pre ++ [pre.length]) W') ∨ (e = .returned (.bool false) ∧ Jx (pre ++ [pre.length]) W'))
    (hdr : ∀ pre W1, J pre W1 → J pre W1.drew) (W : World) (h0 : J [] W) :
    CallsIn (fen none) 1 Tryz.prog 88 #[.func (.yield l) #[] #[], .pointer (some ⟨b1, o1, none⟩)] W fun e W' => (∃ v, e = .returned v) ∧
      (J (List.range len) W' ∨ (∃ pre, Jx pre W')) := by
  refine callsIn_of_wp Tryz.func88 rfl trivial ?_ rfl
  simp only [Tryz.ntmps88, List.size_toArray, List.length_cons, List.length_nil, Nat.reduceAdd, Nat.reduceSub, Array.replicate_succ, Array.replicate_zero, List.push_toArray, List.append_toArray, List.nil_append, List.cons_append]
  obtain ⟨hc1, -⟩ := hcell _ _ h0
  gi_wp2
  gi_loopw [3] (fun i wr => ∃ k : Nat, k ≤ len ∧ i = .int .i64 ((len : Int) - 1 - k) ∧ J (List.range k) wr)
    (fun i _ => (intOf i + 1).toNat)
  case atStart => exact ⟨0, by omega, by simp, h0⟩
  case round =>
    obtain ⟨k, hk, rfl, hJs⟩ := hrel
    obtain ⟨hc1, hc2⟩ := hcell _ _ hJs
    by_cases hlt : k < len
    · obtain ⟨q, hq⟩ : ∃ q : Nat, k + 1 + q = len := ⟨len - k - 1, by omega⟩
      obtain ⟨hs0, hs1, hs2, hs3, hs4, hs5, hs6, hs7⟩ := hc2 q (by omega)
      have e1 : (len : Int) - 1 - k = (q : Int) := by omega
      rw [e1]
      obtain ⟨fn, tmps, assign, body, hy, hR⟩ := hY _ q wr hJs (by simp; omega)
      gi_wp2
      refine hR.mono ?_
      rintro e W3 (⟨rfl, hJ3⟩ | ⟨rfl, hJx3⟩)
      · gi_wp2
        go_roundw
        case rel => exact ⟨k + 1, by omega, by congr 1; omega, by rw [List.range_succ]; rw [List.length_range] at hJ3; exact hJ3⟩
        case measure => first | (simp [intOf]; done) | (simp [intOf]; omega)
      · gi_wp2
        refine bodyPost_ret (results_none rfl _ _ _) rfl ?_
        exact ⟨⟨_, rfl⟩, .inr ⟨_, hJx3⟩⟩
    · have e1 : k = len := by omega
      subst e1
      gi_wp2
      go_end0
      exact ⟨⟨_, rfl⟩, .inl hJs⟩
set_option maxRecDepth 100000 in
set_option maxHeartbeats 2000000 in
theorem backP0_in (l b1 o1 : Nat) (p : Option Addr) (cap : Nat) (J : List Nat → World → Prop)
    (hcell : ∀ pre W1, J pre W1 → W1.cell? ⟨b1, o1, none⟩ = some (.slice p 0 cap)) (W : World) (h0 : J [] W) :
    CallsIn (fen none) 1 Tryz.prog 88 #[.func (.yield l) #[] #[], .pointer (some ⟨b1, o1, none⟩)] W fun e W' => (∃ v, e = .returned v) ∧ J [] W' := by
  refine callsIn_of_wp Tryz.func88 rfl trivial ?_ rfl
  simp only [Tryz.ntmps88, List.size_toArray, List.length_cons, List.length_nil, Nat.reduceAdd, Nat.reduceSub, Array.replicate_succ, Array.replicate_zero, List.push_toArray, List.append_toArray, List.nil_append, List.cons_append]
  have hc1 := hcell _ _ h0
  gi_wp2
  gi_loopw [3] (fun i wr => i = .int .i64 (-1) ∧ J [] wr) (fun _ _ => 0)
  case atStart => exact ⟨rfl, h0⟩
  case round =>
    obtain ⟨rfl, hJs⟩ := hrel
    gi_wp2
    go_end0
    exact ⟨⟨_, rfl⟩, hJs⟩
def pcAt (ps : List Pc) (k : Nat) : Pc := ps.getD (ps.length - 1 - k) ⟨blk0, []⟩
theorem cells_pc {Z : Nat → Nat → Option Value} {x : Pc} {b o : Nat} (h : relCells Z (encPc x) b o) : Z b o = some (.int .i64 x.b.at_) ∧ Z b (o + 1) = some (.int .i64 x.b.long) ∧ Z b (o + 2) = some (.string x.b.tag) ∧ Z b (o + 3) = some (.int .i64 x.b.first) ∧ Z b (o + 4) = some (.int .i64 x.b.last) ∧ Z b (o + 5) = some (.int .i64 x.b.count) ∧ Z b (o + 6) = some (.bool x.b.over) ∧ ∃ u, Z b (o + 7) = some u ∧ AC.relZ Z (.lst 3 (x.ss.map encS)) u := by
  obtain ⟨⟨u0, h0, g0⟩, ⟨u1, h1, g1⟩, ⟨u2, h2, g2⟩, ⟨u3, h3, g3⟩, ⟨u4, h4, g4⟩, ⟨u5, h5, g5⟩, ⟨u6, h6, g6⟩, ⟨u7, h7, g7⟩, _⟩ := h
  have g0 : u0 = .int .i64 x.b.at_ := g0
  have g1 : u1 = .int .i64 x.b.long := g1
  have g2 : u2 = .string x.b.tag := g2
  have g3 : u3 = .int .i64 x.b.first := g3
  have g4 : u4 = .int .i64 x.b.last := g4
  have g5 : u5 = .int .i64 x.b.count := g5
  have g6 : u6 = .bool x.b.over := g6
  subst g0; subst g1; subst g2; subst g3; subst g4; subst g5; subst g6
  exact ⟨h0, h1, h2, h3, h4, h5, h6, u7, h7, g7⟩
theorem backP_iter {H : Hp} (i : Nat) (lv : List Pc) (t1 : Nat) (hl : lv.length ≤ 1000000) (hi : H[i]? = some (.row t1 1 [[.lst 8 (lv.map encPc)]] false)) :
    Iter Tryz.prog 88 [(i, 0, 0)] H (fun k : Nat => [(.c (.int .i64 ((lv.length : Int) - 1 - k))), .agg (encPc (pcAt lv k))]) (fun xs => xs = List.range lv.length) (fun pre k => k = pre.length ∧ k < lv.length) := by
  intro B w0 ι w hs
  obtain ⟨v, hv, hr⟩ := row_cell (hs.obj i _ hi) (k := 0) (j := 0) rfl rfl
  have hr' := hr
  simp only [AC.rel, AC.relZ] at hr'
  obtain ⟨p, c, rfl, h1, h2, h3, h4⟩ := hr'
  have hB1 : restB ι H w (ι i).block := by
    obtain ⟨_, _, cur, fr, h5, _⟩ := hs.obj i _ hi
    refine ⟨(Array.getElem?_eq_some_iff.1 h5).1, fun q2 o2 h6 h7 h8 => ?_⟩
    by_cases e2 : q2 = i
    · subst e2; rw [hi] at h6; injection h6 with h6; subst h6; cases h7
    · exact hs.sep q2 i o2 _ e2 h6 h7 hi rfl h8
  have hBz : ∀ b o v, ι.fz b o = some v → restB ι H w b ∧ w.cell? ⟨b, o, none⟩ = some v := by
    intro b o v hz
    obtain ⟨cur, ty, fr, h5, h6⟩ := hs.froz b o v hz
    refine ⟨⟨(Array.getElem?_eq_some_iff.1 h5).1, fun q o2 g1 g2 g3 => ?_⟩, by simp [World.cell?, h5, h6]⟩
    have := hs.apart q o2 g1 g2 o
    rw [g3, hz] at this
    cases this
  have hcell : ∀ (J : List Nat → World → Prop), (∀ (pre : List Nat) (W1 : World), J pre W1 → ∀ (k : Nat), restB ι H w k → W1.heap[k]? = w.heap[k]?) → ∀ pre W1, J pre W1 → W1.cell? ⟨(ι i).block, (ι i).off + (0 * (ι i).sz + 0), none⟩ = some (.slice p (lv.map encPc).length c) :=
    fun J hJ pre W1 h5 => (World.cell?_of_block (w := w) (hJ pre W1 h5 _ hB1)).trans hv
  have hU0 : ∀ k, ∃ u : Value, (AC.lst 3 ((pcAt lv k).ss.map encS)).rel ι u ∧ ∀ b off, p = some ⟨b, off, none⟩ → ∀ q (hq : q < lv.length), q = lv.length - 1 - k → ι.fz b (off + q * 8 + 7) = some u := by
    intro k
    by_cases hk : lv.length - 1 - k < lv.length
    · have hne : lv.map encPc ≠ [] := by intro h; rw [List.map_eq_nil_iff] at h; rw [h] at hk; simp at hk
      cases p with
      | none => exact absurd (h3 rfl).1 hne
      | some a =>
        obtain ⟨h5, h6⟩ := h4 a rfl
        have h5 := h5.resolve_left hne
        obtain ⟨b, off, sp⟩ := a
        dsimp only at h5 h6
        subst h5
        have h7 := relRows_get h6 (lv.length - 1 - k) (encPc lv[lv.length - 1 - k]) (by simp [hk])
        obtain ⟨_, _, _, _, _, _, _, u, g1, g2⟩ := cells_pc h7
        have e : pcAt lv k = lv[lv.length - 1 - k] := by unfold pcAt; rw [List.getD_eq_getElem?_getD, List.getElem?_eq_getElem hk]; rfl
        refine ⟨u, by rw [e]; exact g2, fun b' off' h8 q hq hqe => ?_⟩
        injection h8 with h8
        injection h8 with h9 h10
        subst h9; subst h10; subst hqe
        exact g1
    · have h0 : lv = [] := List.length_eq_zero_iff.1 (by omega)
      subst h0
      refine ⟨.slice none 0 0, ?_, fun b off _ q hq => by simp at hq⟩
      show AC.rel ι (.lst 3 []) _
      simp only [AC.rel, AC.relZ]
      exact ⟨none, 0, by simp, by simp, by simp, by simp, by simp⟩
  obtain ⟨U, hU⟩ := Classical.skolem.1 hU0
  refine ⟨fun k => #[.int .i64 ((lv.length : Int) - 1 - k), .agg #[.int .i64 (pcAt lv k).b.at_, .int .i64 (pcAt lv k).b.long, .string (pcAt lv k).b.tag, .int .i64 (pcAt lv k).b.first, .int .i64 (pcAt lv k).b.last, .int .i64 (pcAt lv k).b.count, .bool (pcAt lv k).b.over, U k]], fun x => ⟨rfl, ⟨[.int .i64 (pcAt lv x).b.at_, .int .i64 (pcAt lv x).b.long, .string (pcAt lv x).b.tag, .int .i64 (pcAt lv x).b.first, .int .i64 (pcAt lv x).b.last, .int .i64 (pcAt lv x).b.count, .bool (pcAt lv x).b.over, U x], rfl, rfl, rfl, rfl, rfl, rfl, rfl, rfl, (hU x).1, trivial⟩, trivial⟩, fun l J Jx W hJ hdr hY h0 => ?_⟩
  by_cases hln : lv = []
  · subst hln
    exact (backP0_in l _ _ p c J (hcell J hJ) W h0).mono fun e W' ⟨g1, g2⟩ => ⟨g1, .inl ⟨[], rfl, g2⟩⟩
  have hne : lv.map encPc ≠ [] := by simpa using hln
  cases p with
  | none => exact absurd (h3 rfl).1 hne
  | some a =>
    obtain ⟨h5, h6⟩ := h4 a rfl
    have h5 := h5.resolve_left hne
    obtain ⟨b, off, sp⟩ := a
    dsimp only at h5 h6
    subst h5
    refine (backP1_in l _ _ b off lv.length c (fun k => .int .i64 (lv.getD k ⟨blk0, []⟩).b.at_) (fun k => .int .i64 (lv.getD k ⟨blk0, []⟩).b.long) (fun k => .string (lv.getD k ⟨blk0, []⟩).b.tag) (fun k => .int .i64 (lv.getD k ⟨blk0, []⟩).b.first) (fun k => .int .i64 (lv.getD k ⟨blk0, []⟩).b.last) (fun k => .int .i64 (lv.getD k ⟨blk0, []⟩).b.count) (fun k => .bool (lv.getD k ⟨blk0, []⟩).b.over) (fun k => U (lv.length - 1 - k)) (by omega) (by simpa using h1) J Jx (fun pre W1 g1 => ?_) (fun pre k W1 g1 g2 => ?_) hdr W h0).mono ?_
    · refine ⟨by simpa using hcell J hJ pre W1 g1, fun k hk => ?_⟩
      have h7 := relRows_get h6 k (encPc lv[k]) (by simp [hk])
      obtain ⟨c0, c1, c2, c3, c4, c5, c6, _⟩ := cells_pc h7
      have c7 := (hU (lv.length - 1 - k)).2 b off rfl k hk (by omega)
      have hB := (hBz _ _ _ c0).1
      have e : lv.getD k ⟨blk0, []⟩ = lv[k] := by simp [List.getD, hk]
      have cc : ∀ o v, ι.fz b o = some v → W1.cell? ⟨b, o, none⟩ = some v := fun o v hz => (World.cell?_of_block (w := w) (hJ pre W1 g1 _ hB)).trans (hBz _ _ _ hz).2
      rw [e]
      exact ⟨cc _ _ c0, cc _ _ c1, cc _ _ c2, cc _ _ c3, cc _ _ c4, cc _ _ c5, cc _ _ c6, cc _ _ c7⟩
    · have := hY pre pre.length W1 g1 ⟨rfl, by omega⟩
      have e1 : (lv.length : Int) - 1 - (pre.length : Nat) = (k : Nat) := by omega
      have e2 : lv.length - 1 - pre.length = k := by omega
      have e3 : pre.length = lv.length - 1 - k := by omega
      dsimp only [pcAt] at this
      rw [e1, e2] at this
      rw [← e3]
      exact this
    · rintro e W' ⟨g1, g2 | g2⟩
      · exact ⟨g1, .inl ⟨_, rfl, g2⟩⟩
      · exact ⟨g1, .inr g2⟩
end Go.Proofs.YtnodfnjmhcjnfaaGreat
