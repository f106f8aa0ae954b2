/- What the functions on numbers, bytes and checksums return, of the program and of the reference. -/
import Derived.Test.YtdbieohfojgbgaaStream
import Derived.Test.YtdbieohfojgbgaaNums
namespace Go.Proofs.Ytdbieohfojgbgaa
open Go Go.RowKit
set_option maxHeartbeats 400000

def outB (n low high : Int) : Bool := decide (n < low ∨ high < n)
def inB (n low high : Int) : Bool := decide (low ≤ n ∧ n ≤ high)
theorem outB_t {n low high : Int} (h : n < low ∨ high < n) : outB n low high = true := by simpa [outB] using h
theorem outB_f {n low high : Int} (h : low ≤ n ∧ n ≤ high) : outB n low high = false := by simp [outB]; omega
theorem inB_t {n low high : Int} (h : low ≤ n ∧ n ≤ high) : inB n low high = true := by simpa [inB] using h
theorem inB_f {n low high : Int} (h : n < low ∨ high < n) : inB n low high = false := by simp [inB]; omega
theorem out_any (n low high : Int) (w : World) :
    Calls Try.prog 42 #[.int .i64 n, .int .i64 low, .int .i64 high] w fun e w' => e = .returned (.bool (outB n low high)) ∧ w = w' := by
  by_cases h1 : n < low
  · go_enter Try.func42, Try.ntmps42
    go_wp2_with fail
    go_ret
    exact ⟨by rw [outB_t (.inl h1)]; rfl, rfl⟩
  · have h1' : decide (n < low) = false := by simpa using h1
    by_cases h2 : high < n
    · go_enter Try.func42, Try.ntmps42
      go_wp2_with fail
      go_ret
      exact ⟨by rw [outB_t (.inr (by assumption))]; rfl, rfl⟩
    · have h2' : decide (high < n) = false := by simpa using h2
      go_enter Try.func42, Try.ntmps42
      go_wp2_with fail
      go_ret
      exact ⟨by rw [outB_f (by omega)]; rfl, rfl⟩
theorem in_any (n low high : Int) (w : World) :
    Calls Try.prog 45 #[.int .i64 n, .int .i64 low, .int .i64 high] w fun e w' => e = .returned (.bool (inB n low high)) ∧ w = w' := by
  by_cases h1 : low ≤ n
  · by_cases h2 : n ≤ high
    · go_enter Try.func45, Try.ntmps45
      go_wp2_with fail
      go_ret
      exact ⟨by rw [inB_t (by omega)]; rfl, rfl⟩
    · have h2' : decide (n ≤ high) = false := by simpa using h2
      go_enter Try.func45, Try.ntmps45
      go_wp2_with fail
      go_ret
      exact ⟨by rw [inB_f (by omega)]; rfl, rfl⟩
  · have h1' : decide (low ≤ n) = false := by simpa using h1
    go_enter Try.func45, Try.ntmps45
    go_wp2_with fail
    go_ret
    exact ⟨by rw [inB_f (by omega)]; rfl, rfl⟩

theorem zig_neg {n : Int} (h : n < 0) : ((zig n : Nat) : Int) = -(2 * n) - 1 := by unfold zig; rw [if_pos h]; omega
theorem zig_pos {n : Int} (h : ¬ n < 0) : ((zig n : Nat) : Int) = 2 * n := by unfold zig; rw [if_neg h]; omega
theorem rdB_lit (w : World) (l : List UInt8) (cs : List Value) (h : elB.cells l = cs) : Rd (w.alloc (.cells cs.toArray 5)) elB (some ⟨w.heap.size, 0, none⟩) l :=
  Rd.of_block (heap_alloc_new w _) h
theorem bits_and7f (q : Nat) (h : q < 9223372036854775808) : bits .and .i64 (q : Int) 127 = (q : Int) % 128 := by
  have := i64_and q 127 h (by omega)
  rw [show ((127 : Nat) : Int) = 127 from rfl] at this
  rw [this, show (127 : Nat) = 2 ^ 7 - 1 from rfl, Nat.and_two_pow_sub_one_eq_mod]; rfl
theorem bits_or80 (q : Nat) : bits .or .i64 ((q : Int) % 128) 128 = (q : Int) % 128 + 128 := by
  have := i64_or (q % 128) 128 (by omega) (by omega)
  rw [show ((128 : Nat) : Int) = 128 from rfl, Int.natCast_emod] at this
  rw [show ((128 : Nat) : Int) = 128 from rfl] at this
  rw [this]
  have h2 := or_shift (q % 128) 1 7 (by omega)
  rw [show (1 : Nat) <<< 7 = 128 from rfl] at h2
  rw [h2]; omega
theorem elB_one (q : Nat) (h : q < 256) : elB.cells [UInt8.ofNat q] = [.int .u8 (q : Int)] := by
  rw [elB_cells]
  simp [Nat.mod_eq_of_lt h]
theorem vb_step {q : Nat} (l t : List UInt8) (h : 127 < q) (hl : l ++ vb q = t) : (l ++ [UInt8.ofNat (q % 128 + 128)]) ++ vb (q / 128) = t := by
  rw [← hl, vb_ge (show 128 ≤ q by omega)]; simp
theorem vb_end {q : Nat} (l t : List UInt8) (h : ¬ 127 < q) (hl : l ++ vb q = t) : l ++ [UInt8.ofNat q] = t := by
  rw [← hl, vb_lt (by omega)]
set_option maxRecDepth 100000 in
theorem varint_any (n : Int) (w : World) (h1 : -2305843009213693952 ≤ n) (h2 : n ≤ 2305843009213693951) :
    Calls Try.prog 43 #[.int .i64 n] w fun e w' => ∃ A c, e = .returned (.slice A (vb (zig n)).length c) ∧ Ow w' w.heap.size elB A c (vb (zig n)) ∧ w.grownBy w' none := by
  have hst1 : Hid (n < 0 → -(2 * n) - 1 = ((zig n : Nat) : Int)) := fun h => (zig_neg h).symm
  have hst2 : Hid (¬ n < 0 → 2 * n = ((zig n : Nat) : Int)) := fun h => (zig_pos h).symm
  by_cases hn : n < 0
  all_goals
    go_enter Try.func43, Try.ntmps43
    go_wp2_with fail
    go_loopw [3, 4] (fun z v wr => ∃ (q : Nat) (A : Option Addr) (l : List UInt8) (c : Nat), q < 4611686018427387904 ∧ z = .int .i64 q ∧ v = .slice A l.length c ∧ Ow wr w.heap.size elB A c l ∧ w.grownBy wr none ∧ l ++ vb q = vb (zig n) ∧ l.length + (vb q).length ≤ 100)
      (fun z _ _ => (intOf z).toNat)
    case atStart =>
      have e1 := hst1.out
      have e2 := hst2.out
      exact ⟨zig n, none, [], 0, by omega, by first | rw [e1 (by omega)] | rw [e2 (by omega)], rfl, Ow.nil _ _ _, gb_refl _ _, rfl, by have := vb_len 9 (zig n) (by omega); simp; omega⟩
    case round =>
      obtain ⟨q, A, l, c, hq, rfl, rfl, ho, hg, hl, hlen⟩ := hrel
      have hp := vb_pos q
      by_cases hz : 127 < q
      · have b1 := bits_and7f q (by omega)
        have b2 := bits_or80 q
        have hL := hid hl
        clear hl
        go_wp2_with (at_builtin; refine wp_app rfl (.tmp 14) (.tmp 19) _ rfl tyB (by rfl) (ho.alloc _) (by rfl) (rdB_lit _ [UInt8.ofNat (q % 128 + 128)] _ (elB_one _ (by omega))) (by simp; omega) (by simp [maxLen]; omega) (by have := hg.size; simp; omega) ?_; intro A1 c1 w1 ho1 hg1)
        go_roundw
        case rel =>
          refine ⟨q / 128, A1, _, c1, by omega, rfl, by simp, ho1, gb_app (gb_trans hg (gb_alloc _ _ _)) (ho.alloc _) (Nat.le_refl _) hg1, vb_step _ _ hz hL.out, ?_⟩
          rw [vb_ge (by omega)] at hlen; simp at hlen ⊢; omega
        case measure => simp [intOf]; omega
      · have hL := hid hl
        clear hl
        go_wp2_with (at_builtin; refine wp_app rfl (.tmp 23) (.tmp 26) _ rfl tyB (by rfl) (ho.alloc _) (by rfl) (rdB_lit _ [UInt8.ofNat q] _ (elB_one _ (by omega))) (by simp; omega) (by simp [maxLen]; omega) (by have := hg.size; simp; omega) ?_; intro A1 c1 w1 ho1 hg1)
        go_ret
        rw [vb_end _ _ hz hL.out] at ho1
        refine ⟨A1, c1, ?_, ho1, gb_app (gb_trans hg (gb_alloc _ _ _)) (ho.alloc _) (Nat.le_refl _) hg1⟩
        rw [← vb_end _ _ hz hL.out]; simp
theorem varint_ok (n : Int) (w : World) (h : -1000000000000 ≤ n ∧ n ≤ 1000000000000) :
    Calls Try.prog 9 #[.int .i64 n] w fun e w' => ∃ A c, e = .returned (.tuple #[.slice A (vb (zig n)).length c, .int .i64 0]) ∧ Ow w' w.heap.size elB A c (vb (zig n)) ∧ w.grownBy w' none := by
  have ho := outB_f h
  go_enter Try.func9, Try.ntmps9
  go_wp2_with (first | (go_at_call 42; refine (out_any _ _ _ _).mono ?_; rintro e w' ⟨rfl, rfl⟩) | (go_at_call 43; refine (varint_any _ _ (by omega) (by omega)).mono ?_; rintro e w' ⟨A, c, rfl, ho1, hg1⟩))
  go_ret2
  exact ⟨A, c, rfl, ho1, hg1⟩
theorem varint_no (n : Int) (w : World) (h : n < -1000000000000 ∨ 1000000000000 < n) :
    Calls Try.prog 9 #[.int .i64 n] w fun e w' => e = .returned (.tuple #[.slice none 0 0, .int .i64 1]) ∧ w = w' := by
  have ho := outB_t h
  go_enter Try.func9, Try.ntmps9
  go_wp2_with (first | (go_at_call 42; refine (out_any _ _ _ _).mono ?_; rintro e w' ⟨rfl, rfl⟩) | (go_at_call 43; refine (varint_any _ _ (by omega) (by omega)).mono ?_; rintro e w' ⟨A, c, rfl, ho1, hg1⟩))
  go_ret2
  exact ⟨rfl, rfl⟩
theorem elB_two (q : Nat) : elB.cells [UInt8.ofNat (q % 128 + 128)] = [.int .u8 ((q : Int) % 128 + 128)] := by
  rw [elB_one _ (by omega)]; simp
theorem elB_mod (q : Nat) : elB.cells [UInt8.ofNat (q % 128)] = [.int .u8 ((q : Int) % 128)] := by
  rw [elB_one _ (by omega)]; simp
theorem vb_end' {q : Nat} (l t : List UInt8) (h : q / 128 = 0) (hl : l ++ vb q = t) : l ++ [UInt8.ofNat (q % 128)] = t := by
  rw [← hl, vb_lt (by omega), Nat.mod_eq_of_lt (by omega)]
set_option maxRecDepth 100000 in
theorem varintOf_ok (n : Int) (w : World) (h : -1000000000000 ≤ n ∧ n ≤ 1000000000000) :
    Calls Try.prog 11 #[.int .i64 n] w fun e w' => ∃ A c, e = .returned (.tuple #[.slice A (vb (zig n)).length c, .int .i64 0]) ∧ Ow w' w.heap.size elB A c (vb (zig n)) ∧ w.grownBy w' none := by
  have hst1 : Hid (n < 0 → -2 * n - 1 = ((zig n : Nat) : Int)) := fun h => by rw [zig_neg h]; omega
  have hst2 : Hid (¬ n < 0 → 2 * n = ((zig n : Nat) : Int)) := fun h => (zig_pos h).symm
  have ho := inB_t h
  by_cases hn : n < 0
  all_goals
    go_enter Try.func11, Try.ntmps11
    go_wp2_with (go_at_call 45; refine (in_any _ _ _ _).mono ?_; rintro e w' ⟨rfl, rfl⟩)
    go_loopw [4, 5] (fun z v wr => ∃ (q : Nat) (A : Option Addr) (l : List UInt8) (c : Nat), q < 4611686018427387904 ∧ z = .int .i64 q ∧ v = .slice A l.length c ∧ Ow wr w.heap.size elB A c l ∧ w.grownBy wr none ∧ l ++ vb q = vb (zig n) ∧ l.length + (vb q).length ≤ 100)
      (fun z _ _ => (intOf z).toNat)
    case atStart =>
      have e1 := hst1.out
      have e2 := hst2.out
      exact ⟨zig n, none, [], 0, by omega, by first | rw [e1 (by omega)] | rw [e2 (by omega)], rfl, Ow.nil _ _ _, gb_refl _ _, rfl, by have := vb_len 9 (zig n) (by omega); simp; omega⟩
    case round =>
      obtain ⟨q, A, l, c, hq, rfl, rfl, ho, hg, hl, hlen⟩ := hrel
      have hp := vb_pos q
      have hL := hid hl
      clear hl
      by_cases hz : q / 128 = 0
      · have hz' : (((q : Int) / 128) == 0) = true := by simp; omega
        have HZ := hid hz
        clear hz
        go_wp2_with (at_builtin; refine wp_app rfl (.tmp 23) (.tmp 26) _ rfl tyB (by rfl) (ho.alloc _) (by rfl) (rdB_lit _ [UInt8.ofNat (q % 128)] _ (elB_mod _)) (by simp; omega) (by simp [maxLen]; omega) (by have := hg.size; simp; omega) ?_; intro A1 c1 w1 ho1 hg1)
        go_ret2
        rw [vb_end' _ _ HZ.out hL.out] at ho1
        refine ⟨A1, c1, ?_, ho1, gb_app (gb_trans hg (gb_alloc _ _ _)) (ho.alloc _) (Nat.le_refl _) hg1⟩
        rw [← vb_end' _ _ HZ.out hL.out]; simp
      · have hz' : (((q : Int) / 128) == 0) = false := by simp; omega
        go_wp2_with (at_builtin; refine wp_app rfl (.tmp 28) (.tmp 32) _ rfl tyB (by rfl) (ho.alloc _) (by rfl) (rdB_lit _ [UInt8.ofNat (q % 128 + 128)] _ (elB_two _)) (by simp; omega) (by simp [maxLen]; omega) (by have := hg.size; simp; omega) ?_; intro A1 c1 w1 ho1 hg1)
        go_roundw
        case rel =>
          refine ⟨q / 128, A1, _, c1, by omega, rfl, by simp, ho1, gb_app (gb_trans hg (gb_alloc _ _ _)) (ho.alloc _) (Nat.le_refl _) hg1, vb_step _ _ (by omega) hL.out, ?_⟩
          rw [vb_ge (by omega)] at hlen; simp at hlen ⊢; omega
        case measure => simp [intOf]; omega
theorem varintOf_no (n : Int) (w : World) (h : n < -1000000000000 ∨ 1000000000000 < n) :
    Calls Try.prog 11 #[.int .i64 n] w fun e w' => e = .returned (.tuple #[.slice none 0 0, .int .i64 1]) ∧ w = w' := by
  have ho := inB_f h
  go_enter Try.func11, Try.ntmps11
  go_wp2_with (go_at_call 45; refine (in_any _ _ _ _).mono ?_; rintro e w' ⟨rfl, rfl⟩)
  go_ret2
  exact ⟨rfl, rfl⟩
end Go.Proofs.Ytdbieohfojgbgaa
