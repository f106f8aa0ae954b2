/- Bytes: numbers as bytes, and checksums. Condition: no bytes but such as fit. -/
import Derived.Test.YtnodfnjmhcjnfaaGreatDoorHVGA
import Derived.Test.YtnodfnjmhcjnfaaGreatDoorHVNums
namespace Go.Proofs.YtnodfnjmhcjnfaaGreatDoor
open Go Go.RowKit
set_option maxRecDepth 100000
set_option linter.all false
set_option maxHeartbeats 1000000
variable {H : Hp} {K : AV → Hp → Prop}
def encU (b : UInt8) : List AC := [.int .u8 (b.toNat : Int)]
attribute [go_sem] encU
def u8I (n : Int) : UInt8 := UInt8.ofNat n.toNat
@[go_sem] theorem u8I_toNat (n : Int) (h : 0 ≤ n ∧ n < 256) : (((u8I n).toNat : Nat) : Int) = n := by
  unfold u8I
  rw [UInt8.toNat_ofNat']
  omega
@[go_sem] theorem wrap_u8 (n : Int) (h : 0 ≤ n ∧ n < 256) : IntKind.u8.wrap n = n := by rw [IntKind.wrap_u8]; omega
@[go_sem] theorem fdiv_128 (n : Int) : n.fdiv (2 ^ min 7 64) = n / 128 := by rw [show (2 ^ min 7 64 : Int) = 128 from rfl]; exact Int.fdiv_eq_ediv_of_nonneg n (by omega)
theorem pureL_U (l : List UInt8) : pureL (l.map encU) = true := pureL_map _ (fun x => by simp [go_sem, AC.pure])
theorem appU {i : Nat} {J : AV → Hp → Prop} (l m : List UInt8) (hi : H[i]? = some (grO 5 1 (l.map encU))) (hm : m ≠ []) (hb : l.length + m.length ≤ 100000000000)
    (h : J (.c (grV H.length (l ++ m))) (H.set i .dead ++ [grO 5 1 ((l ++ m).map encU)])) : aBuiltin Tryz.prog .append #[64, 64] [.c (grV i l), .c (.lst 1 (m.map encU))] H J :=
  app_grL (enc := encU) (e := 5) (sz := 1) (bs := 1) (z := [.int .u8 0]) l m (by kernel_rfl) (by kernel_rfl) (by kernel_rfl) (by kernel_rfl) hi hm rfl (by decide) (by omega) (by omega) h
theorem appUr {i j k m : Nat} {J : AV → Hp → Prop} (l mm : List UInt8) (hi : H[i]? = some (grO 5 1 (l.map encU))) (hx : srcO H[j]? 1 k m = some (mm.map encU)) (hm : mm ≠ []) (hb : l.length + mm.length ≤ 100000000000)
    (h : J (.c (grV H.length (l ++ mm))) (H.set i .dead ++ [grO 5 1 ((l ++ mm).map encU)])) : aBuiltin Tryz.prog .append #[64, 64] [.c (grV i l), .c (.sl (some (j, k)) m)] H J :=
  app_grR (enc := encU) (e := 5) (sz := 1) (bs := 1) (z := [.int .u8 0]) l mm (by kernel_rfl) (by kernel_rfl) (by kernel_rfl) (by kernel_rfl) hi hx hm rfl (by decide) (by omega) (by omega) h
theorem appUs {i : Nat} {J : AV → Hp → Prop} (l : List UInt8) (s : ByteArray) (hi : H[i]? = some (grO 5 1 (l.map encU))) (hm : 0 < s.size) (hb : l.length + s.size ≤ 100000000000)
    (h : J (.c (grV H.length (l ++ s.data.toList))) (H.set i .dead ++ [grO 5 1 ((l ++ s.data.toList).map encU)])) : aBuiltin Tryz.prog .append #[64, 9] [.c (grV i l), .c (.str s)] H J :=
  app_grS (enc := encU) (e := 5) l s rfl (by kernel_rfl) (by kernel_rfl) (by kernel_rfl) (by kernel_rfl) (by kernel_rfl) hi hm (by omega) h
theorem ofInt_64 (a : Nat) (ha : a < 9223372036854775808) : (BitVec.ofInt 64 (a : Int)).toNat = a := by
  rw [BitVec.ofInt_natCast, BitVec.toNat_ofNat]; exact Nat.mod_eq_of_lt (by omega)
theorem i64_and (a b : Nat) (ha : a < 9223372036854775808) (hb : b < 9223372036854775808) : andI a b = ((a &&& b : Nat) : Int) := by
  have hx : a &&& b < 2 ^ 63 := Nat.and_lt_two_pow _ (by omega)
  unfold andI
  rw [BitVec.toNat_and, ofInt_64 a ha, ofInt_64 b hb, IntKind.wrap_i64]; omega
theorem i64_or (a b : Nat) (ha : a < 9223372036854775808) (hb : b < 9223372036854775808) : orI a b = ((a ||| b : Nat) : Int) := by
  have hx : a ||| b < 2 ^ 63 := Nat.or_lt_two_pow (by omega) (by omega)
  unfold orI
  rw [BitVec.toNat_or, ofInt_64 a ha, ofInt_64 b hb, IntKind.wrap_i64]; omega
@[go_sem] theorem and_127 (a : Int) (h : 0 ≤ a ∧ a < 9223372036854775808) : andI a 127 = a % 128 := by
  obtain ⟨q, rfl⟩ := Int.eq_ofNat_of_zero_le h.1
  have := i64_and q 127 (by omega) (by omega)
  rw [show ((127 : Nat) : Int) = 127 from rfl] at this
  rw [this, show (127 : Nat) = 2 ^ 7 - 1 from rfl, Nat.and_two_pow_sub_one_eq_mod]; rfl
@[go_sem] theorem or_128 (a : Int) (h : 0 ≤ a ∧ a < 128) : orI a 128 = a + 128 := by
  obtain ⟨q, rfl⟩ := Int.eq_ofNat_of_zero_le h.1
  have := i64_or q 128 (by omega) (by omega)
  rw [show ((128 : Nat) : Int) = 128 from rfl] at this
  have h2 := or_shift q 1 7 (by omega)
  rw [show (1 : Nat) <<< 7 = 128 from rfl] at h2
  rw [this, h2]; omega
theorem and80 : ∀ cc : Nat, cc < 256 → cc &&& 128 = if cc < 128 then 0 else 128 := by decide +kernel
@[go_sem] theorem and_128 (a : Int) (h : 0 ≤ a ∧ a < 256) : andI a 128 = a / 128 * 128 := by
  obtain ⟨q, rfl⟩ := Int.eq_ofNat_of_zero_le h.1
  have := i64_and q 128 (by omega) (by omega)
  rw [show ((128 : Nat) : Int) = 128 from rfl] at this
  rw [this, and80 q (by omega)]
  split <;> omega
theorem zig_neg {n : Int} (h : n < 0) : ((zig n : Nat) : Int) = -(2 * n) - 1 := by unfold zig; rw [if_pos h]; omega
theorem zig_pos {n : Int} (h : ¬ n < 0) : ((zig n : Nat) : Int) = 2 * n := by unfold zig; rw [if_neg h]; omega
theorem vb_step {q : Nat} (l t : List UInt8) (h : 127 < q) (hl : l ++ vb q = t) : (l ++ [u8I ((q : Int) % 128 + 128)]) ++ vb (q / 128) = t := by
  rw [← hl, vb_ge (show 128 ≤ q by omega)]
  have : u8I ((q : Int) % 128 + 128) = UInt8.ofNat (q % 128 + 128) := by unfold u8I; congr 1
  simp [this]
theorem vb_end {q : Nat} (l t : List UInt8) (h : ¬ 127 < q) (hl : l ++ vb q = t) : l ++ [u8I q] = t := by
  rw [← hl, vb_lt (by omega)]; rfl
theorem varint_a (n : Int) (h1 : -2305843009213693952 ≤ n) (h2 : n ≤ 2305843009213693951) (hk : K (.c (.lst 1 ((vb (zig n)).map encU))) H) : ACalls Tryz.prog 162 [(.c (.int .i64 n))] H K := by
  have hz : zig n ≤ 4611686018427387904 := by unfold zig; split <;> omega
  have hlen : (vb (zig n)).length ≤ 9 := vb_len 8 _ (by omega)
  refine acalls Tryz.func162 rfl (by kernel_rfl) (by simp (disch := first | omega | (simp only [go_sem]; first | done | omega)) only [go_sem]) (fun hH => ?_)
  simp (disch := first | omega | (simp only [go_sem]; first | done | omega)) only [go_sem]
  repeat' (first | ((first | refine acond_d ?_ ?_ | refine acond_b ?_ ?_ | refine ag_d ?_ ?_ | refine ag_n ?_ ?_ | refine ag_bt ?_ ?_ | refine ag_bf ?_ ?_) <;> intro c <;> try simp (disch := first | omega | (simp only [go_sem]; first | done | omega)) only [go_sem, c]) | ((first | refine w_draw (by kernel_rfl) (by decide +kernel) ?_) <;> try simp (disch := first | omega | (simp only [go_sem]; first | done | omega)) only [go_sem]))
  all_goals
    refine AWp.loop (H.length) [] [3, 4] (fun (s : Nat × List UInt8) => s.2 ++ vb s.1 = vb (zig n) ∧ s.1 ≤ 4611686018427387904) (fun (s : Nat × List UInt8) => [(3, (.c (.int .i64 (s.1)))), (4, .c (grV H.length s.2))]) (fun (s : Nat × List UInt8) => H ++ [grO 5 1 (s.2.map encU)]) (fun (s : Nat × List UInt8) => s.1) (by kernel_rfl) (fun _ => rfl) (by kernel_rfl) (by first | (simp; done) | omega) (by first | (simp; done) | (simp; omega) | omega) kl ?_ (fun s hs _ _ => ?_)
    · refine Next.mk (zig n, []) ⟨by simp, hz⟩ ?_
      simp (disch := first | omega | (simp only [go_sem]; first | done | omega)) only [go_sem]
      first
        | rw [show (0 - 2 * n - 1 : Int) = ((zig n : Nat) : Int) by have := zig_neg c; omega]
        | rw [show (2 * n : Int) = ((zig n : Nat) : Int) by have := zig_pos c; omega]
      exact WkL.pad (by simp)
    obtain ⟨q, l⟩ := s
    dsimp only at hs
    obtain ⟨e1, e2⟩ := hs
    have hll : l.length ≤ 9 := by have := congrArg List.length e1; simp at this; omega
    by_cases hq : 127 < q
    · have hq' : (127 : Int) < q := by omega
      simp (disch := first | omega | (simp only [go_sem]; first | done | omega)) only [go_sem, hq']
      (refine app_gr (enc := encU) (e := 5) (sz := 1) (bs := 1) (z := [.int .u8 0]) (l) (u8I ((q : Int) % 128 + 128)) (by kernel_rfl) (by kernel_rfl) (by kernel_rfl) (by kernel_rfl) (by first | ((repeat first | exact at0 (by simp) | refine atS ?_); done) | assumption) (by first | (simp (disch := first | omega | (simp only [go_sem]; first | done | omega)) only [go_sem]; done) | (simp (disch := first | omega | (simp only [go_sem]; first | done | omega)) only [go_sem]; rfl) | (simp (disch := first | omega | (simp only [go_sem]; first | done | omega)) only [go_sem]; simp [go_sem]; done) | (simp (disch := first | omega | (simp only [go_sem]; first | done | omega)) only [go_sem]; simp [*]; done)) rfl (by decide) (by omega) (by omega) (by rfl) ?_)
      simp (disch := first | omega | (simp only [go_sem]; first | done | omega)) only [go_sem]
      exact Next.mk (q / 128, l ++ [u8I ((q : Int) % 128 + 128)]) ⟨⟨vb_step l _ hq e1, by dsimp only; omega⟩, by dsimp only; omega⟩ (by exact ow)
    · have hq' : ¬ (127 : Int) < q := by omega
      simp (disch := first | omega | (simp only [go_sem]; first | done | omega)) only [go_sem, hq']
      (refine app_gr (enc := encU) (e := 5) (sz := 1) (bs := 1) (z := [.int .u8 0]) (l) (u8I (q : Int)) (by kernel_rfl) (by kernel_rfl) (by kernel_rfl) (by kernel_rfl) (by first | ((repeat first | exact at0 (by simp) | refine atS ?_); done) | assumption) (by first | (simp (disch := first | omega | (simp only [go_sem]; first | done | omega)) only [go_sem]; done) | (simp (disch := first | omega | (simp only [go_sem]; first | done | omega)) only [go_sem]; rfl) | (simp (disch := first | omega | (simp only [go_sem]; first | done | omega)) only [go_sem]; simp [go_sem]; done) | (simp (disch := first | omega | (simp only [go_sem]; first | done | omega)) only [go_sem]; simp [*]; done)) rfl (by decide) (by omega) (by omega) (by rfl) ?_)
      simp (disch := first | omega | (simp only [go_sem]; first | done | omega)) only [go_sem]
      rw [← vb_end l _ hq e1] at hk
      exact Ret.frzGr 2 hH (Nat.le_refl _) rfl (pureL_U _) (by rw [map_grV, grV_snoc]) hk
end Go.Proofs.YtnodfnjmhcjnfaaGreatDoor
