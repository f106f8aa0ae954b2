/- Several texts in one: Numbers as bytes: plain definitions and lemmas, no program in sight, and what follows. No condition. -/
import Derived.Test.YtnodfnjmhcjnfaaGreatHVGA
/- Numbers as bytes: plain definitions and lemmas, no program in sight. -/
namespace Go.Proofs.YtnodfnjmhcjnfaaGreat
open Go Go.RowKit
def vb (z : Nat) : List UInt8 := if z < 128 then [UInt8.ofNat z] else UInt8.ofNat (z % 128 + 128) :: vb (z / 128)
termination_by z
decreasing_by omega
theorem vb_lt {z : Nat} (h : z < 128) : vb z = [UInt8.ofNat z] := by rw [vb, if_pos h]
theorem vb_ge {z : Nat} (h : 128 ≤ z) : vb z = UInt8.ofNat (z % 128 + 128) :: vb (z / 128) := by rw [vb, if_neg (by omega)]
theorem vb_pos (z : Nat) : 0 < (vb z).length := by
  by_cases h : z < 128
  · simp [vb_lt h]
  · simp [vb_ge (show 128 ≤ z by omega)]
theorem vb_len (k : Nat) : ∀ z, z < 128 ^ (k + 1) → (vb z).length ≤ k + 1 := by
  induction k with
  | zero => intro z hz; rw [vb_lt (by simpa using hz)]; simp
  | succ k ih =>
    intro z hz
    by_cases h : z < 128
    · simp [vb_lt h]
    · rw [vb_ge (by omega)]
      have := ih (z / 128) (by rw [Nat.pow_succ] at hz; exact Nat.div_lt_of_lt_mul (by rw [Nat.mul_comm]; exact hz))
      simpa using this
theorem vb_len6 {z : Nat} (h : z ≤ 2000000000001) : (vb z).length ≤ 6 := vb_len 5 z (by omega)
def zig (n : Int) : Nat := if n < 0 then (-2 * n - 1).toNat else (2 * n).toNat
def unz (u : Nat) : Int := if u % 2 = 1 then -((u / 2 : Nat) : Int) - 1 else ((u / 2 : Nat) : Int)
theorem zig_unz (u : Nat) : zig (unz u) = u := by unfold zig unz; split <;> split <;> omega
theorem unz_zig (n : Int) : unz (zig n) = n := by unfold zig unz; split <;> split <;> omega
def most : Int := 1000000000000
theorem unz_most (u : Nat) : (-1000000000000 ≤ unz u ∧ unz u ≤ 1000000000000) ↔ u ≤ 2000000000000 := by unfold unz; split <;> omega
theorem zig_most (n : Int) (h : -1000000000000 ≤ n ∧ n ≤ 1000000000000) : zig n ≤ 2000000000000 := by unfold zig; split <;> omega
def uv : List UInt8 → Option (Nat × Nat)
  | [] => none
  | c :: t => if c.toNat < 128 then some (c.toNat, 1) else (uv t).map fun p => (c.toNat % 128 + 128 * p.1, p.2 + 1)
def unv (l : List UInt8) : Option (Int × Nat) :=
  match uv l with
  | none => none
  | some (u, k) => if u ≤ 2000000000000 ∧ (vb u).length = k then some (unz u, k) else none
theorem uv_le : ∀ (l : List UInt8) (u k : Nat), uv l = some (u, k) → 1 ≤ k ∧ k ≤ l.length
  | [], _, _, h => by simp [uv] at h
  | c :: t, u, k, h => by
    simp only [uv] at h
    split at h
    · simp at h; simp; omega
    · simp only [Option.map_eq_some_iff, Prod.exists, Prod.mk.injEq] at h
      obtain ⟨v, j, h1, h2, h3⟩ := h
      have := uv_le t v j h1
      simp; omega
theorem unv_le {l : List UInt8} {n : Int} {k : Nat} (h : unv l = some (n, k)) : 1 ≤ k ∧ k ≤ l.length ∧ -1000000000000 ≤ n ∧ n ≤ 1000000000000 := by
  unfold unv at h
  split at h
  · cases h
  · rename_i u j hu
    split at h
    · rename_i hc
      simp at h
      have := uv_le l u j hu
      have := (unz_most u).2 hc.1
      omega
    · cases h
theorem uv_step (l : List UInt8) (j z : Nat) (hj : j < l.length) (hz : z < 128 ^ j) (hc : 128 ≤ (l[j]).toNat)
    (h : uv l = (uv (l.drop j)).map fun p => (z + 128 ^ j * p.1, p.2 + j)) :
    z + (l[j].toNat % 128) * 128 ^ j < 128 ^ (j + 1) ∧ uv l = (uv (l.drop (j + 1))).map fun p => (z + (l[j].toNat % 128) * 128 ^ j + 128 ^ (j + 1) * p.1, p.2 + (j + 1)) := by
  have h7 : l[j].toNat % 128 < 128 := Nat.mod_lt _ (by omega)
  constructor
  · have : (l[j].toNat % 128) * 128 ^ j ≤ 127 * 128 ^ j := Nat.mul_le_mul_right _ (by omega)
    rw [Nat.pow_succ]; omega
  · rw [h, List.drop_eq_getElem_cons hj]
    simp only [uv]
    rw [if_neg (by omega)]
    rw [Option.map_map]
    congr 1
    funext p
    simp only [Function.comp_apply, Prod.mk.injEq]
    constructor
    · rw [Nat.mul_add, Nat.pow_succ, ← Nat.mul_assoc, Nat.mul_comm (128 ^ j) (l[j].toNat % 128)]; omega
    · omega
theorem uv_stop (l : List UInt8) (j z : Nat) (hj : j < l.length) (hc : (l[j]).toNat < 128)
    (h : uv l = (uv (l.drop j)).map fun p => (z + 128 ^ j * p.1, p.2 + j)) : uv l = some (z + l[j].toNat * 128 ^ j, j + 1) := by
  rw [h, List.drop_eq_getElem_cons hj]
  simp only [uv]
  rw [if_pos hc]
  simp [Nat.mul_comm, Nat.add_comm]
theorem uv_out (l : List UInt8) (j z : Nat) (hj : l.length ≤ j) (h : uv l = (uv (l.drop j)).map fun p => (z + 128 ^ j * p.1, p.2 + j)) : uv l = none := by
  rw [h, List.drop_eq_nil_of_le hj]; rfl
theorem vb_len_of (j : Nat) : ∀ (z c : Nat), z < 128 ^ j → c < 128 → ((vb (z + c * 128 ^ j)).length = j + 1 ↔ (j = 0 ∨ 0 < c)) := by
  induction j with
  | zero => intro z c hz hc; have : z = 0 := by simpa using hz
            subst this; simp [vb_lt hc]
  | succ j ih =>
    intro z c hz hc
    by_cases h : z + c * 128 ^ (j + 1) < 128
    · have hc0 : c = 0 := by
        rcases Nat.eq_zero_or_pos c with h0 | h0
        · exact h0
        · have h1 : 1 * 128 ^ (j + 1) ≤ c * 128 ^ (j + 1) := Nat.mul_le_mul_right _ h0
          have h2 : 128 ^ (j + 1) = 128 ^ j * 128 := Nat.pow_succ 128 j
          have h3 : 0 < 128 ^ j := Nat.pow_pos (by omega)
          omega
      subst hc0
      rw [vb_lt h]; simp
    · rw [vb_ge (by omega)]
      have e : (z + c * 128 ^ (j + 1)) / 128 = z / 128 + c * 128 ^ j := by
        rw [Nat.pow_succ, ← Nat.mul_assoc, Nat.add_mul_div_right _ _ (by omega)]
      rw [e, List.length_cons]
      have hz' : z / 128 < 128 ^ j := Nat.div_lt_of_lt_mul (by rw [Nat.pow_succ, Nat.mul_comm] at hz; exact hz)
      have := ih (z / 128) c hz' hc
      rcases Nat.eq_zero_or_pos j with h0 | h0
      · subst h0
        have hz0 : z / 128 = 0 := by simpa using hz'
        constructor
        · intro _; right
          rcases Nat.eq_zero_or_pos c with h1 | h1
          · subst h1; omega
          · exact h1
        · intro _; omega
      · constructor
        · intro h1; right; have := this.1 (by omega); omega
        · intro h1; have := this.2 (by omega); omega
theorem unv_stop {l : List UInt8} {j z c : Nat} (hz : z < 128 ^ j) (hc : c < 128) (h : uv l = some (z + c * 128 ^ j, j + 1)) :
    unv l = if (j = 0 ∨ 0 < c) ∧ z + c * 128 ^ j ≤ 2000000000000 then some (unz (z + c * 128 ^ j), j + 1) else none := by
  unfold unv
  rw [h]
  simp only [vb_len_of j z c hz hc]
  congr 1
  rw [and_comm]
theorem unv_long {l : List UInt8} {j z : Nat} (hj : 7 ≤ j) (h : uv l = (uv (l.drop j)).map fun p => (z + 128 ^ j * p.1, p.2 + j)) : unv l = none := by
  unfold unv
  split
  · rfl
  · rename_i u k hu
    rw [if_neg]
    rintro ⟨h1, h2⟩
    have h6 := vb_len6 (z := u) (by omega)
    rw [h] at hu
    simp only [Option.map_eq_some_iff, Prod.exists, Prod.mk.injEq] at hu
    obtain ⟨v, i, hv, _, h3⟩ := hu
    omega
theorem unv_none {l : List UInt8} (h : uv l = none) : unv l = none := by unfold unv; rw [h]
theorem pow_128 (j : Nat) : 128 ^ j = 2 ^ (7 * j) := by rw [Nat.pow_mul]
theorem or_shift (z c s : Nat) (hz : z < 2 ^ s) : z ||| (c <<< s) = z + c * 2 ^ s := by
  rw [Nat.or_comm, ← Nat.shiftLeft_add_eq_or_of_lt hz, Nat.shiftLeft_eq, Nat.add_comm]
def csum (l : List UInt8) : Nat := l.foldl (fun c x => (c * 31 + x.toNat + 1) % 65521) 1
theorem csum_snoc (l : List UInt8) (x : UInt8) : csum (l ++ [x]) = (csum l * 31 + x.toNat + 1) % 65521 := by simp [csum]
theorem csum_lt (l : List UInt8) : csum l < 65521 := by
  rcases List.eq_nil_or_concat l with rfl | ⟨t, x, rfl⟩
  · decide
  · rw [List.concat_eq_append, csum_snoc]; exact Nat.mod_lt _ (by omega)
theorem take_snoc {α : Type} (l : List α) (k : Nat) (h : k < l.length) : l.take (k + 1) = l.take k ++ [l[k]] := by
  rw [List.take_succ_eq_append_getElem h]
end Go.Proofs.YtnodfnjmhcjnfaaGreat
/- Bytes: numbers as bytes, and checksums. Condition: no bytes but such as fit. -/
namespace Go.Proofs.YtnodfnjmhcjnfaaGreat
open Go Go.RowKit
set_option maxRecDepth 100000
set_option linter.all false
set_option maxHeartbeats 1000000
variable {H : Hp} {K : AV → Hp → Prop}
def encU (b : UInt8) : List AC := [.int .u8 (b.toNat : Int)]
attribute [go_sem] encU
def u8I (n : Int) : UInt8 := UInt8.ofNat n.toNat
@[go_sem] theorem u8I_toNat (n : Int) (h : 0 ≤ n ∧ n < 256) : (((u8I n).toNat : Nat) : Int) = n := by
  unfold u8I
  rw [UInt8.toNat_ofNat']
  omega
@[go_sem] theorem wrap_u8 (n : Int) (h : 0 ≤ n ∧ n < 256) : IntKind.u8.wrap n = n := by rw [IntKind.wrap_u8]; omega
@[go_sem] theorem fdiv_128 (n : Int) : n.fdiv (2 ^ min 7 64) = n / 128 := by rw [show (2 ^ min 7 64 : Int) = 128 from rfl]; exact Int.fdiv_eq_ediv_of_nonneg n (by omega)
theorem pureL_U (l : List UInt8) : pureL (l.map encU) = true := pureL_map _ (fun x => by simp [go_sem, AC.pure])
theorem appU {i : Nat} {J : AV → Hp → Prop} (l m : List UInt8) (hi : H[i]? = some (grO 5 1 (l.map encU))) (hm : m ≠ []) (hb : l.length + m.length ≤ 100000000000)
    (h : J (.c (grV H.length (l ++ m))) (H.set i .dead ++ [grO 5 1 ((l ++ m).map encU)])) : aBuiltin Tryz.prog .append #[26, 26] [.c (grV i l), .c (.lst 1 (m.map encU))] H J :=
  app_grL (enc := encU) (e := 5) (sz := 1) (bs := 1) (z := [.int .u8 0]) l m (by kernel_rfl) (by kernel_rfl) (by kernel_rfl) (by kernel_rfl) hi hm rfl (by decide) (by omega) (by omega) h
theorem appUr {i j k m : Nat} {J : AV → Hp → Prop} (l mm : List UInt8) (hi : H[i]? = some (grO 5 1 (l.map encU))) (hx : srcO H[j]? 1 k m = some (mm.map encU)) (hm : mm ≠ []) (hb : l.length + mm.length ≤ 100000000000)
    (h : J (.c (grV H.length (l ++ mm))) (H.set i .dead ++ [grO 5 1 ((l ++ mm).map encU)])) : aBuiltin Tryz.prog .append #[26, 26] [.c (grV i l), .c (.sl (some (j, k)) m)] H J :=
  app_grR (enc := encU) (e := 5) (sz := 1) (bs := 1) (z := [.int .u8 0]) l mm (by kernel_rfl) (by kernel_rfl) (by kernel_rfl) (by kernel_rfl) hi hx hm rfl (by decide) (by omega) (by omega) h
theorem appUs {i : Nat} {J : AV → Hp → Prop} (l : List UInt8) (s : ByteArray) (hi : H[i]? = some (grO 5 1 (l.map encU))) (hm : 0 < s.size) (hb : l.length + s.size ≤ 100000000000)
    (h : J (.c (grV H.length (l ++ s.data.toList))) (H.set i .dead ++ [grO 5 1 ((l ++ s.data.toList).map encU)])) : aBuiltin Tryz.prog .append #[26, 9] [.c (grV i l), .c (.str s)] H J :=
  app_grS (enc := encU) (e := 5) l s rfl (by kernel_rfl) (by kernel_rfl) (by kernel_rfl) (by kernel_rfl) (by kernel_rfl) hi hm (by omega) h
theorem ofInt_64 (a : Nat) (ha : a < 9223372036854775808) : (BitVec.ofInt 64 (a : Int)).toNat = a := by
  rw [BitVec.ofInt_natCast, BitVec.toNat_ofNat]; exact Nat.mod_eq_of_lt (by omega)
theorem i64_and (a b : Nat) (ha : a < 9223372036854775808) (hb : b < 9223372036854775808) : andI a b = ((a &&& b : Nat) : Int) := by
  have hx : a &&& b < 2 ^ 63 := Nat.and_lt_two_pow _ (by omega)
  unfold andI
  rw [BitVec.toNat_and, ofInt_64 a ha, ofInt_64 b hb, IntKind.wrap_i64]; omega
theorem i64_or (a b : Nat) (ha : a < 9223372036854775808) (hb : b < 9223372036854775808) : orI a b = ((a ||| b : Nat) : Int) := by
  have hx : a ||| b < 2 ^ 63 := Nat.or_lt_two_pow (by omega) (by omega)
  unfold orI
  rw [BitVec.toNat_or, ofInt_64 a ha, ofInt_64 b hb, IntKind.wrap_i64]; omega
@[go_sem] theorem and_127 (a : Int) (h : 0 ≤ a ∧ a < 9223372036854775808) : andI a 127 = a % 128 := by
  obtain ⟨q, rfl⟩ := Int.eq_ofNat_of_zero_le h.1
  have := i64_and q 127 (by omega) (by omega)
  rw [show ((127 : Nat) : Int) = 127 from rfl] at this
  rw [this, show (127 : Nat) = 2 ^ 7 - 1 from rfl, Nat.and_two_pow_sub_one_eq_mod]; rfl
@[go_sem] theorem or_128 (a : Int) (h : 0 ≤ a ∧ a < 128) : orI a 128 = a + 128 := by
  obtain ⟨q, rfl⟩ := Int.eq_ofNat_of_zero_le h.1
  have := i64_or q 128 (by omega) (by omega)
  rw [show ((128 : Nat) : Int) = 128 from rfl] at this
  have h2 := or_shift q 1 7 (by omega)
  rw [show (1 : Nat) <<< 7 = 128 from rfl] at h2
  rw [this, h2]; omega
theorem and80 : ∀ cc : Nat, cc < 256 → cc &&& 128 = if cc < 128 then 0 else 128 := by decide +kernel
@[go_sem] theorem and_128 (a : Int) (h : 0 ≤ a ∧ a < 256) : andI a 128 = a / 128 * 128 := by
  obtain ⟨q, rfl⟩ := Int.eq_ofNat_of_zero_le h.1
  have := i64_and q 128 (by omega) (by omega)
  rw [show ((128 : Nat) : Int) = 128 from rfl] at this
  rw [this, and80 q (by omega)]
  split <;> omega
theorem zig_neg {n : Int} (h : n < 0) : ((zig n : Nat) : Int) = -(2 * n) - 1 := by unfold zig; rw [if_pos h]; omega
theorem zig_pos {n : Int} (h : ¬ n < 0) : ((zig n : Nat) : Int) = 2 * n := by unfold zig; rw [if_neg h]; omega
theorem vb_step {q : Nat} (l t : List UInt8) (h : 127 < q) (hl : l ++ vb q = t) : (l ++ [u8I ((q : Int) % 128 + 128)]) ++ vb (q / 128) = t := by
  rw [← hl, vb_ge (show 128 ≤ q by omega)]
  have : u8I ((q : Int) % 128 + 128) = UInt8.ofNat (q % 128 + 128) := by unfold u8I; congr 1
  simp [this]
theorem vb_end {q : Nat} (l t : List UInt8) (h : ¬ 127 < q) (hl : l ++ vb q = t) : l ++ [u8I q] = t := by
  rw [← hl, vb_lt (by omega)]; rfl
theorem varint_a (n : Int) (h1 : -2305843009213693952 ≤ n) (h2 : n ≤ 2305843009213693951) (hk : K (.c (.lst 1 ((vb (zig n)).map encU))) H) : ACalls Tryz.prog 37 [(.c (.int .i64 n))] H K := by
  have hz : zig n ≤ 4611686018427387904 := by unfold zig; split <;> omega
  have hlen : (vb (zig n)).length ≤ 9 := vb_len 8 _ (by omega)
  refine acalls Tryz.func37 rfl (by kernel_rfl) (by simp (disch := first | omega | (simp only [go_sem]; first | done | omega)) only [go_sem]) (fun hH => ?_)
  simp (disch := first | omega | (simp only [go_sem]; first | done | omega)) only [go_sem]
  repeat' (first | ((first | refine acond_d ?_ ?_ | refine acond_b ?_ ?_ | refine ag_d ?_ ?_ | refine ag_n ?_ ?_ | refine ag_bt ?_ ?_ | refine ag_bf ?_ ?_) <;> intro c <;> try simp (disch := first | omega | (simp only [go_sem]; first | done | omega)) only [go_sem, c]) | ((first | refine w_draw (by kernel_rfl) (by decide +kernel) ?_) <;> try simp (disch := first | omega | (simp only [go_sem]; first | done | omega)) only [go_sem]))
  all_goals
    refine AWp.loop (H.length) [] [3, 4] (fun (s : Nat × List UInt8) => s.2 ++ vb s.1 = vb (zig n) ∧ s.1 ≤ 4611686018427387904) (fun (s : Nat × List UInt8) => [(3, (.c (.int .i64 (s.1)))), (4, .c (grV H.length s.2))]) (fun (s : Nat × List UInt8) => H ++ [grO 5 1 (s.2.map encU)]) (fun (s : Nat × List UInt8) => s.1) (by kernel_rfl) (fun _ => rfl) (by kernel_rfl) (by first | (simp; done) | omega) (by first | (simp; done) | (simp; omega) | omega) kl ?_ (fun s hs _ _ => ?_)
    · refine Next.mk (zig n, []) ⟨by simp, hz⟩ ?_
      simp (disch := first | omega | (simp only [go_sem]; first | done | omega)) only [go_sem]
      first
        | rw [show (0 - 2 * n - 1 : Int) = ((zig n : Nat) : Int) by have := zig_neg c; omega]
        | rw [show (2 * n : Int) = ((zig n : Nat) : Int) by have := zig_pos c; omega]
      exact WkL.pad (by simp)
    obtain ⟨q, l⟩ := s
    dsimp only at hs
    obtain ⟨e1, e2⟩ := hs
    have hll : l.length ≤ 9 := by have := congrArg List.length e1; simp at this; omega
    by_cases hq : 127 < q
    · have hq' : (127 : Int) < q := by omega
      simp (disch := first | omega | (simp only [go_sem]; first | done | omega)) only [go_sem, hq']
      (refine app_gr (enc := encU) (e := 5) (sz := 1) (bs := 1) (z := [.int .u8 0]) (l) (u8I ((q : Int) % 128 + 128)) (by kernel_rfl) (by kernel_rfl) (by kernel_rfl) (by kernel_rfl) (by first | ((repeat first | exact at0 (by simp) | refine atS ?_); done) | assumption) (by first | (simp (disch := first | omega | (simp only [go_sem]; first | done | omega)) only [go_sem]; done) | (simp (disch := first | omega | (simp only [go_sem]; first | done | omega)) only [go_sem]; rfl) | (simp (disch := first | omega | (simp only [go_sem]; first | done | omega)) only [go_sem]; simp [go_sem]; done) | (simp (disch := first | omega | (simp only [go_sem]; first | done | omega)) only [go_sem]; simp [*]; done)) rfl (by decide) (by omega) (by omega) (by rfl) ?_)
      simp (disch := first | omega | (simp only [go_sem]; first | done | omega)) only [go_sem]
      exact Next.mk (q / 128, l ++ [u8I ((q : Int) % 128 + 128)]) ⟨⟨vb_step l _ hq e1, by dsimp only; omega⟩, by dsimp only; omega⟩ (by exact ow)
    · have hq' : ¬ (127 : Int) < q := by omega
      simp (disch := first | omega | (simp only [go_sem]; first | done | omega)) only [go_sem, hq']
      (refine app_gr (enc := encU) (e := 5) (sz := 1) (bs := 1) (z := [.int .u8 0]) (l) (u8I (q : Int)) (by kernel_rfl) (by kernel_rfl) (by kernel_rfl) (by kernel_rfl) (by first | ((repeat first | exact at0 (by simp) | refine atS ?_); done) | assumption) (by first | (simp (disch := first | omega | (simp only [go_sem]; first | done | omega)) only [go_sem]; done) | (simp (disch := first | omega | (simp only [go_sem]; first | done | omega)) only [go_sem]; rfl) | (simp (disch := first | omega | (simp only [go_sem]; first | done | omega)) only [go_sem]; simp [go_sem]; done) | (simp (disch := first | omega | (simp only [go_sem]; first | done | omega)) only [go_sem]; simp [*]; done)) rfl (by decide) (by omega) (by omega) (by rfl) ?_)
      simp (disch := first | omega | (simp only [go_sem]; first | done | omega)) only [go_sem]
      rw [← vb_end l _ hq e1] at hk
      exact Ret.frzGr 2 hH (Nat.le_refl _) rfl (pureL_U _) (by rw [map_grV, grV_snoc]) hk
end Go.Proofs.YtnodfnjmhcjnfaaGreat
