/- What the functions that read numbers, and the checksums, return. -/
import Derived.Test.YtdbieohfojgbgaaEnc
namespace Go.Proofs.Ytdbieohfojgbgaa
open Go Go.RowKit
set_option maxHeartbeats 400000

/-- what unvarint returns, where m = what stands at the offset -/
def UvPost (m : Option (Int × Nat)) (at_ : Nat) (e : Ending) : Prop :=
  match m with
  | some (n, k) => e = .returned (.tuple #[.int .i64 n, .int .i64 (at_ + k : Nat), .bool true])
  | none => ∃ n x : Int, e = .returned (.tuple #[.int .i64 n, .int .i64 x, .bool false])
theorem uvPost_end {l : List UInt8} {p j z c Z : Nat} {n x : Int} (hz : z < 128 ^ j) (hc : c < 128) (hcan : j = 0 ∨ 0 < c) (hZ : Z = z + c * 128 ^ j) (hn : n = unz Z) (hx : x = (p : Int) + j + 1)
    (h : uv (l.drop p) = some (z + c * 128 ^ j, j + 1)) : UvPost (unv (l.drop p)) p (.returned (.tuple #[.int .i64 n, .int .i64 x, .bool (!outB n (-1000000000000) 1000000000000)])) := by
  subst hZ; subst hn; subst hx
  have hu := unv_stop hz hc h
  have hm := unz_most (z + c * 128 ^ j)
  rw [hu]
  by_cases hle : z + c * 128 ^ j ≤ 2000000000000
  · rw [if_pos ⟨hcan, hle⟩, outB_f (hm.2 hle)]
    show Ending.returned _ = _
    simp; omega
  · rw [if_neg (fun h => hle h.2), outB_t (by have := fun h => hle (hm.1 h); omega)]
    exact ⟨_, _, rfl⟩
theorem uvPost_no {m : Option (Int × Nat)} {p : Nat} (n x : Int) (h : m = none) : UvPost m p (.returned (.tuple #[.int .i64 n, .int .i64 x, .bool false])) := by
  subst h; exact ⟨_, _, rfl⟩
theorem zstep (q cc j : Nat) (hq : q < 128 ^ j) (hj : j ≤ 6) : bits .or .i64 (q : Int) (wrap64 (((cc % 128 : Nat) : Int) * 2 ^ (7 * j))) = ((q + cc % 128 * 128 ^ j : Nat) : Int) := by
  have h7 : cc % 128 < 128 := Nat.mod_lt _ (by omega)
  have hp : 128 ^ j ≤ 128 ^ 6 := Nat.pow_le_pow_right (by omega) hj
  have hle : (cc % 128) * 128 ^ j ≤ 127 * 128 ^ j := Nat.mul_le_mul_right _ (by omega)
  have e : (((cc % 128 : Nat) : Int) * 2 ^ (7 * j)) = (((cc % 128) * 128 ^ j : Nat) : Int) := by
    rw [pow_128 j]; push_cast; rfl
  rw [e, IntWalk.wrap64_in _ (by omega), i64_or _ _ (by omega) (by omega)]
  have := or_shift q (cc % 128) (7 * j) (by rw [← pow_128]; exact hq)
  rw [Nat.shiftLeft_eq, ← pow_128] at this
  rw [this]
theorem and7f (cc : Nat) (h : cc < 256) : bits .and .i64 (cc : Int) 127 = ((cc % 128 : Nat) : Int) := by
  rw [bits_and7f cc (by omega)]; omega
theorem and80 : ∀ cc : Nat, cc < 256 → cc &&& 128 = if cc < 128 then 0 else 128 := by decide +kernel
theorem and80_t (cc : Nat) (h : cc < 256) (h1 : 128 ≤ cc) : (bits .and .i64 (cc : Int) 128 != 0) = true := by
  have := i64_and cc 128 (by omega) (by omega)
  rw [show ((128 : Nat) : Int) = 128 from rfl] at this
  rw [this, and80 cc h, if_neg (by omega)]; rfl
theorem and80_f (cc : Nat) (h1 : cc < 128) : (bits .and .i64 (cc : Int) 128 != 0) = false := by
  have := i64_and cc 128 (by omega) (by omega)
  rw [show ((128 : Nat) : Int) = 128 from rfl] at this
  rw [this, and80 cc (by omega), if_pos h1]; rfl
set_option maxRecDepth 100000 in
theorem unvarint_any (A : Option Addr) (l : List UInt8) (c0 : Nat) (p : Nat) (w : World) (hr : Rd w elB A l) (hp : p ≤ l.length) (hl : l.length ≤ 1099511627776) :
    Calls Try.prog 44 #[.slice A l.length c0, .int .i64 (p : Int)] w fun e w' => UvPost (unv (l.drop p)) p e ∧ w = w' := by
  go_enter Try.func44, Try.ntmps44
  go_wp2_with fail
  go_loop [7, 8] (fun z i => ∃ q j : Nat, q < 128 ^ j ∧ j ≤ 7 ∧ p + j ≤ l.length ∧ z = .int .i64 q ∧ i = .int .i64 ((p : Int) + j) ∧ uv (l.drop p) = (uv ((l.drop p).drop j)).map fun r => (q + 128 ^ j * r.1, r.2 + j))
    (fun _ i => l.length - (intOf i).toNat)
  case atStart => exact ⟨0, 0, by simp, by omega, by omega, rfl, by simp, by simp⟩
  case round =>
    obtain ⟨q, j, hq, hj, hpj, rfl, rfl, hu⟩ := hrel
    have HU := hid hu
    clear hu
    by_cases hlt : p + j < l.length
    · obtain ⟨ad, rfl, hc⟩ := rdB_at hr (p + j) hlt
      have hcs : Hid ((l.drop p)[j]'(by rw [List.length_drop]; omega) = l[p + j]) := by simp [Hid]
      generalize hcc : (l[p + j]).toNat = cc at hc
      have HCC := hid hcc
      have hcc256 : cc < 256 := by rw [← hcc]; exact UInt8.toNat_lt _
      have HQ := hid hq
      clear hcc hq
      by_cases h7 : j = 7
      · have h7' : 7 ≤ j := by omega
        clear h7
        have hj7 : Hid (unv (l.drop p) = none) := unv_long h7' HU.out
        go_wp2_with fail
        go_ret3
        exact ⟨uvPost_no _ _ hj7.out, rfl⟩
      · have h6 : j ≤ 6 := by omega
        have hZ := zstep q cc j HQ.out h6
        have h7 := and7f cc hcc256
        have hZb : q + cc % 128 * 128 ^ j < 1125899906842624 := by
          have h7 : cc % 128 < 128 := Nat.mod_lt _ (by omega)
          have hp : 128 ^ j ≤ 128 ^ 6 := Nat.pow_le_pow_right (by omega) h6
          have hle : (cc % 128) * 128 ^ j ≤ 127 * 128 ^ j := Nat.mul_le_mul_right _ (by omega)
          have := HQ.out; omega
        generalize hZZ : q + cc % 128 * 128 ^ j = Z at hZ hZb
        generalize hcm : cc % 128 = cm at hZ h7
        have HZZ := hid hZZ
        have HCM := hid hcm
        clear hZZ hcm
        by_cases h128 : 128 ≤ cc
        · have ht := and80_t cc hcc256 h128
          go_wp2_with fail
          have hcs' := hcs.out
          have hs := uv_step (l.drop p) j q (by rw [List.length_drop]; omega) HQ.out (by rw [hcs', HCC.out]; exact h128) HU.out
          rw [hcs', HCC.out, HZZ.out] at hs
          exact ⟨⟨Z, j + 1, hs.1, by omega, by omega, rfl, by go_num, hs.2⟩, by simp [intOf]; omega⟩
        · have ht := and80_f cc (by omega)
          have hU : Hid (uv (l.drop p) = some (q + cc * 128 ^ j, j + 1)) := by
            have hs := uv_stop (l.drop p) j q (by rw [List.length_drop]; omega) (by rw [hcs.out, HCC.out]; omega) HU.out
            rwa [hcs.out, HCC.out] at hs
          have hZe : Hid (Z = q + cc * 128 ^ j) := by have := HZZ.out; rw [Nat.mod_eq_of_lt (by omega)] at this; exact this.symm
          by_cases hbad : cc = 0 ∧ 0 < j
          · obtain ⟨h0, hj0⟩ := hbad
            have hno : Hid (unv (l.drop p) = none) := by
              rw [Hid, unv_stop HQ.out (by omega) hU.out, if_neg (by omega)]
            have d0 : ((cc : Int) == 0) = true := by simp; omega
            go_wp2_with fail
            go_ret3
            exact ⟨uvPost_no _ _ hno.out, rfl⟩
          · have hcan : Hid (j = 0 ∨ 0 < cc) := by unfold Hid; omega
            have d1 : (((cc : Int) == 0) = false) ∨ ((cc : Int) == 0) = true ∧ j ≤ 0 := by
              by_cases h0 : cc = 0
              · right; simp; omega
              · left; simp; omega
            have hcl : cc < 128 := by omega
            clear hbad
            have r1 : Hid (Z % 2 = 1 → -(((Z : Int)) / 2) - 1 = unz Z) := fun h => by unfold unz; rw [if_pos h]; omega
            have r2 : Hid (¬ Z % 2 = 1 → ((Z : Int)) / 2 = unz Z) := fun h => by unfold unz; rw [if_neg h]; omega
            rcases d1 with d0 | ⟨d0, hj0⟩
            all_goals
              by_cases hodd : Z % 2 = 1
              · have d2 : ((Z : Int) % 2 == 1) = true := by simp; omega
                go_wp2_with (go_at_call 42; refine (out_any _ _ _ _).mono ?_; rintro e w' ⟨rfl, rfl⟩)
                go_ret3
                exact ⟨uvPost_end HQ.out hcl hcan.out hZe.out (r1.out hodd) (by omega) hU.out, rfl⟩
              · have d2 : ((Z : Int) % 2 == 1) = false := by simp; omega
                go_wp2_with (go_at_call 42; refine (out_any _ _ _ _).mono ?_; rintro e w' ⟨rfl, rfl⟩)
                go_ret3
                exact ⟨uvPost_end HQ.out hcl hcan.out hZe.out (r2.out hodd) (by omega) hU.out, rfl⟩
    · have hno : Hid (unv (l.drop p) = none) := unv_none (uv_out _ _ _ (by rw [List.length_drop]; omega) HU.out)
      go_wp2_with fail
      go_ret3
      exact ⟨uvPost_no _ _ hno.out, rfl⟩
/-- what Unvarint returns -/
def uvRes (l : List UInt8) (p : Int) : Int × Int × Int :=
  if 0 ≤ p ∧ p ≤ l.length then
    match unv (l.drop p.toNat) with
    | some (n, k) => (n, p + k, 0)
    | none => (0, 0, 9)
  else (0, 0, 1)
def uvEnd (l : List UInt8) (p : Int) (e : Ending) : Prop := e = .returned (.tuple #[.int .i64 (uvRes l p).1, .int .i64 (uvRes l p).2.1, .int .i64 (uvRes l p).2.2])
theorem uvEnd_out {l : List UInt8} {p : Int} (h : p < 0 ∨ l.length < p) : uvEnd l p (.returned (.tuple #[.int .i64 0, .int .i64 0, .int .i64 1])) := by
  unfold uvEnd uvRes; rw [if_neg (by omega)]
theorem uvEnd_none {l : List UInt8} {p : Nat} (h : p ≤ l.length) (hn : unv (l.drop p) = none) : uvEnd l p (.returned (.tuple #[.int .i64 0, .int .i64 0, .int .i64 9])) := by
  unfold uvEnd uvRes; rw [if_pos (by omega), Int.toNat_natCast, hn]
theorem uvEnd_some {l : List UInt8} {p k : Nat} {n x : Int} (h : p ≤ l.length) (hn : unv (l.drop p) = some (n, k)) (hx : x = (p : Int) + k) : uvEnd l p (.returned (.tuple #[.int .i64 n, .int .i64 x, .int .i64 0])) := by
  subst hx; unfold uvEnd uvRes; rw [if_pos (by omega), Int.toNat_natCast, hn]
set_option maxRecDepth 100000 in
theorem unvarintTop_any (A : Option Addr) (l : List UInt8) (c0 : Nat) (p : Int) (w : World) (hr : Rd w elB A l) (hl : l.length ≤ 1099511627776) :
    Calls Try.prog 10 #[.slice A l.length c0, .int .i64 p] w fun e w' => uvEnd l p e ∧ w = w' := by
  by_cases hp : p < 0 ∨ l.length < p
  · have ho := outB_t hp
    go_enter Try.func10, Try.ntmps10
    go_wp2_with (go_at_call 42; refine (out_any _ _ _ _).mono ?_; rintro e w' ⟨rfl, rfl⟩)
    go_ret3
    exact ⟨uvEnd_out hp, rfl⟩
  · obtain ⟨q, rfl⟩ := Int.eq_ofNat_of_zero_le (show 0 ≤ p by omega)
    have hq : q ≤ l.length := by omega
    have ho := outB_f (n := q) (low := 0) (high := l.length) (by omega)
    go_enter Try.func10, Try.ntmps10
    go_wp2_with (go_at_call 42; refine (out_any _ _ _ _).mono ?_; rintro e w' ⟨rfl, rfl⟩)
    refine (unvarint_any _ _ _ _ _ hr hq hl).mono ?_
    rintro e w' ⟨he, rfl⟩
    cases hm : unv (l.drop q) with
    | none =>
      rw [hm] at he
      obtain ⟨n, x, rfl⟩ := he
      have HM := hid hm
      clear hm
      go_wp2_with fail
      go_ret3
      exact ⟨uvEnd_none hq HM.out, rfl⟩
    | some r =>
      obtain ⟨n, k⟩ := r
      rw [hm] at he
      obtain rfl := he
      have HM := hid hm
      clear hm
      go_wp2_with fail
      go_ret3
      exact ⟨uvEnd_some hq HM.out (by omega), rfl⟩
theorem unv_at {l : List UInt8} {p j q cc Z : Nat} (hZ : Z = q + cc * 128 ^ j) (h : uv (l.drop p) = some (q + cc * 128 ^ j, j + 1)) :
    unv (l.drop p) = if Z ≤ 2000000000000 ∧ (vb Z).length = j + 1 then some (unz Z, j + 1) else none := by
  subst hZ
  unfold unv
  rw [h]
theorem quo_odd (Z : Nat) (h : Z % 2 = 1) : (-((Z : Int) + 1)).tdiv 2 = unz Z := by
  unfold unz
  rw [if_pos h]
  have e : (-((Z : Int) + 1)) = (-((Z / 2 : Nat) : Int) - 1) * 2 := by omega
  rw [e, Int.mul_tdiv_cancel _ (by omega)]
theorem unz_big (u : Nat) (h : 2000000000000 < u) : unz u < -1000000000000 ∨ 1000000000000 < unz u := by
  have := unz_most u; omega
theorem unz_bd (u : Nat) (h : u < 144115188075855872) : -144115188075855872 ≤ unz u ∧ unz u ≤ 144115188075855872 := by
  unfold unz; split <;> omega
theorem varintOf_len (n : Int) (w : World) (h : -1000000000000 ≤ n ∧ n ≤ 1000000000000) (L : Nat) (hL : (vb (zig n)).length = L) :
    Calls Try.prog 11 #[.int .i64 n] w fun e w' => ∃ A c, e = .returned (.tuple #[.slice A L c, .int .i64 0]) ∧ w.grownBy w' none :=
  (varintOf_ok n w h).mono fun _ _ ⟨A, c, he, _, hg⟩ => ⟨A, c, by rw [he, hL], hg⟩
set_option maxRecDepth 100000 in
theorem unvarintOf_any (A : Option Addr) (l : List UInt8) (c0 : Nat) (p : Int) (w : World) (hr : Rd w elB A l) (hl : l.length ≤ 1099511627776) :
    Calls Try.prog 12 #[.slice A l.length c0, .int .i64 p] w fun e w' => uvEnd l p e ∧ w.grownBy w' none := by
  by_cases hp : p < 0 ∨ l.length < p
  · have ho := inB_f hp
    go_enter Try.func12, Try.ntmps12
    go_wp2_with (go_at_call 45; refine (in_any _ _ _ _).mono ?_; rintro e w' ⟨rfl, rfl⟩)
    go_ret3
    exact ⟨uvEnd_out hp, gb_refl _ _⟩
  · obtain ⟨p, rfl⟩ := Int.eq_ofNat_of_zero_le (show 0 ≤ p by omega)
    have hpl : p ≤ l.length := by omega
    have ho := inB_t (n := p) (low := 0) (high := l.length) (by omega)
    go_enter Try.func12, Try.ntmps12
    go_wp2_with (go_at_call 45; refine (in_any _ _ _ _).mono ?_; rintro e w' ⟨rfl, rfl⟩)
    clear hp ho
    go_loop [7, 8, 9] (fun z un i => ∃ q j U : Nat, q < U ∧ j ≤ 8 ∧ U ≤ 128 ^ j ∧ 128 ^ j ≤ U ∧ p + j ≤ l.length ∧ z = .int .i64 q ∧ un = .int .i64 U ∧ i = .int .i64 ((p : Int) + j) ∧ uv (l.drop p) = (uv ((l.drop p).drop j)).map fun r => (q + 128 ^ j * r.1, r.2 + j))
      (fun _ _ i => l.length - (intOf i).toNat)
    case atStart => exact ⟨0, 0, 1, by simp, by omega, by omega, by omega, by omega, rfl, rfl, by simp, by simp⟩
    case round =>
      obtain ⟨q, j, U, hq, hj, hU1, hU2, hpj, rfl, rfl, rfl, hu⟩ := hrel
      have hUe := hid (Nat.le_antisymm hU1 hU2)
      have hU8 : U ≤ 72057594037927936 := by
        have : 128 ^ j ≤ 128 ^ 8 := Nat.pow_le_pow_right (by omega) hj
        omega
      have HU := hid hu
      clear hu hU1 hU2
      by_cases hlt : p + j < l.length
      · by_cases h8 : 8 ≤ j
        · have hno : Hid (unv (l.drop p) = none) := unv_long (by omega) HU.out
          have e1 : decide ((p : Int) + j < (p : Int) + 8) = false := by simp; omega
          go_wp2_with fail
          go_ret3
          exact ⟨uvEnd_none hpl hno.out, gb_refl _ _⟩
        · obtain ⟨ad, rfl, hc⟩ := rdB_at hr (p + j) hlt
          have hcs : Hid ((l.drop p)[j]'(by rw [List.length_drop]; omega) = l[p + j]) := by simp [Hid]
          generalize hcc : (l[p + j]).toNat = cc at hc
          have HCC := hid hcc
          have hcc256 : cc < 256 := by rw [← hcc]; exact UInt8.toNat_lt _
          clear hcc
          have hU7 : U ≤ 562949953421312 := by
            have : 128 ^ j ≤ 128 ^ 7 := Nat.pow_le_pow_right (by omega) (by omega)
            have := hUe.out
            omega
          have hle : (cc % 128) * U ≤ 127 * U := Nat.mul_le_mul_right _ (by have := Nat.mod_lt cc (show 0 < 128 by omega); omega)
          have hM : IntKind.i64.wrap ((cc : Int) % 128 * U) = ((cc % 128 * U : Nat) : Int) := by
            rw [show ((cc : Int) % 128 * U) = ((cc % 128 * U : Nat) : Int) by push_cast; rfl]
            exact IntWalk.i64_in _ (by omega)
          generalize hMM : cc % 128 * U = M at hM hle
          have HMM := hid hMM
          clear hMM
          by_cases h128 : 128 ≤ cc
          · go_wp2_with fail
            have hcs' := hcs.out
            have hs := uv_step (l.drop p) j q (by rw [List.length_drop]; omega) (by rw [← hUe.out]; exact hq) (by rw [hcs', HCC.out]; exact h128) HU.out
            rw [hcs', HCC.out, ← hUe.out, HMM.out] at hs
            exact ⟨⟨q + M, j + 1, U * 128, by have := hs.1; rw [Nat.pow_succ, ← hUe.out] at this; exact this, by omega, by rw [Nat.pow_succ, hUe.out]; exact Nat.le_refl _, by rw [Nat.pow_succ, hUe.out]; exact Nat.le_refl _, by omega, by go_num, by go_num, by go_num, hs.2⟩, by simp [intOf]; omega⟩
          · have hU : Hid (uv (l.drop p) = some (q + cc * 128 ^ j, j + 1)) := by
              have hs := uv_stop (l.drop p) j q (by rw [List.length_drop]; omega) (by rw [hcs.out, HCC.out]; omega) HU.out
              rwa [hcs.out, HCC.out] at hs
            have hZe : Hid (q + M = q + cc * 128 ^ j) := by have := HMM.out; rw [Nat.mod_eq_of_lt (by omega), hUe.out] at this; rw [Hid, this]
            have hfin := hid (unv_at hZe.out hU.out)
            have hzz : Hid (zig (unz (q + M)) = q + M) := zig_unz _
            have hbd := unz_bd (q + M) (by omega)
            have hms : Hid ((-1000000000000 ≤ unz (q + M) ∧ unz (q + M) ≤ 1000000000000) ↔ q + M ≤ 2000000000000) := unz_most _
            have ho : Hid ((q + M) % 2 = 1 → (-((q : Int) + M + 1)).tdiv 2 = unz (q + M)) := fun h => by have := quo_odd (q + M) h; push_cast at this; exact this
            have he : Hid (¬ (q + M) % 2 = 1 → ((q : Int) + M) / 2 = unz (q + M)) := fun h => by unfold unz; rw [if_neg h]; omega
            generalize unz (q + M) = N at hfin hzz hbd ho he hms
            obtain ⟨L, hL⟩ : ∃ L, (vb (q + M)).length = L := ⟨_, rfl⟩
            have hLL : Hid ((vb (zig N)).length = L) := by rw [Hid, hzz.out, hL]
            have HL := hid hL
            clear hL
            have hLb : L ≤ 1000 := by
              have := vb_len 9 (q + M) (by omega)
              rw [HL.out] at this; omega
            have go : (∃ d : Bool, ((((q : Int) + M) % 2 == 1) = d ∧ (d = true → (-((q : Int) + M + 1)).tdiv 2 = N) ∧ (d = false → ((q : Int) + M) / 2 = N))) := by
              by_cases hodd : (q + M) % 2 = 1
              · exact ⟨true, by simp; omega, fun _ => ho.out hodd, by simp⟩
              · exact ⟨false, by simp; omega, by simp, fun _ => he.out hodd⟩
            obtain ⟨d, d1, d2, d3⟩ := go
            clear ho he
            by_cases hrng : -1000000000000 ≤ N ∧ N ≤ 1000000000000
            · have hzm := hms.out.1 hrng
              by_cases hj1 : L = j + 1
              · have hres : Hid (unv (l.drop p) = some (N, j + 1)) := by rw [Hid, hfin.out, if_pos ⟨hzm, by rw [HL.out, hj1]⟩]
                have t1 : ((L : Int) == (p : Int) + j + 1 - p) = true := by simp; omega
                have HJ := hid hj1
                clear hj1
                cases d
                · have dN := d3 rfl
                  clear d2 d3 hfin hms hzm
                  go_wp2_with (go_at_call 11; refine (varintOf_len _ _ hrng L hLL.out).mono ?_; rintro e w' ⟨A1, c1, rfl, hg1⟩)
                  go_ret3
                  exact ⟨uvEnd_some hpl hres.out (by omega), hg1⟩
                · have dN := d2 rfl
                  clear d2 d3 hfin hms hzm
                  go_wp2_with (go_at_call 11; refine (varintOf_len _ _ hrng L hLL.out).mono ?_; rintro e w' ⟨A1, c1, rfl, hg1⟩)
                  go_ret3
                  exact ⟨uvEnd_some hpl hres.out (by omega), hg1⟩
              · have hres : Hid (unv (l.drop p) = none) := by rw [Hid, hfin.out, if_neg (by rw [HL.out]; exact fun h => hj1 h.2)]
                have t1 : ((L : Int) == (p : Int) + j + 1 - p) = false := by simp; omega
                clear hj1
                cases d
                · have dN := d3 rfl
                  clear d2 d3 hfin hms hzm
                  go_wp2_with (go_at_call 11; refine (varintOf_len _ _ hrng L hLL.out).mono ?_; rintro e w' ⟨A1, c1, rfl, hg1⟩)
                  go_ret3
                  exact ⟨uvEnd_none hpl hres.out, hg1⟩
                · have dN := d2 rfl
                  clear d2 d3 hfin hms hzm
                  go_wp2_with (go_at_call 11; refine (varintOf_len _ _ hrng L hLL.out).mono ?_; rintro e w' ⟨A1, c1, rfl, hg1⟩)
                  go_ret3
                  exact ⟨uvEnd_none hpl hres.out, hg1⟩
            · have hzm : Hid (¬ (q + M ≤ 2000000000000)) := fun h => hrng (hms.out.2 h)
              have hres : Hid (unv (l.drop p) = none) := by rw [Hid, hfin.out, if_neg (fun h => hzm h.1)]
              have hrng' : N < -1000000000000 ∨ 1000000000000 < N := by omega
              clear hrng
              cases d
              · have dN := d3 rfl
                clear d2 d3 hfin hms hzm
                go_wp2_with (go_at_call 11; refine (varintOf_no _ _ hrng').mono ?_; rintro e w' ⟨rfl, rfl⟩)
                go_ret3
                exact ⟨uvEnd_none hpl hres.out, gb_refl _ _⟩
              · have dN := d2 rfl
                clear d2 d3 hfin hms hzm
                go_wp2_with (go_at_call 11; refine (varintOf_no _ _ hrng').mono ?_; rintro e w' ⟨rfl, rfl⟩)
                go_ret3
                exact ⟨uvEnd_none hpl hres.out, gb_refl _ _⟩
      · have hno : Hid (unv (l.drop p) = none) := unv_none (uv_out _ _ _ (by rw [List.length_drop]; omega) HU.out)
        have e1 : decide ((p : Int) + j < l.length) = false := by simp; omega
        go_wp2_with fail
        go_ret3
        exact ⟨uvEnd_none hpl hno.out, gb_refl _ _⟩
end Go.Proofs.Ytdbieohfojgbgaa
