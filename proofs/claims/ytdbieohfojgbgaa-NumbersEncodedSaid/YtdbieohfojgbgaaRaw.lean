/- The generators of numbers and bytes. -/
import Derived.Test.YtdbieohfojgbgaaEnc3
import Derived.Test.YtdbieohfojgbgaaMul
import Derived.StillTailTactics
import Derived.Deep.RegionLaw
import Derived.Deep.DeepCutAuto
namespace Go.Proofs.Ytdbieohfojgbgaa
open Go Go.RowKit
set_option maxHeartbeats 400000

theorem aNumber_any (sb N : Nat) (w : World) (hs : Str w sb N) (hN : N ≤ 1099511627770) :
    Calls Try.prog 6 #[.pointer (some ⟨sb, 0, none⟩)] w fun e w' => ∃ r : Int, e = .returned (.int .i64 r) ∧ -9223372036854775808 ≤ r ∧ r ≤ 9223372036854775807 ∧ Str w' sb (N + 1) ∧ w.grownBy w' (some sb) := by
  go_enter Try.func6, Try.ntmps6
  go_wp2_with fail
  refine (pick_any sb N _ [0, 1, -1, 63, 64, -64, -65, 8191, 8192, -8193, 300, 1000000000000, -1000000000000, 1000000000001, -1000000000001, 4611686018427387904, -9223372036854775808] _ _ (hs.alloc _) (by omega) (rdI_lit _ _ _ rfl) (by simp) (by simp)).mono ?_
  rintro e w2 ⟨r, rfl, hr, hs2, hg2⟩
  go_wp2_with fail
  go_ret
  simp only [List.mem_cons, List.not_mem_nil, or_false] at hr
  exact ⟨_, rfl, by omega, by omega, hs2, gb_trans (gb_alloc _ _ _) hg2⟩

set_option maxRecDepth 100000 in
/-- slices.Repeat of one byte -/
theorem repeat_any (w : World) (A : Option Addr) (c : Nat) (n : Nat) (h1 : 1 ≤ n) (h2 : n ≤ 1000) (hr : Rd w elB A [255]) :
    Calls Try.prog 41 #[.slice A 1 c, .int .i64 n] w fun e w' => ∃ A' c' l, l.length = n ∧ e = .returned (.slice A' n c') ∧ Ow w' w.heap.size elB A' c' l ∧ w.grownBy w' none := by
  obtain ⟨ad, rfl, hc⟩ := rdB_at hr 0 (by decide)
  have hm : (1 * n) / 18446744073709551616 = 0 := by omega
  have hm2 : (1 * n) % 18446744073709551616 = n := by omega
  have hmul := mul_any 1 n (by omega) (by omega) w
  rw [hm, hm2] at hmul
  have HMUL := hid hmul
  clear hmul hm hm2
  have hmk := run_mk tyB .i64 .i64 n n (Nat.le_refl _) (by omega) (by omega) w
  obtain ⟨cs, hcp, hown⟩ := run_cp (ty := 3) (t' := 27) tyB (Ow.mk' (E := elB) (base := w.heap.size) w 0 n n (Nat.le_refl _) (Nat.le_refl _) (by simp [maxLen]; omega)) (hr.kept0 (gb_alloc w _ none)) 0 n n c (by simp)
  have hcp1 := hcp _ rfl
  have hmin : Nat.min 1 n = 1 := Nat.min_eq_left h1
  simp only [Nat.zero_mul, List.length_singleton, hmin] at hcp1
  have hown1 := hown _ rfl
  rw [show Nat.min ([255] : List UInt8).length n = 1 from hmin] at hown1
  clear hcp hown hmin
  have d1 : decide ((n : Int) < 0) = false := by simp
  have d2 : decide ((9223372036854775807 : Int) < n) = false := by simp; omega
  go_enter Try.func41, Try.ntmps41
  go_wp2_with (go_at_call 72; refine HMUL.out.mono ?_; rintro e w' ⟨rfl, rfl⟩)
  go_loopw [8] (fun i wr => ∃ (k : Nat) (l : List UInt8), 1 ≤ k ∧ k ≤ n ∧ i = .int .i64 k ∧ l.length = n ∧ Ow wr w.heap.size elB (some ⟨w.heap.size, 0, none⟩) n l ∧ w.grownBy wr none)
    (fun i _ => n - (intOf i).toNat)
  case atStart =>
    exact ⟨1, _, by omega, h1, rfl, by simp; omega, hown1, gb_new (gb_alloc w _ none) (gb_setRow _ _ _) (by simp)⟩
  case round =>
    obtain ⟨k, l, hk1, hk, rfl, hl, ho, hg⟩ := hrel
    have HL := hid hl
    by_cases hlt : k < n
    · have hrd := ho.rd.take k
      have hlk : (l.take k).length = k := by rw [List.length_take]; omega
      obtain ⟨cs2, hcp, hown⟩ := run_cp (ty := 3) (t' := 27) tyB ho hrd k (n - k) (n - k) n (by omega)
      rw [hlk] at hcp hown
      have hcp2 : (Builtin.copy_ #[27, 27] 3 #[.slice (some ⟨w.heap.size, k, none⟩) (n - k) (n - k), .slice (some ⟨w.heap.size, 0, none⟩) k n]).run Try.prog wr.drew = .ok (goInt (Nat.min k (n - k))) (wr.setRow w.heap.size cs2).drew := by
        have := hcp wr.drew rfl
        rw [show k * elB.size = k from Nat.mul_one k] at this
        exact this
      have hown2 := hown wr rfl
      have hmin : Nat.min k (n - k) ≤ n - k := Nat.min_le_right _ _
      have hmin1 : 1 ≤ Nat.min k (n - k) := by have := Nat.le_min.2 ⟨hk1, (show 1 ≤ n - k by omega)⟩; exact this
      have hlen : Hid (((l.take k).take (n - k)).length = Nat.min k (n - k)) := by rw [Hid, List.length_take, hlk, Nat.min_comm]
      generalize Nat.min k (n - k) = mk at hcp2 hown2 hmin hmin1 hlen
      clear hcp hown hl hlk HMUL hmk hcp1 hown1
      go_wp2_with fail
      go_region
      go_roundw
      case rel =>
        (repeat apply Exists.intro)
        exact ⟨⟨k + mk, _, by omega, by omega, by go_num, by rw [List.length_append, List.length_append, hlen.out, List.length_take, List.length_drop, HL.out]; omega, hown2.drew, gb_trans (gb_new hg (gb_setRow _ _ _) (fun g hg' => by injection hg' with hg'; omega)) (gb_drew _ _)⟩, rfl⟩
      case measure => simp [intOf]; omega
    · have e : k = n := by omega
      have HE := hid e
      clear e hl HMUL hmk hcp1 hown1
      go_wp2_with fail
      go_ret
      exact ⟨_, n, l, HL.out, rfl, ho, hg⟩
theorem varintOf_some (n : Int) (w : World) :
    Calls Try.prog 11 #[.int .i64 n] w fun e w' => ∃ (A : Option Addr) (c : Nat) (l : List UInt8) (x : Int), l.length ≤ 6 ∧ e = .returned (.tuple #[.slice A l.length c, .int .i64 x]) ∧ Rd w' elB A l ∧ w.grownBy w' none := by
  by_cases h : -1000000000000 ≤ n ∧ n ≤ 1000000000000
  · exact (varintOf_ok n w h).mono fun e w' ⟨A, c, he, ho, hg⟩ => ⟨A, c, vb (zig n), 0, vb_len6 (by have := zig_most n h; omega), he, ho.rd, hg⟩
  · exact (varintOf_no n w (by omega)).mono fun e w' ⟨he, hw⟩ => ⟨none, 0, [], 1, by simp, he, Rd.nil _ _, hw ▸ gb_refl _ _⟩
/-- bytes that grow beside the stream -/
def Raw (w wr : World) (sb M : Nat) (v : Value) (b : Nat) : Prop :=
  ∃ (A : Option Addr) (l : List UInt8) (c : Nat), v = .slice A l.length c ∧ Ow wr w.heap.size elB A c l ∧ l.length ≤ b ∧ Str wr sb M ∧ w.grownBy wr (some sb)
set_option maxRecDepth 100000 in
theorem rawBytes_any (sb N : Nat) (w : World) (hs : Str w sb N) (hN : N ≤ 1099511627000) :
    Calls Try.prog 7 #[.pointer (some ⟨sb, 0, none⟩)] w fun e w' => ∃ v, e = .returned v ∧ Raw w w' sb (N + 100) v 1000 := by
  go_enter Try.func7, Try.ntmps7
  go_wp2_with fail
  refine (range_any sb N _ _ _ hs (by omega) (by omega) (by omega) (by omega)).mono ?_
  rintro e w1 ⟨m, rfl, hm0, hm4, hs1, hg1⟩
  go_wp2_with fail
  go_loopw [3, 8] (fun v i wr => ∃ k : Nat, k ≤ 4 ∧ i = .int .i64 k ∧ Raw w wr sb (N + 1 + k) v (6 * k)) (fun _ i _ => 5 - (intOf i).toNat)
  case atStart => exact ⟨0, by omega, rfl, none, [], 0, rfl, Ow.nil _ _ _, by simp, hs1, hg1⟩
  case round =>
    obtain ⟨k, hk, rfl, A, l, c, rfl, ho, hl, hsr, hgr⟩ := hrel
    have hsz := hgr.size
    by_cases hlt : (k : Int) < m
    · go_wp2_with fail
      refine (aNumber_any sb _ _ hsr (by omega)).mono ?_
      rintro e w2 ⟨r, rfl, hr0, hr1, hs2, hg2⟩
      have ho2 := ho.str hsr hg2 (by decide)
      go_wp2_with fail
      refine (varintOf_some r _).mono ?_
      rintro e w3 ⟨B, d, lb, x, hlb, rfl, hrd, hg3⟩
      have ho3 := ho2.kept0 hg3
      go_wp2_with (at_builtin; refine wp_app rfl (.tmp 16) (.tmp 17) _ rfl tyB (by rfl) ho3 (by rfl) hrd (by omega) (by simp [maxLen]; omega) (by have := hg2.size; have := hg3.size; omega) ?_; intro A1 c1 w4 ho4 hg4)
      go_roundw
      case rel =>
        exact ⟨k + 1, by omega, by go_num, A1, l ++ lb, c1, by simp, ho4, by simp; omega, ((hs2.kept hg3).app ho3 hs.lt hg4).mono (by omega), gb_app (gb_trans (gb_trans hgr hg2) (gb_none hg3)) ho3 (Nat.le_refl _) hg4⟩
      case measure => simp [intOf]; omega
    · go_wp2_with fail
      refine (flip_any sb _ _ _ hsr (by omega) (by omega) (by omega)).mono ?_
      rintro e w2 ⟨t, rfl, hs2, hg2⟩
      have ho2 := ho.str hsr hg2 (by decide)
      go_upto_if 21 with fail
      go_cut [3] (fun v wx => Raw w wx sb (N + 10) v 30)
      case first =>
        cases t
        · go_wp2_with fail
          go_meet
          exact ⟨A, l, c, rfl, ho2, by omega, hs2.mono (by omega), gb_trans hgr hg2⟩
        · go_wp2_with fail
          refine (pick_any sb _ _ [0, 127, 128, 255] _ _ (hs2.alloc _) (by omega) (rdI_lit _ _ _ rfl) (by simp) (by simp)).mono ?_
          rintro e w3 ⟨r, rfl, hr, hs3, hg3⟩
          have ho3 := (ho2.alloc (.cells #[.int .i64 0, .int .i64 127, .int .i64 128, .int .i64 255] 3)).str (hs2.alloc _) hg3 (by decide)
          have hr' : ∃ q : Nat, r = q ∧ q < 256 := by
            simp only [List.mem_cons, List.not_mem_nil, or_false] at hr
            exact ⟨r.toNat, by omega, by omega⟩
          obtain ⟨q, rfl, hq⟩ := hr'
          have hz := hg2.size
          have hz3 := hg3.size
          go_wp2_with (at_builtin; refine wp_app rfl (.tmp 22) (.tmp 27) _ rfl tyB (by rfl) (ho3.alloc _) (by rfl) (rdB_lit _ [UInt8.ofNat q] _ (elB_one _ (by omega))) (by simp; omega) (by simp [maxLen]; omega) (by simp at hz3; simp; omega) ?_; intro A1 c1 w4 ho4 hg4)
          go_meet
          exact ⟨A1, _, c1, by simp, ho4, by simp; omega, ((hs3.alloc _).app (ho3.alloc _) hs.lt hg4).mono (by omega), gb_app (gb_trans (gb_trans (gb_trans (gb_trans hgr hg2) (gb_alloc _ _ _)) hg3) (gb_alloc _ _ _)) (ho3.alloc _) (Nat.le_refl _) hg4⟩
      case rest =>
        clear ho hl hsr hgr hsz ho2 hs2 hg2
        obtain ⟨A, l, c, rfl, ho, hl, hsr, hgr⟩ := hcut
        have hsz := hgr.size
        go_wp2_with fail
        refine (flip_any sb _ _ _ hsr (by omega) (by omega) (by omega)).mono ?_
        rintro e w2 ⟨t, rfl, hs2, hg2⟩
        have ho2 := ho.str hsr hg2 (by decide)
        go_upto_if 30 with fail
        go_cut [3] (fun v wx => Raw w wx sb (N + 20) v 40)
        case first =>
          cases t
          · go_wp2_with fail
            go_meet
            exact ⟨A, l, c, rfl, ho2, by omega, hs2.mono (by omega), gb_trans hgr hg2⟩
          · go_wp2_with fail
            refine (range_any sb _ _ _ _ (hs2.alloc _) (by omega) (by omega) (by omega) (by omega)).mono ?_
            rintro e w3 ⟨r, rfl, hr0, hr1, hs3, hg3⟩
            have hrd := ((rdB_lit w2 [128, 128, 128, 0] _ rfl).str (hs2.alloc _) hg3 (by decide)).take r.toNat
            have ho3 := (ho2.alloc _).str (hs2.alloc _) hg3 (by decide)
            have hz := hg2.size
            have hz3 := hg3.size
            obtain ⟨q, rfl⟩ := Int.eq_ofNat_of_zero_le (show 0 ≤ r by omega)
            rw [Int.toNat_natCast] at hrd
            have hql : (List.take q ([128, 128, 128, 0] : List UInt8)).length = q := by rw [List.length_take]; simp; omega
            generalize List.take q ([128, 128, 128, 0] : List UInt8) = lb at hrd hql
            subst hql
            go_wp2_with (at_builtin; refine wp_app rfl (.tmp 31) (.tmp 35) _ rfl tyB (by rfl) ho3 (by rfl) hrd (by omega) (by simp [maxLen]; omega) (by simp at hz3; omega) ?_; intro A1 c1 w4 ho4 hg4)
            go_meet
            exact ⟨A1, _, c1, by simp, ho4, by simp; omega, (hs3.app ho3 hs.lt hg4).mono (by omega), gb_app (gb_trans (gb_trans (gb_trans hgr hg2) (gb_alloc _ _ _)) hg3) ho3 (Nat.le_refl _) hg4⟩
        case rest =>
          clear ho hl hsr hgr hsz ho2 hs2 hg2
          obtain ⟨A, l, c, rfl, ho, hl, hsr, hgr⟩ := hcut
          have hsz := hgr.size
          go_wp2_with fail
          refine (flip_any sb _ _ _ hsr (by omega) (by omega) (by omega)).mono ?_
          rintro e w2 ⟨t, rfl, hs2, hg2⟩
          have ho2 := ho.str hsr hg2 (by decide)
          cases t
          · go_wp2_with fail
            go_ret
            exact ⟨_, rfl, A, l, c, rfl, ho2, by omega, hs2.mono (by omega), gb_trans hgr hg2⟩
          · go_wp2_with fail
            refine (range_any sb _ _ _ _ (hs2.alloc _) (by omega) (by omega) (by omega) (by omega)).mono ?_
            rintro e w3 ⟨r, rfl, hr0, hr1, hs3, hg3⟩
            have hrd := (rdB_lit w2 [255] _ rfl).str (hs2.alloc _) hg3 (by decide)
            have ho3 := (ho2.alloc _).str (hs2.alloc _) hg3 (by decide)
            have hz := hg2.size
            have hz3 := hg3.size
            obtain ⟨q, rfl⟩ := Int.eq_ofNat_of_zero_le (show 0 ≤ r by omega)
            go_wp2_with fail
            refine (repeat_any _ _ _ q (by omega) (by omega) hrd).mono ?_
            rintro e w5 ⟨B, d, lb, rfl, rfl, hob, hg5⟩
            have ho5 := ho3.kept0 hg5
            go_wp2_with (at_builtin; refine wp_app rfl (.tmp 39) (.tmp 43) _ rfl tyB (by rfl) ho5 (by rfl) hob.rd (by omega) (by simp [maxLen]; omega) (by have := hg5.size; simp at hz3; omega) ?_; intro A1 c1 w4 ho4 hg4)
            go_ret
            exact ⟨_, rfl, A1, _, c1, by simp, ho4, by simp; omega, ((hs3.kept hg5).app ho5 hs.lt hg4).mono (by omega), gb_app (gb_trans (gb_trans (gb_trans (gb_trans hgr hg2) (gb_alloc _ _ _)) hg3) (gb_none hg5)) ho5 (Nat.le_refl _) hg4⟩
end Go.Proofs.Ytdbieohfojgbgaa
