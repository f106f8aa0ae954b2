/- NumbersEncoded returns true for every input, and leaves the input as it was: the law's own walk. -/
import Derived.Test.YtdbieohfojgbgaaRaw
namespace Go.Proofs.Ytdbieohfojgbgaa
open Go Go.RowKit
set_option maxHeartbeats 1000000

/-- the numbers of a slice that came in -/
def Arg (w : World) (a : Option Addr) (n : Nat) : Prop :=
  ∃ zs : List Int, zs.length = n ∧ n ≤ 9223372036854775807 ∧ ∀ j, j < n → ∃ b, a = some b ∧ b.block < w.heap.size ∧ w.cell? (b.add j) = some (.int .i64 (zs.getD j 0))
theorem Arg.str {w : World} {a : Option Addr} {n cap : Nat} (h : Arg w a n) : Str (w.alloc (.cells #[.slice a n cap, .int .i64 0] 25)) w.heap.size 0 := by
  obtain ⟨zs, h1, h2, h3⟩ := h
  refine ⟨a, n, cap, zs, 0, heap_alloc_new w _, by omega, by omega, h1, h2, fun j hj => ?_⟩
  obtain ⟨b, h4, h5, h6⟩ := h3 j hj
  exact ⟨b, h4, h5, (gb_alloc w _ none).cell h6 (by simp)⟩
/-- what a call leaves that touches the stream alone leaves nothing old turned -/
theorem below_of_str {w w1 w2 : World} (h : w.grownBy w1 none) {sb : Nat} (hs : w.heap.size ≤ sb) (k : w1.grownBy w2 (some sb)) : w.grownBy w2 none :=
  gb_new h k (fun g e => by injection e with e; omega)

set_option maxRecDepth 100000 in
theorem numbersEncoded_walk (a : Option Addr) (n cap : Nat) (w : World) (ha : Arg w a n) :
    Calls Try.prog 3 #[.slice a n cap] w fun e w' => e = .returned (.bool true) ∧ Below w.heap.size w w' := by
  have hs0 := ha.str (cap := cap)
  go_enter Try.func3, Try.ntmps3
  go_wp2_with fail
  refine (aNumber_any w.heap.size 0 _ hs0 (by omega)).mono ?_
  rintro e w1 ⟨x, rfl, hx0, hx1, hs1, hg1⟩
  go_wp2_with fail
  refine (rawBytes_any w.heap.size _ _ hs1 (by omega)).mono ?_
  rintro e w2 ⟨v, rfl, A, l, c, rfl, ho, hl, hs2, hg2⟩
  go_wp2_with fail
  refine (odd_any w.heap.size _ _ _ _ hs2 (by omega) (by omega) (by omega) (by omega)).mono ?_
  rintro e w3 ⟨p, rfl, hp0, hp1, hs3, hg3⟩
  have hr3 := ho.rd.str hs2 hg3 (by decide)
  have HG : Hid (w.grownBy w3 none) := below_of_str (below_of_str (below_of_str (gb_alloc w _ none) (Nat.le_refl _) hg1) (Nat.le_refl _) hg2) (Nat.le_refl _) hg3
  by_cases hx : -1000000000000 ≤ x ∧ x ≤ 1000000000000
  · go_wp2_with fail
    refine (varint_ok x _ hx).mono ?_
    rintro e w4 ⟨A4, c4, rfl, ho4, hg4⟩
    have hr4 := hr3.kept0 hg4
    go_wp2_with fail
    refine (unvarintTop_any _ _ _ p _ hr4 (by omega)).mono ?_
    rintro e w5 ⟨he, rfl⟩
    unfold uvEnd at he
    subst he
    generalize hu : uvRes l p = u
    have HU := hid hu
    clear hu
    go_wp2_with fail
    refine (varintOf_ok x _ hx).mono ?_
    rintro e w6 ⟨A6, c6, rfl, ho6, hg6⟩
    have hr6 := hr4.kept0 hg6
    go_wp2_with fail
    refine (unvarintOf_any _ _ _ p _ hr6 (by omega)).mono ?_
    rintro e w7 ⟨he, hg7⟩
    unfold uvEnd at he
    rw [HU.out] at he
    subst he
    have hr7 := hr6.kept0 hg7
    have hq7 := (ho4.rd.kept0 hg6).kept0 hg7
    have hq7' := ho6.rd.kept0 hg7
    go_wp2_with fail
    refine (bytesEqual_same _ _ _ _ _ _ _ hq7 hq7' _ rfl rfl).mono ?_
    rintro e w8 ⟨rfl, rfl⟩
    go_wp2_with fail
    refine (checksum_any _ _ _ _ hr7 (by omega)).mono ?_
    rintro e w9 ⟨rfl, rfl⟩
    go_wp2_with fail
    refine (checksumOf_any _ _ _ _ hr7 (by omega)).mono ?_
    rintro e w9 ⟨rfl, rfl⟩
    go_wp2_with fail
    refine (archived_any _).mono ?_
    rintro e w10 ⟨rfl, hg10⟩
    go_wp2_with fail
    go_ret
    exact ⟨rfl, gb_below (gb_trans (gb_trans (gb_trans (gb_trans HG.out hg4) hg6) hg7) hg10)⟩
  · go_wp2_with fail
    refine (varint_no x _ (by omega)).mono ?_
    rintro e w4 ⟨rfl, rfl⟩
    go_wp2_with fail
    refine (unvarintTop_any _ _ _ p _ hr3 (by omega)).mono ?_
    rintro e w5 ⟨he, rfl⟩
    unfold uvEnd at he
    subst he
    generalize hu : uvRes l p = u
    have HU := hid hu
    clear hu
    go_wp2_with fail
    refine (varintOf_no x _ (by omega)).mono ?_
    rintro e w6 ⟨rfl, rfl⟩
    go_wp2_with fail
    refine (unvarintOf_any _ _ _ p _ hr3 (by omega)).mono ?_
    rintro e w7 ⟨he, hg7⟩
    unfold uvEnd at he
    rw [HU.out] at he
    subst he
    have hr7 := hr3.kept0 hg7
    go_wp2_with fail
    refine (bytesEqual_same none none [] [] 0 0 _ (Rd.nil _ _) (Rd.nil _ _) _ rfl rfl).mono ?_
    rintro e w8 ⟨rfl, rfl⟩
    go_wp2_with fail
    refine (checksum_any _ _ _ _ hr7 (by omega)).mono ?_
    rintro e w9 ⟨rfl, rfl⟩
    go_wp2_with fail
    refine (checksumOf_any _ _ _ _ hr7 (by omega)).mono ?_
    rintro e w9 ⟨rfl, rfl⟩
    go_wp2_with fail
    refine (archived_any _).mono ?_
    rintro e w10 ⟨rfl, hg10⟩
    go_wp2_with fail
    go_ret
    exact ⟨rfl, gb_below (gb_trans (gb_trans HG.out hg7) hg10)⟩
end Go.Proofs.Ytdbieohfojgbgaa
