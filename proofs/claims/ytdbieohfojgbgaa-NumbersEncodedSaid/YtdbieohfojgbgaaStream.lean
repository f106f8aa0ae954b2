/- The functions of package logmake that hand out numbers: what each returns, and that only the stream's counter turns. Conditions: the stream reads as numbers; its counter is small. -/
import Derived.Test.YtdbieohfojgbgaaBase
namespace Go.Proofs.Ytdbieohfojgbgaa
open Go Go.RowKit
set_option maxHeartbeats 400000

def elStr : El ByteArray := ⟨9, 1, fun s => [.string s], fun _ => rfl, by simp [Value.oneCell']⟩
theorem rdStr_at {w : World} {A : Option Addr} {l : List ByteArray} (h : Rd w elStr A l) (k : Nat) (hk : k < l.length) : ∃ ad, A = some ad ∧ w.cell? (ad.add k) = some (.string l[k]) := by
  obtain ⟨ad, h1, h2⟩ := h.at_ k hk
  exact ⟨ad, h1, by simpa [elStr] using h2 0 _ rfl⟩

theorem below_any (x n : Int) (w : World) (hn : n ≤ 9223372036854775807) (h1 : 1 ≤ n) :
    Calls Try.prog 73 #[.int .i64 x, .int .i64 n] w fun e w' => ∃ r : Int, e = .returned (.int .i64 r) ∧ w = w' ∧ 0 ≤ r ∧ r < n := by
  have hb : -n < x.tmod n := by have := Int.lt_tmod_of_pos x (b := n) (by omega); omega
  have hc : x.tmod n < n := Int.tmod_lt_of_pos x (by omega)
  have hb2 : 0 ≤ x.tmod n + n := by omega
  go_enter Try.func73, Try.ntmps73
  go_wp2
  all_goals go_ret
  · exact ⟨_, rfl, rfl, by omega, by omega⟩
  · exact ⟨_, rfl, rfl, by omega, by omega⟩

/-- the stream: its block, a bound on its counter -/
def Str (w : World) (sb : Nat) (N : Nat) : Prop :=
  ∃ (a : Option Addr) (n cap : Nat) (zs : List Int) (k : Int), w.heap[sb]? = some (.cells #[.slice a n cap, .int .i64 k] 25 (0, 0)) ∧ 0 ≤ k ∧ k ≤ N ∧ zs.length = n ∧ n ≤ 9223372036854775807
    ∧ (∀ j, j < n → ∃ b, a = some b ∧ b.block < sb ∧ w.cell? (b.add j) = some (.int .i64 (zs.getD j 0)))
theorem Str.mono {w : World} {sb N N' : Nat} (h : Str w sb N) (hN : N ≤ N') : Str w sb N' := by
  obtain ⟨a, n, cap, zs, k, h1, h2, h3, h4⟩ := h
  exact ⟨a, n, cap, zs, k, h1, h2, by omega, h4⟩
theorem Str.blk {w : World} {sb N : Nat} (h : Str w sb N) : ∃ cur fr, w.heap[sb]? = some (.cells cur 25 fr) := by
  obtain ⟨a, n, cap, zs, k, h1, h2⟩ := h
  exact ⟨_, _, h1⟩
theorem Str.lt {w : World} {sb N : Nat} (h : Str w sb N) : sb < w.heap.size := by
  obtain ⟨cur, fr, h1⟩ := h.blk
  exact lt_heap h1
theorem str_put {w w' : World} {sb : Nat} {a : Option Addr} {n cap N : Nat} {zs : List Int} {k : Int}
    (hb : w'.heap[sb]? = some (.cells #[.slice a n cap, .int .i64 k] 25 (0, 0))) (hk : 0 ≤ k) (hN : k ≤ N) (hz : zs.length = n) (hl : n ≤ 9223372036854775807)
    (hc : ∀ j, j < n → ∃ b, a = some b ∧ b.block < sb ∧ w.cell? (b.add j) = some (.int .i64 (zs.getD j 0))) (hg : w.grownBy w' (some sb)) : Str w' sb N := by
  refine ⟨a, n, cap, zs, k, hb, hk, hN, hz, hl, fun j hj => ?_⟩
  obtain ⟨b, h1, h2, h3⟩ := hc j hj
  exact ⟨b, h1, h2, hg.cell h3 (by rw [add_block]; intro e; injection e with e; omega)⟩
theorem Str.kept {w w' : World} {sb N : Nat} (h : Str w sb N) (hg : w.grownBy w' none) : Str w' sb N := by
  obtain ⟨a, n, cap, zs, k, h1, h2, h3, h4, h5, h6⟩ := h
  exact str_put (gb_heap hg h1 (by simp)) h2 h3 h4 h5 h6 (gb_none hg)
/-- a younger block may have turned -/
theorem Str.keptR {w w' : World} {sb N : Nat} {r : Option Nat} (h : Str w sb N) (hg : w.grownBy w' r) (hr : ∀ g, r = some g → sb < g) : Str w' sb N := by
  obtain ⟨a, n, cap, zs, k, h1, h2, h3, h4, h5, h6⟩ := h
  refine ⟨a, n, cap, zs, k, gb_heap hg h1 (fun e => by have := hr sb e.symm; omega), h2, h3, h4, h5, fun j hj => ?_⟩
  obtain ⟨b, h7, h8, h9⟩ := h6 j hj
  exact ⟨b, h7, h8, hg.cell h9 (by rw [add_block]; intro e; have := hr _ e.symm; omega)⟩
theorem Str.app {α : Type} {E : El α} {w w' : World} {sb N base c n : Nat} {A : Option Addr} {l : List α} (h : Str w sb N) (ho : Ow w base E A c l) (hb : sb < base) (hg : w.grownBy w' (Value.ownBlock (.slice A n c))) : Str w' sb N := by
  refine h.keptR hg (fun g e => ?_)
  cases A with
  | none => simp [Value.ownBlock] at e
  | some ad =>
    have := (ho.ge ad rfl).1
    simp [Value.ownBlock] at e
    omega
theorem Str.alloc {w : World} {sb N : Nat} (h : Str w sb N) (o : Obj) : Str (w.alloc o) sb N := h.kept (gb_alloc w o none)
theorem Str.drewN {w : World} {sb N : Nat} (h : Str w sb N) (n : Nat) : Str (w.drewN n) sb N := h.kept (gb_drewN w n none)
section
variable {α : Type} {E : El α} {w w' : World} {A : Option Addr} {l : List α} {sb N base c : Nat}
theorem Rd.str (h : Rd w E A l) (hs : Str w sb N) (hg : w.grownBy w' (some sb)) (hne : E.e ≠ 25) : Rd w' E A l := by
  obtain ⟨cur, fr, h1⟩ := hs.blk
  exact h.keptT hg h1 hne
theorem Ow.str (h : Ow w base E A c l) (hs : Str w sb N) (hg : w.grownBy w' (some sb)) (hne : E.e ≠ 25) : Ow w' base E A c l := by
  obtain ⟨cur, fr, h1⟩ := hs.blk
  exact h.keptT hg h1 hne
end

theorem next_any (sb N : Nat) (n : Int) (w : World) (hs : Str w sb N) (hN : N ≤ 1099511627776) (hn : n ≤ 9223372036854775807) (h1 : 1 ≤ n) :
    Calls Try.prog 47 #[.pointer (some ⟨sb, 0, none⟩), .int .i64 n] w fun e w' => ∃ r : Int, e = .returned (.int .i64 r) ∧ 0 ≤ r ∧ r < n ∧ Str w' sb (N + 1) ∧ w.grownBy w' (some sb) := by
  obtain ⟨a, len, cap, zs, k, hb, hk, hkN, hz, hl, hc⟩ := hs
  have hk2 : k ≤ 1099511627776 := by omega
  have c0 : w.cell? ⟨sb, 0, none⟩ = some (.slice a len cap) := by simp [World.cell?, hb]
  have c1 : w.cell? ⟨sb, 1, none⟩ = some (.int .i64 k) := by simp [World.cell?, hb]
  have f1 : w.frozen? ⟨sb, 1, none⟩ = false := by simp [World.frozen?, hb]
  have hb' : (w.setCell ⟨sb, 1, none⟩ (.int .i64 (k + 1))).heap[sb]? = some (.cells #[.slice a len cap, .int .i64 (k + 1)] 25 (0, 0)) := by
    simp [World.setCell, Array.getElem?_modify, hb]
  have hS : Hid (∀ m, Str ((w.setCell ⟨sb, 1, none⟩ (.int .i64 (k + 1))).drewN m) sb (N + 1)) :=
    fun m => str_put (w := w) hb' (by omega) (by omega) hz hl hc (gb_trans (gb_setCell w _ _) (gb_drewN _ m _))
  have hG : Hid (∀ m, w.grownBy ((w.setCell ⟨sb, 1, none⟩ (.int .i64 (k + 1))).drewN m) (some sb)) := fun m => gb_trans (gb_setCell w _ _) (gb_drewN _ m _)
  by_cases h0 : len = 0
  · subst h0
    clear hb hc hb' hz
    go_enter Try.func47, Try.ntmps47
    go_wp2_with (go_at_call 73; refine (below_any _ _ _ (by omega) (by omega)).mono ?_; rintro e w' ⟨r, rfl, rfl, hr0, hr1⟩)
    go_ret
    exact ⟨r, rfl, hr0, hr1, hS.out 0, hG.out 0⟩
  · obtain ⟨b0, rfl, hb0, hc0⟩ := hc 0 (by omega)
    have HC := hid hc
    have d0 : ((len : Int) == 0) = false := by simp; omega
    clear hb hc hb' hz hc0 hb0
    obtain ⟨j, hj⟩ : ∃ j : Nat, k % (len : Int) = j := ⟨(k % (len : Int)).toNat, by have := Int.emod_nonneg k (b := (len : Int)) (by omega); omega⟩
    have hjl : j < len := by have := Int.emod_lt_of_pos k (b := (len : Int)) (by omega); omega
    have e1 : 0 ≤ k % (len : Int) := by omega
    have e2 : k % (len : Int) < len := by omega
    have e3 : (w.setCell ⟨sb, 1, none⟩ (.int .i64 (k + 1))).cell? (b0.add (k % (len : Int)).toNat) = some (.int .i64 (zs.getD j 0)) := by
      obtain ⟨b, hb1, hb2, hb3⟩ := HC.out j hjl
      obtain rfl : b0 = b := by simpa using hb1
      rw [hj, Int.toNat_natCast]
      exact (gb_setCell w ⟨sb, 1, none⟩ (.int .i64 (k + 1))).cell hb3 (by rw [add_block]; intro e; injection e with e; simp only at e; omega)
    clear hj hjl
    go_enter Try.func47, Try.ntmps47
    go_wp2_with fail
    go_quiet (fail)
    go_wp2_with fail
    go_quiet (fail)
    go_wp2_with (go_at_call 73; refine (below_any _ _ _ (by omega) (by omega)).mono ?_; rintro e w' ⟨r, rfl, rfl, hr0, hr1⟩)
    go_ret
    exact ⟨_, rfl, by omega, by omega, hS.out _, hG.out _⟩

theorem range_any (sb N : Nat) (a b : Int) (w : World) (hs : Str w sb N) (hN : N ≤ 1099511627776) (ha : -4611686018427387904 ≤ a) (hb : b ≤ 4611686018427387900) (hab : a ≤ b) :
    Calls Try.prog 37 #[.pointer (some ⟨sb, 0, none⟩), .int .i64 a, .int .i64 b] w fun e w' => ∃ r : Int, e = .returned (.int .i64 r) ∧ a ≤ r ∧ r ≤ b ∧ Str w' sb (N + 1) ∧ w.grownBy w' (some sb) := by
  go_enter Try.func37, Try.ntmps37
  go_wp2_with (go_at_call 47; refine (next_any sb N _ _ hs hN (by omega) (by omega)).mono ?_; rintro e w' ⟨r, rfl, hr0, hr1, hs1, hg1⟩)
  go_ret
  exact ⟨_, rfl, by omega, by omega, hs1, hg1⟩

theorem flip_any (sb N : Nat) (n : Int) (w : World) (hs : Str w sb N) (hN : N ≤ 1099511627776) (hn : n ≤ 9223372036854775807) (h1 : 1 ≤ n) :
    Calls Try.prog 19 #[.pointer (some ⟨sb, 0, none⟩), .int .i64 n] w fun e w' => ∃ b : Bool, e = .returned (.bool b) ∧ Str w' sb (N + 1) ∧ w.grownBy w' (some sb) := by
  go_enter Try.func19, Try.ntmps19
  go_wp2_with (go_at_call 47; refine (next_any sb N _ _ hs hN (by omega) (by omega)).mono ?_; rintro e w' ⟨r, rfl, hr0, hr1, hs1, hg1⟩)
  go_ret
  exact ⟨_, rfl, hs1, hg1⟩

theorem pick_any (sb N : Nat) (A : Option Addr) (l : List Int) (cap : Nat) (w : World) (hs : Str w sb N) (hN : N ≤ 1099511627776) (hl : Rd w elI A l) (h0 : 0 < l.length) (h1 : l.length ≤ 1000) :
    Calls Try.prog 18 #[.pointer (some ⟨sb, 0, none⟩), .slice A l.length cap] w fun e w' => ∃ r : Int, e = .returned (.int .i64 r) ∧ r ∈ l ∧ Str w' sb (N + 1) ∧ w.grownBy w' (some sb) := by
  obtain ⟨ad, rfl, _⟩ := rdI_at hl 0 h0
  go_enter Try.func18, Try.ntmps18
  go_wp2_with fail
  refine (next_any sb N _ _ hs hN (by omega) (by omega)).mono ?_
  rintro e w' ⟨r, rfl, hr0, hr1, hs1, hg1⟩
  obtain ⟨j, rfl⟩ := Int.eq_ofNat_of_zero_le hr0
  have hj : j < l.length := by omega
  have hc : w'.cell? (ad.add j) = some (.int .i64 l[j]) := by
    obtain ⟨ad', h1, h2⟩ := rdI_at (hl.str hs hg1 (by decide)) j hj
    injection h1 with h1; subst h1; exact h2
  have hm : l[j] ∈ l := List.getElem_mem hj
  generalize l[j] = r at hc hm
  go_wp2_with fail
  go_ret
  exact ⟨_, rfl, hm, hs1, hg1⟩

theorem some_any (sb N : Nat) (A : Option Addr) (l : List ByteArray) (cap : Nat) (w : World) (hs : Str w sb N) (hN : N ≤ 1099511627776) (hl : Rd w elStr A l) (h0 : 0 < l.length) (h1 : l.length ≤ 1000) :
    Calls Try.prog 29 #[.pointer (some ⟨sb, 0, none⟩), .slice A l.length cap] w fun e w' => ∃ r : ByteArray, e = .returned (.string r) ∧ r ∈ l ∧ Str w' sb (N + 1) ∧ w.grownBy w' (some sb) := by
  obtain ⟨ad, rfl, _⟩ := rdStr_at hl 0 h0
  go_enter Try.func29, Try.ntmps29
  go_wp2_with fail
  refine (next_any sb N _ _ hs hN (by omega) (by omega)).mono ?_
  rintro e w' ⟨r, rfl, hr0, hr1, hs1, hg1⟩
  obtain ⟨j, rfl⟩ := Int.eq_ofNat_of_zero_le hr0
  have hj : j < l.length := by omega
  have hc : w'.cell? (ad.add j) = some (.string l[j]) := by
    obtain ⟨ad', h1, h2⟩ := rdStr_at (hl.str hs hg1 (by decide)) j hj
    injection h1 with h1; subst h1; exact h2
  have hm : l[j] ∈ l := List.getElem_mem hj
  generalize l[j] = r at hc hm
  go_wp2_with fail
  go_ret
  exact ⟨_, rfl, hm, hs1, hg1⟩

/-- the numbers of a literal that has just been laid -/
theorem rdI_lit (w : World) (l : List Int) (cs : List Value) (h : elI.cells l = cs) : Rd (w.alloc (.cells cs.toArray 3)) elI (some ⟨w.heap.size, 0, none⟩) l :=
  Rd.of_block (heap_alloc_new w _) h
theorem rdStr_lit (w : World) (l : List ByteArray) (cs : List Value) (h : elStr.cells l = cs) : Rd (w.alloc (.cells cs.toArray 9)) elStr (some ⟨w.heap.size, 0, none⟩) l :=
  Rd.of_block (heap_alloc_new w _) h

theorem odd_any (sb N : Nat) (a b : Int) (w : World) (hs : Str w sb N) (hN : N ≤ 1099511627770) (ha : -1099511627776 ≤ a) (hb : b ≤ 1099511627776) (hab : a ≤ b) :
    Calls Try.prog 8 #[.pointer (some ⟨sb, 0, none⟩), .int .i64 a, .int .i64 b] w fun e w' => ∃ r : Int, e = .returned (.int .i64 r) ∧ -1099511627777 ≤ r ∧ r ≤ 1099511627777 ∧ Str w' sb (N + 2) ∧ w.grownBy w' (some sb) := by
  go_enter Try.func8, Try.ntmps8
  go_wp2_with fail
  refine (flip_any sb N _ _ hs (by omega) (by omega) (by omega)).mono ?_
  rintro e w1 ⟨t, rfl, hs1, hg1⟩
  cases t
  · go_wp2_with fail
    refine (range_any sb (N + 1) _ _ _ hs1 (by omega) (by omega) (by omega) hab).mono ?_
    rintro e w2 ⟨r, rfl, h1, h2, hs2, hg2⟩
    go_wp2_with fail
    go_ret
    exact ⟨_, rfl, by omega, by omega, hs2, gb_trans hg1 hg2⟩
  · go_wp2_with fail
    refine (pick_any sb (N + 1) _ [a - 1, b + 1, a, b, -1099511627776, 1099511627776] _ _ (hs1.alloc _) (by omega) (rdI_lit _ _ _ rfl) (by simp) (by simp)).mono ?_
    rintro e w2 ⟨r, rfl, hr, hs2, hg2⟩
    go_wp2_with fail
    go_ret
    simp only [List.mem_cons, List.not_mem_nil, or_false] at hr
    exact ⟨_, rfl, by omega, by omega, hs2, gb_trans hg1 (gb_trans (gb_alloc _ _ _) hg2)⟩
end Go.Proofs.Ytdbieohfojgbgaa
