/- slices.Insert of one byte. No condition. -/
import Derived.Shelf.Spec.SlicesInsertGrow
import Derived.Test.YtnodfnjmhcjnfaaGreatProg
import Derived.Test.YtnodfnjmhcjnfaaGreatHCoreC
namespace Go.Proofs.YtnodfnjmhcjnfaaGreat
open Go Go.RowKit Go.Shelf Go.Lib
set_option maxRecDepth 100000
set_option linter.all false
set_option maxHeartbeats 4000000
theorem ins_room (b i n c vb vc : Nat) (cs : List Value) (x : Value) (w : World) (hi : i < n) (hroom : n + 1 ≤ c) (hc63 : c ≤ 9223372036854775807) (hvb : vb ≠ b) (hcl : cs.length = n)
    (hcs : ∀ (j : Nat) (v : Value), cs[j]? = some v → w.cell? ⟨b, j, none⟩ = some v) (hsp : ∀ j, j < n + 1 → (w.cell? ⟨b, j, none⟩).isSome = true) (hfz : ∀ j, j < n + 1 → w.frozen? ⟨b, j, none⟩ = false)
    (hx : w.cell? ⟨vb, 0, none⟩ = some x) (h1c : ∀ v ∈ cs, v.oneCell' = true) (h1x : x.oneCell' = true)
    (tA tB : TypeId) (kA kB : Nat) (hsa : w.shape? vb = some (tA, kA)) (hsb : w.shape? b = some (tB, kB)) (hkB : kB ≠ 0) (hfa : w.frozen? ⟨vb, 0, none⟩ = false) (hfe : w.frozen? ⟨vb, kA, none⟩ = false) :
    Calls Tryz.prog 23 #[.slice (some ⟨b, 0, none⟩) n c, .int .i64 i, .slice (some ⟨vb, 0, none⟩) 1 vc] w fun e w' =>
      e = .returned (.slice (some ⟨b, 0, none⟩) (n + 1) c) ∧ w' = (w.drew.setCells b (i + 1) (cs.drop i)).setCells b i [x] := by
  have eu : Tryz.prog.underlying 26 = some (.slice 5) := by kernel_rfl
  have ez : ∀ w, (Go.sizeOf 5).run Tryz.prog w = .ok 1 w := fun w => by kernel_rfl
  have esz : (Tryz.prog.info? 5).map (·.size) = some 1 := by kernel_rfl
  have ne : ¬ ((i : Int) = (n : Int)) := by omega
  have hov : ∀ lb cb, (callFunc 50 #[.slice (some ⟨vb, 0, none⟩) 1 vc, .slice (some ⟨b, i + 1, none⟩) lb cb]).run Tryz.prog w = .ok (.value (.bool false)) w := fun lb cb => by
    rw [run_callFunc_extern Tryz.func50 (by kernel_rfl) (by kernel_rfl) (by kernel_rfl) (e := Extern.SlicesOverlaps.overlaps #[26, 26] #[4]) (by kernel_rfl),
      Lib.run_overlaps_apart w 26 4 5 eu 1 ez ⟨vb, 0, none⟩ ⟨b, i + 1, none⟩ 1 vc lb cb hvb tA tB kA kB hsa hsb hkB hfa hfe]
    rfl
  have hd : (cs.drop i).length = n - i := by rw [List.length_drop, hcl]
  have move : ∀ ty dc sc, (Builtin.copy_ #[26, 26] ty #[.slice (some ⟨b, i + 1, none⟩) (n - i) dc, .slice (some ⟨b, i, none⟩) (n + 1 - i) sc]).run Tryz.prog w.drew = .ok (goInt (cs.drop i).length) (w.drew.setCells b (i + 1) (cs.drop i)) := fun ty dc sc =>
    run_copy_cells w.drew _ _ ty 5 b (i + 1) (n - i) dc ⟨b, i, none⟩ (n + 1 - i) sc (cs.drop i) eu esz (by rw [hd]; simp only [Nat.min_def]; split <;> omega)
      (fun j v hj => by rw [List.getElem?_drop] at hj; have := hcs _ v hj; rw [Addr.add_lit]; exact this)
      (fun j hj => by rw [hd] at hj; exact hsp (i + 1 + j) (by omega)) (fun j hj => by rw [hd] at hj; exact hfz (i + 1 + j) (by omega)) (fun v hv => h1c v (List.mem_of_mem_drop hv))
  obtain ⟨W1, hW1⟩ : ∃ W1, W1 = w.drew.setCells b (i + 1) (cs.drop i) := ⟨_, rfl⟩
  have put : ∀ (W : World), (∀ q, W.cell? q = W1.cell? q) → (∀ q, W.frozen? q = W1.frozen? q) → ∀ ty dc, (Builtin.copy_ #[26, 26] ty #[.slice (some ⟨b, i, none⟩) (n + 1 - i) dc, .slice (some ⟨vb, 0, none⟩) 1 vc]).run Tryz.prog W = .ok (goInt [x].length) (W.setCells b i [x]) := fun W g1 g2 ty dc =>
    run_copy_cells W _ _ ty 5 b i (n + 1 - i) dc ⟨vb, 0, none⟩ 1 vc [x] eu esz (by simp only [Nat.min_def, List.length_cons, List.length_nil]; split <;> omega)
      (fun j v hj => by
        cases j with
        | zero =>
          simp only [List.getElem?_cons_zero, Option.some.injEq] at hj
          subst hj
          rw [Addr.add_lit, g1, hW1, World.cell?_setCells_out b _ _ _ _ (fun h _ => absurd h hvb)]
          exact hx
        | succ j => simp at hj)
      (fun j hj => by simp only [List.length_cons, List.length_nil] at hj; rw [g1, hW1]; exact isSome_setCells b (cs.drop i) (i + 1) w.drew (fun k hk => by rw [hd] at hk; exact hsp (i + 1 + k) (by omega)) (i + j) (hsp (i + j) (by omega)))
      (fun j hj => by simp only [List.length_cons, List.length_nil] at hj; rw [g2, hW1, World.frozen?_setCells]; exact hfz (i + j) (by omega)) (fun v hv => by simp at hv; subst hv; exact h1x)
  rw [← hW1] at move
  have mixed : Tryz.prog.follows .mixedOrders = true := by kernel_rfl
  have e1 : IntKind.i64.wrap ((i : Int) + 1) = (i : Int) + 1 := by rw [IntKind.wrap_i64]; omega
  have e2 : IntKind.i64.wrap ((n : Int) + 1) = (n : Int) + 1 := by rw [IntKind.wrap_i64]; omega
  have e3 : ¬ ((c : Int) < (n : Int) + 1) := by omega
  have e4 : ((i : Int) + 1).toNat = i + 1 := by omega
  have e5 : ((n : Int) + 1).toNat = n + 1 := by omega
  have e6 : ¬ (c = i + 1) := by omega
  have e7 : ¬ (c = i) := by omega
  have e8 : i ≤ n := by omega
  have e10 : (i : Int) ≤ (n : Int) + 1 := by omega
  have e11 : i ≤ n + 1 := by omega
  have e9 : (0 : Int) ≤ (i : Int) + 1 := by omega
  go_enter Tryz.func23, Tryz.ntmps23
  go_wp2_with (simp only [hov])
  go_region_law_o (refine step_copy_runI rfl _ _ 26 26 rfl _ _ (by simp [Act.eval, Act.put]) (by simp [Act.eval, Act.put]) (move _ _ _) ?_)
  go_wp2_with (at_builtin; refine wpList_copy_runI _ rfl _ _ 26 26 rfl _ _ rfl rfl (put _ (fun _ => rfl) (fun _ => rfl) _ _) ?_)
  go_ret
  first | exact ⟨rfl, rfl⟩ | exact ⟨rfl, by rw [hW1]⟩
def insRow (cs : List Value) (i G : Nat) : Array Value := (cs.take i).toArray ++ Builtin.zeroCells (Value.int .u8 0).cells (cs.length + 1 - i) ++ Builtin.zeroCells (Value.int .u8 0).cells (G - (cs.length + 1))
theorem ins_new (b i n c vb vc : Nat) (cs : List Value) (x : Value) (w : World) (hi : i < n) (hnc : n ≤ c) (hroom : c < n + 1) (hbig : n ≤ 1000000000) (hcl : cs.length = n)
    (hcs : ∀ (j : Nat) (v : Value), cs[j]? = some v → w.cell? ⟨b, j, none⟩ = some v) (hx : w.cell? ⟨vb, 0, none⟩ = some x) (h1c : ∀ v ∈ cs, v.oneCell' = true) (h1x : x.oneCell' = true) :
    Calls Tryz.prog 23 #[.slice (some ⟨b, 0, none⟩) n c, .int .i64 i, .slice (some ⟨vb, 0, none⟩) 1 vc] w fun e w' =>
      e = .returned (.slice (some ⟨w.heap.size, 0, none⟩) (n + 1) (grownCap w (n + 1) c 5)) ∧
      w' = (((w.alloc (.cells (insRow cs i (grownCap w (n + 1) c 5)) 5)).drew.setCells w.heap.size i [x]).drew).setCells w.heap.size (i + 1) (cs.drop i) := by
  have eu : Tryz.prog.underlying 26 = some (.slice 5) := by kernel_rfl
  have eui : Tryz.prog.underlying 3 = some (.int .i64) := by kernel_rfl
  have esz : (Tryz.prog.info? 5).map (·.size) = some 1 := by kernel_rfl
  obtain ⟨i0, hi0, hz0, hzs, hzb⟩ : ∃ i0, Tryz.prog.info? 5 = some i0 ∧ i0.zero = some (.int .u8 0) ∧ i0.size = 1 ∧ i0.bytes = 1 := by
    have q1 : (Tryz.prog.info? 5).bind (·.zero) = some (.int .u8 0) := by kernel_rfl
    have q2 : (Tryz.prog.info? 5).map (·.bytes) = some 1 := by kernel_rfl
    cases hq : Tryz.prog.info? 5 with
    | none => rw [hq] at q2; cases q2
    | some i0 =>
      rw [hq] at q1 q2 esz
      exact ⟨i0, rfl, by simpa using q1, by simpa using esz, by simpa using q2⟩
  have ne : ¬ ((i : Int) = (n : Int)) := by omega
  have hbw : b < w.heap.size := block_lt_of_cell (hcs 0 _ (List.getElem?_eq_getElem (by omega)))
  have hvw : vb < w.heap.size := block_lt_of_cell hx
  have hd : (cs.drop i).length = n - i := by rw [List.length_drop, hcl]
  have hold : (Builtin.firstCells i0.size i (.slice (some ⟨b, 0, none⟩) i c)).run Tryz.prog w.drew = .ok (cs.take i).toArray w.drew := by
    rw [hzs]
    refine run_firstCells_some w.drew 1 i ⟨b, 0, none⟩ i c (cs.take i) (by rw [List.length_take]; omega) (fun j v hj => ?_)
    rw [List.getElem?_take] at hj
    split at hj
    · rw [Addr.add_lit, Nat.zero_add]; exact hcs j v hj
    · cases hj
  have mk : ∀ ty, (Builtin.append_ #[26, 3] ty #[.slice (some ⟨b, 0, none⟩) i c, .int .i64 ((n : Int) + 1 - (i : Int))]).run Tryz.prog w = .ok (.slice (some ⟨w.heap.size, 0, none⟩) (n + 1) (grownCap w (n + 1) c 5)) (w.drew.alloc (.cells (insRow cs i (grownCap w (n + 1) c 5)) 5)) := fun ty => by
    have h := Lib.run_append_grow_zeros w 26 3 ty 5 i0 _ .i64 .i64 eu eui hi0 hz0 (some ⟨b, 0, none⟩) i c (cs.take i) hold (n + 1 - i) (by omega) (by omega) (by omega) (by omega) (by rw [hzb]; omega) (by rw [hzb, show i + (n + 1 - i) = n + 1 by omega]; exact growslice_fits hroom (by omega))
    rw [show i + (n + 1 - i) = n + 1 by omega] at h
    rw [show (n : Int) + 1 - (i : Int) = ((n + 1 - i : Nat) : Int) by omega]
    unfold insRow
    rw [hcl]
    exact h
  obtain ⟨G, hG⟩ : ∃ G, G = grownCap w (n + 1) c 5 := ⟨_, rfl⟩
  have hG1 : n + 1 ≤ G := by rw [hG]; exact grownCap_ge w _ _ _
  have hG2 : G ≤ 9223372036854775807 := by
    have := grownCap_le_maxLen w (n + 1) c 5 (by unfold maxLen; omega)
    rw [← hG] at this
    unfold maxLen at this
    omega
  rw [← hG] at mk ⊢
  have hRs : (insRow cs i G).size = G := by unfold insRow; simp [Builtin.zeroCells, Value.cells]; omega
  obtain ⟨R, hR⟩ : ∃ R, R = insRow cs i G := ⟨_, rfl⟩
  rw [← hR] at mk hRs ⊢
  obtain ⟨W1, hW1⟩ : ∃ W1, W1 = w.drew.alloc (.cells R 5) := ⟨_, rfl⟩
  rw [← hW1] at mk
  have fresh : ∀ j, j < n + 1 → (W1.cell? ⟨w.heap.size, j, none⟩).isSome = true := fun j hj => by
    rw [hW1, World.cell?_alloc_at (w := w.drew) R _ w.heap.size j rfl, Array.getElem?_eq_getElem (by omega)]; rfl
  have free : ∀ j, W1.frozen? ⟨w.heap.size, j, none⟩ = false := fun j => by rw [hW1]; exact World.frozen?_alloc_at (w := w.drew) R _ w.heap.size j rfl
  have old : ∀ a, a < w.heap.size → ∀ j v, w.cell? ⟨a, j, none⟩ = some v → W1.cell? ⟨a, j, none⟩ = some v := fun a ha j v h => by rw [hW1, World.cell?_alloc_past (w := w.drew) _ a j ha]; exact h
  have put : ∀ (W : World), (∀ q, W.cell? q = W1.cell? q) → (∀ q, W.frozen? q = W1.frozen? q) → ∀ ty dc, (Builtin.copy_ #[26, 26] ty #[.slice (some ⟨w.heap.size, i, none⟩) (n + 1 - i) dc, .slice (some ⟨vb, 0, none⟩) 1 vc]).run Tryz.prog W = .ok (goInt [x].length) (W.setCells w.heap.size i [x]) := fun W g1 g2 ty dc =>
    run_copy_cells W _ _ ty 5 w.heap.size i (n + 1 - i) dc ⟨vb, 0, none⟩ 1 vc [x] eu esz (by simp only [Nat.min_def, List.length_cons, List.length_nil]; split <;> omega)
      (fun j v hj => by
        cases j with
        | zero =>
          simp only [List.getElem?_cons_zero, Option.some.injEq] at hj
          subst hj
          rw [Addr.add_lit, g1]
          exact old vb hvw _ _ hx
        | succ j => simp at hj)
      (fun j hj => by simp only [List.length_cons, List.length_nil] at hj; rw [g1]; exact fresh (i + j) (by omega))
      (fun j hj => by rw [g2]; exact free _) (fun v hv => by simp at hv; subst hv; exact h1x)
  have hne : b ≠ w.heap.size := by omega
  have move : ∀ (W : World), (∀ q, W.cell? q = (W1.setCells w.heap.size i [x]).cell? q) → (∀ q, W.frozen? q = (W1.setCells w.heap.size i [x]).frozen? q) → ∀ ty dc sc, (Builtin.copy_ #[26, 26] ty #[.slice (some ⟨w.heap.size, i + 1, none⟩) (n - i) dc, .slice (some ⟨b, i, none⟩) (n - i) sc]).run Tryz.prog W = .ok (goInt (cs.drop i).length) (W.setCells w.heap.size (i + 1) (cs.drop i)) := fun W g1 g2 ty dc sc =>
    run_copy_cells W _ _ ty 5 w.heap.size (i + 1) (n - i) dc ⟨b, i, none⟩ (n - i) sc (cs.drop i) eu esz (by rw [hd]; simp only [Nat.min_def]; split <;> omega)
      (fun j v hj => by
        rw [List.getElem?_drop] at hj
        rw [Addr.add_lit, g1, World.cell?_setCells_out _ _ _ _ _ (fun h _ => absurd h hne)]
        exact old b hbw _ _ (hcs _ v hj))
      (fun j hj => by rw [hd] at hj; rw [g1]; exact isSome_setCells w.heap.size [x] i W1 (fun k hk => by simp only [List.length_cons, List.length_nil] at hk; exact fresh (i + k) (by omega)) (i + 1 + j) (fresh (i + 1 + j) (by omega)))
      (fun j hj => by rw [g2, World.frozen?_setCells]; exact free _) (fun v hv => h1c v (List.mem_of_mem_drop hv))
  subst hW1
  have mixed : Tryz.prog.follows .mixedOrders = true := by kernel_rfl
  have f1 : ∀ q, ((w.alloc (.cells R 5)).drew).cell? q = (w.drew.alloc (.cells R 5)).cell? q := fun _ => rfl
  have f2 : ∀ q, ((w.alloc (.cells R 5)).drew).frozen? q = (w.drew.alloc (.cells R 5)).frozen? q := fun _ => rfl
  have f3 : ∀ q, (((w.alloc (.cells R 5)).drew.setCells w.heap.size i [x]).drew).cell? q = ((w.drew.alloc (.cells R 5)).setCells w.heap.size i [x]).cell? q := fun _ => rfl
  have f4 : ∀ q, (((w.alloc (.cells R 5)).drew.setCells w.heap.size i [x]).drew).frozen? q = ((w.drew.alloc (.cells R 5)).setCells w.heap.size i [x]).frozen? q := fun _ => rfl
  have e1 : IntKind.i64.wrap ((i : Int) + 1) = (i : Int) + 1 := by rw [IntKind.wrap_i64]; omega
  have e2 : IntKind.i64.wrap ((n : Int) + 1) = (n : Int) + 1 := by rw [IntKind.wrap_i64]; omega
  have e12 : IntKind.i64.wrap ((n : Int) + 1 - (i : Int)) = (n : Int) + 1 - (i : Int) := by rw [IntKind.wrap_i64]; omega
  have e3 : (c : Int) < (n : Int) + 1 := by omega
  have e4 : ((i : Int) + 1).toNat = i + 1 := by omega
  have e6 : ¬ (G = i + 1) := by omega
  have e7 : ¬ (G = i) := by omega
  have e13 : ¬ (c = i) := by omega
  have e8 : i ≤ n := by omega
  have e9 : (0 : Int) ≤ (i : Int) + 1 := by omega
  have e10 : (i : Int) ≤ (n : Int) := by omega
  have e11 : (i : Int) ≤ (n : Int) + 1 := by omega
  have e14 : i ≤ n + 1 := by omega
  clear hG hRs hR
  go_enter Tryz.func23, Tryz.ntmps23
  go_wp2_with (first
    | (at_builtin; refine Lib.wpList_append_run _ rfl _ _ _ _ rfl _ _ rfl rfl _ _ (mk _) ?_)
    | (at_builtin; refine wpList_copy_runI _ rfl _ _ 26 26 rfl _ _ rfl rfl (put _ f1 f2 _ _) ?_)
    | (at_builtin; refine wpList_copy_runI _ rfl _ _ 26 26 rfl _ _ rfl rfl (put _ (fun _ => rfl) (fun _ => rfl) _ _) ?_))
  go_region_law_o (refine step_copy_runI rfl _ _ 26 26 rfl (.slice (some ⟨w.heap.size, i + 1, none⟩) (n - i) (G - (i + 1))) (.slice (some ⟨b, i, none⟩) (n - i) (c - i)) (by simp [Act.eval, Act.put]) (by simp [Act.eval, Act.put]) (move _ f3 f4 _ _ _) ?_)
  go_wp2
  go_ret
  first | exact ⟨rfl, rfl⟩ | trace_state
end Go.Proofs.YtnodfnjmhcjnfaaGreat
