/- strings.Repeat: how long its answer is. Condition: a few hundred bytes. -/
import Derived.Test.YtlnfiflbpmicgaaGreatDoorHVTxtB
import Derived.Lib.FrozenHead
import Derived.Deep.LoopGhost
set_option linter.all false
namespace Go.Proofs.YtlnfiflbpmicgaaGreatDoor
open Go Go.RowKit Go.Shelf
set_option maxRecDepth 100000
set_option maxHeartbeats 4000000
def BldW (B b n : Nat) (w : World) : Prop := ∃ l : List UInt8, l.length = n ∧ Lib.BuilderAtF 185 5 B b (.pointer (some ⟨b, 0, none⟩)) (Lib.byteCells l) w
theorem neBu : (185 : Nat) ≠ 5 := by decide
theorem wrF (B b n : Nat) (s : ByteArray) (w : World) (h : BldW B b n w) (hs : n + s.size ≤ 1000000) (hB : B ≤ w.heap.size) :
    Calls Tryz.prog 132 #[.pointer (some ⟨b, 0, none⟩), .string s] w fun e w' => e = .returned (.tuple #[.int .i64 s.size, .nilIface]) ∧ BldW B b (n + s.size) w' ∧ Below B w w' := by
  obtain ⟨l, rfl, h⟩ := h
  have hc0 := h.cell0
  obtain ⟨hBb, v, hbk, hown, hne⟩ := h
  have hlc : (Lib.byteCells l).length = l.length := Lib.byteCells_length l
  have c1 : w.cell? ⟨b, 1, none⟩ = some v := by rw [Lib.cell_of_heap hbk]; rfl
  have mixed : Tryz.prog.follows .mixedOrders = true := by kernel_rfl
  have hf : Tryz.prog.funcs[132]? = some Tryz.f132 := by kernel_rfl
  have hnt : Tryz.f132.ntmps = 19 := by kernel_rfl
  have e1 : ∀ args w, (callFunc 204 args).run Tryz.prog w = .ok (.enter 204 args) w := enters_of Tryz.func204 (by kernel_rfl) rfl
  have t37 : Tryz.prog.underlying 131 = some (.slice 5) := by kernel_rfl
  have t9 : Tryz.prog.underlying 9 = some .string := by kernel_rfl
  have hi : (Tryz.prog.info? 5).map (fun i => (i.zero, i.size, i.bytes)) = some (some (.int .u8 0), 1, 1) := by kernel_rfl
  obtain ⟨i0, hi0, hz0, hz1, hz2⟩ := info_parts hi
  go_enter hf, hnt
  go_wp2_with (go_at_fn 204; refine (ccUsed b _ hc0).mono ?_)
  rintro e w1 ⟨rfl, rfl⟩
  go_wp2_with (at_builtin; refine Lib.wpList_append_own_stringF _ rfl _ _ 131 9 rfl B 5 i0 t37 t9 hi0 hz0 hz1 hz2 _ _ _ rfl hown s rfl ?q1 ?q2 ?q3 ?_)
  case q1 => rw [hlc]; unfold maxLen; omega
  case q2 => rw [hlc]; omega
  case q3 => exact hB
  intro v2 w2 own2 grow2 _
  have hlt : b < w1.heap.size := by
    rcases Nat.lt_or_ge b w1.heap.size with h' | h'
    · exact h'
    · simp [Array.getElem?_eq_none h'] at hbk
  have hb2 : w2.heap[b]? = some (.cells #[.pointer (some ⟨b, 0, none⟩), v] 185 (0, 0)) := (grow2.block b hlt (fun e => hne e.symm)).trans hbk
  have d1 : w2.cell? ⟨b, 1, none⟩ = some v := by rw [Lib.cell_of_heap hb2]; rfl
  have f1 : w2.frozen? ⟨b, 1, none⟩ = false := Lib.frozen_of_heap hb2 1
  obtain ⟨ao, n2, cap2, rfl⟩ : ∃ ao n2 cap2, v2 = .slice ao n2 cap2 := by
    rcases own2.2 with ⟨hv, _⟩ | ⟨g, cap, cur, fz, hv, _⟩
    · exact ⟨_, _, _, hv⟩
    · exact ⟨_, _, _, hv⟩
  have hall : Lib.byteCells l ++ Lib.strCells s = Lib.byteCells (l ++ s.data.toList) := by rw [Lib.strCells_eq, Lib.byteCells_append]
  rw [hall] at own2
  have hfin : BldW B b (l.length + s.size) (w2.setCell ⟨b, 1, none⟩ (.slice ao n2 cap2)) := by
    refine ⟨l ++ s.data.toList, by rw [List.length_append, ← Lib.size_eq], Lib.BuilderAtF.put hBb hb2 ?_ neBu⟩
    rw [Lib.byteCells_length, List.length_append, ← Lib.size_eq]
    exact own2
  have hbel : Below B w1 (w2.setCell ⟨b, 1, none⟩ (.slice ao n2 cap2)) := ((Below.refl B w1).grown grow2 hB (fun k hk => (hown.lt k hk).1)).setCell (p := ⟨b, 1, none⟩) hBb _
  go_wp2
  go_ret2
  exact ⟨rfl, hfin, hbel⟩
theorem strF (B b n : Nat) (w : World) (h : BldW B b n w) (hn : 0 < n ∧ n ≤ 1000000) :
    Calls Tryz.prog 134 #[.pointer (some ⟨b, 0, none⟩)] w fun e w' => (∃ t : ByteArray, t.size = n ∧ e = .returned (.string t)) ∧ BldW B b n w' ∧ Below B w w' := by
  obtain ⟨l, rfl, h⟩ := h
  have h' := h
  obtain ⟨hBb, v, hbk, hown, hne⟩ := h
  rw [Lib.byteCells_length] at hown
  obtain ⟨g, cap, cur, fz, rfl, hbg, hg, hfz, hnc, hcm, hcs, htk⟩ : ∃ g cap cur fz, v = .slice (some ⟨g, 0, none⟩) l.length cap ∧ B ≤ g ∧ w.heap[g]? = some (.cells cur 5 fz) ∧ fz.2 ≤ l.length * 1 ∧ l.length ≤ cap ∧ cap ≤ maxLen ∧ cur.size = cap * 1 ∧ cur.toList.take (l.length * 1) = Lib.byteCells l := by
    rcases hown.2 with ⟨_, hz⟩ | ⟨g, cap, cur, fz, hv, r⟩
    · omega
    · exact ⟨g, cap, cur, fz, hv, r⟩
  have c1 : w.cell? ⟨b, 1, none⟩ = some (.slice (some ⟨g, 0, none⟩) l.length cap) := by rw [Lib.cell_of_heap hbk]; rfl
  refine Calls.mono (bldStr1 b g cap l w (by intro e; subst e; simp at hn) hnc (by unfold maxLen at hcm; omega) c1 (by unfold World.shape?; rw [hg]; dsimp only; rw [hcs, Nat.mul_one]) (fun j x hx => ?_)) ?_
  · exact hown.cells (g := g) rfl j (.int .u8 x.toNat) (by simp [Lib.byteCells, hx])
  · rintro e w' ⟨rfl, rfl⟩
    have hF := (Lib.BuilderAtF.drew h').froze (g := g) (cap := cap) (by rw [Lib.byteCells_length]; exact c1)
    rw [Lib.byteCells_length] at hF
    exact ⟨⟨_, tB_size l, rfl⟩, ⟨l, rfl, hF⟩, Lib.below_freeze (Below.drew (Below.refl B w)) (p := ⟨g, 0, none⟩) hbg _⟩
theorem lnF (B b n : Nat) (w : World) (h : BldW B b n w) (hn : n ≤ 1000000) :
    Calls Tryz.prog 133 #[.pointer (some ⟨b, 0, none⟩)] w fun e w' => e = .returned (.int .i64 n) ∧ w' = w := by
  obtain ⟨l, rfl, h⟩ := h
  obtain ⟨hBb, v, hbk, hown, hne⟩ := h
  rw [Lib.byteCells_length] at hown
  obtain ⟨ao, cap, rfl⟩ : ∃ ao cap, v = .slice ao l.length cap := by
    rcases hown.2 with ⟨hv, h0⟩ | ⟨g, cap, cur, fz, hv, _⟩
    · exact ⟨none, 0, by rw [hv, h0]⟩
    · exact ⟨_, _, hv⟩
  have c1 : w.cell? ⟨b, 1, none⟩ = some (.slice ao l.length cap) := by rw [Lib.cell_of_heap hbk]; rfl
  have mixed : Tryz.prog.follows .mixedOrders = true := by kernel_rfl
  have hf : Tryz.prog.funcs[133]? = some Tryz.f133 := by kernel_rfl
  have hnt : Tryz.f133.ntmps = 8 := by kernel_rfl
  go_enter hf, hnt
  go_wp2
  go_ret
  exact ⟨rfl, rfl⟩
theorem grF (B b n : Nat) (w : World) (hBb : B ≤ b) (hB : B ≤ w.heap.size) (h : w.heap[b]? = some (.cells #[.pointer none, .slice none 0 0] 185 (0, 0))) (hn : 0 < n ∧ n ≤ 1000000) :
    Calls Tryz.prog 131 #[.pointer (some ⟨b, 0, none⟩), .int .i64 n] w fun e w' => e = .returned (.tuple #[]) ∧ BldW B b 0 w' ∧ Below B w w' := by
  have h0 : w.cell? ⟨b, 0, none⟩ = some (.pointer none) := by rw [Lib.cell_of_heap h]; rfl
  have hsh : w.shape? b = some (185, 1 * 2) := by unfold World.shape?; rw [h]; rfl
  have hcc := ccFresh b 1 (by decide) w h0 hsh (Lib.frozen_of_heap h 0)
  obtain ⟨w1, hw1⟩ : ∃ w1, w1 = w.setCell ⟨b, 0, none⟩ (.pointer (some ⟨b, 0, none⟩)) := ⟨_, rfl⟩
  rw [← hw1] at hcc
  have hb1 : w1.heap[b]? = some (.cells #[.pointer (some ⟨b, 0, none⟩), .slice none 0 0] 185 (0, 0)) := by
    rw [hw1]
    simp [World.setCell, Array.getElem?_modify, h]
  have hb1' : w1.drew.heap[b]? = some (.cells #[.pointer (some ⟨b, 0, none⟩), .slice none 0 0] 185 (0, 0)) := hb1
  have hbel1 : Below B w w1 := by
    rw [hw1]
    exact (Below.refl B w).setCell (p := ⟨b, 0, none⟩) hBb _
  have c1 : w1.cell? ⟨b, 1, none⟩ = some (.slice none 0 0) := by rw [Lib.cell_of_heap hb1]; rfl
  have c2 : w1.drew.cell? ⟨b, 1, none⟩ = some (.slice none 0 0) := c1
  have hsz1 := hbel1.size
  have hgr := growC b n w1.drew _ (by omega) hb1' rfl
  have mixed : Tryz.prog.follows .mixedOrders = true := by kernel_rfl
  have hf : Tryz.prog.funcs[131]? = some Tryz.f131 := by kernel_rfl
  have hnt : Tryz.f131.ntmps = 25 := by kernel_rfl
  have e1 : ∀ args w, (callFunc 204 args).run Tryz.prog w = .ok (.enter 204 args) w := enters_of Tryz.func204 (by kernel_rfl) rfl
  have e2 : ∀ args w, (callFunc 205 args).run Tryz.prog w = .ok (.enter 205 args) w := enters_of Tryz.func205 (by kernel_rfl) rfl
  have hlt0 : ¬ (n : Int) < 0 := by omega
  have hlt1 : (0 : Int) < n := by omega
  have hfin : ∀ w' : World, (∃ cs : Array Value, n ≤ cs.size ∧ cs.size ≤ maxLen ∧ w' = ((w1.drew.alloc (.cells cs 5)).setCell ⟨b, 1, none⟩ (.slice (some ⟨w1.drew.heap.size, 0, none⟩) 0 cs.size)).drew.drew.drew) → BldW B b 0 w' ∧ Below B w w' := by
    rintro w' ⟨cs, g1, g2, rfl⟩
    have := Lib.grown_fresh (e := 5) hBb hb1' (show B ≤ w1.drew.heap.size by have : w1.drew.heap.size = w1.heap.size := rfl; omega) g2 neBu
    exact ⟨⟨[], rfl, Lib.BuilderAtF.of this.1⟩, hbel1.trans ((Below.drew (Below.refl B w1)).trans this.2)⟩
  clear hw1
  go_enter hf, hnt
  go_wp2_with (go_at_fn 204; refine hcc.mono ?_; rintro e w2 ⟨rfl, rfl⟩)
  go_region_o
  all_goals go_wp2_with (go_at_fn 205; refine hgr.mono ?_; rintro e w3 ⟨cs, q1, q2, rfl, q4⟩)
  all_goals go_end0
  all_goals exact ⟨rfl, hfin _ ⟨cs, q1, q2, rfl⟩⟩
theorem repC {H : Hp} {K : AV → Hp → Prop} (s : ByteArray) (c N : Nat) (hN : s.size * c = N) (h0 : 0 < s.size ∧ s.size ≤ 10) (hc : 2 ≤ c ∧ c ≤ 300) (hb : ∀ h : 0 < s.size, s[0]'h ≠ 32 ∧ s[0]'h ≠ 45 ∧ s[0]'h ≠ 48 ∧ s[0]'h ≠ 61 ∧ s[0]'h ≠ 9)
    (hm : ∀ K : AV → Hp → Prop, K (.tup [.c (.int .u64 0), .c (.int .u64 N)]) H → ACalls Tryz.prog 129 [.c (.int .u64 s.size), .c (.int .u64 c)] H K)
    (hk : ∀ t : ByteArray, t.size = N → K (.c (.str t)) H) : ACalls Tryz.prog 56 [(.c (.str s)), (.c (.int .i64 c))] H K := by
  intro B w0 ι w vs hs hr ho
  obtain ⟨vl⟩ := vs
  match vl, hr with
  | [v, u], hr =>
    have hv : v = .string s := hr.1
    have hu : u = .int .i64 c := hr.2.1
    subst hv; subst hu
    have hmul := hm (fun v H' => v = .tup [.c (.int .u64 0), .c (.int .u64 N)] ∧ H' = H) ⟨rfl, rfl⟩ B w0 ι w #[.int .u64 s.size, .int .u64 c] hs ⟨rfl, rfl, trivial⟩ (by simp [AV.ok1, AC.ok])
    have hmul2 : Calls Tryz.prog 129 #[.int .u64 s.size, .int .u64 c] w fun e w' => e = .returned (.tuple #[.int .u64 0, .int .u64 N]) ∧ ∃ ι1, Agree H.length ι ι1 ∧ Sim B w0 ι1 H w' := by
      refine hmul.mono ?_
      rintro e w' ⟨ι1, v1, av, H1, rfl, g2, g3, g4, g5, g6, rfl, rfl⟩
      obtain ⟨us, hu1, hu2⟩ := g5
      match us, hu2 with
      | [x, y], hu2 =>
        have hx : x = .int .u64 0 := hu2.1
        have hy : y = .int .u64 N := hu2.2.1
        subst hx hy hu1
        exact ⟨rfl, ι1, g2, g4⟩
    clear hmul
    have hne : ∀ (x y : UInt8) (n : Int), (y.toNat : Int) = n → x ≠ y → ((x.toNat : Int) == n) = false := fun x y n hy hxy => by
      rw [beq_eq_false_iff_ne]
      intro h
      exact hxy (UInt8.toNat_inj.1 (by omega))
    have q1 := hne _ 32 32 rfl (hb h0.1).1
    have q2 := hne _ 45 45 rfl (hb h0.1).2.1
    have q3 := hne _ 48 48 rfl (hb h0.1).2.2.1
    have q4 := hne _ 61 61 rfl (hb h0.1).2.2.2.1
    have q5 := hne _ 9 9 rfl (hb h0.1).2.2.2.2
    clear hne hm hb
    have hN1 : N ≤ 3000 := by rw [← hN]; exact Nat.le_trans (Nat.mul_le_mul h0.2 hc.2) (by decide)
    have hsN : s.size ≤ N := by rw [← hN]; exact Nat.le_mul_of_pos_right _ (by omega)
    have hN2 : 2 ≤ N := by rw [← hN]; exact Nat.le_trans (by omega) (Nat.mul_le_mul h0.1 hc.1)
    have mixed : Tryz.prog.follows .mixedOrders = true := by kernel_rfl
    have hf : Tryz.prog.funcs[56]? = some Tryz.f56 := by kernel_rfl
    have hnt : Tryz.f56.ntmps = 125 := by kernel_rfl
    have e1 : ∀ args w, (callFunc 129 args).run Tryz.prog w = .ok (.enter 129 args) w := enters_of Tryz.func129 (by kernel_rfl) rfl
    have e2 : ∀ args w, (callFunc 131 args).run Tryz.prog w = .ok (.enter 131 args) w := enters_of Tryz.func131 (by kernel_rfl) rfl
    have e3 : ∀ args w, (callFunc 132 args).run Tryz.prog w = .ok (.enter 132 args) w := enters_of Tryz.func132 (by kernel_rfl) rfl
    have e4 : ∀ args w, (callFunc 133 args).run Tryz.prog w = .ok (.enter 133 args) w := enters_of Tryz.func133 (by kernel_rfl) rfl
    have e5 : ∀ args w, (callFunc 134 args).run Tryz.prog w = .ok (.enter 134 args) w := enters_of Tryz.func134 (by kernel_rfl) rfl
    go_enter hf, hnt
    go_wp2_with (go_at_fn 129; refine hmul2.mono ?_; rintro e w1 ⟨rfl, ι1, g1, g2⟩)
    obtain ⟨w2, hw2⟩ : ∃ w2, w2 = w1.alloc (.cells #[.pointer none, .slice none 0 0] 185) := ⟨_, rfl⟩
    have b2 : Below w1.heap.size w1 w2 := by rw [hw2]; exact (Below.refl _ w1).alloc (Nat.le_refl _) _
    have n2 : w2.heap[w1.heap.size]? = some (.cells #[.pointer none, .slice none 0 0] 185 (0, 0)) := by rw [hw2]; exact heap_alloc_new w1 _
    have cG := grF w1.heap.size w1.heap.size N w2 (Nat.le_refl _) b2.size n2 (by omega)
    rw [← hw2]
    go_wp2_with (go_at_fn 131; refine cG.mono ?_; rintro e w3 ⟨rfl, h3, b3⟩)
    have b13 := b2.trans b3
    have cW := wrF w1.heap.size w1.heap.size 0 s w3 h3 (by omega) b13.size
    rw [Nat.zero_add] at cW
    go_wp2_with (go_at_fn 132; refine cW.mono ?_; rintro e w4 ⟨rfl, h4, b4⟩)
    have b14 := b13.trans b4
    clear cG cW h3 b2 b3 b4 b13 n2 hw2
    go_loopg [] (N - s.size) (fun g wx => ∃ q : Nat, 1 ≤ q ∧ q + g = N ∧ BldW w1.heap.size w1.heap.size q wx ∧ Below w1.heap.size w1 wx)
    case atStart => exact ⟨s.size, h0.1, by omega, h4, b14⟩
    case round =>
      obtain ⟨q, hq1, hqg, hB, hbx⟩ := hrel
      have cL := lnF _ _ _ wr hB (by omega)
      have cS := strF _ _ _ wr hB (by omega)
      cases gk with
      | zero =>
        have hqN : ¬ ((q : Int) < (N : Int)) := by omega
        go_wp2_with (first
          | (go_at_fn 133; refine cL.mono ?_; rintro e w5 ⟨rfl, hw⟩; rw [hw])
          | (go_at_fn 134; refine cS.mono ?_; rintro e w6 ⟨⟨t, ht, rfl⟩, h6, b6⟩))
        go_ret
        have hb := hbx.trans b6
        exact ⟨ι1, .string t, .c (.str t), H, rfl, g1, Nat.le_refl _, g2.grown ⟨hb.os, hb.tape, hb.output, hb.size, fun k hk _ => hb.block k hk⟩, rfl, trivial, hk t (by omega)⟩
      | succ g =>
        have hqN : (q : Int) < (N : Int) := by omega
        obtain ⟨CH, hCH⟩ : ∃ CH, CH = min (min (N - q) q) N := ⟨_, rfl⟩
        have hmin : ∀ (ts : Array TypeId) (t : TypeId) (W : World), (Builtin.min_ ts t #[.int .i64 ((N : Int) - (q : Int)), .int .i64 (q : Int), .int .i64 (N : Int)]).run Tryz.prog W = .ok (.int .i64 (CH : Int)) W := fun ts t W => by
          simp [Builtin.min_, Builtin.min2]
          repeat' split
          all_goals (congr 2; omega)
        have k1 : 1 ≤ CH ∧ CH ≤ q ∧ q + CH ≤ N := by omega
        clear hCH
        go_wp2_with (first
          | (go_at_fn 133; refine cL.mono ?_; rintro e w5 ⟨rfl, hw⟩; rw [hw])
          | (go_at_fn 134; refine cS.mono ?_; rintro e w6 ⟨⟨t, ht, rfl⟩, h6, b6⟩))
        have hex : (t.extract 0 CH).size = CH := by rw [ByteArray.size_extract]; omega
        have cW := wrF _ _ q (t.extract 0 CH) w6 h6 (by omega) (Nat.le_trans hbx.size b6.size)
        rw [hex] at cW
        go_wp2_with (go_at_fn 132; refine cW.mono ?_; rintro e w7 ⟨rfl, h7, b7⟩)
        go_roundg (N - (q + CH))
        case measure => omega
        case rel => exact ⟨q + CH, by omega, by omega, h7, hbx.trans (b6.trans b7)⟩
theorem mul64C_a {H : Hp} {K : AV → Hp → Prop} (x y N : Int) (h : (x, y, N) ∈ ([(1, 40, 40), (1, 41, 41), (1, 20, 20), (1, 21, 21), (1, 22, 22), (2, 249, 498), (2, 250, 500)] : List (Int × Int × Int))) (hk : K (.tup [.c (.int .u64 0), .c (.int .u64 N)]) H) : ACalls Tryz.prog 202 [.c (.int .u64 x), .c (.int .u64 y)] H K := by
  have hf : ∀ {n : Nat} (a b : Int), HOk H → n ≤ H.length → a = 0 → b = N → Ret n (.tup [.c (.int .u64 a), .c (.int .u64 b)]) H K := fun a b hH hn h1 h2 => by
    subst h1 h2
    exact Ret.same hn hk
  simp only [List.mem_cons, List.not_mem_nil, or_false, Prod.mk.injEq] at h
  rcases h with ⟨rfl, rfl, rfl⟩ | ⟨rfl, rfl, rfl⟩ | ⟨rfl, rfl, rfl⟩ | ⟨rfl, rfl, rfl⟩ | ⟨rfl, rfl, rfl⟩ | ⟨rfl, rfl, rfl⟩ | ⟨rfl, rfl, rfl⟩
  all_goals
    refine acalls Tryz.func202 rfl (by kernel_rfl) (by simp (disch := first | omega | (simp only [go_sem]; try omega)) only [go_sem]) (fun hH => ?_)
    simp (disch := first | omega | (simp only [go_sem]; try omega)) only [go_sem]
    exact hf _ _ hH (Nat.le_refl _) (by decide +kernel) (by decide +kernel)
theorem mulC_a {H : Hp} {K : AV → Hp → Prop} (x y N : Int) (h : (x, y, N) ∈ ([(1, 40, 40), (1, 41, 41), (1, 20, 20), (1, 21, 21), (1, 22, 22), (2, 249, 498), (2, 250, 500)] : List (Int × Int × Int))) (hk : K (.tup [.c (.int .u64 0), .c (.int .u64 N)]) H) : ACalls Tryz.prog 129 [.c (.int .u64 x), .c (.int .u64 y)] H K := by
  have hb : (0 ≤ x ∧ x < 1000) ∧ (0 ≤ y ∧ y < 1000) := by
    simp only [List.mem_cons, List.not_mem_nil, or_false, Prod.mk.injEq] at h
    omega
  refine acalls Tryz.func129 rfl (by kernel_rfl) (by simp (disch := first | omega | (simp only [go_sem]; try omega)) only [go_sem]) (fun hH => ?_)
  simp (disch := first | omega | (simp only [go_sem]; try omega)) only [go_sem]
  refine mul64C_a x y N h ?_
  simp (disch := first | omega | (simp only [go_sem]; try omega)) only [go_sem]
  exact Ret.same (Nat.le_refl _) hk
theorem repOne_a {H : Hp} {K : AV → Hp → Prop} (s : ByteArray) (c : Nat) (h : (s, c) ∈ [((⟨#[97]⟩ : ByteArray), 40), (⟨#[97]⟩, 41), (⟨#[40]⟩, 20), (⟨#[40]⟩, 21), (⟨#[40]⟩, 22), (⟨#[41]⟩, 20), (⟨#[41]⟩, 21), (⟨#[41]⟩, 22), (⟨#[97, 43]⟩, 249), (⟨#[97, 43]⟩, 250)])
    (hk : ∀ t : ByteArray, t.size = s.size * c → K (.c (.str t)) H) : ACalls Tryz.prog 56 [(.c (.str s)), (.c (.int .i64 c))] H K := by
  simp only [List.mem_cons, List.not_mem_nil, or_false, Prod.mk.injEq] at h
  rcases h with ⟨rfl, rfl⟩ | ⟨rfl, rfl⟩ | ⟨rfl, rfl⟩ | ⟨rfl, rfl⟩ | ⟨rfl, rfl⟩ | ⟨rfl, rfl⟩ | ⟨rfl, rfl⟩ | ⟨rfl, rfl⟩ | ⟨rfl, rfl⟩ | ⟨rfl, rfl⟩
  all_goals
    refine repC _ _ _ rfl (by decide) (by decide) (by decide) (fun K h => ?_) hk
    exact mulC_a _ _ _ (by decide) h
theorem repDash_a {H : Hp} {K : AV → Hp → Prop} (c : Nat) (h : c = 20 ∨ c = 21 ∨ c = 22) (hk : ∀ t : ByteArray, t.size = c → K (.c (.str t)) H) : ACalls Tryz.prog 56 [(.c (.str (⟨#[45]⟩))), (.c (.int .i64 c))] H K := by
  have hp : ∀ (l : List UInt8) (b : Bool), l.length ≤ 1000000 → decide (l.head? = some 45) = b → ∀ {G : Hp} {J : AV → Hp → Prop}, J (.c (.bool b)) G → ACalls Tryz.prog 130 [(.c (.str (tB l))), (.c (.str (⟨#[45]⟩)))] G J := fun l b hl hb {G J} hJ => by
    refine acalls Tryz.func130 rfl (by kernel_rfl) (by simp (disch := first | omega | (simp only [go_sem]; try omega)) only [go_sem]) (fun hH => ?_)
    simp (disch := first | omega | (simp only [go_sem]; try omega)) only [go_sem]
    refine hasP_a l 45 hl ?_
    rw [hb]
    simp (disch := first | omega | (simp only [go_sem]; try omega)) only [go_sem]
    exact Ret.same (Nat.le_refl _) hJ
  have z1 : decide ((((#[45] : Array UInt8).size : Nat) : Int) = 0) = false := by decide
  have z2 : ((([45].getD 0 0 : UInt8).toNat : Nat) : Int) = 45 := by decide
  rcases h with rfl | rfl | rfl
  · refine acalls Tryz.func56 rfl (by kernel_rfl) (by simp (disch := first | omega | (simp only [go_sem]; try omega)) only [go_sem]) (fun hH => ?_)
    simp (disch := first | omega | (simp only [go_sem]; try omega)) only [go_sem]
    refine mulC_a 1 20 20 (by decide) ?_
    simp (disch := first | omega | (simp only [go_sem]; try omega)) only [go_sem, z1]
    refine ⟨by decide, ?_⟩
    simp (disch := first | omega | (simp only [go_sem]; try omega)) only [go_sem, z2]
    refine hp _ false (by decide) (by decide) ?_
    simp (disch := first | omega | (simp only [go_sem]; try omega)) only [go_sem]
    refine hp _ true (by decide) (by decide) ?_
    simp (disch := first | omega | (simp only [go_sem]; try omega)) only [go_sem]
    refine ⟨by decide, ?_⟩
    simp (disch := first | omega | (simp only [go_sem]; try omega)) only [go_sem]
    exact Ret.same (Nat.le_refl _) (hk _ (by decide +kernel))
  · refine acalls Tryz.func56 rfl (by kernel_rfl) (by simp (disch := first | omega | (simp only [go_sem]; try omega)) only [go_sem]) (fun hH => ?_)
    simp (disch := first | omega | (simp only [go_sem]; try omega)) only [go_sem]
    refine mulC_a 1 21 21 (by decide) ?_
    simp (disch := first | omega | (simp only [go_sem]; try omega)) only [go_sem, z1]
    refine ⟨by decide, ?_⟩
    simp (disch := first | omega | (simp only [go_sem]; try omega)) only [go_sem, z2]
    refine hp _ false (by decide) (by decide) ?_
    simp (disch := first | omega | (simp only [go_sem]; try omega)) only [go_sem]
    refine hp _ true (by decide) (by decide) ?_
    simp (disch := first | omega | (simp only [go_sem]; try omega)) only [go_sem]
    refine ⟨by decide, ?_⟩
    simp (disch := first | omega | (simp only [go_sem]; try omega)) only [go_sem]
    exact Ret.same (Nat.le_refl _) (hk _ (by decide +kernel))
  · refine acalls Tryz.func56 rfl (by kernel_rfl) (by simp (disch := first | omega | (simp only [go_sem]; try omega)) only [go_sem]) (fun hH => ?_)
    simp (disch := first | omega | (simp only [go_sem]; try omega)) only [go_sem]
    refine mulC_a 1 22 22 (by decide) ?_
    simp (disch := first | omega | (simp only [go_sem]; try omega)) only [go_sem, z1]
    refine ⟨by decide, ?_⟩
    simp (disch := first | omega | (simp only [go_sem]; try omega)) only [go_sem, z2]
    refine hp _ false (by decide) (by decide) ?_
    simp (disch := first | omega | (simp only [go_sem]; try omega)) only [go_sem]
    refine hp _ true (by decide) (by decide) ?_
    simp (disch := first | omega | (simp only [go_sem]; try omega)) only [go_sem]
    refine ⟨by decide, ?_⟩
    simp (disch := first | omega | (simp only [go_sem]; try omega)) only [go_sem]
    exact Ret.same (Nat.le_refl _) (hk _ (by decide +kernel))
end Go.Proofs.YtlnfiflbpmicgaaGreatDoor
