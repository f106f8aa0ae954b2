/- Several texts in one: A strings, and what follows. No condition. -/
import Derived.Test.YtagoolooikpabaaGreatDoorHVTxtS
import Derived.Test.YtagoolooikpabaaGreatDoorHCoreDrawS
import Derived.Test.YtagoolooikpabaaGreatDoorHVNums
import Derived.Shelf.Strings.BuilderK
import Derived.Lib.MakeNoZero
import Derived.Shelf.Strings.Split
import Derived.Lib.ReplaceLaws
set_option linter.all false
namespace Go.Proofs.YtagoolooikpabaaGreatDoor
open Go Go.RowKit Go.Shelf
set_option maxRecDepth 100000
set_option maxHeartbeats 4000000
variable {H : Hp} {K : AV → Hp → Prop}
theorem ccFresh (b c : Nat) (hc : 0 < c) (w : World) (h0 : w.cell? ⟨b, 0, none⟩ = some (.pointer none)) (hsh : w.shape? b = some (223, c * 2)) (hfz : w.frozen? ⟨b, 0, none⟩ = false) :
  Calls Tryz.prog 203 #[.pointer (some ⟨b, 0, none⟩)] w fun e w' => e = .returned (.tuple #[]) ∧ w' = w.setCell ⟨b, 0, none⟩ (.pointer (some ⟨b, 0, none⟩)) := by
 have mixed : Tryz.prog.follows .mixedOrders = true := by kernel_rfl
 have hf : Tryz.prog.funcs[203]? = some Tryz.f203 := by kernel_rfl
 have hn : Tryz.f203.ntmps = 20 := by kernel_rfl
 have t70 : Tryz.prog.underlying 221 = some (.pointer 223) := by kernel_rfl
 have t164 : Tryz.prog.underlying 323 = some .unsafePointer := by kernel_rfl
 have hjj : (Tryz.prog.info? 223).map (·.size) = some 2 := by kernel_rfl
 obtain ⟨j, hj, hjs⟩ := Option.map_eq_some_iff.1 hjj
 have f276 : Tryz.prog.funcs[254]? = some Tryz.f254 := by kernel_rfl
 have hcells : Tryz.prog.cellsOf 223 = 2 := by kernel_rfl
 have hdep : Tryz.prog.depth = (Tryz.prog.depth - 1) + 1 := by kernel_rfl
 have hlies : liesAt Tryz.prog Tryz.prog.depth 223 (c * 2 / Tryz.prog.cellsOf 223) 0 223 1 = true := by
  rw [hcells, Nat.mul_div_cancel _ (by omega : 0 < 2), hdep]
  unfold liesAt
  rw [Bool.or_eq_true]
  left
  rw [hdep]
  unfold rowAt
  rw [hcells]
  have hsl : sameLayout Tryz.prog (Tryz.prog.depth - 1 + 1) 223 223 = true := by kernel_rfl
  simp [hsl]
  left
  omega
 go_enter hf, hn
 go_wp2
 rw [Lib.run_to_unsafe w ⟨b, 0, none⟩ t70 t164 hj (by rw [hjs]; decide) hsh (by show 0 < c * 2; omega)]
 simp only [Result.andThen]
 rw [Oper.upon_value]
 go_wp2
 rw [run_callFunc_extern f276 kRf kRf kRf (e := Extern.AbiNoEscape.same) kRf]
 rw [Lib.run_noEscape]
 simp only [Result.andThen]
 rw [Oper.upon_value]
 go_wp2
 rw [Lib.run_from_unsafe w ⟨b, 0, none⟩ t164 t70 hj hsh hlies]
 simp only [Result.andThen]
 rw [Oper.upon_value]
 go_wp2
 go_end0
 exact ⟨rfl, rfl⟩
theorem ccUsed (b : Nat) (w : World) (h0 : w.cell? ⟨b, 0, none⟩ = some (.pointer (some ⟨b, 0, none⟩))) :
  Calls Tryz.prog 203 #[.pointer (some ⟨b, 0, none⟩)] w fun e w' => e = .returned (.tuple #[]) ∧ w' = w := by
 have mixed : Tryz.prog.follows .mixedOrders = true := by kernel_rfl
 have hf : Tryz.prog.funcs[203]? = some Tryz.f203 := by kernel_rfl
 have hn : Tryz.f203.ntmps = 20 := by kernel_rfl
 have t70 : Tryz.prog.underlying 221 = some (.pointer 223) := by kernel_rfl
 have hjj : (Tryz.prog.info? 223).map (·.size) = some 2 := by kernel_rfl
 obtain ⟨j, hj, hjs⟩ := Option.map_eq_some_iff.1 hjj
 go_enter hf, hn
 go_wp2
 rw [Lib.run_neq_ptr_same w _ t70 hj]
 go_wp2
 go_end0
 exact ⟨rfl, rfl⟩
end Go.Proofs.YtagoolooikpabaaGreatDoor
namespace Go.Proofs.YtagoolooikpabaaGreatDoor
open Go Go.RowKit Go.Shelf
set_option maxRecDepth 100000
set_option maxHeartbeats 4000000
variable {H : Hp} {K : AV → Hp → Prop}
theorem bldStr1 (b g cap : Nat) (l : List UInt8) (w : World) (h0 : l ≠ []) (hcap : l.length ≤ cap) (hcm : cap ≤ 9223372036854775807) (h1 : w.cell? ⟨b, 1, none⟩ = some (.slice (some ⟨g, 0, none⟩) l.length cap)) (hsh : w.shape? g = some (5, cap))
  (hcells : ∀ (j : Nat) x, l[j]? = some x → w.cell? ((⟨g, 0, none⟩ : Addr).add j) = some (.int .u8 x.toNat)) :
  Calls Tryz.prog 162 #[.pointer (some ⟨b, 0, none⟩)] w fun e w' => e = .returned (.string ⟨l.toArray⟩) ∧ w' = w.drew.freeze ⟨g, 0, none⟩ l.length := by
 have hl0 : l.length ≠ 0 := by simpa using h0
 have mixed : Tryz.prog.follows .mixedOrders = true := by kernel_rfl
 have hf : Tryz.prog.funcs[162]? = some Tryz.f162 := by kernel_rfl
 have hn : Tryz.f162.ntmps = 14 := by kernel_rfl
 have t127 : Tryz.prog.underlying 281 = some (.pointer 5) := by kernel_rfl
 have hcb : Tryz.prog.cellsOf 5 = 1 := by kernel_rfl
 have c1 : w.drew.cell? ⟨b, 1, none⟩ = some (.slice (some ⟨g, 0, none⟩) l.length cap) := h1
 have hSD : (Builtin.unsafeSliceData_ #[130] 281 #[.slice (some ⟨g, 0, none⟩) l.length cap]).run Tryz.prog w.drew = .ok (.pointer (some ⟨g, 0, none⟩)) w.drew :=
  Lib.run_unsafeSliceData_row _ _ _ _ _ _ oMg
 have hUS : (Builtin.unsafeString_ #[281, 3] 9 #[.pointer (some ⟨g, 0, none⟩), .int .i64 l.length]).run Tryz.prog w.drew = .ok (.string ⟨l.toArray⟩) (w.drew.freeze ⟨g, 0, none⟩ l.length) :=
  Lib.run_unsafeString_row w.drew 281 3 9 5 t127 hcb g cap hsh l h0 hcap oMg hcells
 go_enter hf, hn
 go_wp2
 go_region_o
 all_goals (go_wp2; go_ret; exact ⟨rfl, rfl⟩)
end Go.Proofs.YtagoolooikpabaaGreatDoor
namespace Go.Proofs.YtagoolooikpabaaGreatDoor
open Go Go.RowKit Go.Shelf
set_option maxRecDepth 100000
set_option maxHeartbeats 2000000
variable {H : Hp} {K : AV → Hp → Prop}
theorem growC (b n : Nat) (w : World) (cur : Array Value) (hn : n ≤ 100000000) (hb : w.heap[b]? = some (.cells cur 223 (0, 0))) (h1 : cur[1]? = some (.slice none 0 0)) :
  Calls Tryz.prog 204 #[.pointer (some ⟨b, 0, none⟩), .int .i64 n] w fun e w' => ∃ cs : Array Value, n ≤ cs.size ∧ cs.size ≤ maxLen ∧ e = .returned (.tuple #[]) ∧ w' = ((w.alloc (.cells cs 5)).setCell ⟨b, 1, none⟩ (.slice (some ⟨w.heap.size, 0, none⟩) 0 cs.size)).drew.drew.drew := by
 obtain ⟨cs, hrun, hle, hmax⟩ := Lib.run_makeNoZero (P := Tryz.prog) (w := w.drew) #[3] 130 5 kRf n oMg
 have hw : IntKind.i64.wrap (IntKind.i64.wrap 0 + (n : Int)) = n := by
  rw [IntKind.wrap_i64, IntKind.wrap_i64]
  omega
 have hfn : Tryz.prog.funcs[255]? = some Tryz.f255 := by kernel_rfl
 have hcall : (callFunc 255 #[.int .i64 (n : Int)]).run Tryz.prog w.drew = .ok (.value (.slice (some ⟨w.drew.heap.size, 0, none⟩) n cs.size)) (w.drew.drew.drew.alloc (.cells cs 5)) := by
  rw [run_callFunc_extern hfn kRf kRf kRf (e := Extern.BytealgMakeNoZero.makeNoZero #[3] #[130]) kRf, hrun]
  rfl
 have hw2 : IntKind.i64.wrap (n : Int) = n := by rw [IntKind.wrap_i64]; omega
 have hcall2 : (callFunc 255 #[.int .i64 (IntKind.i64.wrap (n : Int))]).run Tryz.prog w.drew = .ok (.value (.slice (some ⟨w.drew.heap.size, 0, none⟩) n cs.size)) (w.drew.drew.drew.alloc (.cells cs 5)) := by rw [hw2]; exact hcall
 have hcall3 : (callFunc 255 #[.int .i64 (IntKind.i64.wrap (IntKind.i64.wrap 0 + (n : Int)))]).run Tryz.prog w.drew = .ok (.value (.slice (some ⟨w.drew.heap.size, 0, none⟩) n cs.size)) (w.drew.drew.drew.alloc (.cells cs 5)) := by rw [hw]; exact hcall
 have hlt : b < w.heap.size := by
  rcases Nat.lt_or_ge b w.heap.size with h' | h'
  ·exact h'
  ·simp [Array.getElem?_eq_none h'] at hb
 have c0 : w.cell? ⟨b, 1, none⟩ = some (.slice none 0 0) := by rw [Lib.cell_of_heap hb]; simpa using h1
 have c1 : w.drew.cell? ⟨b, 1, none⟩ = some (.slice none 0 0) := c0
 have hb2 : (w.alloc (.cells cs 5)).heap[b]? = some (.cells cur 223 (0, 0)) := (Lib.alloc_old w _ b hlt).trans hb
 have c2 : (w.alloc (.cells cs 5)).cell? ⟨b, 1, none⟩ = some (.slice none 0 0) := by rw [Lib.cell_of_heap hb2]; simpa using h1
 have f2 : (w.alloc (.cells cs 5)).frozen? ⟨b, 1, none⟩ = false := Lib.frozen_of_heap hb2 1
 have t37 : Tryz.prog.underlying 130 = some (.slice 5) := by kernel_rfl
 have hsb : (Tryz.prog.info? 5).map (·.size) = some 1 := by kernel_rfl
 have hcopy : ∀ W : World, (Builtin.copy_ #[130, 130] 3 #[.slice (some ⟨w.heap.size, 0, none⟩) 0 cs.size, .slice none 0 0]).run Tryz.prog W = .ok (goInt 0) W :=
  fun W => run_copy_none W 130 130 3 5 _ _ 0 cs.size 0 0 t37 hsb rfl
 clear hw hw2
 have mixed : Tryz.prog.follows .mixedOrders = true := by kernel_rfl
 have hf : Tryz.prog.funcs[204]? = some Tryz.f204 := by kernel_rfl
 have hnt : Tryz.f204.ntmps = 30 := by kernel_rfl
 have hm2 := hmax (by unfold maxLen; omega)
 clear hmax hb hb2 h1 hlt
 go_enter hf, hnt
 go_wp2
 go_region_o
 all_goals (go_wp2; go_end0; exact ⟨cs, hle, hm2, rfl, rfl⟩)
end Go.Proofs.YtagoolooikpabaaGreatDoor
namespace Go.Proofs.YtagoolooikpabaaGreatDoor
open Go Go.RowKit Go.Shelf
set_option maxRecDepth 100000
set_option maxHeartbeats 4000000
def BldW (B b n : Nat) (w : World) : Prop := ∃ l : List UInt8, l.length = n ∧ Lib.BuilderAtF 223 5 B b (.pointer (some ⟨b, 0, none⟩)) (Lib.byteCells l) w
theorem neBu : (223 : Nat) ≠ 5 := by decide
theorem wrF (B b n : Nat) (s : ByteArray) (w : World) (h : BldW B b n w) (hs : n + s.size ≤ 1000000) (hB : B ≤ w.heap.size) :
  Calls Tryz.prog 160 #[.pointer (some ⟨b, 0, none⟩), .string s] w fun e w' => e = .returned (.tuple #[.int .i64 s.size, .nilIface]) ∧ BldW B b (n + s.size) w' ∧ Below B w w' := by
 obtain ⟨l, rfl, h⟩ := h
 have hc0 := h.cell0
 obtain ⟨hBb, v, hbk, hown, hne⟩ := h
 have hlc : (Lib.byteCells l).length = l.length := Lib.byteCells_length l
 have c1 : w.cell? ⟨b, 1, none⟩ = some v := by rw [Lib.cell_of_heap hbk]; rfl
 have mixed : Tryz.prog.follows .mixedOrders = true := by kernel_rfl
 have hf : Tryz.prog.funcs[160]? = some Tryz.f160 := by kernel_rfl
 have hnt : Tryz.f160.ntmps = 19 := by kernel_rfl
 have e1 : ∀ args w, (callFunc 203 args).run Tryz.prog w = .ok (.enter 203 args) w := enters_of Tryz.func203 kRf rfl
 have t37 : Tryz.prog.underlying 130 = some (.slice 5) := by kernel_rfl
 have t9 : Tryz.prog.underlying 9 = some .string := by kernel_rfl
 have hi : (Tryz.prog.info? 5).map (fun i => (i.zero, i.size, i.bytes)) = some (some (.int .u8 0), 1, 1) := by kernel_rfl
 obtain ⟨i0, hi0, hz0, hz1, hz2⟩ := info_parts hi
 go_enter hf, hnt
 go_wp2_with (go_at_fn 203; refine (ccUsed b _ hc0).mono ?_)
 rintro e w1 ⟨rfl, rfl⟩
 go_wp2_with (at_builtin; refine Lib.wpList_append_own_stringF _ rfl _ _ 130 9 rfl B 5 i0 t37 t9 hi0 hz0 hz1 hz2 _ _ _ rfl hown s rfl ?q1 ?q2 ?q3 ?_)
 case q1 => rw [hlc]; unfold maxLen; omega
 case q2 => rw [hlc]; omega
 case q3 => exact hB
 intro v2 w2 own2 grow2 _
 have hlt : b < w1.heap.size := by
  rcases Nat.lt_or_ge b w1.heap.size with h' | h'
  ·exact h'
  ·simp [Array.getElem?_eq_none h'] at hbk
 have hb2 : w2.heap[b]? = some (.cells #[.pointer (some ⟨b, 0, none⟩), v] 223 (0, 0)) := (grow2.block b hlt (fun e => hne e.symm)).trans hbk
 have d1 : w2.cell? ⟨b, 1, none⟩ = some v := by rw [Lib.cell_of_heap hb2]; rfl
 have f1 : w2.frozen? ⟨b, 1, none⟩ = false := Lib.frozen_of_heap hb2 1
 obtain ⟨ao, n2, cap2, rfl⟩ : ∃ ao n2 cap2, v2 = .slice ao n2 cap2 := by
  rcases own2.2 with ⟨hv, _⟩ | ⟨g, cap, cur, fz, hv, _⟩
  ·exact ⟨_, _, _, hv⟩
  ·exact ⟨_, _, _, hv⟩
 have hall : Lib.byteCells l ++ Lib.strCells s = Lib.byteCells (l ++ s.data.toList) := by rw [Lib.strCells_eq, Lib.byteCells_append]
 rw [hall] at own2
 have hfin : BldW B b (l.length + s.size) (w2.setCell ⟨b, 1, none⟩ (.slice ao n2 cap2)) := by
  refine ⟨l ++ s.data.toList, by rw [List.length_append, ← Lib.size_eq], Lib.BuilderAtF.put hBb hb2 ?_ neBu⟩
  rw [Lib.byteCells_length, List.length_append, ← Lib.size_eq]
  exact own2
 have hbel : Below B w1 (w2.setCell ⟨b, 1, none⟩ (.slice ao n2 cap2)) := ((Below.refl B w1).grown grow2 hB (fun k hk => (hown.lt k hk).1)).setCell (p := ⟨b, 1, none⟩) hBb _
 go_wp2
 go_ret2
 exact ⟨rfl, hfin, hbel⟩
theorem strF (B b n : Nat) (w : World) (h : BldW B b n w) (hn : 0 < n ∧ n ≤ 1000000) :
  Calls Tryz.prog 162 #[.pointer (some ⟨b, 0, none⟩)] w fun e w' => (∃ t : ByteArray, t.size = n ∧ e = .returned (.string t)) ∧ BldW B b n w' ∧ Below B w w' := by
 obtain ⟨l, rfl, h⟩ := h
 have h' := h
 obtain ⟨hBb, v, hbk, hown, hne⟩ := h
 rw [Lib.byteCells_length] at hown
 obtain ⟨g, cap, cur, fz, rfl, hbg, hg, hfz, hnc, hcm, hcs, htk⟩ : ∃ g cap cur fz, v = .slice (some ⟨g, 0, none⟩) l.length cap ∧ B ≤ g ∧ w.heap[g]? = some (.cells cur 5 fz) ∧ fz.2 ≤ l.length * 1 ∧ l.length ≤ cap ∧ cap ≤ maxLen ∧ cur.size = cap * 1 ∧ cur.toList.take (l.length * 1) = Lib.byteCells l := by
  rcases hown.2 with ⟨_, hz⟩ | ⟨g, cap, cur, fz, hv, r⟩
  ·omega
  ·exact ⟨g, cap, cur, fz, hv, r⟩
 have c1 : w.cell? ⟨b, 1, none⟩ = some (.slice (some ⟨g, 0, none⟩) l.length cap) := by rw [Lib.cell_of_heap hbk]; rfl
 refine Calls.mono (bldStr1 b g cap l w (by intro e; subst e; simp at hn) hnc (by unfold maxLen at hcm; omega) c1 (by unfold World.shape?; rw [hg]; dsimp only; rw [hcs, Nat.mul_one]) (fun j x hx => ?_)) ?_
 ·exact hown.cells (g := g) rfl j (.int .u8 x.toNat) (by simp [Lib.byteCells, hx])
 ·rintro e w' ⟨rfl, rfl⟩
  have hF := (Lib.BuilderAtF.drew h').froze (g := g) (cap := cap) (by rw [Lib.byteCells_length]; exact c1)
  rw [Lib.byteCells_length] at hF
  exact ⟨⟨_, tB_size l, rfl⟩, ⟨l, rfl, hF⟩, Lib.below_freeze (Below.drew (Below.refl B w)) (p := ⟨g, 0, none⟩) hbg _⟩
theorem grF (B b n : Nat) (w : World) (hBb : B ≤ b) (hB : B ≤ w.heap.size) (h : w.heap[b]? = some (.cells #[.pointer none, .slice none 0 0] 223 (0, 0))) (hn : 0 < n ∧ n ≤ 1000000) :
  Calls Tryz.prog 159 #[.pointer (some ⟨b, 0, none⟩), .int .i64 n] w fun e w' => e = .returned (.tuple #[]) ∧ BldW B b 0 w' ∧ Below B w w' := by
 have h0 : w.cell? ⟨b, 0, none⟩ = some (.pointer none) := by rw [Lib.cell_of_heap h]; rfl
 have hsh : w.shape? b = some (223, 1 * 2) := by unfold World.shape?; rw [h]; rfl
 have hcc := ccFresh b 1 (by decide) w h0 hsh (Lib.frozen_of_heap h 0)
 obtain ⟨w1, hw1⟩ : ∃ w1, w1 = w.setCell ⟨b, 0, none⟩ (.pointer (some ⟨b, 0, none⟩)) := ⟨_, rfl⟩
 rw [← hw1] at hcc
 have hb1 : w1.heap[b]? = some (.cells #[.pointer (some ⟨b, 0, none⟩), .slice none 0 0] 223 (0, 0)) := by
  rw [hw1]
  simp [World.setCell, Array.getElem?_modify, h]
 have hb1' : w1.drew.heap[b]? = some (.cells #[.pointer (some ⟨b, 0, none⟩), .slice none 0 0] 223 (0, 0)) := hb1
 have hbel1 : Below B w w1 := by
  rw [hw1]
  exact (Below.refl B w).setCell (p := ⟨b, 0, none⟩) hBb _
 have c1 : w1.cell? ⟨b, 1, none⟩ = some (.slice none 0 0) := by rw [Lib.cell_of_heap hb1]; rfl
 have c2 : w1.drew.cell? ⟨b, 1, none⟩ = some (.slice none 0 0) := c1
 have hsz1 := hbel1.size
 have hgr := growC b n w1.drew _ oMg hb1' rfl
 have mixed : Tryz.prog.follows .mixedOrders = true := by kernel_rfl
 have hf : Tryz.prog.funcs[159]? = some Tryz.f159 := by kernel_rfl
 have hnt : Tryz.f159.ntmps = 25 := by kernel_rfl
 have e1 : ∀ args w, (callFunc 203 args).run Tryz.prog w = .ok (.enter 203 args) w := enters_of Tryz.func203 kRf rfl
 have e2 : ∀ args w, (callFunc 204 args).run Tryz.prog w = .ok (.enter 204 args) w := enters_of Tryz.func204 kRf rfl
 have hlt0 : ¬ (n : Int) < 0 := by omega
 have hlt1 : (0 : Int) < n := by omega
 have hfin : ∀ w' : World, (∃ cs : Array Value, n ≤ cs.size ∧ cs.size ≤ maxLen ∧ w' = ((w1.drew.alloc (.cells cs 5)).setCell ⟨b, 1, none⟩ (.slice (some ⟨w1.drew.heap.size, 0, none⟩) 0 cs.size)).drew.drew.drew) → BldW B b 0 w' ∧ Below B w w' := by
  rintro w' ⟨cs, g1, g2, rfl⟩
  have := Lib.grown_fresh (e := 5) hBb hb1' (show B ≤ w1.drew.heap.size by have : w1.drew.heap.size = w1.heap.size := rfl; omega) g2 neBu
  exact ⟨⟨[], rfl, Lib.BuilderAtF.of this.1⟩, hbel1.trans ((Below.drew (Below.refl B w1)).trans this.2)⟩
 clear hw1
 go_enter hf, hnt
 go_wp2_with (go_at_fn 203; refine hcc.mono ?_; rintro e w2 ⟨rfl, rfl⟩)
 go_region_o
 all_goals go_wp2_with (go_at_fn 204; refine hgr.mono ?_; rintro e w3 ⟨cs, q1, q2, rfl, q4⟩)
 all_goals go_end0
 all_goals exact ⟨rfl, hfin _ ⟨cs, q1, q2, rfl⟩⟩
end Go.Proofs.YtagoolooikpabaaGreatDoor
namespace Go.Proofs.YtagoolooikpabaaGreatDoor
open Go Go.RowKit Go.Shelf
set_option maxRecDepth 100000
set_option maxHeartbeats 4000000
def cntRen : Go.Shelf.Ren := { f := fun x => match x with | 138 => 158 | 195 => 201 | 218 => 202 | 143 => 113 | 219 => 168 | 217 => 217 | 225 => 218 | 224 => 219 | 267 => 220 | 266 => 262 | 314 => 263 | n => n, t := fun x => match x with | 9 => 9 | 3 => 3 | 4 => 4 | 5 => 5 | 0 => 0 | 46 => 236 | 146 => 334 | 51 => 147 | n => n, g := fun x => match x with | 1 => 0 | n => n }
theorem cntLay : Lays.n138 Tryz.prog cntRen := {
 mixed := by kernel_rfl
 f138 := by kernel_rfl
 f143 := by kernel_rfl
 f195 := by kernel_rfl
 f217 := by kernel_rfl
 f218 := by kernel_rfl
 f219 := by kernel_rfl
 f224 := by kernel_rfl
 f225 := by kernel_rfl
 f266 := by kernel_rfl
 f267 := by kernel_rfl
 f314 := by kernel_rfl
 t0 := by kernel_rfl
 a0 := fun w => by kernel_rfl
 z0 := fun w => by kernel_rfl
 v0 := fun w => by kernel_rfl
 t3 := by kernel_rfl
 a3 := fun w => by kernel_rfl
 z3 := fun w => by kernel_rfl
 v3 := fun w => by kernel_rfl
 t4 := by kernel_rfl
 a4 := fun w => by kernel_rfl
 z4 := fun w => by kernel_rfl
 v4 := fun w => by kernel_rfl
 t5 := by kernel_rfl
 a5 := fun w => by kernel_rfl
 z5 := fun w => by kernel_rfl
 v5 := fun w => by kernel_rfl
 t9 := by kernel_rfl
 a9 := fun w => by kernel_rfl
 z9 := fun w => by kernel_rfl
 v9 := fun w => by kernel_rfl
 t46 := by kernel_rfl
 a46 := fun w => by kernel_rfl
 z46 := fun w => by kernel_rfl
 v46 := fun w => by kernel_rfl
 t51 := by kernel_rfl
 a51 := fun w => by kernel_rfl
 z51 := fun w => by kernel_rfl
 v51 := fun w => by kernel_rfl
 t146 := by kernel_rfl
 a146 := fun w => by kernel_rfl
 z146 := fun w => by kernel_rfl
 v146 := fun w => by kernel_rfl
 g1 := by kernel_rfl }
def wdMax : ByteArray := ⟨#[109, 97, 120]⟩
theorem rplF (s : ByteArray) (m : Int) (w : World) (hs : s.size ≤ 100000) (hm : w.cell? ⟨0, 0, none⟩ = some (.int .i64 m)) :
  Calls Tryz.prog 96 #[.string s, .string ⟨#[109, 97, 120]⟩, .string ⟨#[109, 105, 110]⟩, .int .i64 (-1)] w fun e w' => (∃ t : ByteArray, t.size = s.size ∧ e = .returned (.string t)) ∧ Below w.heap.size w w' := by
 have h1 : 1 ≤ wdMax.size := by decide
 have hC := Any.strings_Count_any cntLay s wdMax m w oMg hm h1
 have hmul := Lib.countB_mul_le wdMax h1 s.size s lRf
 obtain ⟨cn, hcn⟩ : ∃ cn : Nat, Lib.countB s wdMax = cn := ⟨_, rfl⟩
 rw [hcn] at hC hmul
 have hcn' : Lib.count s.data.toList wdMax.data.toList = cn := hcn
 have hms : wdMax.size = 3 := rfl
 rw [hms] at hmul
 have hlenL : s.data.toList.length = s.size := (Lib.size_eq s).symm
 have hgl : 0 < w.heap.size := World.block_lt_of_cell? _ _ hm
 have mixed : Tryz.prog.follows .mixedOrders = true := by kernel_rfl
 have e1 : ∀ args w, (callFunc 158 args).run Tryz.prog w = .ok (.enter 158 args) w := enters_of Tryz.func158 kRf rfl
 have e2 : ∀ args w, (callFunc 113 args).run Tryz.prog w = .ok (.enter 113 args) w := enters_of Tryz.func113 kRf rfl
 have e3 : ∀ args w, (callFunc 159 args).run Tryz.prog w = .ok (.enter 159 args) w := enters_of Tryz.func159 kRf rfl
 have e4 : ∀ args w, (callFunc 160 args).run Tryz.prog w = .ok (.enter 160 args) w := enters_of Tryz.func160 kRf rfl
 have e5 : ∀ args w, (callFunc 162 args).run Tryz.prog w = .ok (.enter 162 args) w := enters_of Tryz.func162 kRf rfl
 by_cases hz : cn = 0
 ·subst hz
  go_enter Tryz.func96, Tryz.ntmps96
  go_wp2_with (go_at_fn 158; refine hC.mono ?_; rintro e w' ⟨rfl, hw⟩; rw [hw])
  go_ret
  exact ⟨⟨s, rfl, rfl⟩, Below.refl _ _⟩
 ·have hcz : ((cn : Int) == 0) = false := beq_eq_false_iff_ne.2 oMg
  have hcz2 : ¬ ((cn : Int) = 0) := by omega
  go_enter Tryz.func96, Tryz.ntmps96
  go_wp2_with (go_at_fn 158; refine hC.mono ?_; rintro e w' ⟨rfl, hw⟩; rw [hw])
  have b2 : Below w.heap.size w (w.alloc (.cells #[.pointer none, .slice none 0 0] 223)) := (Below.refl _ w).alloc lRf _
  refine (grF w.heap.size w.heap.size s.size _ lRf b2.size (heap_alloc_new w _) oMg).mono ?_
  rintro e w1 ⟨rfl, h3, b3⟩
  have b13 := b2.trans b3
  clear b2 b3 hC
  go_wp2_with fail
  go_loopg [11, 53] cn (fun g s11 s53 wx => ∃ i start : Nat, s53 = .int .i64 i ∧ s11 = .int .i64 start ∧ i + g = cn ∧ start ≤ s.size ∧ BldW w.heap.size w.heap.size start wx ∧ Below w.heap.size w wx ∧ g ≤ Lib.count (s.data.toList.drop start) wdMax.data.toList)
  case atStart => exact ⟨0, 0, rfl, rfl, by omega, Nat.zero_le _, h3, b13, by rw [List.drop_zero, hcn']; exact Nat.le_refl _⟩
  case round =>
   obtain ⟨i, start, rfl, rfl, hig, hst, HB, HW, hgc⟩ := hrel
   have hBw : w.heap.size ≤ wr.heap.size := HW.size
   have c1 : (0 : Int) ≤ (start : Int) := by omega
   have c2 : (start : Int) ≤ (s.size : Int) := by omega
   cases gk with
   | zero =>
    have hiK : ¬ ((i : Int) < (cn : Int)) := by omega
    go_wp2_with fail
    have hex : (s.extract start s.size).size = s.size - start := by rw [ByteArray.size_extract]; omega
    have cW := wrF w.heap.size w.heap.size start (s.extract start s.size) wr HB oMg hBw
    refine cW.mono ?_
    rintro e w3 ⟨rfl, q3, q4⟩
    rw [hex, show start + (s.size - start) = s.size by omega] at q3
    have hb3 := HW.trans q4
    go_wp2_with fail
    refine (strF w.heap.size w.heap.size s.size w3 q3 oMg).mono ?_
    rintro e w5 ⟨⟨t, ht, rfl⟩, _, q5⟩
    go_wp2
    go_ret
    exact ⟨⟨t, ht, rfl⟩, hb3.trans q5⟩
   | succ g =>
    have hiK : (i : Int) < (cn : Int) := by omega
    obtain ⟨j, hj⟩ := Lib.index_of_count (s := s.data.toList.drop start) (old := wdMax.data.toList) oMg
    have hroom : j + 3 ≤ s.size - start := by
     have := Lib.index_room (s.data.toList.drop start) wdMax.data.toList (by rw [hj]; omega)
     rw [hj, List.length_drop, hlenL, show wdMax.data.toList.length = 3 from rfl] at this
     omega
    have hmr : wr.cell? ⟨0, 0, none⟩ = some (.int .i64 m) := by rw [HW.cell (p := ⟨0, 0, none⟩) hgl]; exact hm
    have c3 : (start : Int) ≤ (start : Int) + (j : Int) := by omega
    have c4 : (start : Int) + (j : Int) ≤ (s.size : Int) := by omega
    have hcnt : g ≤ Lib.count (s.data.toList.drop (start + j + 3)) wdMax.data.toList := by
     have := Lib.count_hit (s := s.data.toList.drop start) (sub := wdMax.data.toList) (i := j) (by decide) hj
     rw [List.drop_drop, show wdMax.data.toList.length = 3 from rfl] at this
     rw [show start + j + 3 = start + (j + 3) by omega]
     omega
    have cI := Any.strings_Index { cntLay with } (s.extract start s.size) wdMax m wr (by rw [ByteArray.size_extract]; omega) hmr
    rw [Lib.extract_to_end, hj] at cI
    go_wp2_with (first | (go_at_fn 113; refine cI.mono ?_; rintro e w' ⟨rfl, hw⟩; rw [hw]))
    have hex : (s.extract start (start + j)).size = j := by rw [ByteArray.size_extract]; omega
    refine (wrF w.heap.size w.heap.size start (s.extract start (start + j)) wr HB oMg hBw).mono ?_
    rintro e w3 ⟨rfl, q3, q4⟩
    rw [hex] at q3
    go_wp2_with fail
    refine (wrF w.heap.size w.heap.size (start + j) ⟨#[109, 105, 110]⟩ w3 q3 (by show start + j + 3 ≤ 1000000; omega) (Nat.le_trans hBw q4.size)).mono ?_
    rintro e w4 ⟨rfl, q5, q6⟩
    have q5 : BldW w.heap.size w.heap.size (start + j + 3) w4 := q5
    go_wp2
    go_roundg g
    case measure => omega
    case rel => exact ⟨i + 1, start + j + 3, by first | rfl | (simp; unfold wrap64; omega), by first | rfl | simp | (simp; unfold wrap64; omega), by omega, by omega, q5, HW.trans (q4.trans q6), hcnt⟩
theorem replAll_a {H : Hp} {K : AV → Hp → Prop} (s : ByteArray) (hs : s.size ≤ 100000) (hk : ∀ t : ByteArray, t.size = s.size → K (.c (.str t)) H) : ACalls Tryz.prog 41 [(.c (.str s)), (.c (.str (⟨#[109, 97, 120]⟩))), (.c (.str (⟨#[109, 105, 110]⟩)))] H K := by
 intro B w0 ι w vs hs' hr ho
 obtain ⟨l⟩ := vs
 match l, hr with
 | [v, u, x], hr =>
  have hv : v = .string s := hr.1
  have hu : u = .string ⟨#[109, 97, 120]⟩ := hr.2.1
  have hx : x = .string ⟨#[109, 105, 110]⟩ := hr.2.2.1
  subst hv hu hx
  have kn : Kn B w := hs'.known.to (fun _ h => h) hs'.below.block
  obtain ⟨_, m, hm⟩ := kn.num 0 (by unfold knownN; simp)
  have hC := rplF s m w hs hm
  have e1 : ∀ args w, (callFunc 96 args).run Tryz.prog w = .ok (.enter 96 args) w := enters_of Tryz.func96 kRf rfl
  go_enter Tryz.func41, Tryz.ntmps41
  go_wp2_with (go_at_fn 96; refine hC.mono ?_; rintro e w' ⟨⟨t, ht, rfl⟩, hb⟩)
  go_ret
  exact ⟨ι, _, (.c (.str t)), _, rfl, Agree.refl _ _, Nat.le_refl _, hs'.grown ⟨hb.os, hb.tape, hb.output, hb.size, fun k hk _ => hb.block k hk⟩, rfl, trivial, hk t ht⟩
end Go.Proofs.YtagoolooikpabaaGreatDoor
