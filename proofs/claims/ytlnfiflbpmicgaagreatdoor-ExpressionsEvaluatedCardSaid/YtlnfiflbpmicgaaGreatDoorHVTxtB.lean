/- Several texts in one: A strings, and what follows. No condition. -/
import Derived.Test.YtlnfiflbpmicgaaGreatDoorHVTxtS
import Derived.Test.YtlnfiflbpmicgaaGreatDoorHCoreDrawS0
import Derived.Test.YtlnfiflbpmicgaaGreatDoorHVNums
import Derived.Shelf.Strings.BuilderK
import Derived.Lib.MakeNoZero
set_option linter.all false
namespace Go.Proofs.YtlnfiflbpmicgaaGreatDoor
open Go Go.RowKit Go.Shelf
set_option maxRecDepth 100000
set_option maxHeartbeats 4000000
variable {H : Hp} {K : AV → Hp → Prop}
theorem ccFresh (b c : Nat) (hc : 0 < c) (w : World) (h0 : w.cell? ⟨b, 0, none⟩ = some (.pointer none)) (hsh : w.shape? b = some (185, c * 2)) (hfz : w.frozen? ⟨b, 0, none⟩ = false) :
    Calls Tryz.prog 204 #[.pointer (some ⟨b, 0, none⟩)] w fun e w' => e = .returned (.tuple #[]) ∧ w' = w.setCell ⟨b, 0, none⟩ (.pointer (some ⟨b, 0, none⟩)) := by
  have mixed : Tryz.prog.follows .mixedOrders = true := by kernel_rfl
  have hf : Tryz.prog.funcs[204]? = some Tryz.f204 := by kernel_rfl
  have hn : Tryz.f204.ntmps = 20 := by kernel_rfl
  have t70 : Tryz.prog.underlying 183 = some (.pointer 185) := by kernel_rfl
  have t164 : Tryz.prog.underlying 309 = some .unsafePointer := by kernel_rfl
  have hjj : (Tryz.prog.info? 185).map (·.size) = some 2 := by kernel_rfl
  obtain ⟨j, hj, hjs⟩ := Option.map_eq_some_iff.1 hjj
  have f276 : Tryz.prog.funcs[250]? = some Tryz.f250 := by kernel_rfl
  have hcells : Tryz.prog.cellsOf 185 = 2 := by kernel_rfl
  have hdep : Tryz.prog.depth = (Tryz.prog.depth - 1) + 1 := by kernel_rfl
  have hlies : liesAt Tryz.prog Tryz.prog.depth 185 (c * 2 / Tryz.prog.cellsOf 185) 0 185 1 = true := by
    rw [hcells, Nat.mul_div_cancel _ (by omega : 0 < 2), hdep]
    unfold liesAt
    rw [Bool.or_eq_true]
    left
    rw [hdep]
    unfold rowAt
    rw [hcells]
    have hsl : sameLayout Tryz.prog (Tryz.prog.depth - 1 + 1) 185 185 = true := by kernel_rfl
    simp [hsl]
    left
    omega
  go_enter hf, hn
  go_wp2
  rw [Lib.run_to_unsafe w ⟨b, 0, none⟩ t70 t164 hj (by rw [hjs]; decide) hsh (by show 0 < c * 2; omega)]
  simp only [Result.andThen]
  rw [Oper.upon_value]
  go_wp2
  rw [run_callFunc_extern f276 (by kernel_rfl) (by kernel_rfl) (by kernel_rfl) (e := Extern.AbiNoEscape.same) (by kernel_rfl)]
  rw [Lib.run_noEscape]
  simp only [Result.andThen]
  rw [Oper.upon_value]
  go_wp2
  rw [Lib.run_from_unsafe w ⟨b, 0, none⟩ t164 t70 hj hsh hlies]
  simp only [Result.andThen]
  rw [Oper.upon_value]
  go_wp2
  go_end0
  exact ⟨rfl, rfl⟩
theorem ccUsed (b : Nat) (w : World) (h0 : w.cell? ⟨b, 0, none⟩ = some (.pointer (some ⟨b, 0, none⟩))) :
    Calls Tryz.prog 204 #[.pointer (some ⟨b, 0, none⟩)] w fun e w' => e = .returned (.tuple #[]) ∧ w' = w := by
  have mixed : Tryz.prog.follows .mixedOrders = true := by kernel_rfl
  have hf : Tryz.prog.funcs[204]? = some Tryz.f204 := by kernel_rfl
  have hn : Tryz.f204.ntmps = 20 := by kernel_rfl
  have t70 : Tryz.prog.underlying 183 = some (.pointer 185) := by kernel_rfl
  have hjj : (Tryz.prog.info? 185).map (·.size) = some 2 := by kernel_rfl
  obtain ⟨j, hj, hjs⟩ := Option.map_eq_some_iff.1 hjj
  go_enter hf, hn
  go_wp2
  rw [Lib.run_neq_ptr_same w _ t70 hj]
  go_wp2
  go_end0
  exact ⟨rfl, rfl⟩
end Go.Proofs.YtlnfiflbpmicgaaGreatDoor
namespace Go.Proofs.YtlnfiflbpmicgaaGreatDoor
open Go Go.RowKit Go.Shelf
set_option maxRecDepth 100000
set_option maxHeartbeats 4000000
variable {H : Hp} {K : AV → Hp → Prop}
theorem bldStr1 (b g cap : Nat) (l : List UInt8) (w : World) (h0 : l ≠ []) (hcap : l.length ≤ cap) (hcm : cap ≤ 9223372036854775807) (h1 : w.cell? ⟨b, 1, none⟩ = some (.slice (some ⟨g, 0, none⟩) l.length cap)) (hsh : w.shape? g = some (5, cap))
    (hcells : ∀ (j : Nat) x, l[j]? = some x → w.cell? ((⟨g, 0, none⟩ : Addr).add j) = some (.int .u8 x.toNat)) :
    Calls Tryz.prog 134 #[.pointer (some ⟨b, 0, none⟩)] w fun e w' => e = .returned (.string ⟨l.toArray⟩) ∧ w' = w.drew.freeze ⟨g, 0, none⟩ l.length := by
  have hl0 : l.length ≠ 0 := by simpa using h0
  have mixed : Tryz.prog.follows .mixedOrders = true := by kernel_rfl
  have hf : Tryz.prog.funcs[134]? = some Tryz.f134 := by kernel_rfl
  have hn : Tryz.f134.ntmps = 14 := by kernel_rfl
  have t127 : Tryz.prog.underlying 276 = some (.pointer 5) := by kernel_rfl
  have hcb : Tryz.prog.cellsOf 5 = 1 := by kernel_rfl
  have c1 : w.drew.cell? ⟨b, 1, none⟩ = some (.slice (some ⟨g, 0, none⟩) l.length cap) := h1
  have hSD : (Builtin.unsafeSliceData_ #[131] 276 #[.slice (some ⟨g, 0, none⟩) l.length cap]).run Tryz.prog w.drew = .ok (.pointer (some ⟨g, 0, none⟩)) w.drew :=
    Lib.run_unsafeSliceData_row _ _ _ _ _ _ (by omega)
  have hUS : (Builtin.unsafeString_ #[276, 3] 9 #[.pointer (some ⟨g, 0, none⟩), .int .i64 l.length]).run Tryz.prog w.drew = .ok (.string ⟨l.toArray⟩) (w.drew.freeze ⟨g, 0, none⟩ l.length) :=
    Lib.run_unsafeString_row w.drew 276 3 9 5 t127 hcb g cap hsh l h0 hcap (by omega) hcells
  go_enter hf, hn
  go_wp2
  go_region_o
  all_goals (go_wp2; go_ret; exact ⟨rfl, rfl⟩)
end Go.Proofs.YtlnfiflbpmicgaaGreatDoor
namespace Go.Proofs.YtlnfiflbpmicgaaGreatDoor
open Go Go.RowKit Go.Shelf
set_option maxRecDepth 100000
set_option maxHeartbeats 2000000
variable {H : Hp} {K : AV → Hp → Prop}
theorem growC (b n : Nat) (w : World) (cur : Array Value) (hn : n ≤ 100000000) (hb : w.heap[b]? = some (.cells cur 185 (0, 0))) (h1 : cur[1]? = some (.slice none 0 0)) :
    Calls Tryz.prog 205 #[.pointer (some ⟨b, 0, none⟩), .int .i64 n] w fun e w' => ∃ cs : Array Value, n ≤ cs.size ∧ cs.size ≤ maxLen ∧ e = .returned (.tuple #[]) ∧ w' = ((w.alloc (.cells cs 5)).setCell ⟨b, 1, none⟩ (.slice (some ⟨w.heap.size, 0, none⟩) 0 cs.size)).drew.drew.drew := by
  obtain ⟨cs, hrun, hle, hmax⟩ := Lib.run_makeNoZero (P := Tryz.prog) (w := w.drew) #[3] 131 5 (by kernel_rfl) n (by omega)
  have hw : IntKind.i64.wrap (IntKind.i64.wrap 0 + (n : Int)) = n := by
    rw [IntKind.wrap_i64, IntKind.wrap_i64]
    omega
  have hfn : Tryz.prog.funcs[251]? = some Tryz.f251 := by kernel_rfl
  have hcall : (callFunc 251 #[.int .i64 (n : Int)]).run Tryz.prog w.drew = .ok (.value (.slice (some ⟨w.drew.heap.size, 0, none⟩) n cs.size)) (w.drew.drew.drew.alloc (.cells cs 5)) := by
    rw [run_callFunc_extern hfn (by kernel_rfl) (by kernel_rfl) (by kernel_rfl) (e := Extern.BytealgMakeNoZero.makeNoZero #[3] #[131]) (by kernel_rfl), hrun]
    rfl
  have hw2 : IntKind.i64.wrap (n : Int) = n := by rw [IntKind.wrap_i64]; omega
  have hcall2 : (callFunc 251 #[.int .i64 (IntKind.i64.wrap (n : Int))]).run Tryz.prog w.drew = .ok (.value (.slice (some ⟨w.drew.heap.size, 0, none⟩) n cs.size)) (w.drew.drew.drew.alloc (.cells cs 5)) := by rw [hw2]; exact hcall
  have hcall3 : (callFunc 251 #[.int .i64 (IntKind.i64.wrap (IntKind.i64.wrap 0 + (n : Int)))]).run Tryz.prog w.drew = .ok (.value (.slice (some ⟨w.drew.heap.size, 0, none⟩) n cs.size)) (w.drew.drew.drew.alloc (.cells cs 5)) := by rw [hw]; exact hcall
  have hlt : b < w.heap.size := by
    rcases Nat.lt_or_ge b w.heap.size with h' | h'
    · exact h'
    · simp [Array.getElem?_eq_none h'] at hb
  have c0 : w.cell? ⟨b, 1, none⟩ = some (.slice none 0 0) := by rw [Lib.cell_of_heap hb]; simpa using h1
  have c1 : w.drew.cell? ⟨b, 1, none⟩ = some (.slice none 0 0) := c0
  have hb2 : (w.alloc (.cells cs 5)).heap[b]? = some (.cells cur 185 (0, 0)) := (Lib.alloc_old w _ b hlt).trans hb
  have c2 : (w.alloc (.cells cs 5)).cell? ⟨b, 1, none⟩ = some (.slice none 0 0) := by rw [Lib.cell_of_heap hb2]; simpa using h1
  have f2 : (w.alloc (.cells cs 5)).frozen? ⟨b, 1, none⟩ = false := Lib.frozen_of_heap hb2 1
  have t37 : Tryz.prog.underlying 131 = some (.slice 5) := by kernel_rfl
  have hsb : (Tryz.prog.info? 5).map (·.size) = some 1 := by kernel_rfl
  have hcopy : ∀ W : World, (Builtin.copy_ #[131, 131] 3 #[.slice (some ⟨w.heap.size, 0, none⟩) 0 cs.size, .slice none 0 0]).run Tryz.prog W = .ok (goInt 0) W :=
    fun W => run_copy_none W 131 131 3 5 _ _ 0 cs.size 0 0 t37 hsb rfl
  clear hw hw2
  have mixed : Tryz.prog.follows .mixedOrders = true := by kernel_rfl
  have hf : Tryz.prog.funcs[205]? = some Tryz.f205 := by kernel_rfl
  have hnt : Tryz.f205.ntmps = 30 := by kernel_rfl
  have hm2 := hmax (by unfold maxLen; omega)
  clear hmax hb hb2 h1 hlt
  go_enter hf, hnt
  go_wp2
  go_region_o
  all_goals (go_wp2; go_end0; exact ⟨cs, hle, hm2, rfl, rfl⟩)
end Go.Proofs.YtlnfiflbpmicgaaGreatDoor
