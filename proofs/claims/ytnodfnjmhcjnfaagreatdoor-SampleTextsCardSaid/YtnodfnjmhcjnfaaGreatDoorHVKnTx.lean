/- The table of powers of ten is known where a row lays it third. -/
import Derived.Test.YtnodfnjmhcjnfaaGreatDoorHVTxtA
import Derived.Test.YtnodfnjmhcjnfaaGreatDoorRows
import Derived.Lib.LaidTab
namespace Go.Proofs.YtnodfnjmhcjnfaaGreatDoor
open Go Go.RowKit
theorem kn_laid (W : World) (l : List (String × DataW Unit)) (h : laidMet Tryz.prog (("math/bits.deBruijn32tab", Rows.laid_math_bits_deBruijn32tab) :: ("math/bits.deBruijn64tab", Rows.laid_math_bits_deBruijn64tab) :: ("internal/strconv.uint64pow10", Rows.laid_internal_strconv_uint64pow10) :: l) W) : Kn (lowB W.heap.size) W := by
  obtain ⟨ps, hL, _, _⟩ := h
  obtain ⟨_, _, _, _, _, _, _, _, _, _, hL, _⟩ := hL
  obtain ⟨_, _, _, _, _, _, _, _, _, _, hL, _⟩ := hL
  obtain ⟨g, t, cs, fuel, p, q, hg, ht, hv, hd, _, _⟩ := hL
  obtain rfl := Option.some.inj ((show Tryz.prog.globalNamed "internal/strconv.uint64pow10" = some 1 by kernel_rfl).symm.trans hg)
  obtain rfl := Option.some.inj ((show (Tryz.prog.globals[1]?).map (·.type) = some 401 by kernel_rfl).symm.trans ht)
  have hd' : DataW.trod (fun _ => ()) Tryz.prog W 0 (fun _ => true) false fuel 401 cs.toList = some (Lib.tabData .u64 Lib.pow10Tab, p) := by
    rw [hd]
    rfl
  have hc := Lib.cells_of_tab (t := 401) (e := 317) (n := 20) (k := .u64) (by kernel_rfl) (by kernel_rfl) (by kernel_rfl) (by kernel_rfl) hd'
  have hcs : cs = (Lib.pow10Tab.map fun z => Value.int .u64 z).toArray := by rw [← hc]
  have hh : ∃ ty fr, W.heap[1]? = some (.cells cs ty fr) := by
    unfold World.var? at hv
    rw [hg, Option.bind_some] at hv
    split at hv
    · rename_i c ty fr he
      injection hv with hv
      subst hv
      exact ⟨_, _, he⟩
    · cases hv
  obtain ⟨ty, fr, hh⟩ := hh
  intro e he
  have hk : knownG = [(1, Lib.pow10Tab.map fun z => Value.int .u64 z)] := by kernel_rfl
  rw [hk] at he
  obtain rfl := List.mem_singleton.1 he
  refine ⟨?_, ty, fr, by rw [hh, hcs]⟩
  show _ < W.heap.size
  rcases Nat.lt_or_ge 1 W.heap.size with h' | h'
  · exact h'
  · rw [Array.getElem?_eq_none h'] at hh; cases hh
end Go.Proofs.YtnodfnjmhcjnfaaGreatDoor
