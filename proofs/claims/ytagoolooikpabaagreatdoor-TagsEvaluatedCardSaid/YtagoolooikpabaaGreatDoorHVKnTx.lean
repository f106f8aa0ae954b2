/- The table of powers of ten is known where a row lays it third. -/
import Derived.Test.YtagoolooikpabaaGreatDoorHVTxtA
import Derived.Test.YtagoolooikpabaaGreatDoorRows
import Derived.Lib.LaidTab
import Derived.Shelf.Vars
namespace Go.Proofs.YtagoolooikpabaaGreatDoor
open Go Go.RowKit
theorem laidV_mem {P : Program} {w : World} {n : String} {d : DataW Unit} : ∀ (l : List (String × DataW Unit)) (ps : List MemPlace), DataW.LaidVars P w l ps → (n, d) ∈ l →
  ∃ g t cs fuel p, P.globalNamed n = some g ∧ (P.globals[g]?).map (·.type) = some t ∧ w.var? P n = some cs ∧ DataW.trod (fun _ => ()) P w 0 (fun _ => true) false fuel t cs.toList = some (d, p)
 | [], _, _, h => by cases h
 | (m, e) :: r, ps, hL, h => by
  obtain ⟨g, t, cs, fuel, p, q, hg, ht, hv, hd, hr, _⟩ := hL
  rcases List.mem_cons.1 h with h | h
  ·injection h with h1 h2
   subst h1 h2
   exact ⟨g, t, cs, fuel, p, hg, ht, hv, hd⟩
  ·exact laidV_mem r q hr h
theorem var_cells {P : Program} {w : World} {n : String} {g : Nat} {cs : Array Value} (hg : P.globalNamed n = some g) (hv : w.var? P n = some cs) : ∃ ty fr, w.heap[g]? = some (.cells cs ty fr) := by
 unfold World.var? at hv
 rw [hg, Option.bind_some] at hv
 split at hv
 ·rename_i c ty fr he
  injection hv with hv
  subst hv
  exact ⟨_, _, he⟩
 ·cases hv
theorem trod_ifc {P : Program} {w : World} {fuel : Nat} {t : TypeId} {x : Array (String × TypeId)} {cs : List Value} {nm : String} {d : DataW Unit} {p : List MemPlace} (ht : P.underlying t = some (.interface x)) (h : DataW.trod (fun _ => ()) P w 0 (fun _ => true) false fuel t cs = some (.iface nm d, p)) : ∃ u v, cs = [.iface u v] := by
 cases fuel with
 | zero => cases h
 | succ n =>
  unfold DataW.trod at h
  simp only [ht] at h
  split at h
  all_goals first
   | exact ⟨_, _, rfl⟩
   | (simp_all; done)
   | trace_state
theorem lt_heap {w : World} {g : Nat} {o : Obj} (h : w.heap[g]? = some o) : g < w.heap.size := by
 rcases Nat.lt_or_ge g w.heap.size with h' | h'
 ·exact h'
 ·rw [Array.getElem?_eq_none h'] at h; cases h
theorem ifc_laid (W : World) (l : List (String × DataW Unit)) (h : laidMet Tryz.prog l W) (n : String) (nm : String) (d : DataW Unit) (hm : (n, .iface nm d) ∈ l) (g t : Nat) (hg : Tryz.prog.globalNamed n = some g) (ht : (Tryz.prog.globals[g]?).map (·.type) = some t) (x : Array (String × TypeId)) (hu : Tryz.prog.underlying t = some (.interface x)) : lowB W.heap.size g ∧ ifcAt W g := by
 obtain ⟨ps, hL, _, _⟩ := h
 obtain ⟨g', t', cs, fuel, p, hg', ht', hv, hd⟩ := laidV_mem l ps hL hm
 obtain rfl := Option.some.inj (hg.symm.trans hg')
 obtain rfl := Option.some.inj (ht.symm.trans ht')
 obtain ⟨u, v, hcs⟩ := trod_ifc hu hd
 obtain ⟨ty, fr, hh⟩ := var_cells hg hv
 refine ⟨lt_heap hh, cs, ty, fr, .iface u v, hh, ?_, .inr ⟨u, v, rfl⟩⟩
 rw [← Array.getElem?_toList, hcs]
 rfl
theorem num_laid (W : World) (h : W.ShapedOpen Tryz.prog) : lowB W.heap.size 0 ∧ numAt W 0 := by
 obtain ⟨m, hm⟩ := Go.Proofs.cell_of_shapedOpen_int (P := Tryz.prog) (g := 0) (t := 3) (zero := #[.int .i64 0]) h (of_decide_eq_true kRf) kRf rfl kRf kRf Tryz.underlying3
 have hb : (W.heap[0]?) ≠ none := fun hn => by
  unfold World.cell? at hm
  dsimp only at hm
  rw [hn] at hm
  cases hm
 obtain ⟨o, ho⟩ := Option.ne_none_iff_exists'.1 hb
 exact ⟨lt_heap ho, m, hm⟩
theorem kn_laid (W : World) (l : List (String × DataW Unit)) (h : laidMet Tryz.prog l W) (hm : ("internal/strconv.uint64pow10", Rows.laid_internal_strconv_uint64pow10) ∈ l) (hm1 : ("strconv.ErrSyntax", Rows.laid_strconv_ErrSyntax) ∈ l) (hm2 : ("strconv.ErrRange", Rows.laid_strconv_ErrRange) ∈ l) (hsh : W.ShapedOpen Tryz.prog) : Kn (lowB W.heap.size) W := by
 refine ⟨?_, ?_, ?_⟩
 ·obtain ⟨ps, hL, _, _⟩ := h
  obtain ⟨g, t, cs, fuel, p, hg, ht, hv, hd⟩ := laidV_mem l ps hL hm
  obtain rfl := Option.some.inj ((show Tryz.prog.globalNamed "internal/strconv.uint64pow10" = some 3 by kernel_rfl).symm.trans hg)
  obtain rfl := Option.some.inj ((show (Tryz.prog.globals[3]?).map (·.type) = some 337 by kernel_rfl).symm.trans ht)
  have hd' : DataW.trod (fun _ => ()) Tryz.prog W 0 (fun _ => true) false fuel 337 cs.toList = some (Lib.tabData .u64 Lib.pow10Tab, p) := by
   rw [hd]
   rfl
  have hc := Lib.cells_of_tab (t := 337) (e := 291) (n := 20) (k := .u64) kRf kRf kRf kRf hd'
  have hcs : cs = (Lib.pow10Tab.map fun z => Value.int .u64 z).toArray := by rw [← hc]
  obtain ⟨ty, fr, hh⟩ := var_cells hg hv
  intro e he
  have hk : knownG = [(3, Lib.pow10Tab.map fun z => Value.int .u64 z)] := by kernel_rfl
  rw [hk] at he
  obtain rfl := List.mem_singleton.1 he
  exact ⟨lt_heap hh, ty, fr, by rw [hh, hcs]⟩
 ·intro g hg
  have hk : knownI = [6, 7] := rfl
  rw [hk] at hg
  simp only [List.mem_cons, List.not_mem_nil, or_false] at hg
  rcases hg with rfl | rfl
  ·exact ifc_laid W l h "strconv.ErrSyntax" _ _ hm1 _ 226 kRf kRf _ Tryz.underlying226
  ·exact ifc_laid W l h "strconv.ErrRange" _ _ hm2 _ 226 kRf kRf _ Tryz.underlying226
 ·intro g hg
  have hk : knownN = [0] := rfl
  rw [hk] at hg
  obtain rfl := List.mem_singleton.1 hg
  exact num_laid W hsh
end Go.Proofs.YtagoolooikpabaaGreatDoor
