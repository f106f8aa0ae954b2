/- Several texts in one: The table of powers of ten is known where a row lays it third, and what follows. No condition. -/
import Derived.Test.YtflklkijfkmeiaaGreatDoorHVTxtA
import Derived.Test.YtflklkijfkmeiaaGreatDoorRows
import Derived.Lib.LaidTab
import Derived.Test.YtflklkijfkmeiaaGreatDoorHVGA
/- The table of powers of ten is known where a row lays it third. -/
namespace Go.Proofs.YtflklkijfkmeiaaGreatDoor
open Go Go.RowKit
theorem laidV_mem {P : Program} {w : World} {n : String} {d : DataW Unit} : ∀ (l : List (String × DataW Unit)) (ps : List MemPlace), DataW.LaidVars P w l ps → (n, d) ∈ l →
    ∃ g t cs fuel p, P.globalNamed n = some g ∧ (P.globals[g]?).map (·.type) = some t ∧ w.var? P n = some cs ∧ DataW.trod (fun _ => ()) P w 0 (fun _ => true) false fuel t cs.toList = some (d, p)
  | [], _, _, h => by cases h
  | (m, e) :: r, ps, hL, h => by
    obtain ⟨g, t, cs, fuel, p, q, hg, ht, hv, hd, hr, _⟩ := hL
    rcases List.mem_cons.1 h with h | h
    · injection h with h1 h2
      subst h1 h2
      exact ⟨g, t, cs, fuel, p, hg, ht, hv, hd⟩
    · exact laidV_mem r q hr h
theorem var_cells {P : Program} {w : World} {n : String} {g : Nat} {cs : Array Value} (hg : P.globalNamed n = some g) (hv : w.var? P n = some cs) : ∃ ty fr, w.heap[g]? = some (.cells cs ty fr) := by
  unfold World.var? at hv
  rw [hg, Option.bind_some] at hv
  split at hv
  · rename_i c ty fr he
    injection hv with hv
    subst hv
    exact ⟨_, _, he⟩
  · cases hv
theorem trod_ifc {P : Program} {w : World} {fuel : Nat} {t : TypeId} {x : Array (String × TypeId)} {cs : List Value} {nm : String} {d : DataW Unit} {p : List MemPlace} (ht : P.underlying t = some (.interface x)) (h : DataW.trod (fun _ => ()) P w 0 (fun _ => true) false fuel t cs = some (.iface nm d, p)) : ∃ u v, cs = [.iface u v] := by
  cases fuel with
  | zero => cases h
  | succ n =>
    unfold DataW.trod at h
    simp only [ht] at h
    split at h
    all_goals first
      | exact ⟨_, _, rfl⟩
      | (simp_all; done)
      | trace_state
theorem lt_heap {w : World} {g : Nat} {o : Obj} (h : w.heap[g]? = some o) : g < w.heap.size := by
  rcases Nat.lt_or_ge g w.heap.size with h' | h'
  · exact h'
  · rw [Array.getElem?_eq_none h'] at h; cases h
theorem ifc_laid (W : World) (l : List (String × DataW Unit)) (h : laidMet Tryz.prog l W) (n : String) (nm : String) (d : DataW Unit) (hm : (n, .iface nm d) ∈ l) (g t : Nat) (hg : Tryz.prog.globalNamed n = some g) (ht : (Tryz.prog.globals[g]?).map (·.type) = some t) (x : Array (String × TypeId)) (hu : Tryz.prog.underlying t = some (.interface x)) : lowB W.heap.size g ∧ ifcAt W g := by
  obtain ⟨ps, hL, _, _⟩ := h
  obtain ⟨g', t', cs, fuel, p, hg', ht', hv, hd⟩ := laidV_mem l ps hL hm
  obtain rfl := Option.some.inj (hg.symm.trans hg')
  obtain rfl := Option.some.inj (ht.symm.trans ht')
  obtain ⟨u, v, hcs⟩ := trod_ifc hu hd
  obtain ⟨ty, fr, hh⟩ := var_cells hg hv
  refine ⟨lt_heap hh, cs, ty, fr, .iface u v, hh, ?_, .inr ⟨u, v, rfl⟩⟩
  rw [← Array.getElem?_toList, hcs]
  rfl
theorem kn_laid (W : World) (l : List (String × DataW Unit)) (h : laidMet Tryz.prog l W) (hm : ("internal/strconv.uint64pow10", Rows.laid_internal_strconv_uint64pow10) ∈ l) (hm1 : ("strconv.ErrSyntax", Rows.laid_strconv_ErrSyntax) ∈ l) (hm2 : ("strconv.ErrRange", Rows.laid_strconv_ErrRange) ∈ l) : Kn (lowB W.heap.size) W := by
  refine ⟨?_, ?_⟩
  · obtain ⟨ps, hL, _, _⟩ := h
    obtain ⟨g, t, cs, fuel, p, hg, ht, hv, hd⟩ := laidV_mem l ps hL hm
    obtain rfl := Option.some.inj ((show Tryz.prog.globalNamed "internal/strconv.uint64pow10" = some 1 by kernel_rfl).symm.trans hg)
    obtain rfl := Option.some.inj ((show (Tryz.prog.globals[1]?).map (·.type) = some 305 by kernel_rfl).symm.trans ht)
    have hd' : DataW.trod (fun _ => ()) Tryz.prog W 0 (fun _ => true) false fuel 305 cs.toList = some (Lib.tabData .u64 Lib.pow10Tab, p) := by
      rw [hd]
      rfl
    have hc := Lib.cells_of_tab (t := 305) (e := 230) (n := 20) (k := .u64) (by kernel_rfl) (by kernel_rfl) (by kernel_rfl) (by kernel_rfl) hd'
    have hcs : cs = (Lib.pow10Tab.map fun z => Value.int .u64 z).toArray := by rw [← hc]
    obtain ⟨ty, fr, hh⟩ := var_cells hg hv
    intro e he
    have hk : knownG = [(1, Lib.pow10Tab.map fun z => Value.int .u64 z)] := by kernel_rfl
    rw [hk] at he
    obtain rfl := List.mem_singleton.1 he
    exact ⟨lt_heap hh, ty, fr, by rw [hh, hcs]⟩
  · intro g hg
    have hk : knownI = [2, 3] := rfl
    rw [hk] at hg
    simp only [List.mem_cons, List.not_mem_nil, or_false] at hg
    rcases hg with rfl | rfl
    · exact ifc_laid W l h "strconv.ErrSyntax" _ _ hm1 _ 134 (by kernel_rfl) (by kernel_rfl) _ Tryz.underlying134
    · exact ifc_laid W l h "strconv.ErrRange" _ _ hm2 _ 134 (by kernel_rfl) (by kernel_rfl) _ Tryz.underlying134
end Go.Proofs.YtflklkijfkmeiaaGreatDoor
/- From a contract over the plain heap to the law's own walk: the numbers that came in are frozen. -/
namespace Go.Proofs.YtflklkijfkmeiaaGreatDoor
open Go Go.RowKit
theorem add_block (a : Addr) (n : Nat) : (a.add n).block = a.block := by unfold Addr.add; split <;> rfl
theorem relRows_ints {w : World} {Z : Nat → Nat → Option Value} (hZ : ∀ b o v, w.cell? ⟨b, o, none⟩ = some v → Z b o = some v) {b : Nat} : ∀ (zs : List Int) (o : Nat), (∀ j (h : j < zs.length), w.cell? ⟨b, o + j, none⟩ = some (.int .i64 zs[j])) → relRows Z (zs.map encI) b o 1
  | [], _, _ => trivial
  | z :: zs, o, h => by
    refine ⟨⟨⟨_, hZ _ _ _ (h 0 (by simp)), rfl⟩, trivial⟩, relRows_ints hZ zs (o + 1) (fun j hj => ?_)⟩
    have := h (j + 1) (by simpa using hj)
    rw [show o + 1 + j = o + (j + 1) by omega]
    simpa using this
theorem law_top {f : FuncId} (zs : List Int) (h : ACalls Tryz.prog f [.c (.lst 1 (zs.map encI))] [] (fun v _ => v = (.c (.bool true)))) {a : Option Addr} {n cap : Nat} {w : World} (hkn : Kn (lowB w.heap.size) w) (hn : zs.length = n) (hc : n ≤ cap) (h0 : a = none → n = 0 ∧ cap = 0)
    (hz : ∀ x, a = some x → ∀ j, j < n → w.cell? (x.add j) = some (.int .i64 (zs.getD j 0))) : Calls Tryz.prog f #[.slice a n cap] w fun e w' => e = .returned (.bool true) ∧ Below w.heap.size w w' := by
  let Z : Nat → Nat → Option Value := fun b o => w.cell? ⟨b, o, none⟩
  have hs : Sim (lowB w.heap.size) w ⟨fun _ => default, Z⟩ [] w := by
    refine ⟨⟨rfl, rfl, rfl, Nat.le_refl _, fun _ _ => rfl⟩, fun _ hk => hk, hkn, fun i o h => by simp at h, fun i o h => by simp at h, fun i j o o' _ h => by simp at h, fun i o h => by simp at h, fun b o v hv => ?_, fun i o h => by simp at h⟩
    have hv' : w.cell? ⟨b, o, none⟩ = some v := hv
    unfold World.cell? at hv'
    split at hv'
    · rename_i cur ty fr hb
      exact ⟨cur, ty, fr, hb, by simpa using hv'⟩
    · cases hv'
  have hr : argsRel ⟨fun _ => default, Z⟩ [.c (.lst 1 (zs.map encI))] #[.slice a n cap] := by
    refine ⟨⟨a, cap, by simp [hn], by simp [hn, hc], by simp [encI], fun ha => ?_, fun x hx => ⟨?_, ?_⟩⟩, trivial⟩
    · obtain ⟨h1, h2⟩ := h0 ha
      subst h1
      exact ⟨by simpa using hn, h2⟩
    · by_cases h1 : zs.length = 0
      · left; simpa using h1
      · right
        have h2 := World.cell?_spot (hz x hx 0 (by omega))
        simpa [Addr.add] using h2
    · refine relRows_ints (w := w) (fun b o v h => h) zs x.off (fun j hj => ?_)
      have h1 := hz x hx j (by omega)
      have h2 : x.add j = ⟨x.block, x.off + j, none⟩ := by
        have h3 := World.cell?_spot h1
        unfold Addr.add at h3 ⊢
        split
        · rename_i h4
          subst h4
          rw [if_pos rfl] at h3
          cases x
          simp_all
        · rfl
      rw [h2] at h1
      rw [h1]
      simp [List.getD, hj]
  refine (h (lowB w.heap.size) w _ w _ hs hr (by intro x hx; simp at hx; subst hx; trivial)).mono fun e w' he => ?_
  obtain ⟨ι2, u, av, H', rfl, k2, k3, k4, k5, k6, rfl⟩ := he
  have : u = .bool true := k5
  subst this
  exact ⟨rfl, k4.below.low⟩
end Go.Proofs.YtflklkijfkmeiaaGreatDoor
