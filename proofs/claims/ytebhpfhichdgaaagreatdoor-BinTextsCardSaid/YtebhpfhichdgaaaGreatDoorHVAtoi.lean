/- strconv.Atoi at any string. Condition: the variables ErrSyntax and ErrRange are known to hold interfaces. -/
import Derived.Shelf.Strconv.AtoiAll
import Derived.Test.YtebhpfhichdgaaaGreatDoorHVTxtA
namespace Go.Proofs.YtebhpfhichdgaaaGreatDoor
open Go Go.RowKit Go.Shelf
set_option maxRecDepth 100000
set_option linter.all false
set_option maxHeartbeats 4000000
variable {H : Hp} {K : AV → Hp → Prop}
theorem atoiLayC : LaysC.n172 Tryz.prog atoiRen := { atoiLay with
  t80 := by kernel_rfl
  a80 := fun w => by kernel_rfl
  z80 := fun w => by kernel_rfl
  v80 := fun w => by kernel_rfl
  i0 := by kernel_rfl
  i2 := by kernel_rfl
  i3 := by kernel_rfl
  i4 := by kernel_rfl
  i5 := by kernel_rfl
  i9 := by kernel_rfl
  i20 := by kernel_rfl
  i21 := by kernel_rfl
  i37 := by kernel_rfl
  i46 := by kernel_rfl
  i51 := by kernel_rfl
  i53 := by kernel_rfl
  i75 := by kernel_rfl
  i76 := by kernel_rfl
  i80 := by kernel_rfl
  i85 := by kernel_rfl
  i127 := by kernel_rfl
  i143 := by kernel_rfl
  i145 := by kernel_rfl
  i167 := by kernel_rfl
  i168 := by kernel_rfl
  i171 := by kernel_rfl
  i173 := by kernel_rfl
  i175 := by kernel_rfl
  i210 := by kernel_rfl
  i212 := by kernel_rfl
  i232 := by kernel_rfl
  i233 := by kernel_rfl
  m15 := by kernel_rfl
  m16 := by kernel_rfl
  m17 := by kernel_rfl
  m18 := by kernel_rfl
  m19 := by kernel_rfl
  c0 := by kernel_rfl
  c2 := by kernel_rfl
  c3 := by kernel_rfl
  c4 := by kernel_rfl
  c5 := by kernel_rfl
  c9 := by kernel_rfl
  c20 := by kernel_rfl
  c21 := by kernel_rfl
  c37 := by kernel_rfl
  c46 := by kernel_rfl
  c51 := by kernel_rfl
  c53 := by kernel_rfl
  c75 := by kernel_rfl
  c76 := by kernel_rfl
  c80 := by kernel_rfl
  c85 := by kernel_rfl
  c127 := by kernel_rfl
  c143 := by kernel_rfl
  c145 := by kernel_rfl
  c167 := by kernel_rfl
  c168 := by kernel_rfl
  c171 := by kernel_rfl
  c173 := by kernel_rfl
  c175 := by kernel_rfl
  c210 := by kernel_rfl
  c212 := by kernel_rfl
  c213 := by kernel_rfl
  c232 := by kernel_rfl
  c233 := by kernel_rfl }
theorem ifcCell {w : World} {g : Nat} (h : ifcAt w g) : ∃ ev, w.cell? ⟨g, 0, none⟩ = some ev ∧ (ev = .nilIface ∨ ∃ t u, ev = .iface t u) := by
  obtain ⟨cs, ty, fr, ev, h1, h2, h3⟩ := h
  exact ⟨ev, by simp [World.cell?, h1, h2], h3⟩
theorem atoiAny_a (s : ByteArray) (hs : s.size ≤ 281474976710656) (hk1 : ∀ v, Lib.atoiAll s.data.toList = .ok v → K (.tup [(.c (.int .i64 v)), .c .nili]) H) (hk2 : (∀ v, Lib.atoiAll s.data.toList ≠ .ok v) → ∀ v : Int, K (.tup [(.c (.int .i64 v)), .c .ifc]) H) : ACalls Tryz.prog 92 [(.c (.str s))] H K := by
  intro B w0 ι w vs hs' hr ho
  obtain ⟨l⟩ := vs
  match l, hr with
  | [v], hr =>
    have hv : v = .string s := hr.1
    subst hv
    have kn : Kn B w := hs'.known.to (fun _ h => h) hs'.below.block
    obtain ⟨e1, c1, d1⟩ := ifcCell (kn.ifc 1 (by unfold knownI; simp)).2
    obtain ⟨e2, c2, d2⟩ := ifcCell (kn.ifc 2 (by unfold knownI; simp)).2
    have hgr : ∀ w', Below w.heap.size w w' → Sim B w0 ι H w' := fun w' h3 => hs'.grown ⟨h3.os, h3.tape, h3.output, h3.size, fun q hq _ => h3.block q hq⟩
    rcases h : Lib.atoiAll s.data.toList with v | _ | _
    ·
      have hk := hk1 v h
      refine Calls.mono (Any.strconv_Atoi_ok atoiLayC s (by omega) v h w) ?_
      rintro e w' ⟨rfl, hw⟩
      have hs1 : Sim B w0 ι H w' := by
        rcases hw with rfl | ⟨t, rfl⟩
        · exact hs'
        · exact hgr _ (Lib.bytesWorld_below _ _ _)
      exact ⟨ι, _, .tup [(.c (.int .i64 v)), .c .nili], _, rfl, Agree.refl _ _, Nat.le_refl _, hs1, ⟨[.int .i64 v, .nilIface], rfl, rfl, rfl, trivial⟩, by simp [AV.ok, AV.ok1, AC.ok], hk⟩
    ·
      refine Calls.mono (Any.strconv_Atoi_syntax atoiLayC s hs h e1 w c1 d1) ?_
      rintro e w' ⟨N, rfl, h1, h2, h3⟩
      exact ⟨ι, _, .tup [(.c (.int .i64 0)), .c .ifc], _, rfl, Agree.refl _ _, Nat.le_refl _, hgr _ h3, ⟨[.int .i64 0, .iface _ _], rfl, rfl, ⟨_, _, rfl⟩, trivial⟩, by simp [AV.ok, AV.ok1, AC.ok], hk2 (fun v e => by rw [h] at e; cases e) 0⟩
    ·
      refine Calls.mono (Any.strconv_Atoi_range atoiLayC s hs h e2 w c2 d2) ?_
      rintro e w' ⟨N, rfl, h1, h2, h3⟩
      exact ⟨ι, _, .tup [(.c (.int .i64 (Lib.atoiSat s.data.toList))), .c .ifc], _, rfl, Agree.refl _ _, Nat.le_refl _, hgr _ h3, ⟨[.int .i64 _, .iface _ _], rfl, rfl, ⟨_, _, rfl⟩, trivial⟩, by simp [AV.ok, AV.ok1, AC.ok], hk2 (fun v e => by rw [h] at e; cases e) _⟩
end Go.Proofs.YtebhpfhichdgaaaGreatDoor
