/- A strings.Builder. -/
import Derived.Test.YtflklkijfkmeiaaGreatDoorHVTxtW
import Derived.Test.YtflklkijfkmeiaaGreatDoorHVNums
import Derived.Shelf.Strings.BuilderK
namespace Go.Proofs.YtflklkijfkmeiaaGreatDoor
open Go Go.RowKit Go.Shelf
set_option maxRecDepth 100000
set_option linter.all false
set_option maxHeartbeats 4000000
variable {H : Hp} {K : AV → Hp → Prop}
@[go_sem ↓] theorem ev_nili (F : Fr) : evC F (.const .nilIface) = .c .nili := (rfl)
theorem ccFresh (b c : Nat) (hc : 0 < c) (w : World) (h0 : w.cell? ⟨b, 0, none⟩ = some (.pointer none)) (hsh : w.shape? b = some (132, c * 2)) (hfz : w.frozen? ⟨b, 0, none⟩ = false) :
    Calls Tryz.prog 158 #[.pointer (some ⟨b, 0, none⟩)] w fun e w' => e = .returned (.tuple #[]) ∧ w' = w.setCell ⟨b, 0, none⟩ (.pointer (some ⟨b, 0, none⟩)) := by
  have mixed : Tryz.prog.follows .mixedOrders = true := by kernel_rfl
  have hf : Tryz.prog.funcs[158]? = some Tryz.f158 := by kernel_rfl
  have hn : Tryz.f158.ntmps = 20 := by kernel_rfl
  have t70 : Tryz.prog.underlying 129 = some (.pointer 132) := by kernel_rfl
  have t164 : Tryz.prog.underlying 262 = some .unsafePointer := by kernel_rfl
  have hjj : (Tryz.prog.info? 132).map (·.size) = some 2 := by kernel_rfl
  obtain ⟨j, hj, hjs⟩ := Option.map_eq_some_iff.1 hjj
  have f276 : Tryz.prog.funcs[223]? = some Tryz.f223 := by kernel_rfl
  have hcells : Tryz.prog.cellsOf 132 = 2 := by kernel_rfl
  have hdep : Tryz.prog.depth = (Tryz.prog.depth - 1) + 1 := by kernel_rfl
  have hlies : liesAt Tryz.prog Tryz.prog.depth 132 (c * 2 / Tryz.prog.cellsOf 132) 0 132 1 = true := by
    rw [hcells, Nat.mul_div_cancel _ (by omega : 0 < 2), hdep]
    unfold liesAt
    rw [Bool.or_eq_true]
    left
    rw [hdep]
    unfold rowAt
    rw [hcells]
    have hsl : sameLayout Tryz.prog (Tryz.prog.depth - 1 + 1) 132 132 = true := by kernel_rfl
    simp [hsl]
    left
    omega
  go_enter hf, hn
  go_wp2
  rw [Lib.run_to_unsafe w ⟨b, 0, none⟩ t70 t164 hj (by rw [hjs]; decide) hsh (by show 0 < c * 2; omega)]
  simp only [Result.andThen]
  rw [Oper.upon_value]
  go_wp2
  rw [run_callFunc_extern f276 (by kernel_rfl) (by kernel_rfl) (by kernel_rfl) (e := Extern.AbiNoEscape.same) (by kernel_rfl)]
  rw [Lib.run_noEscape]
  simp only [Result.andThen]
  rw [Oper.upon_value]
  go_wp2
  rw [Lib.run_from_unsafe w ⟨b, 0, none⟩ t164 t70 hj hsh hlies]
  simp only [Result.andThen]
  rw [Oper.upon_value]
  go_wp2
  go_end0
  exact ⟨rfl, rfl⟩
theorem copyFresh_a {i : Nat} {x : AC} (hi : H[i]? = some (.row 132 2 [[.ptr none, x]] true)) (hk : K (.tup []) (H.set i (.row 132 2 [[.ptr (some (i, 0, 0)), x]] true))) : ACalls Tryz.prog 158 [.c (.ptr (some (i, 0, 0)))] H K := by
  intro B w0 ι w vs hs hr ho
  have hil := getElem?_lt hi
  obtain ⟨l⟩ := vs
  match l, hr with
  | [v], hr =>
    have hv : v = ptrOf ι (i, 0, 0) := hr.1
    subst hv
    obtain ⟨hsz, hcap, cur, fr, hb, hc, how⟩ := hs.obj i _ hi
    obtain ⟨rfl, hoff, hcs, hml⟩ := how rfl
    obtain ⟨u, hu1, hu2⟩ := hc 0 [.ptr none, x] rfl 0 (.ptr none) rfl
    have hu : u = .pointer none := hu2
    subst hu
    have hp : ptrOf ι (i, 0, 0) = .pointer (some ⟨(ι i).block, 0, none⟩) := by unfold ptrOf Loc.at; rw [hoff]; simp
    have hat : (ι i).at 0 0 = ⟨(ι i).block, 0, none⟩ := by unfold Loc.at; rw [hoff]; simp
    have h0 : w.cell? ⟨(ι i).block, 0, none⟩ = some (.pointer none) := by
      rw [Lib.cell_of_heap hb]
      rw [hoff] at hu1
      simpa using hu1
    have hfz : w.frozen? ⟨(ι i).block, 0, none⟩ = false := Lib.frozen_of_heap hb 0
    have hsh : w.shape? (ι i).block = some (132, (ι i).cap * 2) := by
      unfold World.shape?
      rw [hb]
      dsimp only
      rw [hcs]
    obtain ⟨w', h1, h2⟩ := run_store_row (P := Tryz.prog) (vs := [ptrOf ι (i, 0, 0)]) (cs := [.ptr (some (i, 0, 0))]) (j := 0) hs hi (k := 0) rfl (by simp) ⟨rfl, trivial⟩ (by intro y hy; rw [List.mem_singleton] at hy; subst hy; exact hil)
    have h3 := run_storeCells_cells (P := Tryz.prog) (ι i).block 0 [ptrOf ι (i, 0, 0)] 0 w (by intro j hj; simp at hj; subst hj; rw [h0]; rfl) (by intro j hj; simp at hj; subst hj; exact hfz) (by simp [ptrOf, Value.oneCell'])
    rw [hat] at h1
    rw [h1] at h3
    injection h3 with _ h3
    subst h3
    rw [hp]
    refine Calls.mono (ccFresh (ι i).block (ι i).cap (by simp at hcap; omega) w h0 hsh hfz) ?_
    rintro e w' ⟨rfl, rfl⟩
    refine ⟨ι, _, .tup [], _, rfl, Agree.refl _ _, by simp, ?_, ⟨[], rfl, trivial⟩, by simp [AV.ok], hk⟩
    rw [← hp]
    exact h2
theorem ccUsed (b : Nat) (w : World) (h0 : w.cell? ⟨b, 0, none⟩ = some (.pointer (some ⟨b, 0, none⟩))) :
    Calls Tryz.prog 158 #[.pointer (some ⟨b, 0, none⟩)] w fun e w' => e = .returned (.tuple #[]) ∧ w' = w := by
  have mixed : Tryz.prog.follows .mixedOrders = true := by kernel_rfl
  have hf : Tryz.prog.funcs[158]? = some Tryz.f158 := by kernel_rfl
  have hn : Tryz.f158.ntmps = 20 := by kernel_rfl
  have t70 : Tryz.prog.underlying 129 = some (.pointer 132) := by kernel_rfl
  have hjj : (Tryz.prog.info? 132).map (·.size) = some 2 := by kernel_rfl
  obtain ⟨j, hj, hjs⟩ := Option.map_eq_some_iff.1 hjj
  go_enter hf, hn
  go_wp2
  rw [Lib.run_neq_ptr_same w _ t70 hj]
  go_wp2
  go_end0
  exact ⟨rfl, rfl⟩
theorem copyUsed_a {i : Nat} {x : AC} (hi : H[i]? = some (.row 132 2 [[.ptr (some (i, 0, 0)), x]] true)) (hk : K (.tup []) H) : ACalls Tryz.prog 158 [.c (.ptr (some (i, 0, 0)))] H K := by
  intro B w0 ι w vs hs hr ho
  obtain ⟨l⟩ := vs
  match l, hr with
  | [v], hr =>
    have hv : v = ptrOf ι (i, 0, 0) := hr.1
    subst hv
    obtain ⟨hsz, hcap, cur, fr, hb, hc, how⟩ := hs.obj i _ hi
    obtain ⟨rfl, hoff, hcs, hml⟩ := how rfl
    obtain ⟨u, hu1, hu2⟩ := hc 0 [.ptr (some (i, 0, 0)), x] rfl 0 (.ptr (some (i, 0, 0))) rfl
    have hu : u = ptrOf ι (i, 0, 0) := hu2
    have hp : ptrOf ι (i, 0, 0) = .pointer (some ⟨(ι i).block, 0, none⟩) := by unfold ptrOf Loc.at; rw [hoff]; simp
    rw [hp] at hu ⊢
    subst hu
    have h0 : w.cell? ⟨(ι i).block, 0, none⟩ = some (.pointer (some ⟨(ι i).block, 0, none⟩)) := by
      rw [Lib.cell_of_heap hb]
      rw [hoff] at hu1
      simpa using hu1
    refine Calls.mono (ccUsed (ι i).block w h0) ?_
    rintro e w' ⟨rfl, rfl⟩
    exact ⟨ι, _, .tup [], _, rfl, Agree.refl _ _, Nat.le_refl _, hs, ⟨[], rfl, trivial⟩, by simp [AV.ok], hk⟩
def bldO (p : Bool) (i j : Nat) (l : List UInt8) : AObj := .row 132 2 [[.ptr (if p then some (i, 0, 0) else none), grV j l]] true
theorem write_a {i j : Nat} {p : Bool} (hij : i ≠ j) (l : List UInt8) (s : ByteArray) (h0 : 0 < s.size) (h1 : s.size ≤ 1000000) (h2 : l.length ≤ 1000000000) (hi : H[i]? = some (bldO p i j l)) (hj : H[j]? = some (grO 5 1 (l.map encU)))
    (hk : K (.tup [(.c (.int .i64 (s.size))), .c .nili]) ((H.set i (.row 132 2 [[.ptr (some (i, 0, 0)), grV H.length (l ++ s.data.toList)]] true)).set j .dead ++ [grO 5 1 ((l ++ s.data.toList).map encU)])) : ACalls Tryz.prog 88 [.c (.ptr (some (i, 0, 0))), (.c (.str s))] H K := by
  have hil := getElem?_lt hi
  have hjl := getElem?_lt hj
  have key : ∀ H' : Hp, H' = H.set i (.row 132 2 [[.ptr (some (i, 0, 0)), grV j l]] true) → ∀ K' : AV → Hp → Prop, K' (.tup []) H' → ACalls Tryz.prog 158 [.c (.ptr (some (i, 0, 0)))] H K' := by
    intro H' e K' hk'
    subst e
    cases p with
    | false => exact copyFresh_a hi hk'
    | true =>
      refine copyUsed_a hi ?_
      rw [show H.set i (.row 132 2 [[.ptr (some (i, 0, 0)), grV j l]] true) = H by
        apply List.ext_getElem?
        intro n
        by_cases hn : i = n
        · subst hn; rw [List.getElem?_set_self hil, hi]; rfl
        · rw [List.getElem?_set_ne hn]] at hk'
      exact hk'
  refine acalls Tryz.func88 rfl (by kernel_rfl) (by simp (disch := first | omega | (simp only [go_sem]; first | done | omega)) only [go_sem]) (fun hH => ?_)
  simp (disch := first | omega | (simp only [go_sem]; first | done | omega)) only [go_sem]
  refine key _ rfl _ ?_
  simp (disch := first | omega | (simp only [go_sem]; first | done | omega)) only [go_sem]
  refine appUs l s (by rw [List.getElem?_set_ne (by omega)]; exact hj) h0 (by omega) ?_
  rw [List.length_set]
  simp (disch := first | omega | (simp only [go_sem]; first | done | omega)) only [go_sem]
  rw [List.set_comm _ _ (by omega : j ≠ i), List.set_set]
  exact Ret.same (by simp) hk
theorem bldLen_a {i j : Nat} {p : Bool} (l : List UInt8) (h2 : l.length ≤ 1000000000) (hi : H[i]? = some (bldO p i j l)) (hj : H[j]? = some (grO 5 1 (l.map encU))) (hk : K (.c (.int .i64 (l.length))) H) : ACalls Tryz.prog 91 [.c (.ptr (some (i, 0, 0)))] H K := by
  have hil := getElem?_lt hi
  unfold bldO at hi
  refine acalls Tryz.func91 rfl (by kernel_rfl) (by simp (disch := first | omega | (simp only [go_sem]; first | done | omega)) only [go_sem]) (fun hH => ?_)
  simp (disch := first | omega | (simp only [go_sem]; first | done | omega)) only [go_sem, hi]
  exact Ret.same (Nat.le_refl _) hk
end Go.Proofs.YtflklkijfkmeiaaGreatDoor
