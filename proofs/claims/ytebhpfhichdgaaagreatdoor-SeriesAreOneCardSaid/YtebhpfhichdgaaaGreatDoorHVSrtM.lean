/- Samples sorted by slices.SortFunc of the program's closures, at any length. Condition: moments are not huge. -/
import Derived.Shelf.SlIterI.Sorted
import Derived.Shelf.SortM.Plain
import Derived.Shelf.SortM.SortNone
import Derived.Test.YtebhpfhichdgaaaGreatDoorHVGA
import Derived.Shelf.Sort.Plain
import Derived.Test.YtebhpfhichdgaaaGreatDoorHVGF
import Derived.Test.YtebhpfhichdgaaaGreatDoorHVArrC
import Derived.Test.YtebhpfhichdgaaaGreatDoorHVStr
import Derived.Test.YtebhpfhichdgaaaGreatDoorHVRows
import Derived.Test.YtebhpfhichdgaaaGreatDoorHVGK
import Derived.Test.YtebhpfhichdgaaaGreatDoorHVArrR
import Derived.Test.YtebhpfhichdgaaaGreatDoorHVSrtK
import Derived.Test.YtebhpfhichdgaaaGreatDoorProg
namespace Go.Proofs.YtebhpfhichdgaaaGreatDoor
open Go Go.RowKit Go.Shelf
set_option maxRecDepth 100000
set_option linter.all false
set_option maxHeartbeats 2000000
variable {H : Hp} {K : AV → Hp → Prop}
def sfRenSm : Go.Shelf.Ren := { f := fun x => match x with | 6 => 148 | 14 => 231 | 15 => 199 | 20 => 282 | 21 => 283 | 22 => 284 | 23 => 285 | 24 => 286 | 25 => 287 | 26 => 288 | 27 => 289 | 28 => 270 | 29 => 271 | 46 => 330 | 47 => 322 | 48 => 323 | 49 => 331 | 50 => 332 | 57 => 352 | n => n, t := fun x => match x with | 0 => 0 | 3 => 3 | 4 => 4 | 5 => 5 | 9 => 9 | 22 => 91 | 24 => 49 | 25 => 180 | 39 => 198 | 45 => 276 | 46 => 277 | 50 => 62 | 53 => 265 | 55 => 268 | 66 => 324 | 70 => 328 | 76 => 342 | 77 => 343 | n => n, g := fun x => x }
theorem sfLaySm : SlLaysF0.n6 Tryz.prog sfRenSm := {
  mixed := by kernel_rfl
  f6 := ⟨(Tryz.f148).name, by kernel_rfl, by kernel_rfl⟩
  f14 := ⟨(Tryz.f231).name, by kernel_rfl, by kernel_rfl⟩
  f15 := by kernel_rfl
  f20 := ⟨(Tryz.f282).name, by kernel_rfl, by kernel_rfl⟩
  f21 := ⟨(Tryz.f283).name, by kernel_rfl, by kernel_rfl⟩
  f22 := ⟨(Tryz.f284).name, by kernel_rfl, by kernel_rfl⟩
  f23 := ⟨(Tryz.f285).name, by kernel_rfl, by kernel_rfl⟩
  f24 := ⟨(Tryz.f286).name, by kernel_rfl, by kernel_rfl⟩
  f25 := ⟨(Tryz.f287).name, by kernel_rfl, by kernel_rfl⟩
  f26 := ⟨(Tryz.f288).name, by kernel_rfl, by kernel_rfl⟩
  f27 := ⟨(Tryz.f289).name, by kernel_rfl, by kernel_rfl⟩
  f28 := by kernel_rfl
  f29 := by kernel_rfl
  f46 := ⟨(Tryz.f330).name, by kernel_rfl, by kernel_rfl⟩
  f47 := by kernel_rfl
  f48 := by kernel_rfl
  f49 := ⟨(Tryz.f331).name, by kernel_rfl, by kernel_rfl⟩
  f50 := ⟨(Tryz.f332).name, by kernel_rfl, by kernel_rfl⟩
  f57 := ⟨(Tryz.f352).name, by kernel_rfl, by kernel_rfl⟩
  t0 := by kernel_rfl
  a0 := fun w => by kernel_rfl
  z0 := fun w => by kernel_rfl
  v0 := fun w => by kernel_rfl
  t3 := by kernel_rfl
  a3 := fun w => by kernel_rfl
  z3 := fun w => by kernel_rfl
  v3 := fun w => by kernel_rfl
  t4 := by kernel_rfl
  a4 := fun w => by kernel_rfl
  z4 := fun w => by kernel_rfl
  v4 := fun w => by kernel_rfl
  t5 := by kernel_rfl
  a5 := fun w => by kernel_rfl
  z5 := fun w => by kernel_rfl
  v5 := fun w => by kernel_rfl
  t9 := by kernel_rfl
  a9 := fun w => by kernel_rfl
  z9 := fun w => by kernel_rfl
  v9 := fun w => by kernel_rfl
  t22 := by kernel_rfl
  a22 := fun w => by kernel_rfl
  z22 := fun w => by kernel_rfl
  v22 := fun w => by kernel_rfl
  t25 := by kernel_rfl
  a25 := fun w => by kernel_rfl
  z25 := fun w => by kernel_rfl
  v25 := fun w => by kernel_rfl
  t39 := by kernel_rfl
  a39 := fun w => by kernel_rfl
  z39 := fun w => by kernel_rfl
  v39 := fun w => by kernel_rfl
  t45 := by kernel_rfl
  a45 := fun w => by kernel_rfl
  z45 := fun w => by kernel_rfl
  v45 := fun w => by kernel_rfl
  t46 := by kernel_rfl
  a46 := fun w => by kernel_rfl
  z46 := fun w => by kernel_rfl
  v46 := fun w => by kernel_rfl
  t50 := by kernel_rfl
  a50 := fun w => by kernel_rfl
  z50 := fun w => by kernel_rfl
  v50 := fun w => by kernel_rfl
  t53 := by kernel_rfl
  a53 := fun w => by kernel_rfl
  z53 := fun w => by kernel_rfl
  v53 := fun w => by kernel_rfl
  t55 := by kernel_rfl
  a55 := fun w => by kernel_rfl
  z55 := fun w => by kernel_rfl
  v55 := fun w => by kernel_rfl
  t66 := by kernel_rfl
  a66 := fun w => by kernel_rfl
  z66 := fun w => by kernel_rfl
  v66 := fun w => by kernel_rfl
  t70 := by kernel_rfl
  a70 := fun w => by kernel_rfl
  z70 := fun w => by kernel_rfl
  v70 := fun w => by kernel_rfl
  t76 := by kernel_rfl
  a76 := fun w => by kernel_rfl
  z76 := fun w => by kernel_rfl
  v76 := fun w => by kernel_rfl
  t77 := by kernel_rfl
  a77 := fun w => by kernel_rfl
  z77 := fun w => by kernel_rfl
  v77 := fun w => by kernel_rfl }
theorem encS_flat (x : Smp) : (encS x).length = 3 ∧ (encS x).all acFlat = true := ⟨rfl, rfl⟩
theorem insNilT_a {f : FuncId} (hk : K (.tup []) H) : ACalls Tryz.prog 282 [.c (.sl none 0), (.c (.int .i64 0)), (.c (.int .i64 0)), .c (.fn f [] [])] H K := by
  refine acalls Tryz.func282 rfl (by kernel_rfl) (by simp (disch := first | omega | (simp only [go_sem]; first | done | omega)) only [go_sem]) (fun hH => ?_)
  simp (disch := first | omega | (simp only [go_sem]; first | done | omega)) only [go_sem]
  refine AWp.loop (H.length) [0, 1, 2, 3] [8] (fun (q : Unit) => True) (fun (q : Unit) => [(8, (.c (.int .i64 1)))]) (fun (q : Unit) => H) (fun (q : Unit) => 0) (by kernel_rfl) (fun _ => rfl) (by kernel_rfl) (by first | (simp; done) | omega) (by first | (simp; done) | (simp; omega) | omega) kl ?_ (fun q hq _ _ => ?_)
  · exact Next.mk () trivial wk
  simp (disch := first | omega | (simp only [go_sem]; first | done | omega)) only [go_sem]
  exact Ret.same (by simp) hk
theorem pdqNilT_a {f : FuncId} (lim : Int) (hk : K (.tup []) H) : ACalls Tryz.prog 231 [.c (.sl none 0), (.c (.int .i64 0)), (.c (.int .i64 0)), (.c (.int .i64 lim)), .c (.fn f [] [])] H K := by
  refine acalls Tryz.func231 rfl (by kernel_rfl) (by simp (disch := first | omega | (simp only [go_sem]; first | done | omega)) only [go_sem]) (fun hH => ?_)
  simp (disch := first | omega | (simp only [go_sem]; first | done | omega)) only [go_sem]
  refine AWp.loop (H.length) [0, 4] [1, 2, 3, 10, 11] (fun (q : Unit) => True) (fun (q : Unit) => [(1, (.c (.int .i64 0))), (2, (.c (.int .i64 0))), (3, (.c (.int .i64 lim))), (10, (.c (.bool true))), (11, (.c (.bool true)))]) (fun (q : Unit) => H) (fun (q : Unit) => 0) (by kernel_rfl) (fun _ => rfl) (by kernel_rfl) (by first | (simp; done) | omega) (by first | (simp; done) | (simp; omega) | omega) kl ?_ (fun q hq _ _ => ?_)
  · exact Next.mk () trivial wk
  simp (disch := first | omega | (simp only [go_sem]; first | done | omega)) only [go_sem]
  refine insNilT_a ?_
  simp (disch := first | omega | (simp only [go_sem]; first | done | omega)) only [go_sem]
  exact Ret.same (by simp) hk
theorem sortNilT_a {f : FuncId} (hk : K (.tup []) H) : ACalls Tryz.prog 148 [.c (.sl none 0), .c (.fn f [] [])] H K := by
  refine acalls Tryz.func148 rfl (by kernel_rfl) (by simp (disch := first | omega | (simp only [go_sem]; first | done | omega)) only [go_sem]) (fun hH => ?_)
  simp (disch := first | omega | (simp only [go_sem]; first | done | omega)) only [go_sem]
  have hw : IntKind.u64.wrap (0 : Int) = (0 : Int) := by decide
  try rw [hw]
  refine len0_a ?_
  simp (disch := first | omega | (simp only [go_sem]; first | done | omega)) only [go_sem]
  refine pdqNilT_a 0 ?_
  simp (disch := first | omega | (simp only [go_sem]; first | done | omega)) only [go_sem]
  exact Ret.same (Nat.le_refl _) hk
end Go.Proofs.YtebhpfhichdgaaaGreatDoor
