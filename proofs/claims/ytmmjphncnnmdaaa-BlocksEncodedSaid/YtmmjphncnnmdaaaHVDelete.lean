/- slices.Delete of bytes, laid from the kit's contract. No condition. -/
import Derived.Shelf.SlicesE.Delete
import Derived.Test.YtmmjphncnnmdaaaHVInsert
namespace Go.Proofs.Ytmmjphncnnmdaaa
open Go Go.RowKit Go.Shelf
def delRen : Go.Shelf.Ren := { f := fun x => match x with | 45 => 42 | n => n, t := fun x => match x with | 22 => 31 | 23 => 5 | 3 => 3 | 4 => 4 | n => n, g := fun x => x }
theorem delLay : SlLaysE.n45 Try.prog delRen := {
  mixed := by kernel_rfl
  f45 := ⟨(Try.f42).name, by kernel_rfl, by kernel_rfl⟩
  t0 := by kernel_rfl
  a0 := fun w => by kernel_rfl
  z0 := fun w => by kernel_rfl
  v0 := fun w => by kernel_rfl
  t3 := by kernel_rfl
  a3 := fun w => by kernel_rfl
  z3 := fun w => by kernel_rfl
  v3 := fun w => by kernel_rfl
  t4 := by kernel_rfl
  a4 := fun w => by kernel_rfl
  z4 := fun w => by kernel_rfl
  v4 := fun w => by kernel_rfl
  t22 := by kernel_rfl
  a22 := fun w => by kernel_rfl
  z22 := fun w => by kernel_rfl
  v22 := fun w => by kernel_rfl
  a23 := fun w => by kernel_rfl
  z23 := fun w => by kernel_rfl }
end Go.Proofs.Ytmmjphncnnmdaaa
