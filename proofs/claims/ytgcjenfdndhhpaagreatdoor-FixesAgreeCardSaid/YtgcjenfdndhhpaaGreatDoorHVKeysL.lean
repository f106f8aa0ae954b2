/- slices.Sort, slices.Sorted and maps.Keys at integer keys: the kit's contracts, laid. No condition. -/
import Derived.Shelf.SlIterI.Sorted
import Derived.Shelf.SortM.Plain
import Derived.Shelf.SortM.SortNone
import Derived.Test.YtgcjenfdndhhpaaGreatDoorHVGA
namespace Go.Proofs.YtgcjenfdndhhpaaGreatDoor
open Go Go.RowKit Go.Shelf
set_option maxRecDepth 100000
set_option linter.all false
set_option maxHeartbeats 1000000
def sortMRen : Go.Shelf.Ren := { f := fun x => match x with | 5 => 175 | 7 => 212 | 8 => 49 | 10 => 224 | 11 => 225 | 12 => 226 | 13 => 227 | 14 => 228 | 15 => 229 | 16 => 230 | 17 => 231 | 18 => 232 | 19 => 98 | 20 => 99 | 30 => 238 | 31 => 144 | 32 => 145 | 33 => 239 | 34 => 240 | 35 => 172 | 40 => 248 | n => n, t := fun x => match x with | 0 => 0 | 3 => 3 | 4 => 4 | 5 => 5 | 9 => 9 | 22 => 22 | 23 => 22 | 25 => 3 | 32 => 100 | 35 => 147 | 36 => 148 | 41 => 86 | 44 => 154 | 46 => 156 | 53 => 206 | 57 => 210 | 63 => 253 | 64 => 254 | n => n, g := fun x => x }
theorem sortMLay : SlLaysM.n5 Tryz.prog sortMRen := {
  mixed := by kernel_rfl
  f5 := ⟨(Tryz.f175).name, by kernel_rfl, by kernel_rfl⟩
  f7 := ⟨(Tryz.f212).name, by kernel_rfl, by kernel_rfl⟩
  f8 := by kernel_rfl
  f10 := ⟨(Tryz.f224).name, by kernel_rfl, by kernel_rfl⟩
  f11 := ⟨(Tryz.f225).name, by kernel_rfl, by kernel_rfl⟩
  f12 := ⟨(Tryz.f226).name, by kernel_rfl, by kernel_rfl⟩
  f13 := ⟨(Tryz.f227).name, by kernel_rfl, by kernel_rfl⟩
  f14 := ⟨(Tryz.f228).name, by kernel_rfl, by kernel_rfl⟩
  f15 := ⟨(Tryz.f229).name, by kernel_rfl, by kernel_rfl⟩
  f16 := ⟨(Tryz.f230).name, by kernel_rfl, by kernel_rfl⟩
  f17 := ⟨(Tryz.f231).name, by kernel_rfl, by kernel_rfl⟩
  f18 := ⟨(Tryz.f232).name, by kernel_rfl, by kernel_rfl⟩
  f19 := by kernel_rfl
  f20 := by kernel_rfl
  f30 := ⟨(Tryz.f238).name, by kernel_rfl, by kernel_rfl⟩
  f31 := by kernel_rfl
  f32 := by kernel_rfl
  f33 := ⟨(Tryz.f239).name, by kernel_rfl, by kernel_rfl⟩
  f34 := ⟨(Tryz.f240).name, by kernel_rfl, by kernel_rfl⟩
  f35 := ⟨(Tryz.f172).name, by kernel_rfl, by kernel_rfl⟩
  f40 := ⟨(Tryz.f248).name, by kernel_rfl, by kernel_rfl⟩
  t0 := by kernel_rfl
  a0 := fun w => by kernel_rfl
  z0 := fun w => by kernel_rfl
  v0 := fun w => by kernel_rfl
  t3 := by kernel_rfl
  a3 := fun w => by kernel_rfl
  z3 := fun w => by kernel_rfl
  v3 := fun w => by kernel_rfl
  t4 := by kernel_rfl
  a4 := fun w => by kernel_rfl
  z4 := fun w => by kernel_rfl
  v4 := fun w => by kernel_rfl
  t5 := by kernel_rfl
  a5 := fun w => by kernel_rfl
  z5 := fun w => by kernel_rfl
  v5 := fun w => by kernel_rfl
  t9 := by kernel_rfl
  a9 := fun w => by kernel_rfl
  z9 := fun w => by kernel_rfl
  v9 := fun w => by kernel_rfl
  t22 := by kernel_rfl
  a22 := fun w => by kernel_rfl
  z22 := fun w => by kernel_rfl
  v22 := fun w => by kernel_rfl
  t23 := by kernel_rfl
  a23 := fun w => by kernel_rfl
  z23 := fun w => by kernel_rfl
  v23 := fun w => by kernel_rfl
  t25 := by kernel_rfl
  a25 := fun w => by kernel_rfl
  z25 := fun w => by kernel_rfl
  v25 := fun w => by kernel_rfl
  t32 := by kernel_rfl
  a32 := fun w => by kernel_rfl
  z32 := fun w => by kernel_rfl
  v32 := fun w => by kernel_rfl
  t35 := by kernel_rfl
  a35 := fun w => by kernel_rfl
  z35 := fun w => by kernel_rfl
  v35 := fun w => by kernel_rfl
  t36 := by kernel_rfl
  a36 := fun w => by kernel_rfl
  z36 := fun w => by kernel_rfl
  v36 := fun w => by kernel_rfl
  t41 := by kernel_rfl
  a41 := fun w => by kernel_rfl
  z41 := fun w => by kernel_rfl
  v41 := fun w => by kernel_rfl
  t44 := by kernel_rfl
  a44 := fun w => by kernel_rfl
  z44 := fun w => by kernel_rfl
  v44 := fun w => by kernel_rfl
  t46 := by kernel_rfl
  a46 := fun w => by kernel_rfl
  z46 := fun w => by kernel_rfl
  v46 := fun w => by kernel_rfl
  t53 := by kernel_rfl
  a53 := fun w => by kernel_rfl
  z53 := fun w => by kernel_rfl
  v53 := fun w => by kernel_rfl
  t57 := by kernel_rfl
  a57 := fun w => by kernel_rfl
  z57 := fun w => by kernel_rfl
  v57 := fun w => by kernel_rfl
  t63 := by kernel_rfl
  a63 := fun w => by kernel_rfl
  z63 := fun w => by kernel_rfl
  v63 := fun w => by kernel_rfl
  t64 := by kernel_rfl
  a64 := fun w => by kernel_rfl
  z64 := fun w => by kernel_rfl
  v64 := fun w => by kernel_rfl }
def keysSRen : Go.Shelf.Ren := { f := fun x => match x with | 6 => 130 | 8 => 174 | 9 => 175 | 11 => 211 | 7 => 131 | 10 => 176 | n => n, t := fun x => match x with | 0 => 0 | 3 => 43 | 4 => 4 | 23 => 127 | 24 => 22 | 26 => 3 | 27 => 192 | 28 => 193 | 33 => 77 | n => n, g := fun x => x }
theorem sortedLay : SlLaysZI.n6 Tryz.prog keysSRen := {
  mixed := by kernel_rfl
  f6 := ⟨(Tryz.f130).name, by kernel_rfl, by kernel_rfl⟩
  f8 := ⟨(Tryz.f174).name, by kernel_rfl, by kernel_rfl⟩
  f11 := ⟨(Tryz.f211).name, by kernel_rfl, by kernel_rfl⟩
  t0 := by kernel_rfl
  a0 := fun w => by kernel_rfl
  z0 := fun w => by kernel_rfl
  v0 := fun w => by kernel_rfl
  t24 := by kernel_rfl
  a24 := fun w => by kernel_rfl
  z24 := fun w => by kernel_rfl
  v24 := fun w => by kernel_rfl
  t26 := by kernel_rfl
  a26 := fun w => by kernel_rfl
  z26 := fun w => by kernel_rfl
  v26 := fun w => by kernel_rfl
  t28 := by kernel_rfl
  a28 := fun w => by kernel_rfl
  z28 := fun w => by kernel_rfl
  v28 := fun w => by kernel_rfl
  i26 := by kernel_rfl }
theorem keysSLay : SlLaysZI.n7 Tryz.prog keysSRen := {
  mixed := by kernel_rfl
  f7 := ⟨(Tryz.f131).name, by kernel_rfl, by kernel_rfl⟩
  f10 := ⟨(Tryz.f176).name, by kernel_rfl, by kernel_rfl⟩
  t0 := by kernel_rfl
  a0 := fun w => by kernel_rfl
  z0 := fun w => by kernel_rfl
  v0 := fun w => by kernel_rfl
  t4 := by kernel_rfl
  a4 := fun w => by kernel_rfl
  z4 := fun w => by kernel_rfl
  v4 := fun w => by kernel_rfl
  t23 := by kernel_rfl
  a23 := fun w => by kernel_rfl
  z23 := fun w => by kernel_rfl
  v23 := fun w => by kernel_rfl
  t26 := by kernel_rfl
  a26 := fun w => by kernel_rfl
  z26 := fun w => by kernel_rfl
  v26 := fun w => by kernel_rfl
  t27 := by kernel_rfl
  a27 := fun w => by kernel_rfl
  z27 := fun w => by kernel_rfl
  v27 := fun w => by kernel_rfl
  t28 := by kernel_rfl
  a28 := fun w => by kernel_rfl
  z28 := fun w => by kernel_rfl
  v28 := fun w => by kernel_rfl
  t33 := by kernel_rfl
  a33 := fun w => by kernel_rfl
  z33 := fun w => by kernel_rfl
  v33 := fun w => by kernel_rfl }
def keysBRen : Go.Shelf.Ren := { f := fun x => match x with | 6 => 130 | 8 => 174 | 9 => 175 | 11 => 211 | 7 => 134 | 10 => 177 | n => n, t := fun x => match x with | 0 => 0 | 3 => 4 | 4 => 4 | 23 => 172 | 24 => 22 | 26 => 3 | 27 => 192 | 28 => 193 | 33 => 77 | n => n, g := fun x => x }
theorem keysBLay : SlLaysZI.n7 Tryz.prog keysBRen := {
  mixed := by kernel_rfl
  f7 := ⟨(Tryz.f134).name, by kernel_rfl, by kernel_rfl⟩
  f10 := ⟨(Tryz.f177).name, by kernel_rfl, by kernel_rfl⟩
  t0 := by kernel_rfl
  a0 := fun w => by kernel_rfl
  z0 := fun w => by kernel_rfl
  v0 := fun w => by kernel_rfl
  t4 := by kernel_rfl
  a4 := fun w => by kernel_rfl
  z4 := fun w => by kernel_rfl
  v4 := fun w => by kernel_rfl
  t23 := by kernel_rfl
  a23 := fun w => by kernel_rfl
  z23 := fun w => by kernel_rfl
  v23 := fun w => by kernel_rfl
  t26 := by kernel_rfl
  a26 := fun w => by kernel_rfl
  z26 := fun w => by kernel_rfl
  v26 := fun w => by kernel_rfl
  t27 := by kernel_rfl
  a27 := fun w => by kernel_rfl
  z27 := fun w => by kernel_rfl
  v27 := fun w => by kernel_rfl
  t28 := by kernel_rfl
  a28 := fun w => by kernel_rfl
  z28 := fun w => by kernel_rfl
  v28 := fun w => by kernel_rfl
  t33 := by kernel_rfl
  a33 := fun w => by kernel_rfl
  z33 := fun w => by kernel_rfl
  v33 := fun w => by kernel_rfl }
theorem sortsI_in (m : Nat) : AnyZI.SortsIn Tryz.prog keysSRen Fence.wide m :=
  ⟨fun blk off cap ss W hH hblk hsz => callsIn_wide.2 (AnyM.slices_Sort_int sortMLay blk off cap ss W hH hblk hsz),
   fun p cap W => callsIn_wide.2 (AnyM.slices_Sort_int_none sortMLay p cap W)⟩
end Go.Proofs.YtgcjenfdndhhpaaGreatDoor
