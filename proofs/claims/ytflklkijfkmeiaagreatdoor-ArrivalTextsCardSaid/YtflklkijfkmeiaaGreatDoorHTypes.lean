/- Facts on the types. No condition. -/
import Derived.Test.YtflklkijfkmeiaaGreatDoorProg
import Derived.KernelRfl
import Derived.Test.YtflklkijfkmeiaaGreatDoorHCoreC
namespace Go.Proofs.YtflklkijfkmeiaaGreatDoor
open Go Go.RowKit
@[go_sem] theorem t3_ag : aggT Tryz.prog 3 = false := by kernel_rfl
@[go_sem] theorem t3_sz : szT Tryz.prog 3 = 1 := by kernel_rfl
@[go_sem] theorem t3_in : (Tryz.prog.info? 3).isSome = true := by kernel_rfl
@[go_sem] theorem t3_un : (Tryz.prog.underlying 3).isSome = true := by kernel_rfl
@[go_sem] theorem t3_ze : zeroT Tryz.prog 3 = some [.int .i64 0] := by kernel_rfl
@[go_sem] theorem t5_un : (Tryz.prog.underlying 5).isSome = true := by kernel_rfl
@[go_sem] theorem t9_ag : aggT Tryz.prog 9 = false := by kernel_rfl
@[go_sem] theorem t9_sz : szT Tryz.prog 9 = 1 := by kernel_rfl
@[go_sem] theorem t9_in : (Tryz.prog.info? 9).isSome = true := by kernel_rfl
@[go_sem] theorem t9_ze : zeroT Tryz.prog 9 = some [.str ⟨#[]⟩] := by kernel_rfl
@[go_sem] theorem t9_by : Tryz.prog.bytesOf 9 = 16 := by kernel_rfl
@[go_sem] theorem t22_ag : aggT Tryz.prog 22 = false := by kernel_rfl
@[go_sem] theorem t22_sz : szT Tryz.prog 22 = 1 := by kernel_rfl
@[go_sem] theorem t22_in : (Tryz.prog.info? 22).isSome = true := by kernel_rfl
@[go_sem] theorem t22_un : (Tryz.prog.underlying 22).isSome = true := by kernel_rfl
@[go_sem] theorem t25_ze : zeroT Tryz.prog 25 = some [.sl none 0, .int .i64 0] := by kernel_rfl
@[go_sem] theorem t25_fo : fieldsOk Tryz.prog 25 = true := by kernel_rfl
@[go_sem] theorem t34_ag : aggT Tryz.prog 34 = true := by kernel_rfl
@[go_sem] theorem t34_sz : szT Tryz.prog 34 = 3 := by kernel_rfl
@[go_sem] theorem t34_in : (Tryz.prog.info? 34).isSome = true := by kernel_rfl
@[go_sem] theorem t34_un : (Tryz.prog.underlying 34).isSome = true := by kernel_rfl
@[go_sem] theorem t34_ze : zeroT Tryz.prog 34 = some [.int .i64 0, .int .i64 0, .int .i64 0] := by kernel_rfl
@[go_sem] theorem t34_fo : fieldsOk Tryz.prog 34 = true := by kernel_rfl
@[go_sem] theorem t54_ag : aggT Tryz.prog 54 = false := by kernel_rfl
@[go_sem] theorem t54_sz : szT Tryz.prog 54 = 1 := by kernel_rfl
@[go_sem] theorem t54_in : (Tryz.prog.info? 54).isSome = true := by kernel_rfl
@[go_sem] theorem t54_un : (Tryz.prog.underlying 54).isSome = true := by kernel_rfl
@[go_sem] theorem t54_ze : zeroT Tryz.prog 54 = some [.sl none 0] := by kernel_rfl
@[go_sem] theorem t65_ag : aggT Tryz.prog 65 = true := by kernel_rfl
@[go_sem] theorem t65_sz : szT Tryz.prog 65 = 5 := by kernel_rfl
@[go_sem] theorem t65_in : (Tryz.prog.info? 65).isSome = true := by kernel_rfl
@[go_sem] theorem t65_un : (Tryz.prog.underlying 65).isSome = true := by kernel_rfl
@[go_sem] theorem t65_ze : zeroT Tryz.prog 65 = some [.int .i64 0, .str ⟨#[]⟩, .int .i64 0, .int .i64 0, .int .i64 0] := by kernel_rfl
@[go_sem] theorem t65_fo : fieldsOk Tryz.prog 65 = true := by kernel_rfl
@[go_sem] theorem t67_ag : aggT Tryz.prog 67 = true := by kernel_rfl
@[go_sem] theorem t67_sz : szT Tryz.prog 67 = 7 := by kernel_rfl
@[go_sem] theorem t67_in : (Tryz.prog.info? 67).isSome = true := by kernel_rfl
@[go_sem] theorem t67_un : (Tryz.prog.underlying 67).isSome = true := by kernel_rfl
@[go_sem] theorem t67_ze : zeroT Tryz.prog 67 = some [.str ⟨#[]⟩, .int .i64 0, .int .i64 0, .str ⟨#[]⟩, .int .i64 0, .int .i64 0, .int .i64 0] := by kernel_rfl
@[go_sem] theorem t67_fo : fieldsOk Tryz.prog 67 = true := by kernel_rfl
@[go_sem] theorem t130_ag : aggT Tryz.prog 130 = false := by kernel_rfl
@[go_sem] theorem t130_sz : szT Tryz.prog 130 = 1 := by kernel_rfl
@[go_sem] theorem t130_in : (Tryz.prog.info? 130).isSome = true := by kernel_rfl
@[go_sem] theorem t130_un : (Tryz.prog.underlying 130).isSome = true := by kernel_rfl
@[go_sem] theorem t132_ze : zeroT Tryz.prog 132 = some [.ptr none, .sl none 0] := by kernel_rfl
@[go_sem] theorem t230_un : (Tryz.prog.underlying 230).isSome = true := by kernel_rfl
@[go_sem] theorem t260_ag : aggT Tryz.prog 260 = true := by kernel_rfl
@[go_sem] theorem t260_sz : szT Tryz.prog 260 = 2 := by kernel_rfl
@[go_sem] theorem t260_in : (Tryz.prog.info? 260).isSome = true := by kernel_rfl
@[go_sem] theorem t260_un : (Tryz.prog.underlying 260).isSome = true := by kernel_rfl
@[go_sem] theorem t260_ze : zeroT Tryz.prog 260 = some [.str ⟨#[]⟩, .int .i64 0] := by kernel_rfl
@[go_sem] theorem t260_fo : fieldsOk Tryz.prog 260 = true := by kernel_rfl
@[go_sem] theorem t25_f0 : fieldT Tryz.prog 25 0 = some (0, 1) := by kernel_rfl
@[go_sem] theorem t25_f1 : fieldT Tryz.prog 25 1 = some (1, 1) := by kernel_rfl
@[go_sem] theorem t34_f0 : fieldT Tryz.prog 34 0 = some (0, 1) := by kernel_rfl
@[go_sem] theorem t34_f1 : fieldT Tryz.prog 34 1 = some (1, 1) := by kernel_rfl
@[go_sem] theorem t34_f2 : fieldT Tryz.prog 34 2 = some (2, 1) := by kernel_rfl
@[go_sem] theorem t65_f0 : fieldT Tryz.prog 65 0 = some (0, 1) := by kernel_rfl
@[go_sem] theorem t65_f1 : fieldT Tryz.prog 65 1 = some (1, 1) := by kernel_rfl
@[go_sem] theorem t65_f2 : fieldT Tryz.prog 65 2 = some (2, 3) := by kernel_rfl
@[go_sem] theorem t67_f0 : fieldT Tryz.prog 67 0 = some (0, 1) := by kernel_rfl
@[go_sem] theorem t67_f1 : fieldT Tryz.prog 67 1 = some (1, 1) := by kernel_rfl
@[go_sem] theorem t67_f2 : fieldT Tryz.prog 67 2 = some (2, 5) := by kernel_rfl
@[go_sem] theorem t132_f1 : fieldT Tryz.prog 132 1 = some (1, 1) := by kernel_rfl
@[go_sem] theorem t260_f0 : fieldT Tryz.prog 260 0 = some (0, 1) := by kernel_rfl
@[go_sem] theorem t260_f1 : fieldT Tryz.prog 260 1 = some (1, 1) := by kernel_rfl
@[go_sem] theorem t9_st : strT Tryz.prog 9 = true := by kernel_rfl
@[go_sem] theorem t9_el : elemT Tryz.prog 9 = none := by kernel_rfl
@[go_sem] theorem t9_us : Tryz.prog.underlying 9 = some .string := by kernel_rfl
@[go_sem] theorem t22_el : elemT Tryz.prog 22 = some 3 := by kernel_rfl
@[go_sem] theorem t54_el : elemT Tryz.prog 54 = some 67 := by kernel_rfl
@[go_sem] theorem t54_st : strT Tryz.prog 54 = false := by kernel_rfl
@[go_sem] theorem t70_el : elemT Tryz.prog 70 = some 9 := by kernel_rfl
@[go_sem] theorem t70_st : strT Tryz.prog 70 = false := by kernel_rfl
@[go_sem] theorem t130_el : elemT Tryz.prog 130 = some 5 := by kernel_rfl
@[go_sem] theorem t3_ik : intK Tryz.prog 3 = some .i64 := by kernel_rfl
@[go_sem] theorem t5_ik : intK Tryz.prog 5 = some .u8 := by kernel_rfl
@[go_sem] theorem t9_ik : intK Tryz.prog 9 = none := by kernel_rfl
@[go_sem] theorem t21_un : (Tryz.prog.underlying 21).isSome = true := by kernel_rfl
@[go_sem] theorem t21_ik : intK Tryz.prog 21 = some .i32 := by kernel_rfl
@[go_sem] theorem t21_st : strT Tryz.prog 21 = false := by kernel_rfl
@[go_sem] theorem t160_ik : intK Tryz.prog 160 = some .u64 := by kernel_rfl
@[go_sem] theorem t3_bt : bytesT Tryz.prog 3 = false := by kernel_rfl
@[go_sem] theorem t5_bt : bytesT Tryz.prog 5 = false := by kernel_rfl
@[go_sem] theorem t9_bt : bytesT Tryz.prog 9 = false := by kernel_rfl
@[go_sem] theorem t21_bt : bytesT Tryz.prog 21 = false := by kernel_rfl
@[go_sem] theorem t160_bt : bytesT Tryz.prog 160 = false := by kernel_rfl
@[go_sem] theorem t230_bt : bytesT Tryz.prog 230 = false := by kernel_rfl
@[go_sem] theorem t65_fk : fieldsK Tryz.prog 65 = some [(0, 1), (1, 3), (2, 1), (3, 1), (4, 1)] := by kernel_rfl
@[go_sem] theorem t67_fk : fieldsK Tryz.prog 67 = some [(0, 3), (1, 1), (2, 1), (3, 3), (4, 1), (5, 1), (6, 1)] := by kernel_rfl
@[go_sem] theorem t134_kd : kindT Tryz.prog 134 = 6 := by kernel_rfl
@[go_sem] theorem f4_rs : Tryz.f4.results.toList = [.tmp 2] := by kernel_rfl
@[go_sem] theorem f4_nt : Tryz.f4.ntmps = 74 := by kernel_rfl
@[go_sem] theorem f24_en : entersB Tryz.prog 24 = true := by kernel_rfl
@[go_sem] theorem f24_rs : Tryz.f24.results.toList = [.tmp 4] := by kernel_rfl
@[go_sem] theorem f24_nt : Tryz.f24.ntmps = 87 := by kernel_rfl
@[go_sem] theorem f25_en : entersB Tryz.prog 25 = true := by kernel_rfl
@[go_sem] theorem f25_rs : Tryz.f25.results.toList = [.tmp 6] := by kernel_rfl
@[go_sem] theorem f25_nt : Tryz.f25.ntmps = 19 := by kernel_rfl
@[go_sem] theorem f26_en : entersB Tryz.prog 26 = true := by kernel_rfl
@[go_sem] theorem f26_rs : Tryz.f26.results.toList = [.tmp 2] := by kernel_rfl
@[go_sem] theorem f26_nt : Tryz.f26.ntmps = 19 := by kernel_rfl
@[go_sem] theorem f27_en : entersB Tryz.prog 27 = true := by kernel_rfl
@[go_sem] theorem f27_rs : Tryz.f27.results.toList = [.tmp 2, .tmp 3] := by kernel_rfl
@[go_sem] theorem f27_nt : Tryz.f27.ntmps = 49 := by kernel_rfl
@[go_sem] theorem f28_en : entersB Tryz.prog 28 = true := by kernel_rfl
@[go_sem] theorem f28_rs : Tryz.f28.results.toList = [.tmp 2] := by kernel_rfl
@[go_sem] theorem f28_nt : Tryz.f28.ntmps = 67 := by kernel_rfl
@[go_sem] theorem f29_en : entersB Tryz.prog 29 = true := by kernel_rfl
@[go_sem] theorem f29_rs : Tryz.f29.results.toList = [.tmp 2] := by kernel_rfl
@[go_sem] theorem f29_nt : Tryz.f29.ntmps = 39 := by kernel_rfl
@[go_sem] theorem f30_en : entersB Tryz.prog 30 = true := by kernel_rfl
@[go_sem] theorem f30_rs : Tryz.f30.results.toList = [.tmp 2, .tmp 3, .tmp 4] := by kernel_rfl
@[go_sem] theorem f30_nt : Tryz.f30.ntmps = 27 := by kernel_rfl
@[go_sem] theorem f31_en : entersB Tryz.prog 31 = true := by kernel_rfl
@[go_sem] theorem f31_rs : Tryz.f31.results.toList = [.tmp 2, .tmp 3, .tmp 4] := by kernel_rfl
@[go_sem] theorem f31_nt : Tryz.f31.ntmps = 27 := by kernel_rfl
@[go_sem] theorem f32_en : entersB Tryz.prog 32 = true := by kernel_rfl
@[go_sem] theorem f32_rs : Tryz.f32.results.toList = [.tmp 4] := by kernel_rfl
@[go_sem] theorem f32_nt : Tryz.f32.ntmps = 26 := by kernel_rfl
@[go_sem] theorem f33_en : entersB Tryz.prog 33 = true := by kernel_rfl
@[go_sem] theorem f43_en : entersB Tryz.prog 43 = true := by kernel_rfl
@[go_sem] theorem f43_rs : Tryz.f43.results.toList = [.tmp 4] := by kernel_rfl
@[go_sem] theorem f43_nt : Tryz.f43.ntmps = 9 := by kernel_rfl
@[go_sem] theorem f44_en : entersB Tryz.prog 44 = true := by kernel_rfl
@[go_sem] theorem f44_rs : Tryz.f44.results.toList = [.tmp 6] := by kernel_rfl
@[go_sem] theorem f44_nt : Tryz.f44.ntmps = 63 := by kernel_rfl
@[go_sem] theorem f45_en : entersB Tryz.prog 45 = true := by kernel_rfl
@[go_sem] theorem f45_rs : Tryz.f45.results.toList = [.tmp 4] := by kernel_rfl
@[go_sem] theorem f45_nt : Tryz.f45.ntmps = 12 := by kernel_rfl
@[go_sem] theorem f47_en : entersB Tryz.prog 47 = true := by kernel_rfl
@[go_sem] theorem f47_rs : Tryz.f47.results.toList = [.tmp 4] := by kernel_rfl
@[go_sem] theorem f47_nt : Tryz.f47.ntmps = 12 := by kernel_rfl
@[go_sem] theorem f49_en : entersB Tryz.prog 49 = true := by kernel_rfl
@[go_sem] theorem f49_rs : Tryz.f49.results.toList = [.tmp 4] := by kernel_rfl
@[go_sem] theorem f49_nt : Tryz.f49.ntmps = 64 := by kernel_rfl
@[go_sem] theorem f53_en : entersB Tryz.prog 53 = true := by kernel_rfl
@[go_sem] theorem f53_rs : Tryz.f53.results.toList = [.tmp 2] := by kernel_rfl
@[go_sem] theorem f53_nt : Tryz.f53.ntmps = 6 := by kernel_rfl
@[go_sem] theorem f69_en : entersB Tryz.prog 69 = true := by kernel_rfl
@[go_sem] theorem f69_rs : Tryz.f69.results.toList = [.tmp 2] := by kernel_rfl
@[go_sem] theorem f69_nt : Tryz.f69.ntmps = 15 := by kernel_rfl
@[go_sem] theorem f71_en : entersB Tryz.prog 71 = true := by kernel_rfl
@[go_sem] theorem f71_rs : Tryz.f71.results.toList = [.tmp 2] := by kernel_rfl
@[go_sem] theorem f71_nt : Tryz.f71.ntmps = 5 := by kernel_rfl
@[go_sem] theorem f72_en : entersB Tryz.prog 72 = true := by kernel_rfl
@[go_sem] theorem f72_rs : Tryz.f72.results.toList = [.tmp 6] := by kernel_rfl
@[go_sem] theorem f72_nt : Tryz.f72.ntmps = 15 := by kernel_rfl
@[go_sem] theorem f80_en : entersB Tryz.prog 80 = true := by kernel_rfl
@[go_sem] theorem f80_rs : Tryz.f80.results.toList = [.tmp 6] := by kernel_rfl
@[go_sem] theorem f80_nt : Tryz.f80.ntmps = 22 := by kernel_rfl
@[go_sem] theorem f81_en : entersB Tryz.prog 81 = true := by kernel_rfl
@[go_sem] theorem f81_rs : Tryz.f81.results.toList = [.cell 2 34] := by kernel_rfl
@[go_sem] theorem f81_nt : Tryz.f81.ntmps = 13 := by kernel_rfl
@[go_sem] theorem f82_en : entersB Tryz.prog 82 = true := by kernel_rfl
@[go_sem] theorem f82_rs : Tryz.f82.results.toList = [] := by kernel_rfl
@[go_sem] theorem f82_nt : Tryz.f82.ntmps = 9 := by kernel_rfl
@[go_sem] theorem f83_en : entersB Tryz.prog 83 = true := by kernel_rfl
@[go_sem] theorem f83_rs : Tryz.f83.results.toList = [.tmp 4] := by kernel_rfl
@[go_sem] theorem f83_nt : Tryz.f83.ntmps = 36 := by kernel_rfl
@[go_sem] theorem f84_en : entersB Tryz.prog 84 = true := by kernel_rfl
@[go_sem] theorem f84_rs : Tryz.f84.results.toList = [.tmp 4] := by kernel_rfl
@[go_sem] theorem f84_nt : Tryz.f84.ntmps = 66 := by kernel_rfl
@[go_sem] theorem f85_rs : Tryz.f85.results.toList = [.tmp 4] := by kernel_rfl
@[go_sem] theorem f85_nt : Tryz.f85.ntmps = 9 := by kernel_rfl
@[go_sem] theorem f86_en : entersB Tryz.prog 86 = true := by kernel_rfl
@[go_sem] theorem f86_rs : Tryz.f86.results.toList = [.tmp 4] := by kernel_rfl
@[go_sem] theorem f86_nt : Tryz.f86.ntmps = 16 := by kernel_rfl
@[go_sem] theorem f87_en : entersB Tryz.prog 87 = true := by kernel_rfl
@[go_sem] theorem f87_rs : Tryz.f87.results.toList = [.tmp 2] := by kernel_rfl
@[go_sem] theorem f87_nt : Tryz.f87.ntmps = 40 := by kernel_rfl
@[go_sem] theorem f88_en : entersB Tryz.prog 88 = true := by kernel_rfl
@[go_sem] theorem f88_rs : Tryz.f88.results.toList = [.tmp 4, .tmp 5] := by kernel_rfl
@[go_sem] theorem f88_nt : Tryz.f88.ntmps = 19 := by kernel_rfl
@[go_sem] theorem f89_en : entersB Tryz.prog 89 = true := by kernel_rfl
@[go_sem] theorem f90_en : entersB Tryz.prog 90 = true := by kernel_rfl
@[go_sem] theorem f90_rs : Tryz.f90.results.toList = [.tmp 2] := by kernel_rfl
@[go_sem] theorem f90_nt : Tryz.f90.ntmps = 16 := by kernel_rfl
@[go_sem] theorem f91_en : entersB Tryz.prog 91 = true := by kernel_rfl
@[go_sem] theorem f91_rs : Tryz.f91.results.toList = [.tmp 2] := by kernel_rfl
@[go_sem] theorem f91_nt : Tryz.f91.ntmps = 8 := by kernel_rfl
@[go_sem] theorem f92_en : entersB Tryz.prog 92 = true := by kernel_rfl
@[go_sem] theorem f93_en : entersB Tryz.prog 93 = true := by kernel_rfl
@[go_sem] theorem f93_rs : Tryz.f93.results.toList = [.tmp 2] := by kernel_rfl
@[go_sem] theorem f93_nt : Tryz.f93.ntmps = 27 := by kernel_rfl
@[go_sem] theorem f94_en : entersB Tryz.prog 94 = true := by kernel_rfl
@[go_sem] theorem f94_rs : Tryz.f94.results.toList = [.tmp 2] := by kernel_rfl
@[go_sem] theorem f94_nt : Tryz.f94.ntmps = 22 := by kernel_rfl
@[go_sem] theorem f95_en : entersB Tryz.prog 95 = true := by kernel_rfl
@[go_sem] theorem f95_rs : Tryz.f95.results.toList = [.tmp 2] := by kernel_rfl
@[go_sem] theorem f95_nt : Tryz.f95.ntmps = 18 := by kernel_rfl
@[go_sem] theorem f96_en : entersB Tryz.prog 96 = true := by kernel_rfl
@[go_sem] theorem f96_rs : Tryz.f96.results.toList = [.tmp 2] := by kernel_rfl
@[go_sem] theorem f96_nt : Tryz.f96.ntmps = 20 := by kernel_rfl
@[go_sem] theorem f97_en : entersB Tryz.prog 97 = true := by kernel_rfl
@[go_sem] theorem f97_rs : Tryz.f97.results.toList = [.tmp 2] := by kernel_rfl
@[go_sem] theorem f97_nt : Tryz.f97.ntmps = 16 := by kernel_rfl
@[go_sem] theorem f98_en : entersB Tryz.prog 98 = true := by kernel_rfl
@[go_sem] theorem f98_rs : Tryz.f98.results.toList = [.tmp 4, .tmp 5] := by kernel_rfl
@[go_sem] theorem f98_nt : Tryz.f98.ntmps = 39 := by kernel_rfl
@[go_sem] theorem f99_rs : Tryz.f99.results.toList = [.tmp 3] := by kernel_rfl
@[go_sem] theorem f99_nt : Tryz.f99.ntmps = 16 := by kernel_rfl
@[go_sem] theorem f100_en : entersB Tryz.prog 100 = true := by kernel_rfl
@[go_sem] theorem f100_rs : Tryz.f100.results.toList = [.cell 2 67, .tmp 3] := by kernel_rfl
@[go_sem] theorem f100_nt : Tryz.f100.ntmps = 51 := by kernel_rfl
@[go_sem] theorem f101_en : entersB Tryz.prog 101 = true := by kernel_rfl
@[go_sem] theorem f101_rs : Tryz.f101.results.toList = [.tmp 4, .tmp 5] := by kernel_rfl
@[go_sem] theorem f101_nt : Tryz.f101.ntmps = 30 := by kernel_rfl
@[go_sem] theorem f102_rs : Tryz.f102.results.toList = [.tmp 3] := by kernel_rfl
@[go_sem] theorem f102_nt : Tryz.f102.ntmps = 56 := by kernel_rfl
@[go_sem] theorem f103_en : entersB Tryz.prog 103 = true := by kernel_rfl
@[go_sem] theorem f103_rs : Tryz.f103.results.toList = [.tmp 2, .tmp 3] := by kernel_rfl
@[go_sem] theorem f103_nt : Tryz.f103.ntmps = 11 := by kernel_rfl
@[go_sem] theorem f104_en : entersB Tryz.prog 104 = true := by kernel_rfl
@[go_sem] theorem f104_rs : Tryz.f104.results.toList = [.tmp 4, .tmp 5] := by kernel_rfl
@[go_sem] theorem f104_nt : Tryz.f104.ntmps = 35 := by kernel_rfl
@[go_sem] theorem f105_en : entersB Tryz.prog 105 = true := by kernel_rfl
@[go_sem] theorem f105_rs : Tryz.f105.results.toList = [.cell 2 34, .tmp 3] := by kernel_rfl
@[go_sem] theorem f105_nt : Tryz.f105.ntmps = 36 := by kernel_rfl
@[go_sem] theorem f108_en : entersB Tryz.prog 108 = true := by kernel_rfl
@[go_sem] theorem f108_rs : Tryz.f108.results.toList = [.tmp 4] := by kernel_rfl
@[go_sem] theorem f108_nt : Tryz.f108.ntmps = 8 := by kernel_rfl
@[go_sem] theorem f116_en : entersB Tryz.prog 116 = true := by kernel_rfl
@[go_sem] theorem f116_rs : Tryz.f116.results.toList = [] := by kernel_rfl
@[go_sem] theorem f116_nt : Tryz.f116.ntmps = 25 := by kernel_rfl
@[go_sem] theorem f117_en : entersB Tryz.prog 117 = true := by kernel_rfl
@[go_sem] theorem f117_rs : Tryz.f117.results.toList = [.tmp 4] := by kernel_rfl
@[go_sem] theorem f117_nt : Tryz.f117.ntmps = 16 := by kernel_rfl
@[go_sem] theorem f121_en : entersB Tryz.prog 121 = true := by kernel_rfl
@[go_sem] theorem f121_rs : Tryz.f121.results.toList = [.tmp 2] := by kernel_rfl
@[go_sem] theorem f121_nt : Tryz.f121.ntmps = 54 := by kernel_rfl
@[go_sem] theorem f123_en : entersB Tryz.prog 123 = true := by kernel_rfl
@[go_sem] theorem f123_rs : Tryz.f123.results.toList = [.tmp 6] := by kernel_rfl
@[go_sem] theorem f123_nt : Tryz.f123.ntmps = 15 := by kernel_rfl
@[go_sem] theorem f132_en : entersB Tryz.prog 132 = true := by kernel_rfl
@[go_sem] theorem f132_rs : Tryz.f132.results.toList = [] := by kernel_rfl
@[go_sem] theorem f132_nt : Tryz.f132.ntmps = 11 := by kernel_rfl
@[go_sem] theorem f133_en : entersB Tryz.prog 133 = true := by kernel_rfl
@[go_sem] theorem f133_rs : Tryz.f133.results.toList = [.tmp 2] := by kernel_rfl
@[go_sem] theorem f133_nt : Tryz.f133.ntmps = 61 := by kernel_rfl
@[go_sem] theorem f137_en : entersB Tryz.prog 137 = true := by kernel_rfl
@[go_sem] theorem f137_rs : Tryz.f137.results.toList = [.tmp 4] := by kernel_rfl
@[go_sem] theorem f137_nt : Tryz.f137.ntmps = 8 := by kernel_rfl
@[go_sem] theorem f139_en : entersB Tryz.prog 139 = true := by kernel_rfl
@[go_sem] theorem f139_rs : Tryz.f139.results.toList = [.tmp 2] := by kernel_rfl
@[go_sem] theorem f139_nt : Tryz.f139.ntmps = 8 := by kernel_rfl
@[go_sem] theorem f140_en : entersB Tryz.prog 140 = true := by kernel_rfl
@[go_sem] theorem f140_rs : Tryz.f140.results.toList = [.tmp 4] := by kernel_rfl
@[go_sem] theorem f140_nt : Tryz.f140.ntmps = 18 := by kernel_rfl
@[go_sem] theorem f152_en : entersB Tryz.prog 152 = true := by kernel_rfl
@[go_sem] theorem f152_rs : Tryz.f152.results.toList = [] := by kernel_rfl
@[go_sem] theorem f152_nt : Tryz.f152.ntmps = 63 := by kernel_rfl
@[go_sem] theorem f153_en : entersB Tryz.prog 153 = true := by kernel_rfl
@[go_sem] theorem f153_rs : Tryz.f153.results.toList = [.tmp 2] := by kernel_rfl
@[go_sem] theorem f153_nt : Tryz.f153.ntmps = 9 := by kernel_rfl
@[go_sem] theorem f154_en : entersB Tryz.prog 154 = true := by kernel_rfl
@[go_sem] theorem f154_rs : Tryz.f154.results.toList = [.tmp 2] := by kernel_rfl
@[go_sem] theorem f154_nt : Tryz.f154.ntmps = 29 := by kernel_rfl
@[go_sem] theorem f155_en : entersB Tryz.prog 155 = true := by kernel_rfl
@[go_sem] theorem f155_rs : Tryz.f155.results.toList = [.tmp 4] := by kernel_rfl
@[go_sem] theorem f155_nt : Tryz.f155.ntmps = 24 := by kernel_rfl
@[go_sem] theorem f156_en : entersB Tryz.prog 156 = true := by kernel_rfl
@[go_sem] theorem f156_rs : Tryz.f156.results.toList = [.tmp 2] := by kernel_rfl
@[go_sem] theorem f156_nt : Tryz.f156.ntmps = 20 := by kernel_rfl
@[go_sem] theorem f157_en : entersB Tryz.prog 157 = true := by kernel_rfl
@[go_sem] theorem f157_rs : Tryz.f157.results.toList = [.tmp 2] := by kernel_rfl
@[go_sem] theorem f157_nt : Tryz.f157.ntmps = 40 := by kernel_rfl
@[go_sem] theorem f158_en : entersB Tryz.prog 158 = true := by kernel_rfl
@[go_sem] theorem f160_en : entersB Tryz.prog 160 = true := by kernel_rfl
@[go_sem] theorem f160_rs : Tryz.f160.results.toList = [.tmp 2] := by kernel_rfl
@[go_sem] theorem f160_nt : Tryz.f160.ntmps = 8 := by kernel_rfl
@[go_sem] theorem f161_en : entersB Tryz.prog 161 = true := by kernel_rfl
@[go_sem] theorem f161_rs : Tryz.f161.results.toList = [.tmp 4] := by kernel_rfl
@[go_sem] theorem f161_nt : Tryz.f161.ntmps = 9 := by kernel_rfl
@[go_sem] theorem f162_rs : Tryz.f162.results.toList = [.tmp 3] := by kernel_rfl
@[go_sem] theorem f162_nt : Tryz.f162.ntmps = 14 := by kernel_rfl
@[go_sem] theorem f163_en : entersB Tryz.prog 163 = true := by kernel_rfl
@[go_sem] theorem f163_rs : Tryz.f163.results.toList = [.tmp 4] := by kernel_rfl
@[go_sem] theorem f163_nt : Tryz.f163.ntmps = 19 := by kernel_rfl
@[go_sem] theorem f164_en : entersB Tryz.prog 164 = true := by kernel_rfl
@[go_sem] theorem f164_rs : Tryz.f164.results.toList = [.tmp 4] := by kernel_rfl
@[go_sem] theorem f164_nt : Tryz.f164.ntmps = 75 := by kernel_rfl
@[go_sem] theorem f165_en : entersB Tryz.prog 165 = true := by kernel_rfl
@[go_sem] theorem f165_rs : Tryz.f165.results.toList = [.tmp 0] := by kernel_rfl
@[go_sem] theorem f165_nt : Tryz.f165.ntmps = 2 := by kernel_rfl
@[go_sem] theorem f166_en : entersB Tryz.prog 166 = true := by kernel_rfl
@[go_sem] theorem f166_rs : Tryz.f166.results.toList = [.tmp 2, .tmp 3] := by kernel_rfl
@[go_sem] theorem f166_nt : Tryz.f166.ntmps = 15 := by kernel_rfl
@[go_sem] theorem f167_en : entersB Tryz.prog 167 = true := by kernel_rfl
@[go_sem] theorem f167_rs : Tryz.f167.results.toList = [.tmp 4, .tmp 5] := by kernel_rfl
@[go_sem] theorem f167_nt : Tryz.f167.ntmps = 25 := by kernel_rfl
@[go_sem] theorem f168_en : entersB Tryz.prog 168 = true := by kernel_rfl
@[go_sem] theorem f168_rs : Tryz.f168.results.toList = [.tmp 4] := by kernel_rfl
@[go_sem] theorem f168_nt : Tryz.f168.ntmps = 9 := by kernel_rfl
@[go_sem] theorem f169_en : entersB Tryz.prog 169 = true := by kernel_rfl
@[go_sem] theorem f169_rs : Tryz.f169.results.toList = [.tmp 4, .tmp 5] := by kernel_rfl
@[go_sem] theorem f169_nt : Tryz.f169.ntmps = 31 := by kernel_rfl
@[go_sem] theorem f170_en : entersB Tryz.prog 170 = true := by kernel_rfl
@[go_sem] theorem f170_rs : Tryz.f170.results.toList = [.cell 2 34, .tmp 3] := by kernel_rfl
@[go_sem] theorem f170_nt : Tryz.f170.ntmps = 35 := by kernel_rfl
@[go_sem] theorem f171_en : entersB Tryz.prog 171 = true := by kernel_rfl
@[go_sem] theorem f171_rs : Tryz.f171.results.toList = [.tmp 4, .tmp 5, .tmp 6] := by kernel_rfl
@[go_sem] theorem f171_nt : Tryz.f171.ntmps = 13 := by kernel_rfl
@[go_sem] theorem f172_en : entersB Tryz.prog 172 = true := by kernel_rfl
@[go_sem] theorem f172_rs : Tryz.f172.results.toList = [.tmp 4] := by kernel_rfl
@[go_sem] theorem f172_nt : Tryz.f172.ntmps = 8 := by kernel_rfl
@[go_sem] theorem f173_en : entersB Tryz.prog 173 = true := by kernel_rfl
@[go_sem] theorem f173_rs : Tryz.f173.results.toList = [.tmp 4, .tmp 5] := by kernel_rfl
@[go_sem] theorem f173_nt : Tryz.f173.ntmps = 38 := by kernel_rfl
@[go_sem] theorem f174_en : entersB Tryz.prog 174 = true := by kernel_rfl
@[go_sem] theorem f174_rs : Tryz.f174.results.toList = [.tmp 4] := by kernel_rfl
@[go_sem] theorem f174_nt : Tryz.f174.ntmps = 19 := by kernel_rfl
@[go_sem] theorem f177_en : entersB Tryz.prog 177 = true := by kernel_rfl
@[go_sem] theorem f177_rs : Tryz.f177.results.toList = [.tmp 4] := by kernel_rfl
@[go_sem] theorem f177_nt : Tryz.f177.ntmps = 143 := by kernel_rfl
@[go_sem] theorem f190_en : entersB Tryz.prog 190 = true := by kernel_rfl
@[go_sem] theorem f190_rs : Tryz.f190.results.toList = [.tmp 4] := by kernel_rfl
@[go_sem] theorem f190_nt : Tryz.f190.ntmps = 18 := by kernel_rfl
@[go_sem] theorem f191_en : entersB Tryz.prog 191 = true := by kernel_rfl
@[go_sem] theorem f194_en : entersB Tryz.prog 194 = true := by kernel_rfl
@[go_sem] theorem f194_rs : Tryz.f194.results.toList = [.tmp 4] := by kernel_rfl
@[go_sem] theorem f194_nt : Tryz.f194.ntmps = 8 := by kernel_rfl
@[go_sem] theorem f197_en : entersB Tryz.prog 197 = true := by kernel_rfl
@[go_sem] theorem f197_rs : Tryz.f197.results.toList = [.tmp 2] := by kernel_rfl
@[go_sem] theorem f197_nt : Tryz.f197.ntmps = 25 := by kernel_rfl
@[go_sem] theorem f199_en : entersB Tryz.prog 199 = true := by kernel_rfl
@[go_sem] theorem f199_rs : Tryz.f199.results.toList = [] := by kernel_rfl
@[go_sem] theorem f199_nt : Tryz.f199.ntmps = 134 := by kernel_rfl
@[go_sem] theorem f200_en : entersB Tryz.prog 200 = true := by kernel_rfl
@[go_sem] theorem f200_rs : Tryz.f200.results.toList = [.tmp 4] := by kernel_rfl
@[go_sem] theorem f200_nt : Tryz.f200.ntmps = 8 := by kernel_rfl
@[go_sem] theorem f211_en : entersB Tryz.prog 211 = true := by kernel_rfl
@[go_sem] theorem f211_rs : Tryz.f211.results.toList = [.tmp 2] := by kernel_rfl
@[go_sem] theorem f211_nt : Tryz.f211.ntmps = 25 := by kernel_rfl
@[go_sem] theorem f219_en : entersB Tryz.prog 219 = true := by kernel_rfl
@[go_sem] theorem f219_rs : Tryz.f219.results.toList = [] := by kernel_rfl
@[go_sem] theorem f219_nt : Tryz.f219.ntmps = 53 := by kernel_rfl
@[go_sem] theorem f221_en : entersB Tryz.prog 221 = true := by kernel_rfl
@[go_sem] theorem f221_rs : Tryz.f221.results.toList = [.tmp 2] := by kernel_rfl
@[go_sem] theorem f221_nt : Tryz.f221.ntmps = 18 := by kernel_rfl
@[go_sem] theorem f222_en : entersB Tryz.prog 222 = true := by kernel_rfl
@[go_sem] theorem f222_rs : Tryz.f222.results.toList = [.tmp 4] := by kernel_rfl
@[go_sem] theorem f222_nt : Tryz.f222.ntmps = 20 := by kernel_rfl
@[go_sem] theorem f225_en : entersB Tryz.prog 225 = true := by kernel_rfl
@[go_sem] theorem f225_rs : Tryz.f225.results.toList = [.tmp 4] := by kernel_rfl
@[go_sem] theorem f225_nt : Tryz.f225.ntmps = 19 := by kernel_rfl
@[go_sem] theorem f226_en : entersB Tryz.prog 226 = true := by kernel_rfl
@[go_sem] theorem f226_rs : Tryz.f226.results.toList = [.tmp 4, .tmp 5] := by kernel_rfl
@[go_sem] theorem f226_nt : Tryz.f226.ntmps = 11 := by kernel_rfl
@[go_sem] theorem f227_en : entersB Tryz.prog 227 = true := by kernel_rfl
@[go_sem] theorem f227_rs : Tryz.f227.results.toList = [.tmp 4, .tmp 5] := by kernel_rfl
@[go_sem] theorem f227_nt : Tryz.f227.ntmps = 61 := by kernel_rfl
@[go_sem] theorem f228_en : entersB Tryz.prog 228 = true := by kernel_rfl
@[go_sem] theorem f228_rs : Tryz.f228.results.toList = [.tmp 4, .tmp 5, .tmp 6] := by kernel_rfl
@[go_sem] theorem f228_nt : Tryz.f228.ntmps = 23 := by kernel_rfl
@[go_sem] theorem f229_en : entersB Tryz.prog 229 = true := by kernel_rfl
@[go_sem] theorem f229_rs : Tryz.f229.results.toList = [.tmp 8] := by kernel_rfl
@[go_sem] theorem f229_nt : Tryz.f229.ntmps = 66 := by kernel_rfl
@[go_sem] theorem f230_en : entersB Tryz.prog 230 = true := by kernel_rfl
@[go_sem] theorem f230_rs : Tryz.f230.results.toList = [.tmp 4] := by kernel_rfl
@[go_sem] theorem f230_nt : Tryz.f230.ntmps = 8 := by kernel_rfl
@[go_sem] theorem f231_en : entersB Tryz.prog 231 = true := by kernel_rfl
@[go_sem] theorem f232_en : entersB Tryz.prog 232 = true := by kernel_rfl
@[go_sem] theorem f232_rs : Tryz.f232.results.toList = [.tmp 4] := by kernel_rfl
@[go_sem] theorem f232_nt : Tryz.f232.ntmps = 8 := by kernel_rfl
@[go_sem] theorem f242_en : entersB Tryz.prog 242 = true := by kernel_rfl
@[go_sem] theorem f242_rs : Tryz.f242.results.toList = [] := by kernel_rfl
@[go_sem] theorem f242_nt : Tryz.f242.ntmps = 49 := by kernel_rfl
@[go_sem] theorem f257_en : entersB Tryz.prog 257 = true := by kernel_rfl
@[go_sem] theorem f257_rs : Tryz.f257.results.toList = [.tmp 2] := by kernel_rfl
@[go_sem] theorem f257_nt : Tryz.f257.ntmps = 6 := by kernel_rfl
@[go_sem] theorem f266_en : entersB Tryz.prog 266 = true := by kernel_rfl
@[go_sem] theorem f266_rs : Tryz.f266.results.toList = [.tmp 4, .tmp 5] := by kernel_rfl
@[go_sem] theorem f266_nt : Tryz.f266.ntmps = 18 := by kernel_rfl
@[go_sem] theorem f268_en : entersB Tryz.prog 268 = true := by kernel_rfl
@[go_sem] theorem f268_rs : Tryz.f268.results.toList = [.tmp 4] := by kernel_rfl
@[go_sem] theorem f268_nt : Tryz.f268.ntmps = 34 := by kernel_rfl
@[go_sem] theorem f269_en : entersB Tryz.prog 269 = true := by kernel_rfl
@[go_sem] theorem f269_rs : Tryz.f269.results.toList = [.tmp 4] := by kernel_rfl
@[go_sem] theorem f269_nt : Tryz.f269.ntmps = 13 := by kernel_rfl
@[go_sem] theorem f296_en : entersB Tryz.prog 296 = true := by kernel_rfl
@[go_sem] theorem f296_rs : Tryz.f296.results.toList = [.tmp 4] := by kernel_rfl
@[go_sem] theorem f296_nt : Tryz.f296.ntmps = 21 := by kernel_rfl
@[go_sem] theorem f251_en : entersB Tryz.prog 251 = false := by kernel_rfl
@[go_sem] theorem f272_en : entersB Tryz.prog 272 = false := by kernel_rfl
@[go_sem] theorem f299_en : entersB Tryz.prog 299 = false := by kernel_rfl
end Go.Proofs.YtflklkijfkmeiaaGreatDoor
