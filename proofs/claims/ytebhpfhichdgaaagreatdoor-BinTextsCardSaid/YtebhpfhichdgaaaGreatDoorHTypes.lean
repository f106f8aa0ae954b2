/- Facts on the types. No condition. -/
import Derived.Test.YtebhpfhichdgaaaGreatDoorProg
import Derived.KernelRfl
import Derived.Test.YtebhpfhichdgaaaGreatDoorHCoreC
namespace Go.Proofs.YtebhpfhichdgaaaGreatDoor
open Go Go.RowKit
@[go_sem] theorem t3_ag : aggT Tryz.prog 3 = false := by kernel_rfl
@[go_sem] theorem t3_sz : szT Tryz.prog 3 = 1 := by kernel_rfl
@[go_sem] theorem t3_in : (Tryz.prog.info? 3).isSome = true := by kernel_rfl
@[go_sem] theorem t3_un : (Tryz.prog.underlying 3).isSome = true := by kernel_rfl
@[go_sem] theorem t3_ze : zeroT Tryz.prog 3 = some [.int .i64 0] := by kernel_rfl
@[go_sem] theorem t5_sz : szT Tryz.prog 5 = 1 := by kernel_rfl
@[go_sem] theorem t5_un : (Tryz.prog.underlying 5).isSome = true := by kernel_rfl
@[go_sem] theorem t5_ze : zeroT Tryz.prog 5 = some [.int .u8 0] := by kernel_rfl
@[go_sem] theorem t9_ag : aggT Tryz.prog 9 = false := by kernel_rfl
@[go_sem] theorem t9_sz : szT Tryz.prog 9 = 1 := by kernel_rfl
@[go_sem] theorem t9_in : (Tryz.prog.info? 9).isSome = true := by kernel_rfl
@[go_sem] theorem t9_ze : zeroT Tryz.prog 9 = some [.str ⟨#[]⟩] := by kernel_rfl
@[go_sem] theorem t9_by : Tryz.prog.bytesOf 9 = 16 := by kernel_rfl
@[go_sem] theorem t22_ag : aggT Tryz.prog 22 = false := by kernel_rfl
@[go_sem] theorem t22_sz : szT Tryz.prog 22 = 1 := by kernel_rfl
@[go_sem] theorem t22_in : (Tryz.prog.info? 22).isSome = true := by kernel_rfl
@[go_sem] theorem t22_un : (Tryz.prog.underlying 22).isSome = true := by kernel_rfl
@[go_sem] theorem t25_ze : zeroT Tryz.prog 25 = some [.sl none 0, .int .i64 0] := by kernel_rfl
@[go_sem] theorem t25_fo : fieldsOk Tryz.prog 25 = true := by kernel_rfl
@[go_sem] theorem t27_ag : aggT Tryz.prog 27 = false := by kernel_rfl
@[go_sem] theorem t27_sz : szT Tryz.prog 27 = 1 := by kernel_rfl
@[go_sem] theorem t27_in : (Tryz.prog.info? 27).isSome = true := by kernel_rfl
@[go_sem] theorem t27_un : (Tryz.prog.underlying 27).isSome = true := by kernel_rfl
@[go_sem] theorem t27_ze : zeroT Tryz.prog 27 = some [.sl none 0] := by kernel_rfl
@[go_sem] theorem t39_ag : aggT Tryz.prog 39 = true := by kernel_rfl
@[go_sem] theorem t39_sz : szT Tryz.prog 39 = 6 := by kernel_rfl
@[go_sem] theorem t39_in : (Tryz.prog.info? 39).isSome = true := by kernel_rfl
@[go_sem] theorem t39_un : (Tryz.prog.underlying 39).isSome = true := by kernel_rfl
@[go_sem] theorem t39_ze : zeroT Tryz.prog 39 = some [.int .i64 0, .int .i64 0, .int .i64 0, .int .i64 0, .int .i64 0, .int .i64 0] := by kernel_rfl
@[go_sem] theorem t39_by : Tryz.prog.bytesOf 39 = 48 := by kernel_rfl
@[go_sem] theorem t39_fo : fieldsOk Tryz.prog 39 = true := by kernel_rfl
@[go_sem] theorem t49_ag : aggT Tryz.prog 49 = true := by kernel_rfl
@[go_sem] theorem t49_sz : szT Tryz.prog 49 = 3 := by kernel_rfl
@[go_sem] theorem t49_in : (Tryz.prog.info? 49).isSome = true := by kernel_rfl
@[go_sem] theorem t49_un : (Tryz.prog.underlying 49).isSome = true := by kernel_rfl
@[go_sem] theorem t49_ze : zeroT Tryz.prog 49 = some [.int .i64 0, .int .i64 0, .int .i64 0] := by kernel_rfl
@[go_sem] theorem t49_fo : fieldsOk Tryz.prog 49 = true := by kernel_rfl
@[go_sem] theorem t110_ag : aggT Tryz.prog 110 = false := by kernel_rfl
@[go_sem] theorem t110_sz : szT Tryz.prog 110 = 1 := by kernel_rfl
@[go_sem] theorem t110_in : (Tryz.prog.info? 110).isSome = true := by kernel_rfl
@[go_sem] theorem t110_un : (Tryz.prog.underlying 110).isSome = true := by kernel_rfl
@[go_sem] theorem t112_ze : zeroT Tryz.prog 112 = some [.ptr none, .sl none 0] := by kernel_rfl
@[go_sem] theorem t25_f0 : fieldT Tryz.prog 25 0 = some (0, 1) := by kernel_rfl
@[go_sem] theorem t25_f1 : fieldT Tryz.prog 25 1 = some (1, 1) := by kernel_rfl
@[go_sem] theorem t39_f0 : fieldT Tryz.prog 39 0 = some (0, 1) := by kernel_rfl
@[go_sem] theorem t39_f1 : fieldT Tryz.prog 39 1 = some (1, 1) := by kernel_rfl
@[go_sem] theorem t39_f2 : fieldT Tryz.prog 39 2 = some (2, 1) := by kernel_rfl
@[go_sem] theorem t39_f3 : fieldT Tryz.prog 39 3 = some (3, 1) := by kernel_rfl
@[go_sem] theorem t39_f4 : fieldT Tryz.prog 39 4 = some (4, 1) := by kernel_rfl
@[go_sem] theorem t39_f5 : fieldT Tryz.prog 39 5 = some (5, 1) := by kernel_rfl
@[go_sem] theorem t49_f0 : fieldT Tryz.prog 49 0 = some (0, 1) := by kernel_rfl
@[go_sem] theorem t49_f1 : fieldT Tryz.prog 49 1 = some (1, 1) := by kernel_rfl
@[go_sem] theorem t49_f2 : fieldT Tryz.prog 49 2 = some (2, 1) := by kernel_rfl
@[go_sem] theorem t112_f1 : fieldT Tryz.prog 112 1 = some (1, 1) := by kernel_rfl
@[go_sem] theorem t9_st : strT Tryz.prog 9 = true := by kernel_rfl
@[go_sem] theorem t9_el : elemT Tryz.prog 9 = none := by kernel_rfl
@[go_sem] theorem t9_us : Tryz.prog.underlying 9 = some .string := by kernel_rfl
@[go_sem] theorem t22_el : elemT Tryz.prog 22 = some 3 := by kernel_rfl
@[go_sem] theorem t27_el : elemT Tryz.prog 27 = some 39 := by kernel_rfl
@[go_sem] theorem t27_st : strT Tryz.prog 27 = false := by kernel_rfl
@[go_sem] theorem t70_el : elemT Tryz.prog 70 = some 9 := by kernel_rfl
@[go_sem] theorem t70_st : strT Tryz.prog 70 = false := by kernel_rfl
@[go_sem] theorem t91_el : elemT Tryz.prog 91 = some 49 := by kernel_rfl
@[go_sem] theorem t110_el : elemT Tryz.prog 110 = some 5 := by kernel_rfl
@[go_sem] theorem t9_ik : intK Tryz.prog 9 = none := by kernel_rfl
@[go_sem] theorem t21_un : (Tryz.prog.underlying 21).isSome = true := by kernel_rfl
@[go_sem] theorem t21_ik : intK Tryz.prog 21 = some .i32 := by kernel_rfl
@[go_sem] theorem t21_st : strT Tryz.prog 21 = false := by kernel_rfl
@[go_sem] theorem t5_bt : bytesT Tryz.prog 5 = false := by kernel_rfl
@[go_sem] theorem t9_bt : bytesT Tryz.prog 9 = false := by kernel_rfl
@[go_sem] theorem t21_bt : bytesT Tryz.prog 21 = false := by kernel_rfl
@[go_sem] theorem t39_fk : fieldsK Tryz.prog 39 = some [(0, 1), (1, 1), (2, 1), (3, 1), (4, 1), (5, 1)] := by kernel_rfl
@[go_sem] theorem t114_kd : kindT Tryz.prog 114 = 6 := by kernel_rfl
@[go_sem] theorem f3_rs : Tryz.f3.results.toList = [.tmp 2] := by kernel_rfl
@[go_sem] theorem f3_nt : Tryz.f3.ntmps = 81 := by kernel_rfl
@[go_sem] theorem f10_en : entersB Tryz.prog 10 = true := by kernel_rfl
@[go_sem] theorem f10_rs : Tryz.f10.results.toList = [.tmp 2] := by kernel_rfl
@[go_sem] theorem f10_nt : Tryz.f10.ntmps = 6 := by kernel_rfl
@[go_sem] theorem f11_en : entersB Tryz.prog 11 = true := by kernel_rfl
@[go_sem] theorem f11_rs : Tryz.f11.results.toList = [.tmp 4] := by kernel_rfl
@[go_sem] theorem f11_nt : Tryz.f11.ntmps = 81 := by kernel_rfl
@[go_sem] theorem f12_en : entersB Tryz.prog 12 = true := by kernel_rfl
@[go_sem] theorem f12_rs : Tryz.f12.results.toList = [.tmp 4] := by kernel_rfl
@[go_sem] theorem f12_nt : Tryz.f12.ntmps = 30 := by kernel_rfl
@[go_sem] theorem f13_en : entersB Tryz.prog 13 = true := by kernel_rfl
@[go_sem] theorem f13_rs : Tryz.f13.results.toList = [.tmp 4, .tmp 5] := by kernel_rfl
@[go_sem] theorem f13_nt : Tryz.f13.ntmps = 55 := by kernel_rfl
@[go_sem] theorem f14_en : entersB Tryz.prog 14 = true := by kernel_rfl
@[go_sem] theorem f14_rs : Tryz.f14.results.toList = [.tmp 4] := by kernel_rfl
@[go_sem] theorem f14_nt : Tryz.f14.ntmps = 44 := by kernel_rfl
@[go_sem] theorem f15_en : entersB Tryz.prog 15 = true := by kernel_rfl
@[go_sem] theorem f15_rs : Tryz.f15.results.toList = [.tmp 2] := by kernel_rfl
@[go_sem] theorem f15_nt : Tryz.f15.ntmps = 31 := by kernel_rfl
@[go_sem] theorem f16_en : entersB Tryz.prog 16 = true := by kernel_rfl
@[go_sem] theorem f16_rs : Tryz.f16.results.toList = [.tmp 4, .tmp 5, .tmp 6] := by kernel_rfl
@[go_sem] theorem f16_nt : Tryz.f16.ntmps = 35 := by kernel_rfl
@[go_sem] theorem f17_en : entersB Tryz.prog 17 = true := by kernel_rfl
@[go_sem] theorem f17_rs : Tryz.f17.results.toList = [.tmp 4, .tmp 5, .tmp 6] := by kernel_rfl
@[go_sem] theorem f17_nt : Tryz.f17.ntmps = 36 := by kernel_rfl
@[go_sem] theorem f18_en : entersB Tryz.prog 18 = true := by kernel_rfl
@[go_sem] theorem f18_rs : Tryz.f18.results.toList = [.tmp 4] := by kernel_rfl
@[go_sem] theorem f18_nt : Tryz.f18.ntmps = 26 := by kernel_rfl
@[go_sem] theorem f19_en : entersB Tryz.prog 19 = true := by kernel_rfl
@[go_sem] theorem f19_rs : Tryz.f19.results.toList = [.tmp 0] := by kernel_rfl
@[go_sem] theorem f19_nt : Tryz.f19.ntmps = 23 := by kernel_rfl
@[go_sem] theorem f47_en : entersB Tryz.prog 47 = true := by kernel_rfl
@[go_sem] theorem f47_rs : Tryz.f47.results.toList = [.tmp 6] := by kernel_rfl
@[go_sem] theorem f47_nt : Tryz.f47.ntmps = 19 := by kernel_rfl
@[go_sem] theorem f56_en : entersB Tryz.prog 56 = true := by kernel_rfl
@[go_sem] theorem f56_rs : Tryz.f56.results.toList = [.tmp 4] := by kernel_rfl
@[go_sem] theorem f56_nt : Tryz.f56.ntmps = 39 := by kernel_rfl
@[go_sem] theorem f64_en : entersB Tryz.prog 64 = true := by kernel_rfl
@[go_sem] theorem f64_rs : Tryz.f64.results.toList = [.tmp 2] := by kernel_rfl
@[go_sem] theorem f64_nt : Tryz.f64.ntmps = 35 := by kernel_rfl
@[go_sem] theorem f69_en : entersB Tryz.prog 69 = true := by kernel_rfl
@[go_sem] theorem f69_rs : Tryz.f69.results.toList = [.tmp 4] := by kernel_rfl
@[go_sem] theorem f69_nt : Tryz.f69.ntmps = 12 := by kernel_rfl
@[go_sem] theorem f70_en : entersB Tryz.prog 70 = true := by kernel_rfl
@[go_sem] theorem f70_rs : Tryz.f70.results.toList = [.tmp 2] := by kernel_rfl
@[go_sem] theorem f70_nt : Tryz.f70.ntmps = 6 := by kernel_rfl
@[go_sem] theorem f71_en : entersB Tryz.prog 71 = true := by kernel_rfl
@[go_sem] theorem f71_rs : Tryz.f71.results.toList = [.tmp 4] := by kernel_rfl
@[go_sem] theorem f71_nt : Tryz.f71.ntmps = 90 := by kernel_rfl
@[go_sem] theorem f72_en : entersB Tryz.prog 72 = true := by kernel_rfl
@[go_sem] theorem f72_rs : Tryz.f72.results.toList = [.tmp 4] := by kernel_rfl
@[go_sem] theorem f72_nt : Tryz.f72.ntmps = 9 := by kernel_rfl
@[go_sem] theorem f73_en : entersB Tryz.prog 73 = true := by kernel_rfl
@[go_sem] theorem f73_rs : Tryz.f73.results.toList = [.tmp 4] := by kernel_rfl
@[go_sem] theorem f73_nt : Tryz.f73.ntmps = 64 := by kernel_rfl
@[go_sem] theorem f74_en : entersB Tryz.prog 74 = true := by kernel_rfl
@[go_sem] theorem f74_rs : Tryz.f74.results.toList = [.tmp 6] := by kernel_rfl
@[go_sem] theorem f74_nt : Tryz.f74.ntmps = 22 := by kernel_rfl
@[go_sem] theorem f75_en : entersB Tryz.prog 75 = true := by kernel_rfl
@[go_sem] theorem f75_rs : Tryz.f75.results.toList = [.tmp 6] := by kernel_rfl
@[go_sem] theorem f75_nt : Tryz.f75.ntmps = 63 := by kernel_rfl
@[go_sem] theorem f76_en : entersB Tryz.prog 76 = true := by kernel_rfl
@[go_sem] theorem f76_rs : Tryz.f76.results.toList = [.tmp 4] := by kernel_rfl
@[go_sem] theorem f76_nt : Tryz.f76.ntmps = 43 := by kernel_rfl
@[go_sem] theorem f77_en : entersB Tryz.prog 77 = true := by kernel_rfl
@[go_sem] theorem f77_rs : Tryz.f77.results.toList = [.tmp 4] := by kernel_rfl
@[go_sem] theorem f77_nt : Tryz.f77.ntmps = 17 := by kernel_rfl
@[go_sem] theorem f78_en : entersB Tryz.prog 78 = true := by kernel_rfl
@[go_sem] theorem f78_rs : Tryz.f78.results.toList = [.tmp 4, .tmp 5] := by kernel_rfl
@[go_sem] theorem f78_nt : Tryz.f78.ntmps = 19 := by kernel_rfl
@[go_sem] theorem f79_en : entersB Tryz.prog 79 = true := by kernel_rfl
@[go_sem] theorem f80_en : entersB Tryz.prog 80 = true := by kernel_rfl
@[go_sem] theorem f80_rs : Tryz.f80.results.toList = [.tmp 2] := by kernel_rfl
@[go_sem] theorem f80_nt : Tryz.f80.ntmps = 8 := by kernel_rfl
@[go_sem] theorem f81_en : entersB Tryz.prog 81 = true := by kernel_rfl
@[go_sem] theorem f82_en : entersB Tryz.prog 82 = true := by kernel_rfl
@[go_sem] theorem f82_rs : Tryz.f82.results.toList = [.tmp 4] := by kernel_rfl
@[go_sem] theorem f82_nt : Tryz.f82.ntmps = 86 := by kernel_rfl
@[go_sem] theorem f83_en : entersB Tryz.prog 83 = true := by kernel_rfl
@[go_sem] theorem f83_rs : Tryz.f83.results.toList = [.tmp 2] := by kernel_rfl
@[go_sem] theorem f83_nt : Tryz.f83.ntmps = 20 := by kernel_rfl
@[go_sem] theorem f84_en : entersB Tryz.prog 84 = true := by kernel_rfl
@[go_sem] theorem f84_rs : Tryz.f84.results.toList = [.tmp 2] := by kernel_rfl
@[go_sem] theorem f84_nt : Tryz.f84.ntmps = 11 := by kernel_rfl
@[go_sem] theorem f85_en : entersB Tryz.prog 85 = true := by kernel_rfl
@[go_sem] theorem f85_rs : Tryz.f85.results.toList = [.tmp 4, .tmp 5] := by kernel_rfl
@[go_sem] theorem f85_nt : Tryz.f85.ntmps = 39 := by kernel_rfl
@[go_sem] theorem f86_rs : Tryz.f86.results.toList = [.tmp 3] := by kernel_rfl
@[go_sem] theorem f86_nt : Tryz.f86.ntmps = 43 := by kernel_rfl
@[go_sem] theorem f87_en : entersB Tryz.prog 87 = true := by kernel_rfl
@[go_sem] theorem f87_rs : Tryz.f87.results.toList = [.tmp 4, .tmp 5] := by kernel_rfl
@[go_sem] theorem f87_nt : Tryz.f87.ntmps = 25 := by kernel_rfl
@[go_sem] theorem f88_en : entersB Tryz.prog 88 = true := by kernel_rfl
@[go_sem] theorem f88_rs : Tryz.f88.results.toList = [.tmp 4, .tmp 5] := by kernel_rfl
@[go_sem] theorem f88_nt : Tryz.f88.ntmps = 31 := by kernel_rfl
@[go_sem] theorem f89_en : entersB Tryz.prog 89 = true := by kernel_rfl
@[go_sem] theorem f89_rs : Tryz.f89.results.toList = [.tmp 4, .tmp 5] := by kernel_rfl
@[go_sem] theorem f89_nt : Tryz.f89.ntmps = 30 := by kernel_rfl
@[go_sem] theorem f90_rs : Tryz.f90.results.toList = [.tmp 3] := by kernel_rfl
@[go_sem] theorem f90_nt : Tryz.f90.ntmps = 61 := by kernel_rfl
@[go_sem] theorem f91_en : entersB Tryz.prog 91 = true := by kernel_rfl
@[go_sem] theorem f91_rs : Tryz.f91.results.toList = [.tmp 4] := by kernel_rfl
@[go_sem] theorem f91_nt : Tryz.f91.ntmps = 8 := by kernel_rfl
@[go_sem] theorem f92_en : entersB Tryz.prog 92 = true := by kernel_rfl
@[go_sem] theorem f93_en : entersB Tryz.prog 93 = true := by kernel_rfl
@[go_sem] theorem f93_rs : Tryz.f93.results.toList = [.tmp 4, .tmp 5] := by kernel_rfl
@[go_sem] theorem f93_nt : Tryz.f93.ntmps = 18 := by kernel_rfl
@[go_sem] theorem f99_en : entersB Tryz.prog 99 = true := by kernel_rfl
@[go_sem] theorem f99_rs : Tryz.f99.results.toList = [.tmp 2] := by kernel_rfl
@[go_sem] theorem f99_nt : Tryz.f99.ntmps = 6 := by kernel_rfl
@[go_sem] theorem f116_en : entersB Tryz.prog 116 = true := by kernel_rfl
@[go_sem] theorem f116_rs : Tryz.f116.results.toList = [.tmp 2] := by kernel_rfl
@[go_sem] theorem f116_nt : Tryz.f116.ntmps = 5 := by kernel_rfl
@[go_sem] theorem f117_en : entersB Tryz.prog 117 = true := by kernel_rfl
@[go_sem] theorem f117_rs : Tryz.f117.results.toList = [.tmp 6] := by kernel_rfl
@[go_sem] theorem f117_nt : Tryz.f117.ntmps = 15 := by kernel_rfl
@[go_sem] theorem f157_en : entersB Tryz.prog 157 = true := by kernel_rfl
@[go_sem] theorem f157_rs : Tryz.f157.results.toList = [.tmp 2] := by kernel_rfl
@[go_sem] theorem f157_nt : Tryz.f157.ntmps = 25 := by kernel_rfl
@[go_sem] theorem f160_en : entersB Tryz.prog 160 = true := by kernel_rfl
@[go_sem] theorem f160_rs : Tryz.f160.results.toList = [.tmp 4] := by kernel_rfl
@[go_sem] theorem f160_nt : Tryz.f160.ntmps = 8 := by kernel_rfl
@[go_sem] theorem f161_en : entersB Tryz.prog 161 = true := by kernel_rfl
@[go_sem] theorem f161_rs : Tryz.f161.results.toList = [.tmp 2] := by kernel_rfl
@[go_sem] theorem f161_nt : Tryz.f161.ntmps = 10 := by kernel_rfl
@[go_sem] theorem f162_en : entersB Tryz.prog 162 = true := by kernel_rfl
@[go_sem] theorem f162_rs : Tryz.f162.results.toList = [.tmp 2] := by kernel_rfl
@[go_sem] theorem f162_nt : Tryz.f162.ntmps = 25 := by kernel_rfl
@[go_sem] theorem f163_en : entersB Tryz.prog 163 = true := by kernel_rfl
@[go_sem] theorem f163_rs : Tryz.f163.results.toList = [.tmp 2] := by kernel_rfl
@[go_sem] theorem f163_nt : Tryz.f163.ntmps = 25 := by kernel_rfl
@[go_sem] theorem f164_en : entersB Tryz.prog 164 = true := by kernel_rfl
@[go_sem] theorem f164_rs : Tryz.f164.results.toList = [.tmp 4] := by kernel_rfl
@[go_sem] theorem f164_nt : Tryz.f164.ntmps = 16 := by kernel_rfl
@[go_sem] theorem f165_en : entersB Tryz.prog 165 = true := by kernel_rfl
@[go_sem] theorem f165_rs : Tryz.f165.results.toList = [.tmp 4] := by kernel_rfl
@[go_sem] theorem f165_nt : Tryz.f165.ntmps = 78 := by kernel_rfl
@[go_sem] theorem f166_en : entersB Tryz.prog 166 = true := by kernel_rfl
@[go_sem] theorem f168_en : entersB Tryz.prog 168 = true := by kernel_rfl
@[go_sem] theorem f168_rs : Tryz.f168.results.toList = [.tmp 4] := by kernel_rfl
@[go_sem] theorem f168_nt : Tryz.f168.ntmps = 75 := by kernel_rfl
@[go_sem] theorem f169_en : entersB Tryz.prog 169 = true := by kernel_rfl
@[go_sem] theorem f169_rs : Tryz.f169.results.toList = [.tmp 6] := by kernel_rfl
@[go_sem] theorem f169_nt : Tryz.f169.ntmps = 15 := by kernel_rfl
@[go_sem] theorem f170_en : entersB Tryz.prog 170 = true := by kernel_rfl
@[go_sem] theorem f170_rs : Tryz.f170.results.toList = [.tmp 2, .tmp 3] := by kernel_rfl
@[go_sem] theorem f170_nt : Tryz.f170.ntmps = 15 := by kernel_rfl
@[go_sem] theorem f171_en : entersB Tryz.prog 171 = true := by kernel_rfl
@[go_sem] theorem f171_rs : Tryz.f171.results.toList = [.tmp 4, .tmp 5] := by kernel_rfl
@[go_sem] theorem f171_nt : Tryz.f171.ntmps = 61 := by kernel_rfl
@[go_sem] theorem f172_en : entersB Tryz.prog 172 = true := by kernel_rfl
@[go_sem] theorem f172_rs : Tryz.f172.results.toList = [.tmp 4, .tmp 5, .tmp 6] := by kernel_rfl
@[go_sem] theorem f172_nt : Tryz.f172.ntmps = 13 := by kernel_rfl
@[go_sem] theorem f173_en : entersB Tryz.prog 173 = true := by kernel_rfl
@[go_sem] theorem f173_rs : Tryz.f173.results.toList = [.tmp 8] := by kernel_rfl
@[go_sem] theorem f173_nt : Tryz.f173.ntmps = 66 := by kernel_rfl
@[go_sem] theorem f176_en : entersB Tryz.prog 176 = true := by kernel_rfl
@[go_sem] theorem f176_rs : Tryz.f176.results.toList = [.tmp 4] := by kernel_rfl
@[go_sem] theorem f176_nt : Tryz.f176.ntmps = 39 := by kernel_rfl
@[go_sem] theorem f179_en : entersB Tryz.prog 179 = true := by kernel_rfl
@[go_sem] theorem f179_rs : Tryz.f179.results.toList = [] := by kernel_rfl
@[go_sem] theorem f179_nt : Tryz.f179.ntmps = 25 := by kernel_rfl
@[go_sem] theorem f235_en : entersB Tryz.prog 235 = true := by kernel_rfl
@[go_sem] theorem f235_rs : Tryz.f235.results.toList = [.tmp 4] := by kernel_rfl
@[go_sem] theorem f235_nt : Tryz.f235.ntmps = 143 := by kernel_rfl
@[go_sem] theorem f238_en : entersB Tryz.prog 238 = true := by kernel_rfl
@[go_sem] theorem f238_rs : Tryz.f238.results.toList = [.tmp 4, .tmp 5] := by kernel_rfl
@[go_sem] theorem f238_nt : Tryz.f238.ntmps = 11 := by kernel_rfl
@[go_sem] theorem f239_en : entersB Tryz.prog 239 = true := by kernel_rfl
@[go_sem] theorem f239_rs : Tryz.f239.results.toList = [.tmp 4] := by kernel_rfl
@[go_sem] theorem f239_nt : Tryz.f239.ntmps = 8 := by kernel_rfl
@[go_sem] theorem f240_en : entersB Tryz.prog 240 = true := by kernel_rfl
@[go_sem] theorem f240_rs : Tryz.f240.results.toList = [.tmp 4, .tmp 5, .tmp 6] := by kernel_rfl
@[go_sem] theorem f240_nt : Tryz.f240.ntmps = 23 := by kernel_rfl
@[go_sem] theorem f242_en : entersB Tryz.prog 242 = true := by kernel_rfl
@[go_sem] theorem f242_rs : Tryz.f242.results.toList = [.tmp 4] := by kernel_rfl
@[go_sem] theorem f242_nt : Tryz.f242.ntmps = 34 := by kernel_rfl
@[go_sem] theorem f248_en : entersB Tryz.prog 248 = true := by kernel_rfl
@[go_sem] theorem f248_rs : Tryz.f248.results.toList = [.tmp 4] := by kernel_rfl
@[go_sem] theorem f248_nt : Tryz.f248.ntmps = 35 := by kernel_rfl
@[go_sem] theorem f251_en : entersB Tryz.prog 251 = true := by kernel_rfl
@[go_sem] theorem f251_rs : Tryz.f251.results.toList = [.tmp 4] := by kernel_rfl
@[go_sem] theorem f251_nt : Tryz.f251.ntmps = 18 := by kernel_rfl
@[go_sem] theorem f252_en : entersB Tryz.prog 252 = true := by kernel_rfl
@[go_sem] theorem f291_en : entersB Tryz.prog 291 = true := by kernel_rfl
@[go_sem] theorem f291_rs : Tryz.f291.results.toList = [.tmp 4] := by kernel_rfl
@[go_sem] theorem f291_nt : Tryz.f291.ntmps = 8 := by kernel_rfl
@[go_sem] theorem f299_en : entersB Tryz.prog 299 = true := by kernel_rfl
@[go_sem] theorem f299_rs : Tryz.f299.results.toList = [.tmp 4, .tmp 5] := by kernel_rfl
@[go_sem] theorem f299_nt : Tryz.f299.ntmps = 18 := by kernel_rfl
@[go_sem] theorem f300_en : entersB Tryz.prog 300 = true := by kernel_rfl
@[go_sem] theorem f300_rs : Tryz.f300.results.toList = [.tmp 4] := by kernel_rfl
@[go_sem] theorem f300_nt : Tryz.f300.ntmps = 13 := by kernel_rfl
@[go_sem] theorem f307_en : entersB Tryz.prog 307 = true := by kernel_rfl
@[go_sem] theorem f307_rs : Tryz.f307.results.toList = [.cell 4 39] := by kernel_rfl
@[go_sem] theorem f307_nt : Tryz.f307.ntmps = 57 := by kernel_rfl
@[go_sem] theorem f339_en : entersB Tryz.prog 339 = true := by kernel_rfl
@[go_sem] theorem f339_rs : Tryz.f339.results.toList = [.tmp 4] := by kernel_rfl
@[go_sem] theorem f339_nt : Tryz.f339.ntmps = 21 := by kernel_rfl
@[go_sem] theorem f303_en : entersB Tryz.prog 303 = false := by kernel_rfl
@[go_sem] theorem f333_en : entersB Tryz.prog 333 = false := by kernel_rfl
end Go.Proofs.YtebhpfhichdgaaaGreatDoor
