/- Facts on the types. No condition. -/
import Derived.Test.YtnodfnjmhcjnfaaGreatDoorProg
import Derived.KernelRfl
import Derived.Test.YtnodfnjmhcjnfaaGreatDoorHCoreC
namespace Go.Proofs.YtnodfnjmhcjnfaaGreatDoor
open Go Go.RowKit
@[go_sem] theorem t3_ag : aggT Tryz.prog 3 = false := by kernel_rfl
@[go_sem] theorem t3_sz : szT Tryz.prog 3 = 1 := by kernel_rfl
@[go_sem] theorem t3_in : (Tryz.prog.info? 3).isSome = true := by kernel_rfl
@[go_sem] theorem t3_un : (Tryz.prog.underlying 3).isSome = true := by kernel_rfl
@[go_sem] theorem t3_ze : zeroT Tryz.prog 3 = some [.int .i64 0] := by kernel_rfl
@[go_sem] theorem t5_un : (Tryz.prog.underlying 5).isSome = true := by kernel_rfl
@[go_sem] theorem t9_ag : aggT Tryz.prog 9 = false := by kernel_rfl
@[go_sem] theorem t9_sz : szT Tryz.prog 9 = 1 := by kernel_rfl
@[go_sem] theorem t9_in : (Tryz.prog.info? 9).isSome = true := by kernel_rfl
@[go_sem] theorem t9_ze : zeroT Tryz.prog 9 = some [.str ⟨#[]⟩] := by kernel_rfl
@[go_sem] theorem t9_by : Tryz.prog.bytesOf 9 = 16 := by kernel_rfl
@[go_sem] theorem t22_ag : aggT Tryz.prog 22 = false := by kernel_rfl
@[go_sem] theorem t22_sz : szT Tryz.prog 22 = 1 := by kernel_rfl
@[go_sem] theorem t22_in : (Tryz.prog.info? 22).isSome = true := by kernel_rfl
@[go_sem] theorem t22_un : (Tryz.prog.underlying 22).isSome = true := by kernel_rfl
@[go_sem] theorem t25_ze : zeroT Tryz.prog 25 = some [.sl none 0, .int .i64 0] := by kernel_rfl
@[go_sem] theorem t25_fo : fieldsOk Tryz.prog 25 = true := by kernel_rfl
@[go_sem] theorem t26_ag : aggT Tryz.prog 26 = false := by kernel_rfl
@[go_sem] theorem t26_sz : szT Tryz.prog 26 = 1 := by kernel_rfl
@[go_sem] theorem t26_in : (Tryz.prog.info? 26).isSome = true := by kernel_rfl
@[go_sem] theorem t26_un : (Tryz.prog.underlying 26).isSome = true := by kernel_rfl
@[go_sem] theorem t26_ze : zeroT Tryz.prog 26 = some [.sl none 0] := by kernel_rfl
@[go_sem] theorem t38_ag : aggT Tryz.prog 38 = true := by kernel_rfl
@[go_sem] theorem t38_sz : szT Tryz.prog 38 = 3 := by kernel_rfl
@[go_sem] theorem t38_in : (Tryz.prog.info? 38).isSome = true := by kernel_rfl
@[go_sem] theorem t38_un : (Tryz.prog.underlying 38).isSome = true := by kernel_rfl
@[go_sem] theorem t38_ze : zeroT Tryz.prog 38 = some [.int .i64 0, .int .i64 0, .int .i64 0] := by kernel_rfl
@[go_sem] theorem t38_fo : fieldsOk Tryz.prog 38 = true := by kernel_rfl
@[go_sem] theorem t64_ag : aggT Tryz.prog 64 = false := by kernel_rfl
@[go_sem] theorem t64_sz : szT Tryz.prog 64 = 1 := by kernel_rfl
@[go_sem] theorem t64_in : (Tryz.prog.info? 64).isSome = true := by kernel_rfl
@[go_sem] theorem t64_un : (Tryz.prog.underlying 64).isSome = true := by kernel_rfl
@[go_sem] theorem t124_ze : zeroT Tryz.prog 124 = some [.ptr none, .sl none 0] := by kernel_rfl
@[go_sem] theorem t25_f0 : fieldT Tryz.prog 25 0 = some (0, 1) := by kernel_rfl
@[go_sem] theorem t25_f1 : fieldT Tryz.prog 25 1 = some (1, 1) := by kernel_rfl
@[go_sem] theorem t38_f0 : fieldT Tryz.prog 38 0 = some (0, 1) := by kernel_rfl
@[go_sem] theorem t38_f1 : fieldT Tryz.prog 38 1 = some (1, 1) := by kernel_rfl
@[go_sem] theorem t38_f2 : fieldT Tryz.prog 38 2 = some (2, 1) := by kernel_rfl
@[go_sem] theorem t124_f1 : fieldT Tryz.prog 124 1 = some (1, 1) := by kernel_rfl
@[go_sem] theorem t9_st : strT Tryz.prog 9 = true := by kernel_rfl
@[go_sem] theorem t9_el : elemT Tryz.prog 9 = none := by kernel_rfl
@[go_sem] theorem t9_us : Tryz.prog.underlying 9 = some .string := by kernel_rfl
@[go_sem] theorem t22_el : elemT Tryz.prog 22 = some 3 := by kernel_rfl
@[go_sem] theorem t26_el : elemT Tryz.prog 26 = some 38 := by kernel_rfl
@[go_sem] theorem t64_el : elemT Tryz.prog 64 = some 5 := by kernel_rfl
@[go_sem] theorem t78_el : elemT Tryz.prog 78 = some 9 := by kernel_rfl
@[go_sem] theorem t78_st : strT Tryz.prog 78 = false := by kernel_rfl
@[go_sem] theorem t9_ik : intK Tryz.prog 9 = none := by kernel_rfl
@[go_sem] theorem t21_un : (Tryz.prog.underlying 21).isSome = true := by kernel_rfl
@[go_sem] theorem t21_ik : intK Tryz.prog 21 = some .i32 := by kernel_rfl
@[go_sem] theorem t21_st : strT Tryz.prog 21 = false := by kernel_rfl
@[go_sem] theorem t5_bt : bytesT Tryz.prog 5 = false := by kernel_rfl
@[go_sem] theorem t9_bt : bytesT Tryz.prog 9 = false := by kernel_rfl
@[go_sem] theorem t21_bt : bytesT Tryz.prog 21 = false := by kernel_rfl
@[go_sem] theorem t38_fk : fieldsK Tryz.prog 38 = some [(0, 1), (1, 1), (2, 1)] := by kernel_rfl
@[go_sem] theorem t126_kd : kindT Tryz.prog 126 = 6 := by kernel_rfl
@[go_sem] theorem f3_rs : Tryz.f3.results.toList = [.tmp 2] := by kernel_rfl
@[go_sem] theorem f3_nt : Tryz.f3.ntmps = 72 := by kernel_rfl
@[go_sem] theorem f11_en : entersB Tryz.prog 11 = true := by kernel_rfl
@[go_sem] theorem f11_rs : Tryz.f11.results.toList = [.tmp 4] := by kernel_rfl
@[go_sem] theorem f11_nt : Tryz.f11.ntmps = 25 := by kernel_rfl
@[go_sem] theorem f12_en : entersB Tryz.prog 12 = true := by kernel_rfl
@[go_sem] theorem f12_rs : Tryz.f12.results.toList = [.tmp 2] := by kernel_rfl
@[go_sem] theorem f12_nt : Tryz.f12.ntmps = 17 := by kernel_rfl
@[go_sem] theorem f13_en : entersB Tryz.prog 13 = true := by kernel_rfl
@[go_sem] theorem f13_rs : Tryz.f13.results.toList = [.tmp 2, .tmp 3] := by kernel_rfl
@[go_sem] theorem f13_nt : Tryz.f13.ntmps = 27 := by kernel_rfl
@[go_sem] theorem f14_en : entersB Tryz.prog 14 = true := by kernel_rfl
@[go_sem] theorem f14_rs : Tryz.f14.results.toList = [.tmp 2] := by kernel_rfl
@[go_sem] theorem f14_nt : Tryz.f14.ntmps = 35 := by kernel_rfl
@[go_sem] theorem f15_en : entersB Tryz.prog 15 = true := by kernel_rfl
@[go_sem] theorem f15_rs : Tryz.f15.results.toList = [.tmp 2] := by kernel_rfl
@[go_sem] theorem f15_nt : Tryz.f15.ntmps = 19 := by kernel_rfl
@[go_sem] theorem f16_en : entersB Tryz.prog 16 = true := by kernel_rfl
@[go_sem] theorem f16_rs : Tryz.f16.results.toList = [.tmp 2, .tmp 3, .tmp 4] := by kernel_rfl
@[go_sem] theorem f16_nt : Tryz.f16.ntmps = 27 := by kernel_rfl
@[go_sem] theorem f17_en : entersB Tryz.prog 17 = true := by kernel_rfl
@[go_sem] theorem f17_rs : Tryz.f17.results.toList = [.tmp 2, .tmp 3, .tmp 4] := by kernel_rfl
@[go_sem] theorem f17_nt : Tryz.f17.ntmps = 27 := by kernel_rfl
@[go_sem] theorem f18_en : entersB Tryz.prog 18 = true := by kernel_rfl
@[go_sem] theorem f18_rs : Tryz.f18.results.toList = [.tmp 4] := by kernel_rfl
@[go_sem] theorem f18_nt : Tryz.f18.ntmps = 26 := by kernel_rfl
@[go_sem] theorem f19_en : entersB Tryz.prog 19 = true := by kernel_rfl
@[go_sem] theorem f39_en : entersB Tryz.prog 39 = true := by kernel_rfl
@[go_sem] theorem f39_rs : Tryz.f39.results.toList = [.tmp 6] := by kernel_rfl
@[go_sem] theorem f39_nt : Tryz.f39.ntmps = 19 := by kernel_rfl
@[go_sem] theorem f54_en : entersB Tryz.prog 54 = true := by kernel_rfl
@[go_sem] theorem f54_rs : Tryz.f54.results.toList = [.tmp 4] := by kernel_rfl
@[go_sem] theorem f54_nt : Tryz.f54.ntmps = 39 := by kernel_rfl
@[go_sem] theorem f55_en : entersB Tryz.prog 55 = true := by kernel_rfl
@[go_sem] theorem f55_rs : Tryz.f55.results.toList = [.tmp 4] := by kernel_rfl
@[go_sem] theorem f55_nt : Tryz.f55.ntmps = 9 := by kernel_rfl
@[go_sem] theorem f69_en : entersB Tryz.prog 69 = true := by kernel_rfl
@[go_sem] theorem f69_rs : Tryz.f69.results.toList = [.tmp 2] := by kernel_rfl
@[go_sem] theorem f69_nt : Tryz.f69.ntmps = 35 := by kernel_rfl
@[go_sem] theorem f76_en : entersB Tryz.prog 76 = true := by kernel_rfl
@[go_sem] theorem f76_rs : Tryz.f76.results.toList = [.cell 2 38] := by kernel_rfl
@[go_sem] theorem f76_nt : Tryz.f76.ntmps = 13 := by kernel_rfl
@[go_sem] theorem f77_en : entersB Tryz.prog 77 = true := by kernel_rfl
@[go_sem] theorem f77_rs : Tryz.f77.results.toList = [.tmp 4] := by kernel_rfl
@[go_sem] theorem f77_nt : Tryz.f77.ntmps = 64 := by kernel_rfl
@[go_sem] theorem f78_en : entersB Tryz.prog 78 = true := by kernel_rfl
@[go_sem] theorem f78_rs : Tryz.f78.results.toList = [.tmp 4] := by kernel_rfl
@[go_sem] theorem f78_nt : Tryz.f78.ntmps = 12 := by kernel_rfl
@[go_sem] theorem f79_en : entersB Tryz.prog 79 = true := by kernel_rfl
@[go_sem] theorem f79_rs : Tryz.f79.results.toList = [.tmp 6] := by kernel_rfl
@[go_sem] theorem f79_nt : Tryz.f79.ntmps = 63 := by kernel_rfl
@[go_sem] theorem f80_en : entersB Tryz.prog 80 = true := by kernel_rfl
@[go_sem] theorem f80_rs : Tryz.f80.results.toList = [.tmp 4, .tmp 5] := by kernel_rfl
@[go_sem] theorem f80_nt : Tryz.f80.ntmps = 19 := by kernel_rfl
@[go_sem] theorem f81_en : entersB Tryz.prog 81 = true := by kernel_rfl
@[go_sem] theorem f81_rs : Tryz.f81.results.toList = [.tmp 2] := by kernel_rfl
@[go_sem] theorem f81_nt : Tryz.f81.ntmps = 16 := by kernel_rfl
@[go_sem] theorem f82_en : entersB Tryz.prog 82 = true := by kernel_rfl
@[go_sem] theorem f82_rs : Tryz.f82.results.toList = [.tmp 2] := by kernel_rfl
@[go_sem] theorem f82_nt : Tryz.f82.ntmps = 8 := by kernel_rfl
@[go_sem] theorem f83_en : entersB Tryz.prog 83 = true := by kernel_rfl
@[go_sem] theorem f84_en : entersB Tryz.prog 84 = true := by kernel_rfl
@[go_sem] theorem f84_rs : Tryz.f84.results.toList = [.tmp 2] := by kernel_rfl
@[go_sem] theorem f84_nt : Tryz.f84.ntmps = 27 := by kernel_rfl
@[go_sem] theorem f85_en : entersB Tryz.prog 85 = true := by kernel_rfl
@[go_sem] theorem f85_rs : Tryz.f85.results.toList = [.tmp 2] := by kernel_rfl
@[go_sem] theorem f85_nt : Tryz.f85.ntmps = 16 := by kernel_rfl
@[go_sem] theorem f86_en : entersB Tryz.prog 86 = true := by kernel_rfl
@[go_sem] theorem f86_rs : Tryz.f86.results.toList = [.tmp 4, .tmp 5] := by kernel_rfl
@[go_sem] theorem f86_nt : Tryz.f86.ntmps = 39 := by kernel_rfl
@[go_sem] theorem f87_rs : Tryz.f87.results.toList = [.tmp 3] := by kernel_rfl
@[go_sem] theorem f87_nt : Tryz.f87.ntmps = 24 := by kernel_rfl
@[go_sem] theorem f88_en : entersB Tryz.prog 88 = true := by kernel_rfl
@[go_sem] theorem f88_rs : Tryz.f88.results.toList = [.tmp 4, .tmp 5] := by kernel_rfl
@[go_sem] theorem f88_nt : Tryz.f88.ntmps = 25 := by kernel_rfl
@[go_sem] theorem f89_en : entersB Tryz.prog 89 = true := by kernel_rfl
@[go_sem] theorem f89_rs : Tryz.f89.results.toList = [.cell 2 38, .tmp 3] := by kernel_rfl
@[go_sem] theorem f89_nt : Tryz.f89.ntmps = 35 := by kernel_rfl
@[go_sem] theorem f90_en : entersB Tryz.prog 90 = true := by kernel_rfl
@[go_sem] theorem f90_rs : Tryz.f90.results.toList = [.tmp 4, .tmp 5] := by kernel_rfl
@[go_sem] theorem f90_nt : Tryz.f90.ntmps = 30 := by kernel_rfl
@[go_sem] theorem f91_rs : Tryz.f91.results.toList = [.tmp 3] := by kernel_rfl
@[go_sem] theorem f91_nt : Tryz.f91.ntmps = 26 := by kernel_rfl
@[go_sem] theorem f92_en : entersB Tryz.prog 92 = true := by kernel_rfl
@[go_sem] theorem f92_rs : Tryz.f92.results.toList = [.tmp 2, .tmp 3] := by kernel_rfl
@[go_sem] theorem f92_nt : Tryz.f92.ntmps = 11 := by kernel_rfl
@[go_sem] theorem f93_en : entersB Tryz.prog 93 = true := by kernel_rfl
@[go_sem] theorem f93_rs : Tryz.f93.results.toList = [.cell 2 38, .tmp 3] := by kernel_rfl
@[go_sem] theorem f93_nt : Tryz.f93.ntmps = 36 := by kernel_rfl
@[go_sem] theorem f99_en : entersB Tryz.prog 99 = true := by kernel_rfl
@[go_sem] theorem f99_rs : Tryz.f99.results.toList = [.tmp 2] := by kernel_rfl
@[go_sem] theorem f99_nt : Tryz.f99.ntmps = 6 := by kernel_rfl
@[go_sem] theorem f115_en : entersB Tryz.prog 115 = true := by kernel_rfl
@[go_sem] theorem f115_rs : Tryz.f115.results.toList = [.tmp 2] := by kernel_rfl
@[go_sem] theorem f115_nt : Tryz.f115.ntmps = 5 := by kernel_rfl
@[go_sem] theorem f116_en : entersB Tryz.prog 116 = true := by kernel_rfl
@[go_sem] theorem f116_rs : Tryz.f116.results.toList = [.tmp 6] := by kernel_rfl
@[go_sem] theorem f116_nt : Tryz.f116.ntmps = 15 := by kernel_rfl
@[go_sem] theorem f133_rs : Tryz.f133.results.toList = [.tmp 4] := by kernel_rfl
@[go_sem] theorem f133_nt : Tryz.f133.ntmps = 22 := by kernel_rfl
@[go_sem] theorem f151_en : entersB Tryz.prog 151 = true := by kernel_rfl
@[go_sem] theorem f151_rs : Tryz.f151.results.toList = [.tmp 4] := by kernel_rfl
@[go_sem] theorem f151_nt : Tryz.f151.ntmps = 20 := by kernel_rfl
@[go_sem] theorem f159_en : entersB Tryz.prog 159 = true := by kernel_rfl
@[go_sem] theorem f159_rs : Tryz.f159.results.toList = [.tmp 2] := by kernel_rfl
@[go_sem] theorem f159_nt : Tryz.f159.ntmps = 25 := by kernel_rfl
@[go_sem] theorem f164_en : entersB Tryz.prog 164 = true := by kernel_rfl
@[go_sem] theorem f164_rs : Tryz.f164.results.toList = [.tmp 4] := by kernel_rfl
@[go_sem] theorem f164_nt : Tryz.f164.ntmps = 16 := by kernel_rfl
@[go_sem] theorem f165_en : entersB Tryz.prog 165 = true := by kernel_rfl
@[go_sem] theorem f166_en : entersB Tryz.prog 166 = true := by kernel_rfl
@[go_sem] theorem f167_en : entersB Tryz.prog 167 = true := by kernel_rfl
@[go_sem] theorem f167_rs : Tryz.f167.results.toList = [.tmp 2] := by kernel_rfl
@[go_sem] theorem f167_nt : Tryz.f167.ntmps = 8 := by kernel_rfl
@[go_sem] theorem f168_en : entersB Tryz.prog 168 = true := by kernel_rfl
@[go_sem] theorem f168_rs : Tryz.f168.results.toList = [.tmp 2] := by kernel_rfl
@[go_sem] theorem f168_nt : Tryz.f168.ntmps = 20 := by kernel_rfl
@[go_sem] theorem f169_en : entersB Tryz.prog 169 = true := by kernel_rfl
@[go_sem] theorem f169_rs : Tryz.f169.results.toList = [.tmp 0] := by kernel_rfl
@[go_sem] theorem f169_nt : Tryz.f169.ntmps = 2 := by kernel_rfl
@[go_sem] theorem f170_en : entersB Tryz.prog 170 = true := by kernel_rfl
@[go_sem] theorem f170_rs : Tryz.f170.results.toList = [.tmp 2, .tmp 3] := by kernel_rfl
@[go_sem] theorem f170_nt : Tryz.f170.ntmps = 15 := by kernel_rfl
@[go_sem] theorem f171_en : entersB Tryz.prog 171 = true := by kernel_rfl
@[go_sem] theorem f171_rs : Tryz.f171.results.toList = [.tmp 4] := by kernel_rfl
@[go_sem] theorem f171_nt : Tryz.f171.ntmps = 8 := by kernel_rfl
@[go_sem] theorem f172_en : entersB Tryz.prog 172 = true := by kernel_rfl
@[go_sem] theorem f172_rs : Tryz.f172.results.toList = [.tmp 4, .tmp 5] := by kernel_rfl
@[go_sem] theorem f172_nt : Tryz.f172.ntmps = 31 := by kernel_rfl
@[go_sem] theorem f173_en : entersB Tryz.prog 173 = true := by kernel_rfl
@[go_sem] theorem f173_rs : Tryz.f173.results.toList = [.tmp 4, .tmp 5, .tmp 6] := by kernel_rfl
@[go_sem] theorem f173_nt : Tryz.f173.ntmps = 13 := by kernel_rfl
@[go_sem] theorem f174_en : entersB Tryz.prog 174 = true := by kernel_rfl
@[go_sem] theorem f174_rs : Tryz.f174.results.toList = [.tmp 4] := by kernel_rfl
@[go_sem] theorem f174_nt : Tryz.f174.ntmps = 9 := by kernel_rfl
@[go_sem] theorem f175_en : entersB Tryz.prog 175 = true := by kernel_rfl
@[go_sem] theorem f175_rs : Tryz.f175.results.toList = [.tmp 4, .tmp 5] := by kernel_rfl
@[go_sem] theorem f175_nt : Tryz.f175.ntmps = 35 := by kernel_rfl
@[go_sem] theorem f176_en : entersB Tryz.prog 176 = true := by kernel_rfl
@[go_sem] theorem f176_rs : Tryz.f176.results.toList = [.tmp 4] := by kernel_rfl
@[go_sem] theorem f176_nt : Tryz.f176.ntmps = 19 := by kernel_rfl
@[go_sem] theorem f180_en : entersB Tryz.prog 180 = true := by kernel_rfl
@[go_sem] theorem f180_rs : Tryz.f180.results.toList = [] := by kernel_rfl
@[go_sem] theorem f180_nt : Tryz.f180.ntmps = 25 := by kernel_rfl
@[go_sem] theorem f184_en : entersB Tryz.prog 184 = true := by kernel_rfl
@[go_sem] theorem f184_rs : Tryz.f184.results.toList = [.tmp 6] := by kernel_rfl
@[go_sem] theorem f184_nt : Tryz.f184.ntmps = 15 := by kernel_rfl
@[go_sem] theorem f199_en : entersB Tryz.prog 199 = true := by kernel_rfl
@[go_sem] theorem f199_rs : Tryz.f199.results.toList = [.tmp 4] := by kernel_rfl
@[go_sem] theorem f199_nt : Tryz.f199.ntmps = 18 := by kernel_rfl
@[go_sem] theorem f214_en : entersB Tryz.prog 214 = true := by kernel_rfl
@[go_sem] theorem f214_rs : Tryz.f214.results.toList = [.tmp 2] := by kernel_rfl
@[go_sem] theorem f214_nt : Tryz.f214.ntmps = 18 := by kernel_rfl
@[go_sem] theorem f220_en : entersB Tryz.prog 220 = true := by kernel_rfl
@[go_sem] theorem f220_rs : Tryz.f220.results.toList = [.tmp 4] := by kernel_rfl
@[go_sem] theorem f220_nt : Tryz.f220.ntmps = 75 := by kernel_rfl
@[go_sem] theorem f236_en : entersB Tryz.prog 236 = true := by kernel_rfl
@[go_sem] theorem f236_rs : Tryz.f236.results.toList = [.tmp 2] := by kernel_rfl
@[go_sem] theorem f236_nt : Tryz.f236.ntmps = 6 := by kernel_rfl
@[go_sem] theorem f253_en : entersB Tryz.prog 253 = true := by kernel_rfl
@[go_sem] theorem f253_rs : Tryz.f253.results.toList = [.tmp 4, .tmp 5] := by kernel_rfl
@[go_sem] theorem f253_nt : Tryz.f253.ntmps = 11 := by kernel_rfl
@[go_sem] theorem f254_en : entersB Tryz.prog 254 = true := by kernel_rfl
@[go_sem] theorem f254_rs : Tryz.f254.results.toList = [.tmp 8] := by kernel_rfl
@[go_sem] theorem f254_nt : Tryz.f254.ntmps = 66 := by kernel_rfl
@[go_sem] theorem f255_en : entersB Tryz.prog 255 = true := by kernel_rfl
@[go_sem] theorem f255_rs : Tryz.f255.results.toList = [.tmp 4, .tmp 5] := by kernel_rfl
@[go_sem] theorem f255_nt : Tryz.f255.ntmps = 61 := by kernel_rfl
@[go_sem] theorem f256_en : entersB Tryz.prog 256 = true := by kernel_rfl
@[go_sem] theorem f256_rs : Tryz.f256.results.toList = [.tmp 4, .tmp 5, .tmp 6] := by kernel_rfl
@[go_sem] theorem f256_nt : Tryz.f256.ntmps = 23 := by kernel_rfl
@[go_sem] theorem f257_en : entersB Tryz.prog 257 = true := by kernel_rfl
@[go_sem] theorem f257_rs : Tryz.f257.results.toList = [.tmp 4, .tmp 5] := by kernel_rfl
@[go_sem] theorem f257_nt : Tryz.f257.ntmps = 38 := by kernel_rfl
@[go_sem] theorem f260_en : entersB Tryz.prog 260 = true := by kernel_rfl
@[go_sem] theorem f260_rs : Tryz.f260.results.toList = [.tmp 4] := by kernel_rfl
@[go_sem] theorem f260_nt : Tryz.f260.ntmps = 18 := by kernel_rfl
@[go_sem] theorem f261_en : entersB Tryz.prog 261 = true := by kernel_rfl
@[go_sem] theorem f264_en : entersB Tryz.prog 264 = true := by kernel_rfl
@[go_sem] theorem f264_rs : Tryz.f264.results.toList = [.tmp 4] := by kernel_rfl
@[go_sem] theorem f264_nt : Tryz.f264.ntmps = 8 := by kernel_rfl
@[go_sem] theorem f304_en : entersB Tryz.prog 304 = true := by kernel_rfl
@[go_sem] theorem f304_rs : Tryz.f304.results.toList = [.tmp 4, .tmp 5] := by kernel_rfl
@[go_sem] theorem f304_nt : Tryz.f304.ntmps = 18 := by kernel_rfl
@[go_sem] theorem f306_en : entersB Tryz.prog 306 = true := by kernel_rfl
@[go_sem] theorem f306_rs : Tryz.f306.results.toList = [.tmp 4] := by kernel_rfl
@[go_sem] theorem f306_nt : Tryz.f306.ntmps = 34 := by kernel_rfl
@[go_sem] theorem f307_en : entersB Tryz.prog 307 = true := by kernel_rfl
@[go_sem] theorem f307_rs : Tryz.f307.results.toList = [.tmp 4] := by kernel_rfl
@[go_sem] theorem f307_nt : Tryz.f307.ntmps = 8 := by kernel_rfl
@[go_sem] theorem f308_en : entersB Tryz.prog 308 = true := by kernel_rfl
@[go_sem] theorem f308_rs : Tryz.f308.results.toList = [.tmp 4] := by kernel_rfl
@[go_sem] theorem f308_nt : Tryz.f308.ntmps = 8 := by kernel_rfl
@[go_sem] theorem f309_en : entersB Tryz.prog 309 = true := by kernel_rfl
@[go_sem] theorem f310_en : entersB Tryz.prog 310 = true := by kernel_rfl
@[go_sem] theorem f310_rs : Tryz.f310.results.toList = [.tmp 4] := by kernel_rfl
@[go_sem] theorem f310_nt : Tryz.f310.ntmps = 143 := by kernel_rfl
@[go_sem] theorem f312_en : entersB Tryz.prog 312 = true := by kernel_rfl
@[go_sem] theorem f312_rs : Tryz.f312.results.toList = [.tmp 4] := by kernel_rfl
@[go_sem] theorem f312_nt : Tryz.f312.ntmps = 8 := by kernel_rfl
@[go_sem] theorem f346_en : entersB Tryz.prog 346 = true := by kernel_rfl
@[go_sem] theorem f346_rs : Tryz.f346.results.toList = [.tmp 4] := by kernel_rfl
@[go_sem] theorem f346_nt : Tryz.f346.ntmps = 21 := by kernel_rfl
@[go_sem] theorem f350_en : entersB Tryz.prog 350 = true := by kernel_rfl
@[go_sem] theorem f350_rs : Tryz.f350.results.toList = [.tmp 4] := by kernel_rfl
@[go_sem] theorem f350_nt : Tryz.f350.ntmps = 13 := by kernel_rfl
@[go_sem] theorem f349_en : entersB Tryz.prog 349 = false := by kernel_rfl
@[go_sem] theorem f356_en : entersB Tryz.prog 356 = false := by kernel_rfl
end Go.Proofs.YtnodfnjmhcjnfaaGreatDoor
