/- Facts on the types. No condition. -/
import Derived.Test.YtnodfnjmhcjnfaaGreatDoorProg
import Derived.KernelRfl
import Derived.Test.YtnodfnjmhcjnfaaGreatDoorHCoreC
namespace Go.Proofs.YtnodfnjmhcjnfaaGreatDoor
open Go Go.RowKit
@[go_sem] theorem t3_ag : aggT Tryz.prog 3 = false := by kernel_rfl
@[go_sem] theorem t3_sz : szT Tryz.prog 3 = 1 := by kernel_rfl
@[go_sem] theorem t3_in : (Tryz.prog.info? 3).isSome = true := by kernel_rfl
@[go_sem] theorem t3_un : (Tryz.prog.underlying 3).isSome = true := by kernel_rfl
@[go_sem] theorem t3_ze : zeroT Tryz.prog 3 = some [.int .i64 0] := by kernel_rfl
@[go_sem] theorem t3_by : Tryz.prog.bytesOf 3 = 8 := by kernel_rfl
@[go_sem] theorem t4_ag : aggT Tryz.prog 4 = false := by kernel_rfl
@[go_sem] theorem t4_sz : szT Tryz.prog 4 = 1 := by kernel_rfl
@[go_sem] theorem t4_in : (Tryz.prog.info? 4).isSome = true := by kernel_rfl
@[go_sem] theorem t4_un : (Tryz.prog.underlying 4).isSome = true := by kernel_rfl
@[go_sem] theorem t5_ag : aggT Tryz.prog 5 = false := by kernel_rfl
@[go_sem] theorem t5_sz : szT Tryz.prog 5 = 1 := by kernel_rfl
@[go_sem] theorem t5_in : (Tryz.prog.info? 5).isSome = true := by kernel_rfl
@[go_sem] theorem t5_un : (Tryz.prog.underlying 5).isSome = true := by kernel_rfl
@[go_sem] theorem t5_ze : zeroT Tryz.prog 5 = some [.int .u8 0] := by kernel_rfl
@[go_sem] theorem t5_by : Tryz.prog.bytesOf 5 = 1 := by kernel_rfl
@[go_sem] theorem t9_ag : aggT Tryz.prog 9 = false := by kernel_rfl
@[go_sem] theorem t9_sz : szT Tryz.prog 9 = 1 := by kernel_rfl
@[go_sem] theorem t9_in : (Tryz.prog.info? 9).isSome = true := by kernel_rfl
@[go_sem] theorem t9_ze : zeroT Tryz.prog 9 = some [.str ⟨#[]⟩] := by kernel_rfl
@[go_sem] theorem t22_ag : aggT Tryz.prog 22 = false := by kernel_rfl
@[go_sem] theorem t22_sz : szT Tryz.prog 22 = 1 := by kernel_rfl
@[go_sem] theorem t22_in : (Tryz.prog.info? 22).isSome = true := by kernel_rfl
@[go_sem] theorem t22_un : (Tryz.prog.underlying 22).isSome = true := by kernel_rfl
@[go_sem] theorem t25_ze : zeroT Tryz.prog 25 = some [.sl none 0, .int .i64 0] := by kernel_rfl
@[go_sem] theorem t25_fo : fieldsOk Tryz.prog 25 = true := by kernel_rfl
@[go_sem] theorem t26_ag : aggT Tryz.prog 26 = false := by kernel_rfl
@[go_sem] theorem t26_sz : szT Tryz.prog 26 = 1 := by kernel_rfl
@[go_sem] theorem t26_in : (Tryz.prog.info? 26).isSome = true := by kernel_rfl
@[go_sem] theorem t26_un : (Tryz.prog.underlying 26).isSome = true := by kernel_rfl
@[go_sem] theorem t29_ag : aggT Tryz.prog 29 = false := by kernel_rfl
@[go_sem] theorem t29_sz : szT Tryz.prog 29 = 1 := by kernel_rfl
@[go_sem] theorem t29_in : (Tryz.prog.info? 29).isSome = true := by kernel_rfl
@[go_sem] theorem t29_un : (Tryz.prog.underlying 29).isSome = true := by kernel_rfl
@[go_sem] theorem t29_ze : zeroT Tryz.prog 29 = some [.int .i64 0] := by kernel_rfl
@[go_sem] theorem t38_ag : aggT Tryz.prog 38 = true := by kernel_rfl
@[go_sem] theorem t38_sz : szT Tryz.prog 38 = 3 := by kernel_rfl
@[go_sem] theorem t38_in : (Tryz.prog.info? 38).isSome = true := by kernel_rfl
@[go_sem] theorem t38_un : (Tryz.prog.underlying 38).isSome = true := by kernel_rfl
@[go_sem] theorem t38_ze : zeroT Tryz.prog 38 = some [.int .i64 0, .int .i64 0, .int .i64 0] := by kernel_rfl
@[go_sem] theorem t38_fo : fieldsOk Tryz.prog 38 = true := by kernel_rfl
@[go_sem] theorem t45_ag : aggT Tryz.prog 45 = true := by kernel_rfl
@[go_sem] theorem t45_sz : szT Tryz.prog 45 = 2 := by kernel_rfl
@[go_sem] theorem t45_in : (Tryz.prog.info? 45).isSome = true := by kernel_rfl
@[go_sem] theorem t45_un : (Tryz.prog.underlying 45).isSome = true := by kernel_rfl
@[go_sem] theorem t45_ze : zeroT Tryz.prog 45 = some [.int .i64 0, .int .i64 0] := by kernel_rfl
@[go_sem] theorem t45_fo : fieldsOk Tryz.prog 45 = true := by kernel_rfl
@[go_sem] theorem t64_ag : aggT Tryz.prog 64 = false := by kernel_rfl
@[go_sem] theorem t64_sz : szT Tryz.prog 64 = 1 := by kernel_rfl
@[go_sem] theorem t64_in : (Tryz.prog.info? 64).isSome = true := by kernel_rfl
@[go_sem] theorem t64_un : (Tryz.prog.underlying 64).isSome = true := by kernel_rfl
@[go_sem] theorem t64_ze : zeroT Tryz.prog 64 = some [.sl none 0] := by kernel_rfl
@[go_sem] theorem t106_ag : aggT Tryz.prog 106 = true := by kernel_rfl
@[go_sem] theorem t106_sz : szT Tryz.prog 106 = 7 := by kernel_rfl
@[go_sem] theorem t106_in : (Tryz.prog.info? 106).isSome = true := by kernel_rfl
@[go_sem] theorem t106_un : (Tryz.prog.underlying 106).isSome = true := by kernel_rfl
@[go_sem] theorem t106_ze : zeroT Tryz.prog 106 = some [.int .i64 0, .int .i64 0, .str ⟨#[]⟩, .int .i64 0, .int .i64 0, .int .i64 0, .bool false] := by kernel_rfl
@[go_sem] theorem t106_fo : fieldsOk Tryz.prog 106 = true := by kernel_rfl
@[go_sem] theorem t177_ag : aggT Tryz.prog 177 = false := by kernel_rfl
@[go_sem] theorem t177_sz : szT Tryz.prog 177 = 1 := by kernel_rfl
@[go_sem] theorem t177_in : (Tryz.prog.info? 177).isSome = true := by kernel_rfl
@[go_sem] theorem t177_un : (Tryz.prog.underlying 177).isSome = true := by kernel_rfl
@[go_sem] theorem t178_ag : aggT Tryz.prog 178 = false := by kernel_rfl
@[go_sem] theorem t178_sz : szT Tryz.prog 178 = 1 := by kernel_rfl
@[go_sem] theorem t178_in : (Tryz.prog.info? 178).isSome = true := by kernel_rfl
@[go_sem] theorem t178_un : (Tryz.prog.underlying 178).isSome = true := by kernel_rfl
@[go_sem] theorem t180_ze : zeroT Tryz.prog 180 = some [.sl none 0, .int .i64 0, .sl none 0, .map none] := by kernel_rfl
@[go_sem] theorem t180_fo : fieldsOk Tryz.prog 180 = true := by kernel_rfl
@[go_sem] theorem t215_ag : aggT Tryz.prog 215 = true := by kernel_rfl
@[go_sem] theorem t215_sz : szT Tryz.prog 215 = 8 := by kernel_rfl
@[go_sem] theorem t215_in : (Tryz.prog.info? 215).isSome = true := by kernel_rfl
@[go_sem] theorem t215_un : (Tryz.prog.underlying 215).isSome = true := by kernel_rfl
@[go_sem] theorem t215_ze : zeroT Tryz.prog 215 = some [.int .i64 0, .int .i64 0, .str ⟨#[]⟩, .int .i64 0, .int .i64 0, .int .i64 0, .bool false, .sl none 0] := by kernel_rfl
@[go_sem] theorem t215_fo : fieldsOk Tryz.prog 215 = true := by kernel_rfl
@[go_sem] theorem t317_un : (Tryz.prog.underlying 317).isSome = true := by kernel_rfl
@[go_sem] theorem t350_ze : zeroT Tryz.prog 350 = some [.sl none 0, .int .i64 0, .bool false] := by kernel_rfl
@[go_sem] theorem t350_fo : fieldsOk Tryz.prog 350 = true := by kernel_rfl
@[go_sem] theorem t362_ag : aggT Tryz.prog 362 = true := by kernel_rfl
@[go_sem] theorem t362_sz : szT Tryz.prog 362 = 8 := by kernel_rfl
@[go_sem] theorem t362_in : (Tryz.prog.info? 362).isSome = true := by kernel_rfl
@[go_sem] theorem t362_un : (Tryz.prog.underlying 362).isSome = true := by kernel_rfl
@[go_sem] theorem t362_ze : zeroT Tryz.prog 362 = some [.int .i64 0, .int .i64 0, .str ⟨#[]⟩, .int .i64 0, .int .i64 0, .int .i64 0, .bool false, .sl none 0] := by kernel_rfl
@[go_sem] theorem t362_fo : fieldsOk Tryz.prog 362 = true := by kernel_rfl
@[go_sem] theorem t384_ze : zeroT Tryz.prog 384 = some [.sl none 0, .int .i64 0, .bool false] := by kernel_rfl
@[go_sem] theorem t384_fo : fieldsOk Tryz.prog 384 = true := by kernel_rfl
@[go_sem] theorem t25_f0 : fieldT Tryz.prog 25 0 = some (0, 1) := by kernel_rfl
@[go_sem] theorem t25_f1 : fieldT Tryz.prog 25 1 = some (1, 1) := by kernel_rfl
@[go_sem] theorem t38_f0 : fieldT Tryz.prog 38 0 = some (0, 1) := by kernel_rfl
@[go_sem] theorem t38_f1 : fieldT Tryz.prog 38 1 = some (1, 1) := by kernel_rfl
@[go_sem] theorem t38_f2 : fieldT Tryz.prog 38 2 = some (2, 1) := by kernel_rfl
@[go_sem] theorem t45_f0 : fieldT Tryz.prog 45 0 = some (0, 1) := by kernel_rfl
@[go_sem] theorem t45_f1 : fieldT Tryz.prog 45 1 = some (1, 1) := by kernel_rfl
@[go_sem] theorem t106_f0 : fieldT Tryz.prog 106 0 = some (0, 1) := by kernel_rfl
@[go_sem] theorem t106_f1 : fieldT Tryz.prog 106 1 = some (1, 1) := by kernel_rfl
@[go_sem] theorem t106_f2 : fieldT Tryz.prog 106 2 = some (2, 1) := by kernel_rfl
@[go_sem] theorem t106_f3 : fieldT Tryz.prog 106 3 = some (3, 1) := by kernel_rfl
@[go_sem] theorem t106_f4 : fieldT Tryz.prog 106 4 = some (4, 1) := by kernel_rfl
@[go_sem] theorem t106_f5 : fieldT Tryz.prog 106 5 = some (5, 1) := by kernel_rfl
@[go_sem] theorem t106_f6 : fieldT Tryz.prog 106 6 = some (6, 1) := by kernel_rfl
@[go_sem] theorem t180_f0 : fieldT Tryz.prog 180 0 = some (0, 1) := by kernel_rfl
@[go_sem] theorem t180_f1 : fieldT Tryz.prog 180 1 = some (1, 1) := by kernel_rfl
@[go_sem] theorem t180_f2 : fieldT Tryz.prog 180 2 = some (2, 1) := by kernel_rfl
@[go_sem] theorem t180_f3 : fieldT Tryz.prog 180 3 = some (3, 1) := by kernel_rfl
@[go_sem] theorem t215_f0 : fieldT Tryz.prog 215 0 = some (0, 7) := by kernel_rfl
@[go_sem] theorem t215_f1 : fieldT Tryz.prog 215 1 = some (7, 1) := by kernel_rfl
@[go_sem] theorem t350_f0 : fieldT Tryz.prog 350 0 = some (0, 1) := by kernel_rfl
@[go_sem] theorem t350_f1 : fieldT Tryz.prog 350 1 = some (1, 1) := by kernel_rfl
@[go_sem] theorem t350_f2 : fieldT Tryz.prog 350 2 = some (2, 1) := by kernel_rfl
@[go_sem] theorem t362_f0 : fieldT Tryz.prog 362 0 = some (0, 7) := by kernel_rfl
@[go_sem] theorem t362_f1 : fieldT Tryz.prog 362 1 = some (7, 1) := by kernel_rfl
@[go_sem] theorem t384_f0 : fieldT Tryz.prog 384 0 = some (0, 1) := by kernel_rfl
@[go_sem] theorem t384_f1 : fieldT Tryz.prog 384 1 = some (1, 1) := by kernel_rfl
@[go_sem] theorem t384_f2 : fieldT Tryz.prog 384 2 = some (2, 1) := by kernel_rfl
@[go_sem] theorem t9_st : strT Tryz.prog 9 = true := by kernel_rfl
@[go_sem] theorem t9_el : elemT Tryz.prog 9 = none := by kernel_rfl
@[go_sem] theorem t9_us : Tryz.prog.underlying 9 = some .string := by kernel_rfl
@[go_sem] theorem t22_el : elemT Tryz.prog 22 = some 3 := by kernel_rfl
@[go_sem] theorem t26_el : elemT Tryz.prog 26 = some 38 := by kernel_rfl
@[go_sem] theorem t64_el : elemT Tryz.prog 64 = some 5 := by kernel_rfl
@[go_sem] theorem t64_st : strT Tryz.prog 64 = false := by kernel_rfl
@[go_sem] theorem t78_el : elemT Tryz.prog 78 = some 9 := by kernel_rfl
@[go_sem] theorem t78_st : strT Tryz.prog 78 = false := by kernel_rfl
@[go_sem] theorem t101_el : elemT Tryz.prog 101 = some 106 := by kernel_rfl
@[go_sem] theorem t160_el : elemT Tryz.prog 160 = some 29 := by kernel_rfl
@[go_sem] theorem t177_el : elemT Tryz.prog 177 = some 215 := by kernel_rfl
@[go_sem] theorem t275_el : elemT Tryz.prog 275 = some 64 := by kernel_rfl
@[go_sem] theorem t303_el : elemT Tryz.prog 303 = some 362 := by kernel_rfl
@[go_sem] theorem t3_ik : intK Tryz.prog 3 = some .i64 := by kernel_rfl
@[go_sem] theorem t5_ik : intK Tryz.prog 5 = some .u8 := by kernel_rfl
@[go_sem] theorem t9_ik : intK Tryz.prog 9 = none := by kernel_rfl
@[go_sem] theorem t219_ik : intK Tryz.prog 219 = some .u64 := by kernel_rfl
@[go_sem] theorem t3_bt : bytesT Tryz.prog 3 = false := by kernel_rfl
@[go_sem] theorem t5_bt : bytesT Tryz.prog 5 = false := by kernel_rfl
@[go_sem] theorem t9_bt : bytesT Tryz.prog 9 = false := by kernel_rfl
@[go_sem] theorem t64_bt : bytesT Tryz.prog 64 = true := by kernel_rfl
@[go_sem] theorem t219_bt : bytesT Tryz.prog 219 = false := by kernel_rfl
@[go_sem] theorem t317_bt : bytesT Tryz.prog 317 = false := by kernel_rfl
@[go_sem] theorem t38_fk : fieldsK Tryz.prog 38 = some [(0, 1), (1, 1), (2, 1)] := by kernel_rfl
@[go_sem] theorem f10_rs : Tryz.f10.results.toList = [.tmp 2] := by kernel_rfl
@[go_sem] theorem f10_nt : Tryz.f10.ntmps = 134 := by kernel_rfl
@[go_sem] theorem f14_en : entersB Tryz.prog 14 = true := by kernel_rfl
@[go_sem] theorem f14_rs : Tryz.f14.results.toList = [.tmp 2] := by kernel_rfl
@[go_sem] theorem f14_nt : Tryz.f14.ntmps = 35 := by kernel_rfl
@[go_sem] theorem f18_en : entersB Tryz.prog 18 = true := by kernel_rfl
@[go_sem] theorem f18_rs : Tryz.f18.results.toList = [.tmp 4] := by kernel_rfl
@[go_sem] theorem f18_nt : Tryz.f18.ntmps = 26 := by kernel_rfl
@[go_sem] theorem f37_en : entersB Tryz.prog 37 = true := by kernel_rfl
@[go_sem] theorem f37_rs : Tryz.f37.results.toList = [.tmp 2] := by kernel_rfl
@[go_sem] theorem f37_nt : Tryz.f37.ntmps = 27 := by kernel_rfl
@[go_sem] theorem f39_en : entersB Tryz.prog 39 = true := by kernel_rfl
@[go_sem] theorem f39_rs : Tryz.f39.results.toList = [.tmp 6] := by kernel_rfl
@[go_sem] theorem f39_nt : Tryz.f39.ntmps = 19 := by kernel_rfl
@[go_sem] theorem f41_en : entersB Tryz.prog 41 = true := by kernel_rfl
@[go_sem] theorem f41_rs : Tryz.f41.results.toList = [.tmp 6, .tmp 7] := by kernel_rfl
@[go_sem] theorem f41_nt : Tryz.f41.ntmps = 33 := by kernel_rfl
@[go_sem] theorem f54_en : entersB Tryz.prog 54 = true := by kernel_rfl
@[go_sem] theorem f54_rs : Tryz.f54.results.toList = [.tmp 4] := by kernel_rfl
@[go_sem] theorem f54_nt : Tryz.f54.ntmps = 39 := by kernel_rfl
@[go_sem] theorem f55_en : entersB Tryz.prog 55 = true := by kernel_rfl
@[go_sem] theorem f55_rs : Tryz.f55.results.toList = [.tmp 4] := by kernel_rfl
@[go_sem] theorem f55_nt : Tryz.f55.ntmps = 9 := by kernel_rfl
@[go_sem] theorem f58_en : entersB Tryz.prog 58 = true := by kernel_rfl
@[go_sem] theorem f58_rs : Tryz.f58.results.toList = [.tmp 2] := by kernel_rfl
@[go_sem] theorem f58_nt : Tryz.f58.ntmps = 31 := by kernel_rfl
@[go_sem] theorem f59_en : entersB Tryz.prog 59 = true := by kernel_rfl
@[go_sem] theorem f59_rs : Tryz.f59.results.toList = [.tmp 2, .tmp 3] := by kernel_rfl
@[go_sem] theorem f59_nt : Tryz.f59.ntmps = 33 := by kernel_rfl
@[go_sem] theorem f60_en : entersB Tryz.prog 60 = true := by kernel_rfl
@[go_sem] theorem f60_rs : Tryz.f60.results.toList = [.tmp 2] := by kernel_rfl
@[go_sem] theorem f60_nt : Tryz.f60.ntmps = 15 := by kernel_rfl
@[go_sem] theorem f65_en : entersB Tryz.prog 65 = true := by kernel_rfl
@[go_sem] theorem f65_rs : Tryz.f65.results.toList = [] := by kernel_rfl
@[go_sem] theorem f65_nt : Tryz.f65.ntmps = 14 := by kernel_rfl
@[go_sem] theorem f67_en : entersB Tryz.prog 67 = true := by kernel_rfl
@[go_sem] theorem f69_en : entersB Tryz.prog 69 = true := by kernel_rfl
@[go_sem] theorem f69_rs : Tryz.f69.results.toList = [.tmp 2] := by kernel_rfl
@[go_sem] theorem f69_nt : Tryz.f69.ntmps = 35 := by kernel_rfl
@[go_sem] theorem f70_en : entersB Tryz.prog 70 = true := by kernel_rfl
@[go_sem] theorem f70_rs : Tryz.f70.results.toList = [.tmp 2, .tmp 3] := by kernel_rfl
@[go_sem] theorem f70_nt : Tryz.f70.ntmps = 42 := by kernel_rfl
@[go_sem] theorem f71_en : entersB Tryz.prog 71 = true := by kernel_rfl
@[go_sem] theorem f71_rs : Tryz.f71.results.toList = [.tmp 4] := by kernel_rfl
@[go_sem] theorem f71_nt : Tryz.f71.ntmps = 10 := by kernel_rfl
@[go_sem] theorem f72_en : entersB Tryz.prog 72 = true := by kernel_rfl
@[go_sem] theorem f72_rs : Tryz.f72.results.toList = [.tmp 4] := by kernel_rfl
@[go_sem] theorem f72_nt : Tryz.f72.ntmps = 9 := by kernel_rfl
@[go_sem] theorem f73_rs : Tryz.f73.results.toList = [.tmp 2] := by kernel_rfl
@[go_sem] theorem f73_nt : Tryz.f73.ntmps = 5 := by kernel_rfl
@[go_sem] theorem f74_en : entersB Tryz.prog 74 = true := by kernel_rfl
@[go_sem] theorem f74_rs : Tryz.f74.results.toList = [.tmp 4, .tmp 5] := by kernel_rfl
@[go_sem] theorem f74_nt : Tryz.f74.ntmps = 166 := by kernel_rfl
@[go_sem] theorem f75_en : entersB Tryz.prog 75 = true := by kernel_rfl
@[go_sem] theorem f75_rs : Tryz.f75.results.toList = [.tmp 6, .tmp 7] := by kernel_rfl
@[go_sem] theorem f75_nt : Tryz.f75.ntmps = 29 := by kernel_rfl
@[go_sem] theorem f77_en : entersB Tryz.prog 77 = true := by kernel_rfl
@[go_sem] theorem f77_rs : Tryz.f77.results.toList = [.tmp 4] := by kernel_rfl
@[go_sem] theorem f77_nt : Tryz.f77.ntmps = 64 := by kernel_rfl
@[go_sem] theorem f78_en : entersB Tryz.prog 78 = true := by kernel_rfl
@[go_sem] theorem f78_rs : Tryz.f78.results.toList = [.tmp 4] := by kernel_rfl
@[go_sem] theorem f78_nt : Tryz.f78.ntmps = 12 := by kernel_rfl
@[go_sem] theorem f84_en : entersB Tryz.prog 84 = true := by kernel_rfl
@[go_sem] theorem f84_rs : Tryz.f84.results.toList = [.tmp 2] := by kernel_rfl
@[go_sem] theorem f84_nt : Tryz.f84.ntmps = 27 := by kernel_rfl
@[go_sem] theorem f95_en : entersB Tryz.prog 95 = true := by kernel_rfl
@[go_sem] theorem f95_rs : Tryz.f95.results.toList = [.tmp 4] := by kernel_rfl
@[go_sem] theorem f95_nt : Tryz.f95.ntmps = 12 := by kernel_rfl
@[go_sem] theorem f99_en : entersB Tryz.prog 99 = true := by kernel_rfl
@[go_sem] theorem f99_rs : Tryz.f99.results.toList = [.tmp 2] := by kernel_rfl
@[go_sem] theorem f99_nt : Tryz.f99.ntmps = 6 := by kernel_rfl
@[go_sem] theorem f111_en : entersB Tryz.prog 111 = true := by kernel_rfl
@[go_sem] theorem f111_rs : Tryz.f111.results.toList = [.tmp 4] := by kernel_rfl
@[go_sem] theorem f111_nt : Tryz.f111.ntmps = 15 := by kernel_rfl
@[go_sem] theorem f114_en : entersB Tryz.prog 114 = true := by kernel_rfl
@[go_sem] theorem f114_rs : Tryz.f114.results.toList = [.tmp 2] := by kernel_rfl
@[go_sem] theorem f114_nt : Tryz.f114.ntmps = 15 := by kernel_rfl
@[go_sem] theorem f115_en : entersB Tryz.prog 115 = true := by kernel_rfl
@[go_sem] theorem f115_rs : Tryz.f115.results.toList = [.tmp 2] := by kernel_rfl
@[go_sem] theorem f115_nt : Tryz.f115.ntmps = 5 := by kernel_rfl
@[go_sem] theorem f116_en : entersB Tryz.prog 116 = true := by kernel_rfl
@[go_sem] theorem f116_rs : Tryz.f116.results.toList = [.tmp 6] := by kernel_rfl
@[go_sem] theorem f116_nt : Tryz.f116.ntmps = 15 := by kernel_rfl
@[go_sem] theorem f123_en : entersB Tryz.prog 123 = true := by kernel_rfl
@[go_sem] theorem f123_rs : Tryz.f123.results.toList = [.tmp 4, .tmp 5] := by kernel_rfl
@[go_sem] theorem f123_nt : Tryz.f123.ntmps = 22 := by kernel_rfl
@[go_sem] theorem f124_en : entersB Tryz.prog 124 = true := by kernel_rfl
@[go_sem] theorem f124_rs : Tryz.f124.results.toList = [.tmp 2] := by kernel_rfl
@[go_sem] theorem f124_nt : Tryz.f124.ntmps = 36 := by kernel_rfl
@[go_sem] theorem f125_en : entersB Tryz.prog 125 = true := by kernel_rfl
@[go_sem] theorem f125_rs : Tryz.f125.results.toList = [.tmp 6] := by kernel_rfl
@[go_sem] theorem f125_nt : Tryz.f125.ntmps = 19 := by kernel_rfl
@[go_sem] theorem f126_en : entersB Tryz.prog 126 = true := by kernel_rfl
@[go_sem] theorem f126_rs : Tryz.f126.results.toList = [.tmp 2] := by kernel_rfl
@[go_sem] theorem f126_nt : Tryz.f126.ntmps = 7 := by kernel_rfl
@[go_sem] theorem f127_en : entersB Tryz.prog 127 = true := by kernel_rfl
@[go_sem] theorem f127_rs : Tryz.f127.results.toList = [.tmp 2] := by kernel_rfl
@[go_sem] theorem f127_nt : Tryz.f127.ntmps = 78 := by kernel_rfl
@[go_sem] theorem f129_en : entersB Tryz.prog 129 = true := by kernel_rfl
@[go_sem] theorem f129_rs : Tryz.f129.results.toList = [.tmp 2] := by kernel_rfl
@[go_sem] theorem f129_nt : Tryz.f129.ntmps = 14 := by kernel_rfl
@[go_sem] theorem f130_en : entersB Tryz.prog 130 = true := by kernel_rfl
@[go_sem] theorem f130_rs : Tryz.f130.results.toList = [.tmp 6] := by kernel_rfl
@[go_sem] theorem f130_nt : Tryz.f130.ntmps = 60 := by kernel_rfl
@[go_sem] theorem f133_rs : Tryz.f133.results.toList = [.tmp 4] := by kernel_rfl
@[go_sem] theorem f133_nt : Tryz.f133.ntmps = 22 := by kernel_rfl
@[go_sem] theorem f147_en : entersB Tryz.prog 147 = true := by kernel_rfl
@[go_sem] theorem f147_rs : Tryz.f147.results.toList = [.tmp 2] := by kernel_rfl
@[go_sem] theorem f147_nt : Tryz.f147.ntmps = 54 := by kernel_rfl
@[go_sem] theorem f151_en : entersB Tryz.prog 151 = true := by kernel_rfl
@[go_sem] theorem f151_rs : Tryz.f151.results.toList = [.tmp 4] := by kernel_rfl
@[go_sem] theorem f151_nt : Tryz.f151.ntmps = 20 := by kernel_rfl
@[go_sem] theorem f152_en : entersB Tryz.prog 152 = true := by kernel_rfl
@[go_sem] theorem f152_rs : Tryz.f152.results.toList = [.tmp 6, .tmp 7] := by kernel_rfl
@[go_sem] theorem f152_nt : Tryz.f152.ntmps = 69 := by kernel_rfl
@[go_sem] theorem f153_en : entersB Tryz.prog 153 = true := by kernel_rfl
@[go_sem] theorem f153_rs : Tryz.f153.results.toList = [.tmp 2, .tmp 3] := by kernel_rfl
@[go_sem] theorem f153_nt : Tryz.f153.ntmps = 24 := by kernel_rfl
@[go_sem] theorem f155_en : entersB Tryz.prog 155 = true := by kernel_rfl
@[go_sem] theorem f155_rs : Tryz.f155.results.toList = [] := by kernel_rfl
@[go_sem] theorem f155_nt : Tryz.f155.ntmps = 148 := by kernel_rfl
@[go_sem] theorem f156_en : entersB Tryz.prog 156 = true := by kernel_rfl
@[go_sem] theorem f156_rs : Tryz.f156.results.toList = [.tmp 2] := by kernel_rfl
@[go_sem] theorem f156_nt : Tryz.f156.ntmps = 8 := by kernel_rfl
@[go_sem] theorem f159_en : entersB Tryz.prog 159 = true := by kernel_rfl
@[go_sem] theorem f159_rs : Tryz.f159.results.toList = [.tmp 2] := by kernel_rfl
@[go_sem] theorem f159_nt : Tryz.f159.ntmps = 25 := by kernel_rfl
@[go_sem] theorem f160_en : entersB Tryz.prog 160 = true := by kernel_rfl
@[go_sem] theorem f160_rs : Tryz.f160.results.toList = [.tmp 2] := by kernel_rfl
@[go_sem] theorem f160_nt : Tryz.f160.ntmps = 26 := by kernel_rfl
@[go_sem] theorem f161_en : entersB Tryz.prog 161 = true := by kernel_rfl
@[go_sem] theorem f161_rs : Tryz.f161.results.toList = [.tmp 4] := by kernel_rfl
@[go_sem] theorem f161_nt : Tryz.f161.ntmps = 19 := by kernel_rfl
@[go_sem] theorem f162_en : entersB Tryz.prog 162 = true := by kernel_rfl
@[go_sem] theorem f162_rs : Tryz.f162.results.toList = [.tmp 2] := by kernel_rfl
@[go_sem] theorem f162_nt : Tryz.f162.ntmps = 28 := by kernel_rfl
@[go_sem] theorem f163_en : entersB Tryz.prog 163 = true := by kernel_rfl
@[go_sem] theorem f163_rs : Tryz.f163.results.toList = [.tmp 6] := by kernel_rfl
@[go_sem] theorem f163_nt : Tryz.f163.ntmps = 70 := by kernel_rfl
@[go_sem] theorem f164_en : entersB Tryz.prog 164 = true := by kernel_rfl
@[go_sem] theorem f164_rs : Tryz.f164.results.toList = [.tmp 4] := by kernel_rfl
@[go_sem] theorem f164_nt : Tryz.f164.ntmps = 16 := by kernel_rfl
@[go_sem] theorem f184_en : entersB Tryz.prog 184 = true := by kernel_rfl
@[go_sem] theorem f184_rs : Tryz.f184.results.toList = [.tmp 6] := by kernel_rfl
@[go_sem] theorem f184_nt : Tryz.f184.ntmps = 15 := by kernel_rfl
@[go_sem] theorem f193_en : entersB Tryz.prog 193 = true := by kernel_rfl
@[go_sem] theorem f193_rs : Tryz.f193.results.toList = [] := by kernel_rfl
@[go_sem] theorem f193_nt : Tryz.f193.ntmps = 11 := by kernel_rfl
@[go_sem] theorem f194_en : entersB Tryz.prog 194 = true := by kernel_rfl
@[go_sem] theorem f194_rs : Tryz.f194.results.toList = [.tmp 2] := by kernel_rfl
@[go_sem] theorem f194_nt : Tryz.f194.ntmps = 61 := by kernel_rfl
@[go_sem] theorem f199_en : entersB Tryz.prog 199 = true := by kernel_rfl
@[go_sem] theorem f199_rs : Tryz.f199.results.toList = [.tmp 4] := by kernel_rfl
@[go_sem] theorem f199_nt : Tryz.f199.ntmps = 18 := by kernel_rfl
@[go_sem] theorem f210_en : entersB Tryz.prog 210 = true := by kernel_rfl
@[go_sem] theorem f210_rs : Tryz.f210.results.toList = [.tmp 4] := by kernel_rfl
@[go_sem] theorem f210_nt : Tryz.f210.ntmps = 27 := by kernel_rfl
@[go_sem] theorem f211_en : entersB Tryz.prog 211 = true := by kernel_rfl
@[go_sem] theorem f211_rs : Tryz.f211.results.toList = [.tmp 4] := by kernel_rfl
@[go_sem] theorem f211_nt : Tryz.f211.ntmps = 9 := by kernel_rfl
@[go_sem] theorem f212_en : entersB Tryz.prog 212 = true := by kernel_rfl
@[go_sem] theorem f212_rs : Tryz.f212.results.toList = [.cell 4 106, .tmp 5, .tmp 6] := by kernel_rfl
@[go_sem] theorem f212_nt : Tryz.f212.ntmps = 123 := by kernel_rfl
@[go_sem] theorem f214_en : entersB Tryz.prog 214 = true := by kernel_rfl
@[go_sem] theorem f214_rs : Tryz.f214.results.toList = [.tmp 2] := by kernel_rfl
@[go_sem] theorem f214_nt : Tryz.f214.ntmps = 18 := by kernel_rfl
@[go_sem] theorem f236_en : entersB Tryz.prog 236 = true := by kernel_rfl
@[go_sem] theorem f236_rs : Tryz.f236.results.toList = [.tmp 2] := by kernel_rfl
@[go_sem] theorem f236_nt : Tryz.f236.ntmps = 6 := by kernel_rfl
@[go_sem] theorem f237_en : entersB Tryz.prog 237 = true := by kernel_rfl
@[go_sem] theorem f237_rs : Tryz.f237.results.toList = [.tmp 2, .tmp 3, .tmp 4] := by kernel_rfl
@[go_sem] theorem f237_nt : Tryz.f237.ntmps = 49 := by kernel_rfl
@[go_sem] theorem f238_en : entersB Tryz.prog 238 = true := by kernel_rfl
@[go_sem] theorem f238_rs : Tryz.f238.results.toList = [.tmp 4] := by kernel_rfl
@[go_sem] theorem f238_nt : Tryz.f238.ntmps = 30 := by kernel_rfl
@[go_sem] theorem f239_en : entersB Tryz.prog 239 = true := by kernel_rfl
@[go_sem] theorem f239_rs : Tryz.f239.results.toList = [.tmp 6] := by kernel_rfl
@[go_sem] theorem f239_nt : Tryz.f239.ntmps = 19 := by kernel_rfl
@[go_sem] theorem f240_en : entersB Tryz.prog 240 = true := by kernel_rfl
@[go_sem] theorem f240_rs : Tryz.f240.results.toList = [] := by kernel_rfl
@[go_sem] theorem f240_nt : Tryz.f240.ntmps = 53 := by kernel_rfl
@[go_sem] theorem f249_en : entersB Tryz.prog 249 = true := by kernel_rfl
@[go_sem] theorem f249_rs : Tryz.f249.results.toList = [.tmp 2] := by kernel_rfl
@[go_sem] theorem f249_nt : Tryz.f249.ntmps = 25 := by kernel_rfl
@[go_sem] theorem f250_en : entersB Tryz.prog 250 = true := by kernel_rfl
@[go_sem] theorem f250_rs : Tryz.f250.results.toList = [.tmp 2] := by kernel_rfl
@[go_sem] theorem f250_nt : Tryz.f250.ntmps = 21 := by kernel_rfl
@[go_sem] theorem f264_en : entersB Tryz.prog 264 = true := by kernel_rfl
@[go_sem] theorem f264_rs : Tryz.f264.results.toList = [.tmp 4] := by kernel_rfl
@[go_sem] theorem f264_nt : Tryz.f264.ntmps = 8 := by kernel_rfl
@[go_sem] theorem f268_en : entersB Tryz.prog 268 = true := by kernel_rfl
@[go_sem] theorem f268_rs : Tryz.f268.results.toList = [] := by kernel_rfl
@[go_sem] theorem f268_nt : Tryz.f268.ntmps = 134 := by kernel_rfl
@[go_sem] theorem f287_en : entersB Tryz.prog 287 = true := by kernel_rfl
@[go_sem] theorem f287_rs : Tryz.f287.results.toList = [.tmp 4] := by kernel_rfl
@[go_sem] theorem f287_nt : Tryz.f287.ntmps = 49 := by kernel_rfl
@[go_sem] theorem f288_en : entersB Tryz.prog 288 = true := by kernel_rfl
@[go_sem] theorem f288_rs : Tryz.f288.results.toList = [.tmp 6] := by kernel_rfl
@[go_sem] theorem f288_nt : Tryz.f288.ntmps = 18 := by kernel_rfl
@[go_sem] theorem f289_en : entersB Tryz.prog 289 = true := by kernel_rfl
@[go_sem] theorem f289_rs : Tryz.f289.results.toList = [.tmp 4] := by kernel_rfl
@[go_sem] theorem f289_nt : Tryz.f289.ntmps = 42 := by kernel_rfl
@[go_sem] theorem f295_en : entersB Tryz.prog 295 = true := by kernel_rfl
@[go_sem] theorem f295_rs : Tryz.f295.results.toList = [.cell 4 106, .tmp 5, .tmp 6] := by kernel_rfl
@[go_sem] theorem f295_nt : Tryz.f295.ntmps = 152 := by kernel_rfl
@[go_sem] theorem f296_en : entersB Tryz.prog 296 = true := by kernel_rfl
@[go_sem] theorem f296_rs : Tryz.f296.results.toList = [.tmp 4] := by kernel_rfl
@[go_sem] theorem f296_nt : Tryz.f296.ntmps = 16 := by kernel_rfl
@[go_sem] theorem f297_en : entersB Tryz.prog 297 = true := by kernel_rfl
@[go_sem] theorem f297_rs : Tryz.f297.results.toList = [.tmp 6] := by kernel_rfl
@[go_sem] theorem f297_nt : Tryz.f297.ntmps = 67 := by kernel_rfl
@[go_sem] theorem f312_en : entersB Tryz.prog 312 = true := by kernel_rfl
@[go_sem] theorem f312_rs : Tryz.f312.results.toList = [.tmp 4] := by kernel_rfl
@[go_sem] theorem f312_nt : Tryz.f312.ntmps = 8 := by kernel_rfl
@[go_sem] theorem f316_en : entersB Tryz.prog 316 = true := by kernel_rfl
@[go_sem] theorem f316_rs : Tryz.f316.results.toList = [] := by kernel_rfl
@[go_sem] theorem f316_nt : Tryz.f316.ntmps = 49 := by kernel_rfl
@[go_sem] theorem f332_en : entersB Tryz.prog 332 = true := by kernel_rfl
@[go_sem] theorem f332_rs : Tryz.f332.results.toList = [.tmp 2] := by kernel_rfl
@[go_sem] theorem f332_nt : Tryz.f332.ntmps = 33 := by kernel_rfl
@[go_sem] theorem f336_en : entersB Tryz.prog 336 = true := by kernel_rfl
@[go_sem] theorem f336_rs : Tryz.f336.results.toList = [.tmp 4] := by kernel_rfl
@[go_sem] theorem f336_nt : Tryz.f336.ntmps = 49 := by kernel_rfl
@[go_sem] theorem f337_en : entersB Tryz.prog 337 = true := by kernel_rfl
@[go_sem] theorem f337_rs : Tryz.f337.results.toList = [.tmp 6] := by kernel_rfl
@[go_sem] theorem f337_nt : Tryz.f337.ntmps = 46 := by kernel_rfl
@[go_sem] theorem f338_en : entersB Tryz.prog 338 = true := by kernel_rfl
@[go_sem] theorem f338_rs : Tryz.f338.results.toList = [.tmp 2] := by kernel_rfl
@[go_sem] theorem f338_nt : Tryz.f338.ntmps = 21 := by kernel_rfl
@[go_sem] theorem f339_en : entersB Tryz.prog 339 = true := by kernel_rfl
@[go_sem] theorem f339_rs : Tryz.f339.results.toList = [] := by kernel_rfl
@[go_sem] theorem f339_nt : Tryz.f339.ntmps = 13 := by kernel_rfl
@[go_sem] theorem f340_en : entersB Tryz.prog 340 = true := by kernel_rfl
@[go_sem] theorem f340_rs : Tryz.f340.results.toList = [.tmp 2, .tmp 3] := by kernel_rfl
@[go_sem] theorem f340_nt : Tryz.f340.ntmps = 34 := by kernel_rfl
@[go_sem] theorem f365_en : entersB Tryz.prog 365 = true := by kernel_rfl
@[go_sem] theorem f365_rs : Tryz.f365.results.toList = [.tmp 4, .tmp 5, .tmp 6] := by kernel_rfl
@[go_sem] theorem f365_nt : Tryz.f365.ntmps = 59 := by kernel_rfl
@[go_sem] theorem f366_en : entersB Tryz.prog 366 = true := by kernel_rfl
@[go_sem] theorem f366_rs : Tryz.f366.results.toList = [.tmp 4, .tmp 5, .tmp 6] := by kernel_rfl
@[go_sem] theorem f366_nt : Tryz.f366.ntmps = 76 := by kernel_rfl
@[go_sem] theorem f356_en : entersB Tryz.prog 356 = false := by kernel_rfl
end Go.Proofs.YtnodfnjmhcjnfaaGreatDoor
