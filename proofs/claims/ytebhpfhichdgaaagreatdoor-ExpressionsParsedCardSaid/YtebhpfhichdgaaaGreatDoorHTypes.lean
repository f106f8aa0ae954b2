/- Facts on the types. No condition. -/
import Derived.Test.YtebhpfhichdgaaaGreatDoorProg
import Derived.KernelRfl
import Derived.Test.YtebhpfhichdgaaaGreatDoorHCoreC
namespace Go.Proofs.YtebhpfhichdgaaaGreatDoor
open Go Go.RowKit
@[go_sem] theorem t3_ag : aggT Tryz.prog 3 = false := by kernel_rfl
@[go_sem] theorem t3_sz : szT Tryz.prog 3 = 1 := by kernel_rfl
@[go_sem] theorem t3_in : (Tryz.prog.info? 3).isSome = true := by kernel_rfl
@[go_sem] theorem t3_un : (Tryz.prog.underlying 3).isSome = true := by kernel_rfl
@[go_sem] theorem t3_ze : zeroT Tryz.prog 3 = some [.int .i64 0] := by kernel_rfl
@[go_sem] theorem t4_ag : aggT Tryz.prog 4 = false := by kernel_rfl
@[go_sem] theorem t4_sz : szT Tryz.prog 4 = 1 := by kernel_rfl
@[go_sem] theorem t4_in : (Tryz.prog.info? 4).isSome = true := by kernel_rfl
@[go_sem] theorem t4_un : (Tryz.prog.underlying 4).isSome = true := by kernel_rfl
@[go_sem] theorem t5_ag : aggT Tryz.prog 5 = false := by kernel_rfl
@[go_sem] theorem t5_sz : szT Tryz.prog 5 = 1 := by kernel_rfl
@[go_sem] theorem t5_in : (Tryz.prog.info? 5).isSome = true := by kernel_rfl
@[go_sem] theorem t5_un : (Tryz.prog.underlying 5).isSome = true := by kernel_rfl
@[go_sem] theorem t9_ag : aggT Tryz.prog 9 = false := by kernel_rfl
@[go_sem] theorem t9_sz : szT Tryz.prog 9 = 1 := by kernel_rfl
@[go_sem] theorem t9_in : (Tryz.prog.info? 9).isSome = true := by kernel_rfl
@[go_sem] theorem t9_ze : zeroT Tryz.prog 9 = some [.str ⟨#[]⟩] := by kernel_rfl
@[go_sem] theorem t22_ag : aggT Tryz.prog 22 = false := by kernel_rfl
@[go_sem] theorem t22_sz : szT Tryz.prog 22 = 1 := by kernel_rfl
@[go_sem] theorem t22_in : (Tryz.prog.info? 22).isSome = true := by kernel_rfl
@[go_sem] theorem t22_un : (Tryz.prog.underlying 22).isSome = true := by kernel_rfl
@[go_sem] theorem t23_ag : aggT Tryz.prog 23 = false := by kernel_rfl
@[go_sem] theorem t23_sz : szT Tryz.prog 23 = 1 := by kernel_rfl
@[go_sem] theorem t23_in : (Tryz.prog.info? 23).isSome = true := by kernel_rfl
@[go_sem] theorem t23_un : (Tryz.prog.underlying 23).isSome = true := by kernel_rfl
@[go_sem] theorem t25_ze : zeroT Tryz.prog 25 = some [.sl none 0, .int .i64 0] := by kernel_rfl
@[go_sem] theorem t25_fo : fieldsOk Tryz.prog 25 = true := by kernel_rfl
@[go_sem] theorem t70_ag : aggT Tryz.prog 70 = false := by kernel_rfl
@[go_sem] theorem t70_sz : szT Tryz.prog 70 = 1 := by kernel_rfl
@[go_sem] theorem t70_in : (Tryz.prog.info? 70).isSome = true := by kernel_rfl
@[go_sem] theorem t70_un : (Tryz.prog.underlying 70).isSome = true := by kernel_rfl
@[go_sem] theorem t70_ze : zeroT Tryz.prog 70 = some [.sl none 0] := by kernel_rfl
@[go_sem] theorem t110_ag : aggT Tryz.prog 110 = false := by kernel_rfl
@[go_sem] theorem t110_sz : szT Tryz.prog 110 = 1 := by kernel_rfl
@[go_sem] theorem t110_in : (Tryz.prog.info? 110).isSome = true := by kernel_rfl
@[go_sem] theorem t110_un : (Tryz.prog.underlying 110).isSome = true := by kernel_rfl
@[go_sem] theorem t112_ze : zeroT Tryz.prog 112 = some [.ptr none, .sl none 0] := by kernel_rfl
@[go_sem] theorem t133_ag : aggT Tryz.prog 133 = false := by kernel_rfl
@[go_sem] theorem t133_sz : szT Tryz.prog 133 = 1 := by kernel_rfl
@[go_sem] theorem t133_in : (Tryz.prog.info? 133).isSome = true := by kernel_rfl
@[go_sem] theorem t133_un : (Tryz.prog.underlying 133).isSome = true := by kernel_rfl
@[go_sem] theorem t133_ze : zeroT Tryz.prog 133 = some [.ptr none] := by kernel_rfl
@[go_sem] theorem t152_ag : aggT Tryz.prog 152 = false := by kernel_rfl
@[go_sem] theorem t152_sz : szT Tryz.prog 152 = 1 := by kernel_rfl
@[go_sem] theorem t152_in : (Tryz.prog.info? 152).isSome = true := by kernel_rfl
@[go_sem] theorem t152_un : (Tryz.prog.underlying 152).isSome = true := by kernel_rfl
@[go_sem] theorem t154_ag : aggT Tryz.prog 154 = true := by kernel_rfl
@[go_sem] theorem t154_sz : szT Tryz.prog 154 = 5 := by kernel_rfl
@[go_sem] theorem t154_in : (Tryz.prog.info? 154).isSome = true := by kernel_rfl
@[go_sem] theorem t154_un : (Tryz.prog.underlying 154).isSome = true := by kernel_rfl
@[go_sem] theorem t154_ze : zeroT Tryz.prog 154 = some [.int .u8 0, .str ⟨#[]⟩, .int .i64 0, .sl none 0, .int .i64 0] := by kernel_rfl
@[go_sem] theorem t154_fo : fieldsOk Tryz.prog 154 = true := by kernel_rfl
@[go_sem] theorem t204_ag : aggT Tryz.prog 204 = true := by kernel_rfl
@[go_sem] theorem t204_sz : szT Tryz.prog 204 = 3 := by kernel_rfl
@[go_sem] theorem t204_in : (Tryz.prog.info? 204).isSome = true := by kernel_rfl
@[go_sem] theorem t204_un : (Tryz.prog.underlying 204).isSome = true := by kernel_rfl
@[go_sem] theorem t204_ze : zeroT Tryz.prog 204 = some [.int .i64 0, .int .i64 0, .str ⟨#[]⟩] := by kernel_rfl
@[go_sem] theorem t204_fo : fieldsOk Tryz.prog 204 = true := by kernel_rfl
@[go_sem] theorem t206_ze : zeroT Tryz.prog 206 = some [.str ⟨#[]⟩, .int .i64 0, .int .i64 0, .str ⟨#[]⟩, .int .i64 0, .int .i64 0, .int .i64 0] := by kernel_rfl
@[go_sem] theorem t206_fo : fieldsOk Tryz.prog 206 = true := by kernel_rfl
@[go_sem] theorem t209_ag : aggT Tryz.prog 209 = false := by kernel_rfl
@[go_sem] theorem t209_sz : szT Tryz.prog 209 = 1 := by kernel_rfl
@[go_sem] theorem t209_in : (Tryz.prog.info? 209).isSome = true := by kernel_rfl
@[go_sem] theorem t209_un : (Tryz.prog.underlying 209).isSome = true := by kernel_rfl
@[go_sem] theorem t211_ze : zeroT Tryz.prog 211 = some [.str ⟨#[]⟩, .int .i64 0, .str ⟨#[]⟩, .sl none 0, .bool false] := by kernel_rfl
@[go_sem] theorem t211_fo : fieldsOk Tryz.prog 211 = true := by kernel_rfl
@[go_sem] theorem t225_ag : aggT Tryz.prog 225 = false := by kernel_rfl
@[go_sem] theorem t225_sz : szT Tryz.prog 225 = 1 := by kernel_rfl
@[go_sem] theorem t225_in : (Tryz.prog.info? 225).isSome = true := by kernel_rfl
@[go_sem] theorem t225_un : (Tryz.prog.underlying 225).isSome = true := by kernel_rfl
@[go_sem] theorem t226_ag : aggT Tryz.prog 226 = false := by kernel_rfl
@[go_sem] theorem t226_sz : szT Tryz.prog 226 = 1 := by kernel_rfl
@[go_sem] theorem t226_in : (Tryz.prog.info? 226).isSome = true := by kernel_rfl
@[go_sem] theorem t226_un : (Tryz.prog.underlying 226).isSome = true := by kernel_rfl
@[go_sem] theorem t229_ze : zeroT Tryz.prog 229 = some [.sl none 0, .int .i64 0, .int .i64 0, .int .i64 0] := by kernel_rfl
@[go_sem] theorem t229_fo : fieldsOk Tryz.prog 229 = true := by kernel_rfl
@[go_sem] theorem t268_un : (Tryz.prog.underlying 268).isSome = true := by kernel_rfl
@[go_sem] theorem t286_ag : aggT Tryz.prog 286 = true := by kernel_rfl
@[go_sem] theorem t286_sz : szT Tryz.prog 286 = 3 := by kernel_rfl
@[go_sem] theorem t286_in : (Tryz.prog.info? 286).isSome = true := by kernel_rfl
@[go_sem] theorem t286_un : (Tryz.prog.underlying 286).isSome = true := by kernel_rfl
@[go_sem] theorem t286_ze : zeroT Tryz.prog 286 = some [.int .u8 0, .str ⟨#[]⟩, .int .i64 0] := by kernel_rfl
@[go_sem] theorem t286_fo : fieldsOk Tryz.prog 286 = true := by kernel_rfl
@[go_sem] theorem t25_f0 : fieldT Tryz.prog 25 0 = some (0, 1) := by kernel_rfl
@[go_sem] theorem t25_f1 : fieldT Tryz.prog 25 1 = some (1, 1) := by kernel_rfl
@[go_sem] theorem t49_f0 : fieldT Tryz.prog 49 0 = some (0, 1) := by kernel_rfl
@[go_sem] theorem t49_f1 : fieldT Tryz.prog 49 1 = some (1, 1) := by kernel_rfl
@[go_sem] theorem t49_f2 : fieldT Tryz.prog 49 2 = some (2, 1) := by kernel_rfl
@[go_sem] theorem t112_f1 : fieldT Tryz.prog 112 1 = some (1, 1) := by kernel_rfl
@[go_sem] theorem t154_f0 : fieldT Tryz.prog 154 0 = some (0, 1) := by kernel_rfl
@[go_sem] theorem t154_f1 : fieldT Tryz.prog 154 1 = some (1, 1) := by kernel_rfl
@[go_sem] theorem t154_f2 : fieldT Tryz.prog 154 2 = some (2, 1) := by kernel_rfl
@[go_sem] theorem t154_f3 : fieldT Tryz.prog 154 3 = some (3, 1) := by kernel_rfl
@[go_sem] theorem t154_f4 : fieldT Tryz.prog 154 4 = some (4, 1) := by kernel_rfl
@[go_sem] theorem t204_f0 : fieldT Tryz.prog 204 0 = some (0, 1) := by kernel_rfl
@[go_sem] theorem t204_f1 : fieldT Tryz.prog 204 1 = some (1, 1) := by kernel_rfl
@[go_sem] theorem t204_f2 : fieldT Tryz.prog 204 2 = some (2, 1) := by kernel_rfl
@[go_sem] theorem t206_f0 : fieldT Tryz.prog 206 0 = some (0, 1) := by kernel_rfl
@[go_sem] theorem t206_f1 : fieldT Tryz.prog 206 1 = some (1, 3) := by kernel_rfl
@[go_sem] theorem t206_f2 : fieldT Tryz.prog 206 2 = some (4, 1) := by kernel_rfl
@[go_sem] theorem t206_f3 : fieldT Tryz.prog 206 3 = some (5, 1) := by kernel_rfl
@[go_sem] theorem t206_f4 : fieldT Tryz.prog 206 4 = some (6, 1) := by kernel_rfl
@[go_sem] theorem t211_f0 : fieldT Tryz.prog 211 0 = some (0, 1) := by kernel_rfl
@[go_sem] theorem t211_f1 : fieldT Tryz.prog 211 1 = some (1, 1) := by kernel_rfl
@[go_sem] theorem t211_f2 : fieldT Tryz.prog 211 2 = some (2, 1) := by kernel_rfl
@[go_sem] theorem t211_f3 : fieldT Tryz.prog 211 3 = some (3, 1) := by kernel_rfl
@[go_sem] theorem t211_f4 : fieldT Tryz.prog 211 4 = some (4, 1) := by kernel_rfl
@[go_sem] theorem t229_f0 : fieldT Tryz.prog 229 0 = some (0, 1) := by kernel_rfl
@[go_sem] theorem t229_f1 : fieldT Tryz.prog 229 1 = some (1, 1) := by kernel_rfl
@[go_sem] theorem t229_f2 : fieldT Tryz.prog 229 2 = some (2, 1) := by kernel_rfl
@[go_sem] theorem t229_f3 : fieldT Tryz.prog 229 3 = some (3, 1) := by kernel_rfl
@[go_sem] theorem t286_f0 : fieldT Tryz.prog 286 0 = some (0, 1) := by kernel_rfl
@[go_sem] theorem t286_f1 : fieldT Tryz.prog 286 1 = some (1, 1) := by kernel_rfl
@[go_sem] theorem t286_f2 : fieldT Tryz.prog 286 2 = some (2, 1) := by kernel_rfl
@[go_sem] theorem t9_st : strT Tryz.prog 9 = true := by kernel_rfl
@[go_sem] theorem t9_el : elemT Tryz.prog 9 = none := by kernel_rfl
@[go_sem] theorem t9_us : Tryz.prog.underlying 9 = some .string := by kernel_rfl
@[go_sem] theorem t22_el : elemT Tryz.prog 22 = some 3 := by kernel_rfl
@[go_sem] theorem t70_el : elemT Tryz.prog 70 = some 9 := by kernel_rfl
@[go_sem] theorem t70_st : strT Tryz.prog 70 = false := by kernel_rfl
@[go_sem] theorem t110_el : elemT Tryz.prog 110 = some 5 := by kernel_rfl
@[go_sem] theorem t152_el : elemT Tryz.prog 152 = some 154 := by kernel_rfl
@[go_sem] theorem t209_el : elemT Tryz.prog 209 = some 133 := by kernel_rfl
@[go_sem] theorem t226_el : elemT Tryz.prog 226 = some 286 := by kernel_rfl
@[go_sem] theorem t226_st : strT Tryz.prog 226 = false := by kernel_rfl
@[go_sem] theorem t3_ik : intK Tryz.prog 3 = some .i64 := by kernel_rfl
@[go_sem] theorem t5_ik : intK Tryz.prog 5 = some .u8 := by kernel_rfl
@[go_sem] theorem t9_ik : intK Tryz.prog 9 = none := by kernel_rfl
@[go_sem] theorem t21_un : (Tryz.prog.underlying 21).isSome = true := by kernel_rfl
@[go_sem] theorem t21_ik : intK Tryz.prog 21 = some .i32 := by kernel_rfl
@[go_sem] theorem t21_st : strT Tryz.prog 21 = false := by kernel_rfl
@[go_sem] theorem t198_ik : intK Tryz.prog 198 = some .u64 := by kernel_rfl
@[go_sem] theorem t3_bt : bytesT Tryz.prog 3 = false := by kernel_rfl
@[go_sem] theorem t5_bt : bytesT Tryz.prog 5 = false := by kernel_rfl
@[go_sem] theorem t9_bt : bytesT Tryz.prog 9 = false := by kernel_rfl
@[go_sem] theorem t21_bt : bytesT Tryz.prog 21 = false := by kernel_rfl
@[go_sem] theorem t198_bt : bytesT Tryz.prog 198 = false := by kernel_rfl
@[go_sem] theorem t268_bt : bytesT Tryz.prog 268 = false := by kernel_rfl
@[go_sem] theorem t286_k0 : fieldK Tryz.prog 286 0 = some (0, 1, false) := by kernel_rfl
@[go_sem] theorem t114_kd : kindT Tryz.prog 114 = 6 := by kernel_rfl
@[go_sem] theorem f5_rs : Tryz.f5.results.toList = [.tmp 2] := by kernel_rfl
@[go_sem] theorem f5_nt : Tryz.f5.ntmps = 136 := by kernel_rfl
@[go_sem] theorem f20_en : entersB Tryz.prog 20 = true := by kernel_rfl
@[go_sem] theorem f20_rs : Tryz.f20.results.toList = [.tmp 2] := by kernel_rfl
@[go_sem] theorem f20_nt : Tryz.f20.ntmps = 49 := by kernel_rfl
@[go_sem] theorem f36_en : entersB Tryz.prog 36 = true := by kernel_rfl
@[go_sem] theorem f37_en : entersB Tryz.prog 37 = true := by kernel_rfl
@[go_sem] theorem f37_rs : Tryz.f37.results.toList = [.tmp 2, .tmp 3] := by kernel_rfl
@[go_sem] theorem f37_nt : Tryz.f37.ntmps = 15 := by kernel_rfl
@[go_sem] theorem f38_en : entersB Tryz.prog 38 = true := by kernel_rfl
@[go_sem] theorem f38_rs : Tryz.f38.results.toList = [.tmp 2, .tmp 3, .tmp 4] := by kernel_rfl
@[go_sem] theorem f38_nt : Tryz.f38.ntmps = 25 := by kernel_rfl
@[go_sem] theorem f39_en : entersB Tryz.prog 39 = true := by kernel_rfl
@[go_sem] theorem f39_rs : Tryz.f39.results.toList = [.tmp 2, .tmp 3, .tmp 4] := by kernel_rfl
@[go_sem] theorem f39_nt : Tryz.f39.ntmps = 20 := by kernel_rfl
@[go_sem] theorem f40_en : entersB Tryz.prog 40 = true := by kernel_rfl
@[go_sem] theorem f40_rs : Tryz.f40.results.toList = [.tmp 2, .tmp 3, .tmp 4] := by kernel_rfl
@[go_sem] theorem f40_nt : Tryz.f40.ntmps = 20 := by kernel_rfl
@[go_sem] theorem f41_en : entersB Tryz.prog 41 = true := by kernel_rfl
@[go_sem] theorem f41_rs : Tryz.f41.results.toList = [.tmp 2, .tmp 3] := by kernel_rfl
@[go_sem] theorem f41_nt : Tryz.f41.ntmps = 15 := by kernel_rfl
@[go_sem] theorem f42_en : entersB Tryz.prog 42 = true := by kernel_rfl
@[go_sem] theorem f42_rs : Tryz.f42.results.toList = [.tmp 2, .tmp 3, .tmp 4] := by kernel_rfl
@[go_sem] theorem f42_nt : Tryz.f42.ntmps = 25 := by kernel_rfl
@[go_sem] theorem f43_en : entersB Tryz.prog 43 = true := by kernel_rfl
@[go_sem] theorem f43_rs : Tryz.f43.results.toList = [.tmp 4] := by kernel_rfl
@[go_sem] theorem f43_nt : Tryz.f43.ntmps = 26 := by kernel_rfl
@[go_sem] theorem f44_en : entersB Tryz.prog 44 = true := by kernel_rfl
@[go_sem] theorem f44_rs : Tryz.f44.results.toList = [.tmp 2] := by kernel_rfl
@[go_sem] theorem f44_nt : Tryz.f44.ntmps = 14 := by kernel_rfl
@[go_sem] theorem f45_en : entersB Tryz.prog 45 = true := by kernel_rfl
@[go_sem] theorem f45_rs : Tryz.f45.results.toList = [.tmp 2] := by kernel_rfl
@[go_sem] theorem f45_nt : Tryz.f45.ntmps = 14 := by kernel_rfl
@[go_sem] theorem f47_en : entersB Tryz.prog 47 = true := by kernel_rfl
@[go_sem] theorem f47_rs : Tryz.f47.results.toList = [.tmp 6] := by kernel_rfl
@[go_sem] theorem f47_nt : Tryz.f47.ntmps = 19 := by kernel_rfl
@[go_sem] theorem f66_en : entersB Tryz.prog 66 = true := by kernel_rfl
@[go_sem] theorem f66_rs : Tryz.f66.results.toList = [.tmp 4] := by kernel_rfl
@[go_sem] theorem f66_nt : Tryz.f66.ntmps = 102 := by kernel_rfl
@[go_sem] theorem f67_en : entersB Tryz.prog 67 = true := by kernel_rfl
@[go_sem] theorem f67_rs : Tryz.f67.results.toList = [.tmp 4] := by kernel_rfl
@[go_sem] theorem f67_nt : Tryz.f67.ntmps = 9 := by kernel_rfl
@[go_sem] theorem f69_en : entersB Tryz.prog 69 = true := by kernel_rfl
@[go_sem] theorem f69_rs : Tryz.f69.results.toList = [.tmp 4] := by kernel_rfl
@[go_sem] theorem f69_nt : Tryz.f69.ntmps = 12 := by kernel_rfl
@[go_sem] theorem f72_en : entersB Tryz.prog 72 = true := by kernel_rfl
@[go_sem] theorem f72_rs : Tryz.f72.results.toList = [.tmp 4] := by kernel_rfl
@[go_sem] theorem f72_nt : Tryz.f72.ntmps = 9 := by kernel_rfl
@[go_sem] theorem f73_en : entersB Tryz.prog 73 = true := by kernel_rfl
@[go_sem] theorem f73_rs : Tryz.f73.results.toList = [.tmp 4] := by kernel_rfl
@[go_sem] theorem f73_nt : Tryz.f73.ntmps = 64 := by kernel_rfl
@[go_sem] theorem f75_en : entersB Tryz.prog 75 = true := by kernel_rfl
@[go_sem] theorem f75_rs : Tryz.f75.results.toList = [.tmp 6] := by kernel_rfl
@[go_sem] theorem f75_nt : Tryz.f75.ntmps = 63 := by kernel_rfl
@[go_sem] theorem f78_en : entersB Tryz.prog 78 = true := by kernel_rfl
@[go_sem] theorem f78_rs : Tryz.f78.results.toList = [.tmp 4, .tmp 5] := by kernel_rfl
@[go_sem] theorem f78_nt : Tryz.f78.ntmps = 19 := by kernel_rfl
@[go_sem] theorem f79_en : entersB Tryz.prog 79 = true := by kernel_rfl
@[go_sem] theorem f81_en : entersB Tryz.prog 81 = true := by kernel_rfl
@[go_sem] theorem f92_en : entersB Tryz.prog 92 = true := by kernel_rfl
@[go_sem] theorem f94_en : entersB Tryz.prog 94 = true := by kernel_rfl
@[go_sem] theorem f94_rs : Tryz.f94.results.toList = [.tmp 4] := by kernel_rfl
@[go_sem] theorem f94_nt : Tryz.f94.ntmps = 12 := by kernel_rfl
@[go_sem] theorem f95_en : entersB Tryz.prog 95 = true := by kernel_rfl
@[go_sem] theorem f97_en : entersB Tryz.prog 97 = true := by kernel_rfl
@[go_sem] theorem f97_rs : Tryz.f97.results.toList = [.tmp 2, .tmp 3, .tmp 4] := by kernel_rfl
@[go_sem] theorem f97_nt : Tryz.f97.ntmps = 56 := by kernel_rfl
@[go_sem] theorem f105_en : entersB Tryz.prog 105 = true := by kernel_rfl
@[go_sem] theorem f105_rs : Tryz.f105.results.toList = [.tmp 2] := by kernel_rfl
@[go_sem] theorem f105_nt : Tryz.f105.ntmps = 11 := by kernel_rfl
@[go_sem] theorem f108_en : entersB Tryz.prog 108 = true := by kernel_rfl
@[go_sem] theorem f108_rs : Tryz.f108.results.toList = [] := by kernel_rfl
@[go_sem] theorem f108_nt : Tryz.f108.ntmps = 34 := by kernel_rfl
@[go_sem] theorem f114_en : entersB Tryz.prog 114 = true := by kernel_rfl
@[go_sem] theorem f114_rs : Tryz.f114.results.toList = [.tmp 2] := by kernel_rfl
@[go_sem] theorem f114_nt : Tryz.f114.ntmps = 15 := by kernel_rfl
@[go_sem] theorem f117_en : entersB Tryz.prog 117 = true := by kernel_rfl
@[go_sem] theorem f117_rs : Tryz.f117.results.toList = [.tmp 6] := by kernel_rfl
@[go_sem] theorem f117_nt : Tryz.f117.ntmps = 15 := by kernel_rfl
@[go_sem] theorem f118_en : entersB Tryz.prog 118 = true := by kernel_rfl
@[go_sem] theorem f118_rs : Tryz.f118.results.toList = [.cell 2 154, .tmp 3, .tmp 4] := by kernel_rfl
@[go_sem] theorem f118_nt : Tryz.f118.ntmps = 52 := by kernel_rfl
@[go_sem] theorem f124_en : entersB Tryz.prog 124 = true := by kernel_rfl
@[go_sem] theorem f124_rs : Tryz.f124.results.toList = [.tmp 4] := by kernel_rfl
@[go_sem] theorem f124_nt : Tryz.f124.ntmps = 160 := by kernel_rfl
@[go_sem] theorem f125_en : entersB Tryz.prog 125 = true := by kernel_rfl
@[go_sem] theorem f125_rs : Tryz.f125.results.toList = [.tmp 2] := by kernel_rfl
@[go_sem] theorem f125_nt : Tryz.f125.ntmps = 22 := by kernel_rfl
@[go_sem] theorem f126_en : entersB Tryz.prog 126 = true := by kernel_rfl
@[go_sem] theorem f126_rs : Tryz.f126.results.toList = [.tmp 2] := by kernel_rfl
@[go_sem] theorem f126_nt : Tryz.f126.ntmps = 85 := by kernel_rfl
@[go_sem] theorem f127_en : entersB Tryz.prog 127 = true := by kernel_rfl
@[go_sem] theorem f127_rs : Tryz.f127.results.toList = [.tmp 2] := by kernel_rfl
@[go_sem] theorem f127_nt : Tryz.f127.ntmps = 23 := by kernel_rfl
@[go_sem] theorem f128_en : entersB Tryz.prog 128 = true := by kernel_rfl
@[go_sem] theorem f128_rs : Tryz.f128.results.toList = [.tmp 2] := by kernel_rfl
@[go_sem] theorem f128_nt : Tryz.f128.ntmps = 20 := by kernel_rfl
@[go_sem] theorem f149_rs : Tryz.f149.results.toList = [.tmp 4] := by kernel_rfl
@[go_sem] theorem f149_nt : Tryz.f149.ntmps = 22 := by kernel_rfl
@[go_sem] theorem f159_rs : Tryz.f159.results.toList = [.tmp 2] := by kernel_rfl
@[go_sem] theorem f159_nt : Tryz.f159.ntmps = 7 := by kernel_rfl
@[go_sem] theorem f160_en : entersB Tryz.prog 160 = true := by kernel_rfl
@[go_sem] theorem f160_rs : Tryz.f160.results.toList = [.tmp 4] := by kernel_rfl
@[go_sem] theorem f160_nt : Tryz.f160.ntmps = 8 := by kernel_rfl
@[go_sem] theorem f164_en : entersB Tryz.prog 164 = true := by kernel_rfl
@[go_sem] theorem f164_rs : Tryz.f164.results.toList = [.tmp 4] := by kernel_rfl
@[go_sem] theorem f164_nt : Tryz.f164.ntmps = 16 := by kernel_rfl
@[go_sem] theorem f166_en : entersB Tryz.prog 166 = true := by kernel_rfl
@[go_sem] theorem f168_en : entersB Tryz.prog 168 = true := by kernel_rfl
@[go_sem] theorem f168_rs : Tryz.f168.results.toList = [.tmp 4] := by kernel_rfl
@[go_sem] theorem f168_nt : Tryz.f168.ntmps = 75 := by kernel_rfl
@[go_sem] theorem f179_en : entersB Tryz.prog 179 = true := by kernel_rfl
@[go_sem] theorem f179_rs : Tryz.f179.results.toList = [] := by kernel_rfl
@[go_sem] theorem f179_nt : Tryz.f179.ntmps = 25 := by kernel_rfl
@[go_sem] theorem f180_en : entersB Tryz.prog 180 = true := by kernel_rfl
@[go_sem] theorem f180_rs : Tryz.f180.results.toList = [.cell 4 204] := by kernel_rfl
@[go_sem] theorem f180_nt : Tryz.f180.ntmps = 127 := by kernel_rfl
@[go_sem] theorem f181_en : entersB Tryz.prog 181 = true := by kernel_rfl
@[go_sem] theorem f181_rs : Tryz.f181.results.toList = [.tmp 2] := by kernel_rfl
@[go_sem] theorem f181_nt : Tryz.f181.ntmps = 7 := by kernel_rfl
@[go_sem] theorem f182_en : entersB Tryz.prog 182 = true := by kernel_rfl
@[go_sem] theorem f182_rs : Tryz.f182.results.toList = [.tmp 2] := by kernel_rfl
@[go_sem] theorem f182_nt : Tryz.f182.ntmps = 18 := by kernel_rfl
@[go_sem] theorem f191_rs : Tryz.f191.results.toList = [] := by kernel_rfl
@[go_sem] theorem f191_nt : Tryz.f191.ntmps = 9 := by kernel_rfl
@[go_sem] theorem f192_en : entersB Tryz.prog 192 = true := by kernel_rfl
@[go_sem] theorem f192_rs : Tryz.f192.results.toList = [] := by kernel_rfl
@[go_sem] theorem f192_nt : Tryz.f192.ntmps = 11 := by kernel_rfl
@[go_sem] theorem f193_en : entersB Tryz.prog 193 = true := by kernel_rfl
@[go_sem] theorem f193_rs : Tryz.f193.results.toList = [.tmp 2] := by kernel_rfl
@[go_sem] theorem f193_nt : Tryz.f193.ntmps = 61 := by kernel_rfl
@[go_sem] theorem f199_en : entersB Tryz.prog 199 = true := by kernel_rfl
@[go_sem] theorem f199_rs : Tryz.f199.results.toList = [.tmp 2] := by kernel_rfl
@[go_sem] theorem f199_nt : Tryz.f199.ntmps = 8 := by kernel_rfl
@[go_sem] theorem f200_en : entersB Tryz.prog 200 = true := by kernel_rfl
@[go_sem] theorem f200_rs : Tryz.f200.results.toList = [.tmp 4] := by kernel_rfl
@[go_sem] theorem f200_nt : Tryz.f200.ntmps = 18 := by kernel_rfl
@[go_sem] theorem f201_en : entersB Tryz.prog 201 = true := by kernel_rfl
@[go_sem] theorem f201_rs : Tryz.f201.results.toList = [.tmp 2] := by kernel_rfl
@[go_sem] theorem f201_nt : Tryz.f201.ntmps = 94 := by kernel_rfl
@[go_sem] theorem f202_en : entersB Tryz.prog 202 = true := by kernel_rfl
@[go_sem] theorem f202_rs : Tryz.f202.results.toList = [.cell 2 154] := by kernel_rfl
@[go_sem] theorem f202_nt : Tryz.f202.ntmps = 36 := by kernel_rfl
@[go_sem] theorem f203_en : entersB Tryz.prog 203 = true := by kernel_rfl
@[go_sem] theorem f203_rs : Tryz.f203.results.toList = [.tmp 2] := by kernel_rfl
@[go_sem] theorem f203_nt : Tryz.f203.ntmps = 10 := by kernel_rfl
@[go_sem] theorem f204_en : entersB Tryz.prog 204 = true := by kernel_rfl
@[go_sem] theorem f204_rs : Tryz.f204.results.toList = [.cell 2 154] := by kernel_rfl
@[go_sem] theorem f204_nt : Tryz.f204.ntmps = 19 := by kernel_rfl
@[go_sem] theorem f209_en : entersB Tryz.prog 209 = true := by kernel_rfl
@[go_sem] theorem f209_rs : Tryz.f209.results.toList = [.tmp 2] := by kernel_rfl
@[go_sem] theorem f209_nt : Tryz.f209.ntmps = 26 := by kernel_rfl
@[go_sem] theorem f211_en : entersB Tryz.prog 211 = true := by kernel_rfl
@[go_sem] theorem f211_rs : Tryz.f211.results.toList = [.tmp 2] := by kernel_rfl
@[go_sem] theorem f211_nt : Tryz.f211.ntmps = 12 := by kernel_rfl
@[go_sem] theorem f212_en : entersB Tryz.prog 212 = true := by kernel_rfl
@[go_sem] theorem f212_rs : Tryz.f212.results.toList = [.tmp 2] := by kernel_rfl
@[go_sem] theorem f212_nt : Tryz.f212.ntmps = 16 := by kernel_rfl
@[go_sem] theorem f213_en : entersB Tryz.prog 213 = true := by kernel_rfl
@[go_sem] theorem f213_rs : Tryz.f213.results.toList = [.tmp 4] := by kernel_rfl
@[go_sem] theorem f213_nt : Tryz.f213.ntmps = 15 := by kernel_rfl
@[go_sem] theorem f214_en : entersB Tryz.prog 214 = true := by kernel_rfl
@[go_sem] theorem f214_rs : Tryz.f214.results.toList = [.tmp 2] := by kernel_rfl
@[go_sem] theorem f214_nt : Tryz.f214.ntmps = 14 := by kernel_rfl
@[go_sem] theorem f227_en : entersB Tryz.prog 227 = true := by kernel_rfl
@[go_sem] theorem f227_rs : Tryz.f227.results.toList = [.tmp 4, .tmp 5] := by kernel_rfl
@[go_sem] theorem f227_nt : Tryz.f227.ntmps = 38 := by kernel_rfl
@[go_sem] theorem f232_en : entersB Tryz.prog 232 = true := by kernel_rfl
@[go_sem] theorem f232_rs : Tryz.f232.results.toList = [.tmp 2] := by kernel_rfl
@[go_sem] theorem f232_nt : Tryz.f232.ntmps = 18 := by kernel_rfl
@[go_sem] theorem f233_en : entersB Tryz.prog 233 = true := by kernel_rfl
@[go_sem] theorem f233_rs : Tryz.f233.results.toList = [.tmp 4] := by kernel_rfl
@[go_sem] theorem f233_nt : Tryz.f233.ntmps = 20 := by kernel_rfl
@[go_sem] theorem f235_en : entersB Tryz.prog 235 = true := by kernel_rfl
@[go_sem] theorem f235_rs : Tryz.f235.results.toList = [.tmp 4] := by kernel_rfl
@[go_sem] theorem f235_nt : Tryz.f235.ntmps = 143 := by kernel_rfl
@[go_sem] theorem f239_en : entersB Tryz.prog 239 = true := by kernel_rfl
@[go_sem] theorem f239_rs : Tryz.f239.results.toList = [.tmp 4] := by kernel_rfl
@[go_sem] theorem f239_nt : Tryz.f239.ntmps = 8 := by kernel_rfl
@[go_sem] theorem f251_en : entersB Tryz.prog 251 = true := by kernel_rfl
@[go_sem] theorem f251_rs : Tryz.f251.results.toList = [.tmp 4] := by kernel_rfl
@[go_sem] theorem f251_nt : Tryz.f251.ntmps = 18 := by kernel_rfl
@[go_sem] theorem f252_en : entersB Tryz.prog 252 = true := by kernel_rfl
@[go_sem] theorem f253_en : entersB Tryz.prog 253 = true := by kernel_rfl
@[go_sem] theorem f253_rs : Tryz.f253.results.toList = [.tmp 2] := by kernel_rfl
@[go_sem] theorem f253_nt : Tryz.f253.ntmps = 9 := by kernel_rfl
@[go_sem] theorem f254_en : entersB Tryz.prog 254 = true := by kernel_rfl
@[go_sem] theorem f254_rs : Tryz.f254.results.toList = [.tmp 2] := by kernel_rfl
@[go_sem] theorem f254_nt : Tryz.f254.ntmps = 9 := by kernel_rfl
@[go_sem] theorem f255_en : entersB Tryz.prog 255 = true := by kernel_rfl
@[go_sem] theorem f255_rs : Tryz.f255.results.toList = [.tmp 4] := by kernel_rfl
@[go_sem] theorem f255_nt : Tryz.f255.ntmps = 8 := by kernel_rfl
@[go_sem] theorem f256_en : entersB Tryz.prog 256 = true := by kernel_rfl
@[go_sem] theorem f256_rs : Tryz.f256.results.toList = [.tmp 8] := by kernel_rfl
@[go_sem] theorem f256_nt : Tryz.f256.ntmps = 54 := by kernel_rfl
@[go_sem] theorem f257_rs : Tryz.f257.results.toList = [.tmp 2] := by kernel_rfl
@[go_sem] theorem f257_nt : Tryz.f257.ntmps = 7 := by kernel_rfl
@[go_sem] theorem f259_en : entersB Tryz.prog 259 = true := by kernel_rfl
@[go_sem] theorem f259_rs : Tryz.f259.results.toList = [] := by kernel_rfl
@[go_sem] theorem f259_nt : Tryz.f259.ntmps = 134 := by kernel_rfl
@[go_sem] theorem f271_en : entersB Tryz.prog 271 = true := by kernel_rfl
@[go_sem] theorem f271_rs : Tryz.f271.results.toList = [.tmp 2] := by kernel_rfl
@[go_sem] theorem f271_nt : Tryz.f271.ntmps = 25 := by kernel_rfl
@[go_sem] theorem f272_en : entersB Tryz.prog 272 = true := by kernel_rfl
@[go_sem] theorem f272_rs : Tryz.f272.results.toList = [.cell 6 154] := by kernel_rfl
@[go_sem] theorem f272_nt : Tryz.f272.ntmps = 35 := by kernel_rfl
@[go_sem] theorem f273_rs : Tryz.f273.results.toList = [.cell 1 154] := by kernel_rfl
@[go_sem] theorem f273_nt : Tryz.f273.ntmps = 6 := by kernel_rfl
@[go_sem] theorem f274_en : entersB Tryz.prog 274 = true := by kernel_rfl
@[go_sem] theorem f274_rs : Tryz.f274.results.toList = [.cell 2 154] := by kernel_rfl
@[go_sem] theorem f274_nt : Tryz.f274.ntmps = 89 := by kernel_rfl
@[go_sem] theorem f275_en : entersB Tryz.prog 275 = true := by kernel_rfl
@[go_sem] theorem f275_rs : Tryz.f275.results.toList = [.cell 2 286] := by kernel_rfl
@[go_sem] theorem f275_nt : Tryz.f275.ntmps = 47 := by kernel_rfl
@[go_sem] theorem f276_rs : Tryz.f276.results.toList = [.cell 1 154] := by kernel_rfl
@[go_sem] theorem f276_nt : Tryz.f276.ntmps = 6 := by kernel_rfl
@[go_sem] theorem f290_en : entersB Tryz.prog 290 = true := by kernel_rfl
@[go_sem] theorem f290_rs : Tryz.f290.results.toList = [.tmp 2] := by kernel_rfl
@[go_sem] theorem f290_nt : Tryz.f290.ntmps = 6 := by kernel_rfl
@[go_sem] theorem f291_en : entersB Tryz.prog 291 = true := by kernel_rfl
@[go_sem] theorem f291_rs : Tryz.f291.results.toList = [.tmp 4] := by kernel_rfl
@[go_sem] theorem f291_nt : Tryz.f291.ntmps = 8 := by kernel_rfl
@[go_sem] theorem f300_en : entersB Tryz.prog 300 = true := by kernel_rfl
@[go_sem] theorem f300_rs : Tryz.f300.results.toList = [.tmp 4] := by kernel_rfl
@[go_sem] theorem f300_nt : Tryz.f300.ntmps = 13 := by kernel_rfl
@[go_sem] theorem f309_en : entersB Tryz.prog 309 = true := by kernel_rfl
@[go_sem] theorem f309_rs : Tryz.f309.results.toList = [] := by kernel_rfl
@[go_sem] theorem f309_nt : Tryz.f309.ntmps = 42 := by kernel_rfl
@[go_sem] theorem f310_rs : Tryz.f310.results.toList = [.tmp 2] := by kernel_rfl
@[go_sem] theorem f310_nt : Tryz.f310.ntmps = 7 := by kernel_rfl
@[go_sem] theorem f311_en : entersB Tryz.prog 311 = true := by kernel_rfl
@[go_sem] theorem f311_rs : Tryz.f311.results.toList = [] := by kernel_rfl
@[go_sem] theorem f311_nt : Tryz.f311.ntmps = 49 := by kernel_rfl
@[go_sem] theorem f326_en : entersB Tryz.prog 326 = true := by kernel_rfl
@[go_sem] theorem f326_rs : Tryz.f326.results.toList = [.tmp 4, .tmp 5] := by kernel_rfl
@[go_sem] theorem f326_nt : Tryz.f326.ntmps = 21 := by kernel_rfl
@[go_sem] theorem f327_en : entersB Tryz.prog 327 = true := by kernel_rfl
@[go_sem] theorem f327_rs : Tryz.f327.results.toList = [] := by kernel_rfl
@[go_sem] theorem f327_nt : Tryz.f327.ntmps = 18 := by kernel_rfl
@[go_sem] theorem f328_en : entersB Tryz.prog 328 = true := by kernel_rfl
@[go_sem] theorem f328_rs : Tryz.f328.results.toList = [.cell 2 154] := by kernel_rfl
@[go_sem] theorem f328_nt : Tryz.f328.ntmps = 107 := by kernel_rfl
@[go_sem] theorem f343_en : entersB Tryz.prog 343 = true := by kernel_rfl
@[go_sem] theorem f343_rs : Tryz.f343.results.toList = [.tmp 2] := by kernel_rfl
@[go_sem] theorem f343_nt : Tryz.f343.ntmps = 87 := by kernel_rfl
@[go_sem] theorem f349_en : entersB Tryz.prog 349 = true := by kernel_rfl
@[go_sem] theorem f349_rs : Tryz.f349.results.toList = [.tmp 4] := by kernel_rfl
@[go_sem] theorem f349_nt : Tryz.f349.ntmps = 20 := by kernel_rfl
@[go_sem] theorem f350_en : entersB Tryz.prog 350 = true := by kernel_rfl
@[go_sem] theorem f350_rs : Tryz.f350.results.toList = [.tmp 2] := by kernel_rfl
@[go_sem] theorem f350_nt : Tryz.f350.ntmps = 7 := by kernel_rfl
@[go_sem] theorem f355_en : entersB Tryz.prog 355 = true := by kernel_rfl
@[go_sem] theorem f355_rs : Tryz.f355.results.toList = [.tmp 4] := by kernel_rfl
@[go_sem] theorem f355_nt : Tryz.f355.ntmps = 20 := by kernel_rfl
@[go_sem] theorem f356_en : entersB Tryz.prog 356 = true := by kernel_rfl
@[go_sem] theorem f356_rs : Tryz.f356.results.toList = [.tmp 2] := by kernel_rfl
@[go_sem] theorem f356_nt : Tryz.f356.ntmps = 26 := by kernel_rfl
@[go_sem] theorem f357_en : entersB Tryz.prog 357 = true := by kernel_rfl
@[go_sem] theorem f357_rs : Tryz.f357.results.toList = [.tmp 4] := by kernel_rfl
@[go_sem] theorem f357_nt : Tryz.f357.ntmps = 62 := by kernel_rfl
@[go_sem] theorem f358_en : entersB Tryz.prog 358 = true := by kernel_rfl
@[go_sem] theorem f358_rs : Tryz.f358.results.toList = [.tmp 4] := by kernel_rfl
@[go_sem] theorem f358_nt : Tryz.f358.ntmps = 44 := by kernel_rfl
@[go_sem] theorem f360_en : entersB Tryz.prog 360 = true := by kernel_rfl
@[go_sem] theorem f360_rs : Tryz.f360.results.toList = [] := by kernel_rfl
@[go_sem] theorem f360_nt : Tryz.f360.ntmps = 19 := by kernel_rfl
@[go_sem] theorem f333_en : entersB Tryz.prog 333 = false := by kernel_rfl
end Go.Proofs.YtebhpfhichdgaaaGreatDoor
