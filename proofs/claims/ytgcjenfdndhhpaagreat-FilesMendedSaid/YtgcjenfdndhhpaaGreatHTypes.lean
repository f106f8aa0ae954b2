/- Facts on the types. No condition. -/
import Derived.Test.YtgcjenfdndhhpaaGreatRows
import Derived.Test.YtgcjenfdndhhpaaGreatHCoreC
namespace Go.Proofs.YtgcjenfdndhhpaaGreat
open Go Go.RowKit
@[go_sem] theorem t3_ag : aggT Tryz.prog 3 = false := by kernel_rfl
@[go_sem] theorem t3_sz : szT Tryz.prog 3 = 1 := by kernel_rfl
@[go_sem] theorem t3_in : (Tryz.prog.info? 3).isSome = true := by kernel_rfl
@[go_sem] theorem t3_un : (Tryz.prog.underlying 3).isSome = true := by kernel_rfl
@[go_sem] theorem t3_ze : zeroT Tryz.prog 3 = some [.int .i64 0] := by kernel_rfl
@[go_sem] theorem t3_by : Tryz.prog.bytesOf 3 = 8 := by kernel_rfl
@[go_sem] theorem t4_ag : aggT Tryz.prog 4 = false := by kernel_rfl
@[go_sem] theorem t4_sz : szT Tryz.prog 4 = 1 := by kernel_rfl
@[go_sem] theorem t4_in : (Tryz.prog.info? 4).isSome = true := by kernel_rfl
@[go_sem] theorem t4_un : (Tryz.prog.underlying 4).isSome = true := by kernel_rfl
@[go_sem] theorem t5_ag : aggT Tryz.prog 5 = false := by kernel_rfl
@[go_sem] theorem t5_sz : szT Tryz.prog 5 = 1 := by kernel_rfl
@[go_sem] theorem t5_in : (Tryz.prog.info? 5).isSome = true := by kernel_rfl
@[go_sem] theorem t5_un : (Tryz.prog.underlying 5).isSome = true := by kernel_rfl
@[go_sem] theorem t5_ze : zeroT Tryz.prog 5 = some [.int .u8 0] := by kernel_rfl
@[go_sem] theorem t5_by : Tryz.prog.bytesOf 5 = 1 := by kernel_rfl
@[go_sem] theorem t9_ag : aggT Tryz.prog 9 = false := by kernel_rfl
@[go_sem] theorem t9_sz : szT Tryz.prog 9 = 1 := by kernel_rfl
@[go_sem] theorem t9_in : (Tryz.prog.info? 9).isSome = true := by kernel_rfl
@[go_sem] theorem t9_ze : zeroT Tryz.prog 9 = some [.str ⟨#[]⟩] := by kernel_rfl
@[go_sem] theorem t22_ag : aggT Tryz.prog 22 = false := by kernel_rfl
@[go_sem] theorem t22_sz : szT Tryz.prog 22 = 1 := by kernel_rfl
@[go_sem] theorem t22_in : (Tryz.prog.info? 22).isSome = true := by kernel_rfl
@[go_sem] theorem t22_un : (Tryz.prog.underlying 22).isSome = true := by kernel_rfl
@[go_sem] theorem t25_ze : zeroT Tryz.prog 25 = some [.sl none 0, .int .i64 0] := by kernel_rfl
@[go_sem] theorem t25_fo : fieldsOk Tryz.prog 25 = true := by kernel_rfl
@[go_sem] theorem t26_ag : aggT Tryz.prog 26 = false := by kernel_rfl
@[go_sem] theorem t26_sz : szT Tryz.prog 26 = 1 := by kernel_rfl
@[go_sem] theorem t26_in : (Tryz.prog.info? 26).isSome = true := by kernel_rfl
@[go_sem] theorem t26_un : (Tryz.prog.underlying 26).isSome = true := by kernel_rfl
@[go_sem] theorem t26_ze : zeroT Tryz.prog 26 = some [.sl none 0] := by kernel_rfl
@[go_sem] theorem t30_ag : aggT Tryz.prog 30 = false := by kernel_rfl
@[go_sem] theorem t30_sz : szT Tryz.prog 30 = 1 := by kernel_rfl
@[go_sem] theorem t30_in : (Tryz.prog.info? 30).isSome = true := by kernel_rfl
@[go_sem] theorem t30_un : (Tryz.prog.underlying 30).isSome = true := by kernel_rfl
@[go_sem] theorem t30_ze : zeroT Tryz.prog 30 = some [.sl none 0] := by kernel_rfl
@[go_sem] theorem t45_ag : aggT Tryz.prog 45 = true := by kernel_rfl
@[go_sem] theorem t45_sz : szT Tryz.prog 45 = 2 := by kernel_rfl
@[go_sem] theorem t45_in : (Tryz.prog.info? 45).isSome = true := by kernel_rfl
@[go_sem] theorem t45_un : (Tryz.prog.underlying 45).isSome = true := by kernel_rfl
@[go_sem] theorem t45_ze : zeroT Tryz.prog 45 = some [.int .i64 0, .int .i64 0] := by kernel_rfl
@[go_sem] theorem t45_fo : fieldsOk Tryz.prog 45 = true := by kernel_rfl
@[go_sem] theorem t66_ag : aggT Tryz.prog 66 = true := by kernel_rfl
@[go_sem] theorem t66_sz : szT Tryz.prog 66 = 7 := by kernel_rfl
@[go_sem] theorem t66_in : (Tryz.prog.info? 66).isSome = true := by kernel_rfl
@[go_sem] theorem t66_un : (Tryz.prog.underlying 66).isSome = true := by kernel_rfl
@[go_sem] theorem t66_ze : zeroT Tryz.prog 66 = some [.int .i64 0, .int .i64 0, .str ⟨#[]⟩, .int .i64 0, .int .i64 0, .int .i64 0, .bool false] := by kernel_rfl
@[go_sem] theorem t66_fo : fieldsOk Tryz.prog 66 = true := by kernel_rfl
@[go_sem] theorem t69_ag : aggT Tryz.prog 69 = true := by kernel_rfl
@[go_sem] theorem t69_sz : szT Tryz.prog 69 = 3 := by kernel_rfl
@[go_sem] theorem t69_in : (Tryz.prog.info? 69).isSome = true := by kernel_rfl
@[go_sem] theorem t69_un : (Tryz.prog.underlying 69).isSome = true := by kernel_rfl
@[go_sem] theorem t69_ze : zeroT Tryz.prog 69 = some [.int .i64 0, .int .i64 0, .int .i64 0] := by kernel_rfl
@[go_sem] theorem t69_fo : fieldsOk Tryz.prog 69 = true := by kernel_rfl
@[go_sem] theorem t96_ag : aggT Tryz.prog 96 = false := by kernel_rfl
@[go_sem] theorem t96_sz : szT Tryz.prog 96 = 1 := by kernel_rfl
@[go_sem] theorem t96_in : (Tryz.prog.info? 96).isSome = true := by kernel_rfl
@[go_sem] theorem t96_un : (Tryz.prog.underlying 96).isSome = true := by kernel_rfl
@[go_sem] theorem t97_ag : aggT Tryz.prog 97 = false := by kernel_rfl
@[go_sem] theorem t97_sz : szT Tryz.prog 97 = 1 := by kernel_rfl
@[go_sem] theorem t97_in : (Tryz.prog.info? 97).isSome = true := by kernel_rfl
@[go_sem] theorem t97_un : (Tryz.prog.underlying 97).isSome = true := by kernel_rfl
@[go_sem] theorem t99_ze : zeroT Tryz.prog 99 = some [.sl none 0, .int .i64 0, .sl none 0, .map none] := by kernel_rfl
@[go_sem] theorem t99_fo : fieldsOk Tryz.prog 99 = true := by kernel_rfl
@[go_sem] theorem t115_ag : aggT Tryz.prog 115 = true := by kernel_rfl
@[go_sem] theorem t115_sz : szT Tryz.prog 115 = 8 := by kernel_rfl
@[go_sem] theorem t115_in : (Tryz.prog.info? 115).isSome = true := by kernel_rfl
@[go_sem] theorem t115_un : (Tryz.prog.underlying 115).isSome = true := by kernel_rfl
@[go_sem] theorem t115_ze : zeroT Tryz.prog 115 = some [.int .i64 0, .int .i64 0, .str ⟨#[]⟩, .int .i64 0, .int .i64 0, .int .i64 0, .bool false, .sl none 0] := by kernel_rfl
@[go_sem] theorem t115_fo : fieldsOk Tryz.prog 115 = true := by kernel_rfl
@[go_sem] theorem t121_ag : aggT Tryz.prog 121 = true := by kernel_rfl
@[go_sem] theorem t121_sz : szT Tryz.prog 121 = 8 := by kernel_rfl
@[go_sem] theorem t121_in : (Tryz.prog.info? 121).isSome = true := by kernel_rfl
@[go_sem] theorem t121_un : (Tryz.prog.underlying 121).isSome = true := by kernel_rfl
@[go_sem] theorem t121_ze : zeroT Tryz.prog 121 = some [.int .i64 0, .int .i64 0, .str ⟨#[]⟩, .int .i64 0, .int .i64 0, .int .i64 0, .bool false, .sl none 0] := by kernel_rfl
@[go_sem] theorem t121_fo : fieldsOk Tryz.prog 121 = true := by kernel_rfl
@[go_sem] theorem t131_ag : aggT Tryz.prog 131 = false := by kernel_rfl
@[go_sem] theorem t131_sz : szT Tryz.prog 131 = 1 := by kernel_rfl
@[go_sem] theorem t131_in : (Tryz.prog.info? 131).isSome = true := by kernel_rfl
@[go_sem] theorem t131_un : (Tryz.prog.underlying 131).isSome = true := by kernel_rfl
@[go_sem] theorem t131_ze : zeroT Tryz.prog 131 = some [.map none] := by kernel_rfl
@[go_sem] theorem t167_ze : zeroT Tryz.prog 167 = some [.sl none 0, .int .i64 0, .bool false] := by kernel_rfl
@[go_sem] theorem t167_fo : fieldsOk Tryz.prog 167 = true := by kernel_rfl
@[go_sem] theorem t204_ze : zeroT Tryz.prog 204 = some [.sl none 0, .int .i64 0, .bool false] := by kernel_rfl
@[go_sem] theorem t204_fo : fieldsOk Tryz.prog 204 = true := by kernel_rfl
@[go_sem] theorem t25_f0 : fieldT Tryz.prog 25 0 = some (0, 1) := by kernel_rfl
@[go_sem] theorem t25_f1 : fieldT Tryz.prog 25 1 = some (1, 1) := by kernel_rfl
@[go_sem] theorem t45_f0 : fieldT Tryz.prog 45 0 = some (0, 1) := by kernel_rfl
@[go_sem] theorem t45_f1 : fieldT Tryz.prog 45 1 = some (1, 1) := by kernel_rfl
@[go_sem] theorem t66_f0 : fieldT Tryz.prog 66 0 = some (0, 1) := by kernel_rfl
@[go_sem] theorem t66_f1 : fieldT Tryz.prog 66 1 = some (1, 1) := by kernel_rfl
@[go_sem] theorem t66_f2 : fieldT Tryz.prog 66 2 = some (2, 1) := by kernel_rfl
@[go_sem] theorem t66_f3 : fieldT Tryz.prog 66 3 = some (3, 1) := by kernel_rfl
@[go_sem] theorem t66_f4 : fieldT Tryz.prog 66 4 = some (4, 1) := by kernel_rfl
@[go_sem] theorem t66_f5 : fieldT Tryz.prog 66 5 = some (5, 1) := by kernel_rfl
@[go_sem] theorem t66_f6 : fieldT Tryz.prog 66 6 = some (6, 1) := by kernel_rfl
@[go_sem] theorem t69_f0 : fieldT Tryz.prog 69 0 = some (0, 1) := by kernel_rfl
@[go_sem] theorem t69_f1 : fieldT Tryz.prog 69 1 = some (1, 1) := by kernel_rfl
@[go_sem] theorem t69_f2 : fieldT Tryz.prog 69 2 = some (2, 1) := by kernel_rfl
@[go_sem] theorem t99_f0 : fieldT Tryz.prog 99 0 = some (0, 1) := by kernel_rfl
@[go_sem] theorem t99_f1 : fieldT Tryz.prog 99 1 = some (1, 1) := by kernel_rfl
@[go_sem] theorem t99_f2 : fieldT Tryz.prog 99 2 = some (2, 1) := by kernel_rfl
@[go_sem] theorem t99_f3 : fieldT Tryz.prog 99 3 = some (3, 1) := by kernel_rfl
@[go_sem] theorem t115_f0 : fieldT Tryz.prog 115 0 = some (0, 7) := by kernel_rfl
@[go_sem] theorem t115_f1 : fieldT Tryz.prog 115 1 = some (7, 1) := by kernel_rfl
@[go_sem] theorem t121_f0 : fieldT Tryz.prog 121 0 = some (0, 7) := by kernel_rfl
@[go_sem] theorem t121_f1 : fieldT Tryz.prog 121 1 = some (7, 1) := by kernel_rfl
@[go_sem] theorem t167_f0 : fieldT Tryz.prog 167 0 = some (0, 1) := by kernel_rfl
@[go_sem] theorem t167_f1 : fieldT Tryz.prog 167 1 = some (1, 1) := by kernel_rfl
@[go_sem] theorem t167_f2 : fieldT Tryz.prog 167 2 = some (2, 1) := by kernel_rfl
@[go_sem] theorem t204_f0 : fieldT Tryz.prog 204 0 = some (0, 1) := by kernel_rfl
@[go_sem] theorem t204_f1 : fieldT Tryz.prog 204 1 = some (1, 1) := by kernel_rfl
@[go_sem] theorem t204_f2 : fieldT Tryz.prog 204 2 = some (2, 1) := by kernel_rfl
@[go_sem] theorem t9_st : strT Tryz.prog 9 = true := by kernel_rfl
@[go_sem] theorem t9_el : elemT Tryz.prog 9 = none := by kernel_rfl
@[go_sem] theorem t9_us : Tryz.prog.underlying 9 = some .string := by kernel_rfl
@[go_sem] theorem t22_el : elemT Tryz.prog 22 = some 3 := by kernel_rfl
@[go_sem] theorem t26_el : elemT Tryz.prog 26 = some 5 := by kernel_rfl
@[go_sem] theorem t26_st : strT Tryz.prog 26 = false := by kernel_rfl
@[go_sem] theorem t30_el : elemT Tryz.prog 30 = some 69 := by kernel_rfl
@[go_sem] theorem t30_st : strT Tryz.prog 30 = false := by kernel_rfl
@[go_sem] theorem t48_el : elemT Tryz.prog 48 = some 66 := by kernel_rfl
@[go_sem] theorem t54_el : elemT Tryz.prog 54 = some 9 := by kernel_rfl
@[go_sem] theorem t54_st : strT Tryz.prog 54 = false := by kernel_rfl
@[go_sem] theorem t96_el : elemT Tryz.prog 96 = some 121 := by kernel_rfl
@[go_sem] theorem t108_el : elemT Tryz.prog 108 = some 115 := by kernel_rfl
@[go_sem] theorem t171_el : elemT Tryz.prog 171 = some 26 := by kernel_rfl
@[go_sem] theorem t3_ik : intK Tryz.prog 3 = some .i64 := by kernel_rfl
@[go_sem] theorem t5_ik : intK Tryz.prog 5 = some .u8 := by kernel_rfl
@[go_sem] theorem t9_ik : intK Tryz.prog 9 = none := by kernel_rfl
@[go_sem] theorem t164_ik : intK Tryz.prog 164 = some .u64 := by kernel_rfl
@[go_sem] theorem t219_un : (Tryz.prog.underlying 219).isSome = true := by kernel_rfl
@[go_sem] theorem t3_bt : bytesT Tryz.prog 3 = false := by kernel_rfl
@[go_sem] theorem t5_bt : bytesT Tryz.prog 5 = false := by kernel_rfl
@[go_sem] theorem t9_bt : bytesT Tryz.prog 9 = false := by kernel_rfl
@[go_sem] theorem t26_bt : bytesT Tryz.prog 26 = true := by kernel_rfl
@[go_sem] theorem t164_bt : bytesT Tryz.prog 164 = false := by kernel_rfl
@[go_sem] theorem t219_bt : bytesT Tryz.prog 219 = false := by kernel_rfl
@[go_sem] theorem t26_kd : kindT Tryz.prog 26 = 3 := by kernel_rfl
@[go_sem] theorem f3_rs : Tryz.f3.results.toList = [.tmp 2] := by kernel_rfl
@[go_sem] theorem f3_nt : Tryz.f3.ntmps = 146 := by kernel_rfl
@[go_sem] theorem f6_en : entersB Tryz.prog 6 = true := by kernel_rfl
@[go_sem] theorem f6_rs : Tryz.f6.results.toList = [.tmp 4] := by kernel_rfl
@[go_sem] theorem f6_nt : Tryz.f6.ntmps = 59 := by kernel_rfl
@[go_sem] theorem f7_en : entersB Tryz.prog 7 = true := by kernel_rfl
@[go_sem] theorem f7_rs : Tryz.f7.results.toList = [.tmp 2] := by kernel_rfl
@[go_sem] theorem f7_nt : Tryz.f7.ntmps = 31 := by kernel_rfl
@[go_sem] theorem f8_en : entersB Tryz.prog 8 = true := by kernel_rfl
@[go_sem] theorem f8_rs : Tryz.f8.results.toList = [.tmp 4] := by kernel_rfl
@[go_sem] theorem f8_nt : Tryz.f8.ntmps = 12 := by kernel_rfl
@[go_sem] theorem f9_en : entersB Tryz.prog 9 = true := by kernel_rfl
@[go_sem] theorem f9_rs : Tryz.f9.results.toList = [.tmp 4] := by kernel_rfl
@[go_sem] theorem f9_nt : Tryz.f9.ntmps = 25 := by kernel_rfl
@[go_sem] theorem f10_en : entersB Tryz.prog 10 = true := by kernel_rfl
@[go_sem] theorem f10_rs : Tryz.f10.results.toList = [.tmp 4] := by kernel_rfl
@[go_sem] theorem f10_nt : Tryz.f10.ntmps = 9 := by kernel_rfl
@[go_sem] theorem f11_en : entersB Tryz.prog 11 = true := by kernel_rfl
@[go_sem] theorem f11_rs : Tryz.f11.results.toList = [.tmp 2] := by kernel_rfl
@[go_sem] theorem f11_nt : Tryz.f11.ntmps = 27 := by kernel_rfl
@[go_sem] theorem f12_en : entersB Tryz.prog 12 = true := by kernel_rfl
@[go_sem] theorem f12_rs : Tryz.f12.results.toList = [.tmp 2, .tmp 3, .tmp 4] := by kernel_rfl
@[go_sem] theorem f12_nt : Tryz.f12.ntmps = 37 := by kernel_rfl
@[go_sem] theorem f13_en : entersB Tryz.prog 13 = true := by kernel_rfl
@[go_sem] theorem f13_rs : Tryz.f13.results.toList = [.tmp 2, .tmp 3, .tmp 4] := by kernel_rfl
@[go_sem] theorem f13_nt : Tryz.f13.ntmps = 49 := by kernel_rfl
@[go_sem] theorem f14_en : entersB Tryz.prog 14 = true := by kernel_rfl
@[go_sem] theorem f14_rs : Tryz.f14.results.toList = [.tmp 2, .tmp 3] := by kernel_rfl
@[go_sem] theorem f14_nt : Tryz.f14.ntmps = 42 := by kernel_rfl
@[go_sem] theorem f15_en : entersB Tryz.prog 15 = true := by kernel_rfl
@[go_sem] theorem f15_rs : Tryz.f15.results.toList = [.tmp 4, .tmp 5] := by kernel_rfl
@[go_sem] theorem f15_nt : Tryz.f15.ntmps = 166 := by kernel_rfl
@[go_sem] theorem f16_en : entersB Tryz.prog 16 = true := by kernel_rfl
@[go_sem] theorem f16_rs : Tryz.f16.results.toList = [.tmp 2, .tmp 3, .tmp 4] := by kernel_rfl
@[go_sem] theorem f16_nt : Tryz.f16.ntmps = 25 := by kernel_rfl
@[go_sem] theorem f17_en : entersB Tryz.prog 17 = true := by kernel_rfl
@[go_sem] theorem f17_rs : Tryz.f17.results.toList = [.tmp 2, .tmp 3, .tmp 4] := by kernel_rfl
@[go_sem] theorem f17_nt : Tryz.f17.ntmps = 60 := by kernel_rfl
@[go_sem] theorem f18_en : entersB Tryz.prog 18 = true := by kernel_rfl
@[go_sem] theorem f18_rs : Tryz.f18.results.toList = [.tmp 2, .tmp 3] := by kernel_rfl
@[go_sem] theorem f18_nt : Tryz.f18.ntmps = 42 := by kernel_rfl
@[go_sem] theorem f19_en : entersB Tryz.prog 19 = true := by kernel_rfl
@[go_sem] theorem f19_rs : Tryz.f19.results.toList = [.tmp 4, .tmp 5] := by kernel_rfl
@[go_sem] theorem f19_nt : Tryz.f19.ntmps = 64 := by kernel_rfl
@[go_sem] theorem f20_en : entersB Tryz.prog 20 = true := by kernel_rfl
@[go_sem] theorem f20_rs : Tryz.f20.results.toList = [.tmp 4] := by kernel_rfl
@[go_sem] theorem f20_nt : Tryz.f20.ntmps = 10 := by kernel_rfl
@[go_sem] theorem f21_en : entersB Tryz.prog 21 = true := by kernel_rfl
@[go_sem] theorem f21_rs : Tryz.f21.results.toList = [.tmp 0] := by kernel_rfl
@[go_sem] theorem f21_nt : Tryz.f21.ntmps = 14 := by kernel_rfl
@[go_sem] theorem f28_en : entersB Tryz.prog 28 = true := by kernel_rfl
@[go_sem] theorem f28_rs : Tryz.f28.results.toList = [.tmp 2] := by kernel_rfl
@[go_sem] theorem f28_nt : Tryz.f28.ntmps = 13 := by kernel_rfl
@[go_sem] theorem f32_en : entersB Tryz.prog 32 = true := by kernel_rfl
@[go_sem] theorem f32_rs : Tryz.f32.results.toList = [.tmp 6, .tmp 7] := by kernel_rfl
@[go_sem] theorem f32_nt : Tryz.f32.ntmps = 69 := by kernel_rfl
@[go_sem] theorem f33_en : entersB Tryz.prog 33 = true := by kernel_rfl
@[go_sem] theorem f33_rs : Tryz.f33.results.toList = [.tmp 2] := by kernel_rfl
@[go_sem] theorem f33_nt : Tryz.f33.ntmps = 28 := by kernel_rfl
@[go_sem] theorem f34_en : entersB Tryz.prog 34 = true := by kernel_rfl
@[go_sem] theorem f34_rs : Tryz.f34.results.toList = [.tmp 2] := by kernel_rfl
@[go_sem] theorem f34_nt : Tryz.f34.ntmps = 23 := by kernel_rfl
@[go_sem] theorem f36_en : entersB Tryz.prog 36 = true := by kernel_rfl
@[go_sem] theorem f36_rs : Tryz.f36.results.toList = [.tmp 6, .tmp 7] := by kernel_rfl
@[go_sem] theorem f36_nt : Tryz.f36.ntmps = 75 := by kernel_rfl
@[go_sem] theorem f41_en : entersB Tryz.prog 41 = true := by kernel_rfl
@[go_sem] theorem f41_rs : Tryz.f41.results.toList = [.tmp 6] := by kernel_rfl
@[go_sem] theorem f41_nt : Tryz.f41.ntmps = 19 := by kernel_rfl
@[go_sem] theorem f42_en : entersB Tryz.prog 42 = true := by kernel_rfl
@[go_sem] theorem f42_rs : Tryz.f42.results.toList = [.tmp 4] := by kernel_rfl
@[go_sem] theorem f42_nt : Tryz.f42.ntmps = 12 := by kernel_rfl
@[go_sem] theorem f44_en : entersB Tryz.prog 44 = true := by kernel_rfl
@[go_sem] theorem f44_rs : Tryz.f44.results.toList = [.tmp 4] := by kernel_rfl
@[go_sem] theorem f44_nt : Tryz.f44.ntmps = 64 := by kernel_rfl
@[go_sem] theorem f50_en : entersB Tryz.prog 50 = true := by kernel_rfl
@[go_sem] theorem f50_rs : Tryz.f50.results.toList = [.tmp 2] := by kernel_rfl
@[go_sem] theorem f50_nt : Tryz.f50.ntmps = 35 := by kernel_rfl
@[go_sem] theorem f60_en : entersB Tryz.prog 60 = true := by kernel_rfl
@[go_sem] theorem f60_rs : Tryz.f60.results.toList = [.tmp 2] := by kernel_rfl
@[go_sem] theorem f60_nt : Tryz.f60.ntmps = 8 := by kernel_rfl
@[go_sem] theorem f61_en : entersB Tryz.prog 61 = true := by kernel_rfl
@[go_sem] theorem f62_en : entersB Tryz.prog 62 = true := by kernel_rfl
@[go_sem] theorem f63_en : entersB Tryz.prog 63 = true := by kernel_rfl
@[go_sem] theorem f63_rs : Tryz.f63.results.toList = [.tmp 4] := by kernel_rfl
@[go_sem] theorem f63_nt : Tryz.f63.ntmps = 39 := by kernel_rfl
@[go_sem] theorem f64_en : entersB Tryz.prog 64 = true := by kernel_rfl
@[go_sem] theorem f64_rs : Tryz.f64.results.toList = [.cell 2 69] := by kernel_rfl
@[go_sem] theorem f64_nt : Tryz.f64.ntmps = 13 := by kernel_rfl
@[go_sem] theorem f65_en : entersB Tryz.prog 65 = true := by kernel_rfl
@[go_sem] theorem f65_rs : Tryz.f65.results.toList = [.tmp 2] := by kernel_rfl
@[go_sem] theorem f65_nt : Tryz.f65.ntmps = 7 := by kernel_rfl
@[go_sem] theorem f66_en : entersB Tryz.prog 66 = true := by kernel_rfl
@[go_sem] theorem f66_rs : Tryz.f66.results.toList = [.tmp 2] := by kernel_rfl
@[go_sem] theorem f66_nt : Tryz.f66.ntmps = 78 := by kernel_rfl
@[go_sem] theorem f67_en : entersB Tryz.prog 67 = true := by kernel_rfl
@[go_sem] theorem f67_rs : Tryz.f67.results.toList = [.tmp 2, .tmp 3] := by kernel_rfl
@[go_sem] theorem f67_nt : Tryz.f67.ntmps = 24 := by kernel_rfl
@[go_sem] theorem f68_en : entersB Tryz.prog 68 = true := by kernel_rfl
@[go_sem] theorem f68_rs : Tryz.f68.results.toList = [.tmp 2] := by kernel_rfl
@[go_sem] theorem f68_nt : Tryz.f68.ntmps = 26 := by kernel_rfl
@[go_sem] theorem f69_en : entersB Tryz.prog 69 = true := by kernel_rfl
@[go_sem] theorem f69_rs : Tryz.f69.results.toList = [.tmp 6] := by kernel_rfl
@[go_sem] theorem f69_nt : Tryz.f69.ntmps = 60 := by kernel_rfl
@[go_sem] theorem f70_en : entersB Tryz.prog 70 = true := by kernel_rfl
@[go_sem] theorem f70_rs : Tryz.f70.results.toList = [.tmp 6] := by kernel_rfl
@[go_sem] theorem f70_nt : Tryz.f70.ntmps = 19 := by kernel_rfl
@[go_sem] theorem f71_en : entersB Tryz.prog 71 = true := by kernel_rfl
@[go_sem] theorem f71_rs : Tryz.f71.results.toList = [.tmp 2] := by kernel_rfl
@[go_sem] theorem f71_nt : Tryz.f71.ntmps = 54 := by kernel_rfl
@[go_sem] theorem f72_en : entersB Tryz.prog 72 = true := by kernel_rfl
@[go_sem] theorem f72_rs : Tryz.f72.results.toList = [.tmp 2] := by kernel_rfl
@[go_sem] theorem f72_nt : Tryz.f72.ntmps = 35 := by kernel_rfl
@[go_sem] theorem f73_en : entersB Tryz.prog 73 = true := by kernel_rfl
@[go_sem] theorem f73_rs : Tryz.f73.results.toList = [.tmp 2] := by kernel_rfl
@[go_sem] theorem f73_nt : Tryz.f73.ntmps = 28 := by kernel_rfl
@[go_sem] theorem f74_en : entersB Tryz.prog 74 = true := by kernel_rfl
@[go_sem] theorem f74_rs : Tryz.f74.results.toList = [.tmp 2, .tmp 3, .tmp 4] := by kernel_rfl
@[go_sem] theorem f74_nt : Tryz.f74.ntmps = 49 := by kernel_rfl
@[go_sem] theorem f75_en : entersB Tryz.prog 75 = true := by kernel_rfl
@[go_sem] theorem f75_rs : Tryz.f75.results.toList = [.cell 4 66, .tmp 5, .tmp 6] := by kernel_rfl
@[go_sem] theorem f75_nt : Tryz.f75.ntmps = 152 := by kernel_rfl
@[go_sem] theorem f76_en : entersB Tryz.prog 76 = true := by kernel_rfl
@[go_sem] theorem f76_rs : Tryz.f76.results.toList = [.tmp 4] := by kernel_rfl
@[go_sem] theorem f76_nt : Tryz.f76.ntmps = 16 := by kernel_rfl
@[go_sem] theorem f77_en : entersB Tryz.prog 77 = true := by kernel_rfl
@[go_sem] theorem f77_rs : Tryz.f77.results.toList = [.tmp 6] := by kernel_rfl
@[go_sem] theorem f77_nt : Tryz.f77.ntmps = 19 := by kernel_rfl
@[go_sem] theorem f78_en : entersB Tryz.prog 78 = true := by kernel_rfl
@[go_sem] theorem f78_rs : Tryz.f78.results.toList = [.tmp 2] := by kernel_rfl
@[go_sem] theorem f78_nt : Tryz.f78.ntmps = 15 := by kernel_rfl
@[go_sem] theorem f79_en : entersB Tryz.prog 79 = true := by kernel_rfl
@[go_sem] theorem f79_rs : Tryz.f79.results.toList = [.tmp 6] := by kernel_rfl
@[go_sem] theorem f79_nt : Tryz.f79.ntmps = 67 := by kernel_rfl
@[go_sem] theorem f80_en : entersB Tryz.prog 80 = true := by kernel_rfl
@[go_sem] theorem f80_rs : Tryz.f80.results.toList = [.tmp 2, .tmp 3] := by kernel_rfl
@[go_sem] theorem f80_nt : Tryz.f80.ntmps = 8 := by kernel_rfl
@[go_sem] theorem f82_en : entersB Tryz.prog 82 = true := by kernel_rfl
@[go_sem] theorem f82_rs : Tryz.f82.results.toList = [.tmp 2] := by kernel_rfl
@[go_sem] theorem f82_nt : Tryz.f82.ntmps = 36 := by kernel_rfl
@[go_sem] theorem f85_en : entersB Tryz.prog 85 = true := by kernel_rfl
@[go_sem] theorem f85_rs : Tryz.f85.results.toList = [.tmp 6] := by kernel_rfl
@[go_sem] theorem f85_nt : Tryz.f85.ntmps = 15 := by kernel_rfl
@[go_sem] theorem f86_en : entersB Tryz.prog 86 = true := by kernel_rfl
@[go_sem] theorem f86_rs : Tryz.f86.results.toList = [.tmp 4] := by kernel_rfl
@[go_sem] theorem f86_nt : Tryz.f86.ntmps = 30 := by kernel_rfl
@[go_sem] theorem f87_en : entersB Tryz.prog 87 = true := by kernel_rfl
@[go_sem] theorem f87_rs : Tryz.f87.results.toList = [] := by kernel_rfl
@[go_sem] theorem f87_nt : Tryz.f87.ntmps = 11 := by kernel_rfl
@[go_sem] theorem f88_en : entersB Tryz.prog 88 = true := by kernel_rfl
@[go_sem] theorem f88_rs : Tryz.f88.results.toList = [.tmp 2] := by kernel_rfl
@[go_sem] theorem f88_nt : Tryz.f88.ntmps = 61 := by kernel_rfl
@[go_sem] theorem f91_en : entersB Tryz.prog 91 = true := by kernel_rfl
@[go_sem] theorem f91_rs : Tryz.f91.results.toList = [.tmp 2] := by kernel_rfl
@[go_sem] theorem f91_nt : Tryz.f91.ntmps = 4 := by kernel_rfl
@[go_sem] theorem f92_en : entersB Tryz.prog 92 = true := by kernel_rfl
@[go_sem] theorem f92_rs : Tryz.f92.results.toList = [] := by kernel_rfl
@[go_sem] theorem f92_nt : Tryz.f92.ntmps = 14 := by kernel_rfl
@[go_sem] theorem f98_en : entersB Tryz.prog 98 = true := by kernel_rfl
@[go_sem] theorem f98_rs : Tryz.f98.results.toList = [.tmp 4] := by kernel_rfl
@[go_sem] theorem f98_nt : Tryz.f98.ntmps = 16 := by kernel_rfl
@[go_sem] theorem f105_en : entersB Tryz.prog 105 = true := by kernel_rfl
@[go_sem] theorem f105_rs : Tryz.f105.results.toList = [.tmp 2] := by kernel_rfl
@[go_sem] theorem f105_nt : Tryz.f105.ntmps = 6 := by kernel_rfl
@[go_sem] theorem f114_en : entersB Tryz.prog 114 = true := by kernel_rfl
@[go_sem] theorem f114_rs : Tryz.f114.results.toList = [.tmp 2] := by kernel_rfl
@[go_sem] theorem f114_nt : Tryz.f114.ntmps = 27 := by kernel_rfl
@[go_sem] theorem f115_en : entersB Tryz.prog 115 = true := by kernel_rfl
@[go_sem] theorem f115_rs : Tryz.f115.results.toList = [.tmp 2] := by kernel_rfl
@[go_sem] theorem f115_nt : Tryz.f115.ntmps = 5 := by kernel_rfl
@[go_sem] theorem f128_en : entersB Tryz.prog 128 = true := by kernel_rfl
@[go_sem] theorem f128_rs : Tryz.f128.results.toList = [.cell 4 66, .tmp 5, .tmp 6] := by kernel_rfl
@[go_sem] theorem f128_nt : Tryz.f128.ntmps = 123 := by kernel_rfl
@[go_sem] theorem f129_en : entersB Tryz.prog 129 = true := by kernel_rfl
@[go_sem] theorem f129_rs : Tryz.f129.results.toList = [.tmp 4] := by kernel_rfl
@[go_sem] theorem f129_nt : Tryz.f129.ntmps = 15 := by kernel_rfl
@[go_sem] theorem f131_en : entersB Tryz.prog 131 = true := by kernel_rfl
@[go_sem] theorem f131_rs : Tryz.f131.results.toList = [.tmp 4] := by kernel_rfl
@[go_sem] theorem f131_nt : Tryz.f131.ntmps = 9 := by kernel_rfl
@[go_sem] theorem f132_en : entersB Tryz.prog 132 = true := by kernel_rfl
@[go_sem] theorem f132_rs : Tryz.f132.results.toList = [.tmp 6] := by kernel_rfl
@[go_sem] theorem f132_nt : Tryz.f132.ntmps = 70 := by kernel_rfl
@[go_sem] theorem f133_en : entersB Tryz.prog 133 = true := by kernel_rfl
@[go_sem] theorem f133_rs : Tryz.f133.results.toList = [.tmp 2] := by kernel_rfl
@[go_sem] theorem f133_nt : Tryz.f133.ntmps = 25 := by kernel_rfl
@[go_sem] theorem f134_en : entersB Tryz.prog 134 = true := by kernel_rfl
@[go_sem] theorem f134_rs : Tryz.f134.results.toList = [.tmp 4] := by kernel_rfl
@[go_sem] theorem f134_nt : Tryz.f134.ntmps = 49 := by kernel_rfl
@[go_sem] theorem f135_en : entersB Tryz.prog 135 = true := by kernel_rfl
@[go_sem] theorem f135_rs : Tryz.f135.results.toList = [.tmp 6] := by kernel_rfl
@[go_sem] theorem f135_nt : Tryz.f135.ntmps = 46 := by kernel_rfl
@[go_sem] theorem f136_en : entersB Tryz.prog 136 = true := by kernel_rfl
@[go_sem] theorem f136_rs : Tryz.f136.results.toList = [.tmp 2] := by kernel_rfl
@[go_sem] theorem f136_nt : Tryz.f136.ntmps = 21 := by kernel_rfl
@[go_sem] theorem f137_en : entersB Tryz.prog 137 = true := by kernel_rfl
@[go_sem] theorem f137_rs : Tryz.f137.results.toList = [.tmp 4] := by kernel_rfl
@[go_sem] theorem f137_nt : Tryz.f137.ntmps = 18 := by kernel_rfl
@[go_sem] theorem f138_en : entersB Tryz.prog 138 = true := by kernel_rfl
@[go_sem] theorem f138_rs : Tryz.f138.results.toList = [] := by kernel_rfl
@[go_sem] theorem f138_nt : Tryz.f138.ntmps = 13 := by kernel_rfl
@[go_sem] theorem f139_en : entersB Tryz.prog 139 = true := by kernel_rfl
@[go_sem] theorem f139_rs : Tryz.f139.results.toList = [.tmp 2, .tmp 3] := by kernel_rfl
@[go_sem] theorem f139_nt : Tryz.f139.ntmps = 34 := by kernel_rfl
@[go_sem] theorem f140_en : entersB Tryz.prog 140 = true := by kernel_rfl
@[go_sem] theorem f140_rs : Tryz.f140.results.toList = [.tmp 6] := by kernel_rfl
@[go_sem] theorem f140_nt : Tryz.f140.ntmps = 15 := by kernel_rfl
@[go_sem] theorem f141_en : entersB Tryz.prog 141 = true := by kernel_rfl
@[go_sem] theorem f141_rs : Tryz.f141.results.toList = [.tmp 4] := by kernel_rfl
@[go_sem] theorem f141_nt : Tryz.f141.ntmps = 27 := by kernel_rfl
@[go_sem] theorem f142_en : entersB Tryz.prog 142 = true := by kernel_rfl
@[go_sem] theorem f142_rs : Tryz.f142.results.toList = [] := by kernel_rfl
@[go_sem] theorem f142_nt : Tryz.f142.ntmps = 134 := by kernel_rfl
@[go_sem] theorem f143_en : entersB Tryz.prog 143 = true := by kernel_rfl
@[go_sem] theorem f143_rs : Tryz.f143.results.toList = [.tmp 2] := by kernel_rfl
@[go_sem] theorem f143_nt : Tryz.f143.ntmps = 8 := by kernel_rfl
@[go_sem] theorem f146_en : entersB Tryz.prog 146 = true := by kernel_rfl
@[go_sem] theorem f146_rs : Tryz.f146.results.toList = [] := by kernel_rfl
@[go_sem] theorem f146_nt : Tryz.f146.ntmps = 148 := by kernel_rfl
@[go_sem] theorem f172_en : entersB Tryz.prog 172 = true := by kernel_rfl
@[go_sem] theorem f172_rs : Tryz.f172.results.toList = [.tmp 4] := by kernel_rfl
@[go_sem] theorem f172_nt : Tryz.f172.ntmps = 49 := by kernel_rfl
@[go_sem] theorem f173_en : entersB Tryz.prog 173 = true := by kernel_rfl
@[go_sem] theorem f173_rs : Tryz.f173.results.toList = [.tmp 6] := by kernel_rfl
@[go_sem] theorem f173_nt : Tryz.f173.ntmps = 18 := by kernel_rfl
@[go_sem] theorem f174_en : entersB Tryz.prog 174 = true := by kernel_rfl
@[go_sem] theorem f174_rs : Tryz.f174.results.toList = [.tmp 4] := by kernel_rfl
@[go_sem] theorem f174_nt : Tryz.f174.ntmps = 42 := by kernel_rfl
@[go_sem] theorem f175_en : entersB Tryz.prog 175 = true := by kernel_rfl
@[go_sem] theorem f175_rs : Tryz.f175.results.toList = [.tmp 2] := by kernel_rfl
@[go_sem] theorem f175_nt : Tryz.f175.ntmps = 21 := by kernel_rfl
@[go_sem] theorem f177_en : entersB Tryz.prog 177 = true := by kernel_rfl
@[go_sem] theorem f177_rs : Tryz.f177.results.toList = [.tmp 4, .tmp 5, .tmp 6] := by kernel_rfl
@[go_sem] theorem f177_nt : Tryz.f177.ntmps = 76 := by kernel_rfl
@[go_sem] theorem f178_en : entersB Tryz.prog 178 = true := by kernel_rfl
@[go_sem] theorem f178_rs : Tryz.f178.results.toList = [.tmp 4] := by kernel_rfl
@[go_sem] theorem f178_nt : Tryz.f178.ntmps = 8 := by kernel_rfl
@[go_sem] theorem f179_en : entersB Tryz.prog 179 = true := by kernel_rfl
@[go_sem] theorem f179_rs : Tryz.f179.results.toList = [] := by kernel_rfl
@[go_sem] theorem f179_nt : Tryz.f179.ntmps = 49 := by kernel_rfl
@[go_sem] theorem f189_en : entersB Tryz.prog 189 = true := by kernel_rfl
@[go_sem] theorem f189_rs : Tryz.f189.results.toList = [.tmp 2] := by kernel_rfl
@[go_sem] theorem f189_nt : Tryz.f189.ntmps = 25 := by kernel_rfl
@[go_sem] theorem f190_en : entersB Tryz.prog 190 = true := by kernel_rfl
@[go_sem] theorem f190_rs : Tryz.f190.results.toList = [] := by kernel_rfl
@[go_sem] theorem f190_nt : Tryz.f190.ntmps = 53 := by kernel_rfl
@[go_sem] theorem f215_en : entersB Tryz.prog 215 = true := by kernel_rfl
@[go_sem] theorem f215_rs : Tryz.f215.results.toList = [.tmp 2] := by kernel_rfl
@[go_sem] theorem f215_nt : Tryz.f215.ntmps = 33 := by kernel_rfl
@[go_sem] theorem f216_en : entersB Tryz.prog 216 = true := by kernel_rfl
@[go_sem] theorem f216_rs : Tryz.f216.results.toList = [.tmp 4] := by kernel_rfl
@[go_sem] theorem f216_nt : Tryz.f216.ntmps = 8 := by kernel_rfl
@[go_sem] theorem f241_en : entersB Tryz.prog 241 = true := by kernel_rfl
@[go_sem] theorem f241_rs : Tryz.f241.results.toList = [.tmp 4, .tmp 5, .tmp 6] := by kernel_rfl
@[go_sem] theorem f241_nt : Tryz.f241.ntmps = 59 := by kernel_rfl
end Go.Proofs.YtgcjenfdndhhpaaGreat
