/- Facts on the types. No condition. -/
import Derived.Test.YtnodfnjmhcjnfaaGreatRows
import Derived.Test.YtnodfnjmhcjnfaaGreatHCoreC
namespace Go.Proofs.YtnodfnjmhcjnfaaGreat
open Go Go.RowKit
@[go_sem] theorem t3_ag : aggT Tryz.prog 3 = false := by kernel_rfl
@[go_sem] theorem t3_sz : szT Tryz.prog 3 = 1 := by kernel_rfl
@[go_sem] theorem t3_in : (Tryz.prog.info? 3).isSome = true := by kernel_rfl
@[go_sem] theorem t3_un : (Tryz.prog.underlying 3).isSome = true := by kernel_rfl
@[go_sem] theorem t3_ze : zeroT Tryz.prog 3 = some [.int .i64 0] := by kernel_rfl
@[go_sem] theorem t3_by : Tryz.prog.bytesOf 3 = 8 := by kernel_rfl
@[go_sem] theorem t4_ag : aggT Tryz.prog 4 = false := by kernel_rfl
@[go_sem] theorem t4_sz : szT Tryz.prog 4 = 1 := by kernel_rfl
@[go_sem] theorem t4_in : (Tryz.prog.info? 4).isSome = true := by kernel_rfl
@[go_sem] theorem t4_un : (Tryz.prog.underlying 4).isSome = true := by kernel_rfl
@[go_sem] theorem t5_ag : aggT Tryz.prog 5 = false := by kernel_rfl
@[go_sem] theorem t5_sz : szT Tryz.prog 5 = 1 := by kernel_rfl
@[go_sem] theorem t5_in : (Tryz.prog.info? 5).isSome = true := by kernel_rfl
@[go_sem] theorem t5_un : (Tryz.prog.underlying 5).isSome = true := by kernel_rfl
@[go_sem] theorem t5_ze : zeroT Tryz.prog 5 = some [.int .u8 0] := by kernel_rfl
@[go_sem] theorem t5_by : Tryz.prog.bytesOf 5 = 1 := by kernel_rfl
@[go_sem] theorem t9_ag : aggT Tryz.prog 9 = false := by kernel_rfl
@[go_sem] theorem t9_sz : szT Tryz.prog 9 = 1 := by kernel_rfl
@[go_sem] theorem t9_in : (Tryz.prog.info? 9).isSome = true := by kernel_rfl
@[go_sem] theorem t9_ze : zeroT Tryz.prog 9 = some [.str ⟨#[]⟩] := by kernel_rfl
@[go_sem] theorem t22_ag : aggT Tryz.prog 22 = false := by kernel_rfl
@[go_sem] theorem t22_sz : szT Tryz.prog 22 = 1 := by kernel_rfl
@[go_sem] theorem t22_in : (Tryz.prog.info? 22).isSome = true := by kernel_rfl
@[go_sem] theorem t22_un : (Tryz.prog.underlying 22).isSome = true := by kernel_rfl
@[go_sem] theorem t25_ze : zeroT Tryz.prog 25 = some [.sl none 0, .int .i64 0] := by kernel_rfl
@[go_sem] theorem t25_fo : fieldsOk Tryz.prog 25 = true := by kernel_rfl
@[go_sem] theorem t26_ag : aggT Tryz.prog 26 = false := by kernel_rfl
@[go_sem] theorem t26_sz : szT Tryz.prog 26 = 1 := by kernel_rfl
@[go_sem] theorem t26_in : (Tryz.prog.info? 26).isSome = true := by kernel_rfl
@[go_sem] theorem t26_un : (Tryz.prog.underlying 26).isSome = true := by kernel_rfl
@[go_sem] theorem t26_ze : zeroT Tryz.prog 26 = some [.sl none 0] := by kernel_rfl
@[go_sem] theorem t30_ag : aggT Tryz.prog 30 = false := by kernel_rfl
@[go_sem] theorem t30_sz : szT Tryz.prog 30 = 1 := by kernel_rfl
@[go_sem] theorem t30_in : (Tryz.prog.info? 30).isSome = true := by kernel_rfl
@[go_sem] theorem t30_un : (Tryz.prog.underlying 30).isSome = true := by kernel_rfl
@[go_sem] theorem t30_ze : zeroT Tryz.prog 30 = some [.sl none 0] := by kernel_rfl
@[go_sem] theorem t52_ag : aggT Tryz.prog 52 = true := by kernel_rfl
@[go_sem] theorem t52_sz : szT Tryz.prog 52 = 3 := by kernel_rfl
@[go_sem] theorem t52_in : (Tryz.prog.info? 52).isSome = true := by kernel_rfl
@[go_sem] theorem t52_un : (Tryz.prog.underlying 52).isSome = true := by kernel_rfl
@[go_sem] theorem t52_ze : zeroT Tryz.prog 52 = some [.int .i64 0, .int .i64 0, .int .i64 0] := by kernel_rfl
@[go_sem] theorem t52_fo : fieldsOk Tryz.prog 52 = true := by kernel_rfl
@[go_sem] theorem t56_ag : aggT Tryz.prog 56 = false := by kernel_rfl
@[go_sem] theorem t56_sz : szT Tryz.prog 56 = 1 := by kernel_rfl
@[go_sem] theorem t56_in : (Tryz.prog.info? 56).isSome = true := by kernel_rfl
@[go_sem] theorem t56_un : (Tryz.prog.underlying 56).isSome = true := by kernel_rfl
@[go_sem] theorem t57_ag : aggT Tryz.prog 57 = false := by kernel_rfl
@[go_sem] theorem t57_sz : szT Tryz.prog 57 = 1 := by kernel_rfl
@[go_sem] theorem t57_in : (Tryz.prog.info? 57).isSome = true := by kernel_rfl
@[go_sem] theorem t57_un : (Tryz.prog.underlying 57).isSome = true := by kernel_rfl
@[go_sem] theorem t59_ze : zeroT Tryz.prog 59 = some [.sl none 0, .int .i64 0, .sl none 0, .map none] := by kernel_rfl
@[go_sem] theorem t59_fo : fieldsOk Tryz.prog 59 = true := by kernel_rfl
@[go_sem] theorem t66_ag : aggT Tryz.prog 66 = true := by kernel_rfl
@[go_sem] theorem t66_sz : szT Tryz.prog 66 = 2 := by kernel_rfl
@[go_sem] theorem t66_in : (Tryz.prog.info? 66).isSome = true := by kernel_rfl
@[go_sem] theorem t66_un : (Tryz.prog.underlying 66).isSome = true := by kernel_rfl
@[go_sem] theorem t66_ze : zeroT Tryz.prog 66 = some [.int .i64 0, .int .i64 0] := by kernel_rfl
@[go_sem] theorem t66_fo : fieldsOk Tryz.prog 66 = true := by kernel_rfl
@[go_sem] theorem t75_ag : aggT Tryz.prog 75 = true := by kernel_rfl
@[go_sem] theorem t75_sz : szT Tryz.prog 75 = 7 := by kernel_rfl
@[go_sem] theorem t75_in : (Tryz.prog.info? 75).isSome = true := by kernel_rfl
@[go_sem] theorem t75_un : (Tryz.prog.underlying 75).isSome = true := by kernel_rfl
@[go_sem] theorem t75_ze : zeroT Tryz.prog 75 = some [.int .i64 0, .int .i64 0, .str ⟨#[]⟩, .int .i64 0, .int .i64 0, .int .i64 0, .bool false] := by kernel_rfl
@[go_sem] theorem t75_fo : fieldsOk Tryz.prog 75 = true := by kernel_rfl
@[go_sem] theorem t80_ag : aggT Tryz.prog 80 = true := by kernel_rfl
@[go_sem] theorem t80_sz : szT Tryz.prog 80 = 8 := by kernel_rfl
@[go_sem] theorem t80_in : (Tryz.prog.info? 80).isSome = true := by kernel_rfl
@[go_sem] theorem t80_un : (Tryz.prog.underlying 80).isSome = true := by kernel_rfl
@[go_sem] theorem t80_ze : zeroT Tryz.prog 80 = some [.int .i64 0, .int .i64 0, .str ⟨#[]⟩, .int .i64 0, .int .i64 0, .int .i64 0, .bool false, .sl none 0] := by kernel_rfl
@[go_sem] theorem t80_fo : fieldsOk Tryz.prog 80 = true := by kernel_rfl
@[go_sem] theorem t91_ag : aggT Tryz.prog 91 = true := by kernel_rfl
@[go_sem] theorem t91_sz : szT Tryz.prog 91 = 8 := by kernel_rfl
@[go_sem] theorem t91_in : (Tryz.prog.info? 91).isSome = true := by kernel_rfl
@[go_sem] theorem t91_un : (Tryz.prog.underlying 91).isSome = true := by kernel_rfl
@[go_sem] theorem t91_ze : zeroT Tryz.prog 91 = some [.int .i64 0, .int .i64 0, .str ⟨#[]⟩, .int .i64 0, .int .i64 0, .int .i64 0, .bool false, .sl none 0] := by kernel_rfl
@[go_sem] theorem t91_fo : fieldsOk Tryz.prog 91 = true := by kernel_rfl
@[go_sem] theorem t106_ze : zeroT Tryz.prog 106 = some [.sl none 0, .int .i64 0, .bool false] := by kernel_rfl
@[go_sem] theorem t106_fo : fieldsOk Tryz.prog 106 = true := by kernel_rfl
@[go_sem] theorem t110_ag : aggT Tryz.prog 110 = false := by kernel_rfl
@[go_sem] theorem t110_sz : szT Tryz.prog 110 = 1 := by kernel_rfl
@[go_sem] theorem t110_in : (Tryz.prog.info? 110).isSome = true := by kernel_rfl
@[go_sem] theorem t110_un : (Tryz.prog.underlying 110).isSome = true := by kernel_rfl
@[go_sem] theorem t110_ze : zeroT Tryz.prog 110 = some [.map none] := by kernel_rfl
@[go_sem] theorem t120_ze : zeroT Tryz.prog 120 = some [.sl none 0, .int .i64 0, .bool false] := by kernel_rfl
@[go_sem] theorem t120_fo : fieldsOk Tryz.prog 120 = true := by kernel_rfl
@[go_sem] theorem t25_f0 : fieldT Tryz.prog 25 0 = some (0, 1) := by kernel_rfl
@[go_sem] theorem t25_f1 : fieldT Tryz.prog 25 1 = some (1, 1) := by kernel_rfl
@[go_sem] theorem t52_f0 : fieldT Tryz.prog 52 0 = some (0, 1) := by kernel_rfl
@[go_sem] theorem t52_f1 : fieldT Tryz.prog 52 1 = some (1, 1) := by kernel_rfl
@[go_sem] theorem t52_f2 : fieldT Tryz.prog 52 2 = some (2, 1) := by kernel_rfl
@[go_sem] theorem t59_f0 : fieldT Tryz.prog 59 0 = some (0, 1) := by kernel_rfl
@[go_sem] theorem t59_f1 : fieldT Tryz.prog 59 1 = some (1, 1) := by kernel_rfl
@[go_sem] theorem t59_f2 : fieldT Tryz.prog 59 2 = some (2, 1) := by kernel_rfl
@[go_sem] theorem t59_f3 : fieldT Tryz.prog 59 3 = some (3, 1) := by kernel_rfl
@[go_sem] theorem t66_f0 : fieldT Tryz.prog 66 0 = some (0, 1) := by kernel_rfl
@[go_sem] theorem t66_f1 : fieldT Tryz.prog 66 1 = some (1, 1) := by kernel_rfl
@[go_sem] theorem t75_f0 : fieldT Tryz.prog 75 0 = some (0, 1) := by kernel_rfl
@[go_sem] theorem t75_f1 : fieldT Tryz.prog 75 1 = some (1, 1) := by kernel_rfl
@[go_sem] theorem t75_f2 : fieldT Tryz.prog 75 2 = some (2, 1) := by kernel_rfl
@[go_sem] theorem t75_f3 : fieldT Tryz.prog 75 3 = some (3, 1) := by kernel_rfl
@[go_sem] theorem t75_f4 : fieldT Tryz.prog 75 4 = some (4, 1) := by kernel_rfl
@[go_sem] theorem t75_f5 : fieldT Tryz.prog 75 5 = some (5, 1) := by kernel_rfl
@[go_sem] theorem t75_f6 : fieldT Tryz.prog 75 6 = some (6, 1) := by kernel_rfl
@[go_sem] theorem t80_f0 : fieldT Tryz.prog 80 0 = some (0, 7) := by kernel_rfl
@[go_sem] theorem t80_f1 : fieldT Tryz.prog 80 1 = some (7, 1) := by kernel_rfl
@[go_sem] theorem t91_f0 : fieldT Tryz.prog 91 0 = some (0, 7) := by kernel_rfl
@[go_sem] theorem t91_f1 : fieldT Tryz.prog 91 1 = some (7, 1) := by kernel_rfl
@[go_sem] theorem t106_f0 : fieldT Tryz.prog 106 0 = some (0, 1) := by kernel_rfl
@[go_sem] theorem t106_f1 : fieldT Tryz.prog 106 1 = some (1, 1) := by kernel_rfl
@[go_sem] theorem t106_f2 : fieldT Tryz.prog 106 2 = some (2, 1) := by kernel_rfl
@[go_sem] theorem t120_f0 : fieldT Tryz.prog 120 0 = some (0, 1) := by kernel_rfl
@[go_sem] theorem t120_f1 : fieldT Tryz.prog 120 1 = some (1, 1) := by kernel_rfl
@[go_sem] theorem t120_f2 : fieldT Tryz.prog 120 2 = some (2, 1) := by kernel_rfl
@[go_sem] theorem t9_st : strT Tryz.prog 9 = true := by kernel_rfl
@[go_sem] theorem t9_el : elemT Tryz.prog 9 = none := by kernel_rfl
@[go_sem] theorem t9_us : Tryz.prog.underlying 9 = some .string := by kernel_rfl
@[go_sem] theorem t22_el : elemT Tryz.prog 22 = some 3 := by kernel_rfl
@[go_sem] theorem t26_el : elemT Tryz.prog 26 = some 5 := by kernel_rfl
@[go_sem] theorem t26_st : strT Tryz.prog 26 = false := by kernel_rfl
@[go_sem] theorem t30_el : elemT Tryz.prog 30 = some 52 := by kernel_rfl
@[go_sem] theorem t30_st : strT Tryz.prog 30 = false := by kernel_rfl
@[go_sem] theorem t50_el : elemT Tryz.prog 50 = some 9 := by kernel_rfl
@[go_sem] theorem t50_st : strT Tryz.prog 50 = false := by kernel_rfl
@[go_sem] theorem t56_el : elemT Tryz.prog 56 = some 91 := by kernel_rfl
@[go_sem] theorem t71_el : elemT Tryz.prog 71 = some 80 := by kernel_rfl
@[go_sem] theorem t108_el : elemT Tryz.prog 108 = some 75 := by kernel_rfl
@[go_sem] theorem t116_el : elemT Tryz.prog 116 = some 26 := by kernel_rfl
@[go_sem] theorem t3_ik : intK Tryz.prog 3 = some .i64 := by kernel_rfl
@[go_sem] theorem t5_ik : intK Tryz.prog 5 = some .u8 := by kernel_rfl
@[go_sem] theorem t9_ik : intK Tryz.prog 9 = none := by kernel_rfl
@[go_sem] theorem t102_ik : intK Tryz.prog 102 = some .u64 := by kernel_rfl
@[go_sem] theorem t141_un : (Tryz.prog.underlying 141).isSome = true := by kernel_rfl
@[go_sem] theorem t3_bt : bytesT Tryz.prog 3 = false := by kernel_rfl
@[go_sem] theorem t5_bt : bytesT Tryz.prog 5 = false := by kernel_rfl
@[go_sem] theorem t9_bt : bytesT Tryz.prog 9 = false := by kernel_rfl
@[go_sem] theorem t26_bt : bytesT Tryz.prog 26 = true := by kernel_rfl
@[go_sem] theorem t102_bt : bytesT Tryz.prog 102 = false := by kernel_rfl
@[go_sem] theorem t141_bt : bytesT Tryz.prog 141 = false := by kernel_rfl
@[go_sem] theorem t26_kd : kindT Tryz.prog 26 = 3 := by kernel_rfl
@[go_sem] theorem f3_rs : Tryz.f3.results.toList = [.tmp 2] := by kernel_rfl
@[go_sem] theorem f3_nt : Tryz.f3.ntmps = 146 := by kernel_rfl
@[go_sem] theorem f4_en : entersB Tryz.prog 4 = true := by kernel_rfl
@[go_sem] theorem f4_rs : Tryz.f4.results.toList = [.tmp 4] := by kernel_rfl
@[go_sem] theorem f4_nt : Tryz.f4.ntmps = 59 := by kernel_rfl
@[go_sem] theorem f5_en : entersB Tryz.prog 5 = true := by kernel_rfl
@[go_sem] theorem f5_rs : Tryz.f5.results.toList = [.tmp 2] := by kernel_rfl
@[go_sem] theorem f5_nt : Tryz.f5.ntmps = 31 := by kernel_rfl
@[go_sem] theorem f6_en : entersB Tryz.prog 6 = true := by kernel_rfl
@[go_sem] theorem f6_rs : Tryz.f6.results.toList = [.tmp 4] := by kernel_rfl
@[go_sem] theorem f6_nt : Tryz.f6.ntmps = 12 := by kernel_rfl
@[go_sem] theorem f7_en : entersB Tryz.prog 7 = true := by kernel_rfl
@[go_sem] theorem f7_rs : Tryz.f7.results.toList = [.tmp 4] := by kernel_rfl
@[go_sem] theorem f7_nt : Tryz.f7.ntmps = 25 := by kernel_rfl
@[go_sem] theorem f8_en : entersB Tryz.prog 8 = true := by kernel_rfl
@[go_sem] theorem f8_rs : Tryz.f8.results.toList = [.tmp 4] := by kernel_rfl
@[go_sem] theorem f8_nt : Tryz.f8.ntmps = 9 := by kernel_rfl
@[go_sem] theorem f9_en : entersB Tryz.prog 9 = true := by kernel_rfl
@[go_sem] theorem f9_rs : Tryz.f9.results.toList = [.tmp 2] := by kernel_rfl
@[go_sem] theorem f9_nt : Tryz.f9.ntmps = 27 := by kernel_rfl
@[go_sem] theorem f10_en : entersB Tryz.prog 10 = true := by kernel_rfl
@[go_sem] theorem f10_rs : Tryz.f10.results.toList = [.tmp 2, .tmp 3, .tmp 4] := by kernel_rfl
@[go_sem] theorem f10_nt : Tryz.f10.ntmps = 37 := by kernel_rfl
@[go_sem] theorem f11_en : entersB Tryz.prog 11 = true := by kernel_rfl
@[go_sem] theorem f11_rs : Tryz.f11.results.toList = [.tmp 2, .tmp 3, .tmp 4] := by kernel_rfl
@[go_sem] theorem f11_nt : Tryz.f11.ntmps = 49 := by kernel_rfl
@[go_sem] theorem f12_en : entersB Tryz.prog 12 = true := by kernel_rfl
@[go_sem] theorem f12_rs : Tryz.f12.results.toList = [.tmp 2, .tmp 3] := by kernel_rfl
@[go_sem] theorem f12_nt : Tryz.f12.ntmps = 42 := by kernel_rfl
@[go_sem] theorem f13_en : entersB Tryz.prog 13 = true := by kernel_rfl
@[go_sem] theorem f13_rs : Tryz.f13.results.toList = [.tmp 4, .tmp 5] := by kernel_rfl
@[go_sem] theorem f13_nt : Tryz.f13.ntmps = 166 := by kernel_rfl
@[go_sem] theorem f14_en : entersB Tryz.prog 14 = true := by kernel_rfl
@[go_sem] theorem f14_rs : Tryz.f14.results.toList = [.tmp 2, .tmp 3, .tmp 4] := by kernel_rfl
@[go_sem] theorem f14_nt : Tryz.f14.ntmps = 25 := by kernel_rfl
@[go_sem] theorem f15_en : entersB Tryz.prog 15 = true := by kernel_rfl
@[go_sem] theorem f15_rs : Tryz.f15.results.toList = [.tmp 2, .tmp 3, .tmp 4] := by kernel_rfl
@[go_sem] theorem f15_nt : Tryz.f15.ntmps = 60 := by kernel_rfl
@[go_sem] theorem f16_en : entersB Tryz.prog 16 = true := by kernel_rfl
@[go_sem] theorem f16_rs : Tryz.f16.results.toList = [.tmp 2, .tmp 3] := by kernel_rfl
@[go_sem] theorem f16_nt : Tryz.f16.ntmps = 42 := by kernel_rfl
@[go_sem] theorem f17_en : entersB Tryz.prog 17 = true := by kernel_rfl
@[go_sem] theorem f17_rs : Tryz.f17.results.toList = [.tmp 4, .tmp 5] := by kernel_rfl
@[go_sem] theorem f17_nt : Tryz.f17.ntmps = 64 := by kernel_rfl
@[go_sem] theorem f18_en : entersB Tryz.prog 18 = true := by kernel_rfl
@[go_sem] theorem f18_rs : Tryz.f18.results.toList = [.tmp 4] := by kernel_rfl
@[go_sem] theorem f18_nt : Tryz.f18.ntmps = 10 := by kernel_rfl
@[go_sem] theorem f19_en : entersB Tryz.prog 19 = true := by kernel_rfl
@[go_sem] theorem f19_rs : Tryz.f19.results.toList = [.tmp 0] := by kernel_rfl
@[go_sem] theorem f19_nt : Tryz.f19.ntmps = 14 := by kernel_rfl
@[go_sem] theorem f20_en : entersB Tryz.prog 20 = true := by kernel_rfl
@[go_sem] theorem f20_rs : Tryz.f20.results.toList = [.tmp 2] := by kernel_rfl
@[go_sem] theorem f20_nt : Tryz.f20.ntmps = 8 := by kernel_rfl
@[go_sem] theorem f21_en : entersB Tryz.prog 21 = true := by kernel_rfl
@[go_sem] theorem f21_rs : Tryz.f21.results.toList = [.tmp 4] := by kernel_rfl
@[go_sem] theorem f21_nt : Tryz.f21.ntmps = 12 := by kernel_rfl
@[go_sem] theorem f22_en : entersB Tryz.prog 22 = true := by kernel_rfl
@[go_sem] theorem f22_rs : Tryz.f22.results.toList = [.tmp 4] := by kernel_rfl
@[go_sem] theorem f22_nt : Tryz.f22.ntmps = 64 := by kernel_rfl
@[go_sem] theorem f23_en : entersB Tryz.prog 23 = true := by kernel_rfl
@[go_sem] theorem f24_en : entersB Tryz.prog 24 = true := by kernel_rfl
@[go_sem] theorem f25_en : entersB Tryz.prog 25 = true := by kernel_rfl
@[go_sem] theorem f25_rs : Tryz.f25.results.toList = [.tmp 6] := by kernel_rfl
@[go_sem] theorem f25_nt : Tryz.f25.ntmps = 19 := by kernel_rfl
@[go_sem] theorem f26_en : entersB Tryz.prog 26 = true := by kernel_rfl
@[go_sem] theorem f26_rs : Tryz.f26.results.toList = [.tmp 4] := by kernel_rfl
@[go_sem] theorem f26_nt : Tryz.f26.ntmps = 39 := by kernel_rfl
@[go_sem] theorem f27_en : entersB Tryz.prog 27 = true := by kernel_rfl
@[go_sem] theorem f27_rs : Tryz.f27.results.toList = [.tmp 6, .tmp 7] := by kernel_rfl
@[go_sem] theorem f27_nt : Tryz.f27.ntmps = 69 := by kernel_rfl
@[go_sem] theorem f28_en : entersB Tryz.prog 28 = true := by kernel_rfl
@[go_sem] theorem f28_rs : Tryz.f28.results.toList = [.cell 2 52] := by kernel_rfl
@[go_sem] theorem f28_nt : Tryz.f28.ntmps = 13 := by kernel_rfl
@[go_sem] theorem f29_en : entersB Tryz.prog 29 = true := by kernel_rfl
@[go_sem] theorem f29_rs : Tryz.f29.results.toList = [.tmp 2] := by kernel_rfl
@[go_sem] theorem f29_nt : Tryz.f29.ntmps = 7 := by kernel_rfl
@[go_sem] theorem f30_en : entersB Tryz.prog 30 = true := by kernel_rfl
@[go_sem] theorem f30_rs : Tryz.f30.results.toList = [.tmp 2] := by kernel_rfl
@[go_sem] theorem f30_nt : Tryz.f30.ntmps = 78 := by kernel_rfl
@[go_sem] theorem f31_en : entersB Tryz.prog 31 = true := by kernel_rfl
@[go_sem] theorem f31_rs : Tryz.f31.results.toList = [.tmp 2, .tmp 3] := by kernel_rfl
@[go_sem] theorem f31_nt : Tryz.f31.ntmps = 24 := by kernel_rfl
@[go_sem] theorem f32_en : entersB Tryz.prog 32 = true := by kernel_rfl
@[go_sem] theorem f32_rs : Tryz.f32.results.toList = [.tmp 2] := by kernel_rfl
@[go_sem] theorem f32_nt : Tryz.f32.ntmps = 26 := by kernel_rfl
@[go_sem] theorem f33_en : entersB Tryz.prog 33 = true := by kernel_rfl
@[go_sem] theorem f33_rs : Tryz.f33.results.toList = [.tmp 6] := by kernel_rfl
@[go_sem] theorem f33_nt : Tryz.f33.ntmps = 60 := by kernel_rfl
@[go_sem] theorem f34_en : entersB Tryz.prog 34 = true := by kernel_rfl
@[go_sem] theorem f34_rs : Tryz.f34.results.toList = [.tmp 6] := by kernel_rfl
@[go_sem] theorem f34_nt : Tryz.f34.ntmps = 19 := by kernel_rfl
@[go_sem] theorem f35_en : entersB Tryz.prog 35 = true := by kernel_rfl
@[go_sem] theorem f35_rs : Tryz.f35.results.toList = [.tmp 2] := by kernel_rfl
@[go_sem] theorem f35_nt : Tryz.f35.ntmps = 54 := by kernel_rfl
@[go_sem] theorem f36_en : entersB Tryz.prog 36 = true := by kernel_rfl
@[go_sem] theorem f36_rs : Tryz.f36.results.toList = [.tmp 2] := by kernel_rfl
@[go_sem] theorem f36_nt : Tryz.f36.ntmps = 35 := by kernel_rfl
@[go_sem] theorem f37_en : entersB Tryz.prog 37 = true := by kernel_rfl
@[go_sem] theorem f37_rs : Tryz.f37.results.toList = [.tmp 2] := by kernel_rfl
@[go_sem] theorem f37_nt : Tryz.f37.ntmps = 28 := by kernel_rfl
@[go_sem] theorem f38_en : entersB Tryz.prog 38 = true := by kernel_rfl
@[go_sem] theorem f38_rs : Tryz.f38.results.toList = [.tmp 2, .tmp 3, .tmp 4] := by kernel_rfl
@[go_sem] theorem f38_nt : Tryz.f38.ntmps = 49 := by kernel_rfl
@[go_sem] theorem f39_en : entersB Tryz.prog 39 = true := by kernel_rfl
@[go_sem] theorem f39_rs : Tryz.f39.results.toList = [.cell 4 75, .tmp 5, .tmp 6] := by kernel_rfl
@[go_sem] theorem f39_nt : Tryz.f39.ntmps = 152 := by kernel_rfl
@[go_sem] theorem f40_en : entersB Tryz.prog 40 = true := by kernel_rfl
@[go_sem] theorem f40_rs : Tryz.f40.results.toList = [.tmp 4] := by kernel_rfl
@[go_sem] theorem f40_nt : Tryz.f40.ntmps = 16 := by kernel_rfl
@[go_sem] theorem f41_en : entersB Tryz.prog 41 = true := by kernel_rfl
@[go_sem] theorem f41_rs : Tryz.f41.results.toList = [.tmp 2] := by kernel_rfl
@[go_sem] theorem f41_nt : Tryz.f41.ntmps = 13 := by kernel_rfl
@[go_sem] theorem f42_en : entersB Tryz.prog 42 = true := by kernel_rfl
@[go_sem] theorem f42_rs : Tryz.f42.results.toList = [.tmp 2] := by kernel_rfl
@[go_sem] theorem f42_nt : Tryz.f42.ntmps = 23 := by kernel_rfl
@[go_sem] theorem f43_en : entersB Tryz.prog 43 = true := by kernel_rfl
@[go_sem] theorem f43_rs : Tryz.f43.results.toList = [.tmp 6, .tmp 7] := by kernel_rfl
@[go_sem] theorem f43_nt : Tryz.f43.ntmps = 75 := by kernel_rfl
@[go_sem] theorem f44_en : entersB Tryz.prog 44 = true := by kernel_rfl
@[go_sem] theorem f44_rs : Tryz.f44.results.toList = [.tmp 6] := by kernel_rfl
@[go_sem] theorem f44_nt : Tryz.f44.ntmps = 19 := by kernel_rfl
@[go_sem] theorem f45_en : entersB Tryz.prog 45 = true := by kernel_rfl
@[go_sem] theorem f45_rs : Tryz.f45.results.toList = [.tmp 2] := by kernel_rfl
@[go_sem] theorem f45_nt : Tryz.f45.ntmps = 15 := by kernel_rfl
@[go_sem] theorem f46_en : entersB Tryz.prog 46 = true := by kernel_rfl
@[go_sem] theorem f46_rs : Tryz.f46.results.toList = [.tmp 2] := by kernel_rfl
@[go_sem] theorem f46_nt : Tryz.f46.ntmps = 35 := by kernel_rfl
@[go_sem] theorem f47_en : entersB Tryz.prog 47 = true := by kernel_rfl
@[go_sem] theorem f47_rs : Tryz.f47.results.toList = [.tmp 6] := by kernel_rfl
@[go_sem] theorem f47_nt : Tryz.f47.ntmps = 67 := by kernel_rfl
@[go_sem] theorem f48_en : entersB Tryz.prog 48 = true := by kernel_rfl
@[go_sem] theorem f48_rs : Tryz.f48.results.toList = [.tmp 2, .tmp 3] := by kernel_rfl
@[go_sem] theorem f48_nt : Tryz.f48.ntmps = 8 := by kernel_rfl
@[go_sem] theorem f49_en : entersB Tryz.prog 49 = true := by kernel_rfl
@[go_sem] theorem f49_rs : Tryz.f49.results.toList = [.tmp 4] := by kernel_rfl
@[go_sem] theorem f49_nt : Tryz.f49.ntmps = 16 := by kernel_rfl
@[go_sem] theorem f52_en : entersB Tryz.prog 52 = true := by kernel_rfl
@[go_sem] theorem f52_rs : Tryz.f52.results.toList = [.tmp 4] := by kernel_rfl
@[go_sem] theorem f52_nt : Tryz.f52.ntmps = 30 := by kernel_rfl
@[go_sem] theorem f53_en : entersB Tryz.prog 53 = true := by kernel_rfl
@[go_sem] theorem f53_rs : Tryz.f53.results.toList = [.tmp 2] := by kernel_rfl
@[go_sem] theorem f53_nt : Tryz.f53.ntmps = 36 := by kernel_rfl
@[go_sem] theorem f54_en : entersB Tryz.prog 54 = true := by kernel_rfl
@[go_sem] theorem f54_rs : Tryz.f54.results.toList = [.cell 4 75, .tmp 5, .tmp 6] := by kernel_rfl
@[go_sem] theorem f54_nt : Tryz.f54.ntmps = 123 := by kernel_rfl
@[go_sem] theorem f55_en : entersB Tryz.prog 55 = true := by kernel_rfl
@[go_sem] theorem f55_rs : Tryz.f55.results.toList = [] := by kernel_rfl
@[go_sem] theorem f55_nt : Tryz.f55.ntmps = 11 := by kernel_rfl
@[go_sem] theorem f56_en : entersB Tryz.prog 56 = true := by kernel_rfl
@[go_sem] theorem f56_rs : Tryz.f56.results.toList = [.tmp 2] := by kernel_rfl
@[go_sem] theorem f56_nt : Tryz.f56.ntmps = 61 := by kernel_rfl
@[go_sem] theorem f57_en : entersB Tryz.prog 57 = true := by kernel_rfl
@[go_sem] theorem f57_rs : Tryz.f57.results.toList = [.tmp 4] := by kernel_rfl
@[go_sem] theorem f57_nt : Tryz.f57.ntmps = 15 := by kernel_rfl
@[go_sem] theorem f58_en : entersB Tryz.prog 58 = true := by kernel_rfl
@[go_sem] theorem f58_rs : Tryz.f58.results.toList = [] := by kernel_rfl
@[go_sem] theorem f58_nt : Tryz.f58.ntmps = 14 := by kernel_rfl
@[go_sem] theorem f60_en : entersB Tryz.prog 60 = true := by kernel_rfl
@[go_sem] theorem f60_rs : Tryz.f60.results.toList = [.tmp 4] := by kernel_rfl
@[go_sem] theorem f60_nt : Tryz.f60.ntmps = 9 := by kernel_rfl
@[go_sem] theorem f61_en : entersB Tryz.prog 61 = true := by kernel_rfl
@[go_sem] theorem f61_rs : Tryz.f61.results.toList = [.tmp 6] := by kernel_rfl
@[go_sem] theorem f61_nt : Tryz.f61.ntmps = 70 := by kernel_rfl
@[go_sem] theorem f62_en : entersB Tryz.prog 62 = true := by kernel_rfl
@[go_sem] theorem f62_rs : Tryz.f62.results.toList = [.tmp 2] := by kernel_rfl
@[go_sem] theorem f62_nt : Tryz.f62.ntmps = 25 := by kernel_rfl
@[go_sem] theorem f63_en : entersB Tryz.prog 63 = true := by kernel_rfl
@[go_sem] theorem f63_rs : Tryz.f63.results.toList = [.tmp 6] := by kernel_rfl
@[go_sem] theorem f63_nt : Tryz.f63.ntmps = 15 := by kernel_rfl
@[go_sem] theorem f64_en : entersB Tryz.prog 64 = true := by kernel_rfl
@[go_sem] theorem f64_rs : Tryz.f64.results.toList = [.tmp 4] := by kernel_rfl
@[go_sem] theorem f64_nt : Tryz.f64.ntmps = 49 := by kernel_rfl
@[go_sem] theorem f65_en : entersB Tryz.prog 65 = true := by kernel_rfl
@[go_sem] theorem f65_rs : Tryz.f65.results.toList = [.tmp 6] := by kernel_rfl
@[go_sem] theorem f65_nt : Tryz.f65.ntmps = 46 := by kernel_rfl
@[go_sem] theorem f66_en : entersB Tryz.prog 66 = true := by kernel_rfl
@[go_sem] theorem f66_rs : Tryz.f66.results.toList = [.tmp 2] := by kernel_rfl
@[go_sem] theorem f66_nt : Tryz.f66.ntmps = 21 := by kernel_rfl
@[go_sem] theorem f67_en : entersB Tryz.prog 67 = true := by kernel_rfl
@[go_sem] theorem f67_rs : Tryz.f67.results.toList = [.tmp 2] := by kernel_rfl
@[go_sem] theorem f67_nt : Tryz.f67.ntmps = 28 := by kernel_rfl
@[go_sem] theorem f68_en : entersB Tryz.prog 68 = true := by kernel_rfl
@[go_sem] theorem f68_rs : Tryz.f68.results.toList = [.tmp 2] := by kernel_rfl
@[go_sem] theorem f68_nt : Tryz.f68.ntmps = 4 := by kernel_rfl
@[go_sem] theorem f71_en : entersB Tryz.prog 71 = true := by kernel_rfl
@[go_sem] theorem f71_rs : Tryz.f71.results.toList = [.tmp 4] := by kernel_rfl
@[go_sem] theorem f71_nt : Tryz.f71.ntmps = 18 := by kernel_rfl
@[go_sem] theorem f72_en : entersB Tryz.prog 72 = true := by kernel_rfl
@[go_sem] theorem f72_rs : Tryz.f72.results.toList = [.tmp 2] := by kernel_rfl
@[go_sem] theorem f72_nt : Tryz.f72.ntmps = 27 := by kernel_rfl
@[go_sem] theorem f73_en : entersB Tryz.prog 73 = true := by kernel_rfl
@[go_sem] theorem f73_rs : Tryz.f73.results.toList = [] := by kernel_rfl
@[go_sem] theorem f73_nt : Tryz.f73.ntmps = 13 := by kernel_rfl
@[go_sem] theorem f74_en : entersB Tryz.prog 74 = true := by kernel_rfl
@[go_sem] theorem f74_rs : Tryz.f74.results.toList = [.tmp 2, .tmp 3] := by kernel_rfl
@[go_sem] theorem f74_nt : Tryz.f74.ntmps = 34 := by kernel_rfl
@[go_sem] theorem f75_en : entersB Tryz.prog 75 = true := by kernel_rfl
@[go_sem] theorem f75_rs : Tryz.f75.results.toList = [.tmp 6] := by kernel_rfl
@[go_sem] theorem f75_nt : Tryz.f75.ntmps = 15 := by kernel_rfl
@[go_sem] theorem f77_en : entersB Tryz.prog 77 = true := by kernel_rfl
@[go_sem] theorem f77_rs : Tryz.f77.results.toList = [.tmp 4] := by kernel_rfl
@[go_sem] theorem f77_nt : Tryz.f77.ntmps = 27 := by kernel_rfl
@[go_sem] theorem f78_en : entersB Tryz.prog 78 = true := by kernel_rfl
@[go_sem] theorem f78_rs : Tryz.f78.results.toList = [.tmp 4] := by kernel_rfl
@[go_sem] theorem f78_nt : Tryz.f78.ntmps = 49 := by kernel_rfl
@[go_sem] theorem f79_en : entersB Tryz.prog 79 = true := by kernel_rfl
@[go_sem] theorem f79_rs : Tryz.f79.results.toList = [.tmp 6] := by kernel_rfl
@[go_sem] theorem f79_nt : Tryz.f79.ntmps = 18 := by kernel_rfl
@[go_sem] theorem f80_en : entersB Tryz.prog 80 = true := by kernel_rfl
@[go_sem] theorem f80_rs : Tryz.f80.results.toList = [.tmp 4] := by kernel_rfl
@[go_sem] theorem f80_nt : Tryz.f80.ntmps = 42 := by kernel_rfl
@[go_sem] theorem f81_en : entersB Tryz.prog 81 = true := by kernel_rfl
@[go_sem] theorem f81_rs : Tryz.f81.results.toList = [.tmp 2] := by kernel_rfl
@[go_sem] theorem f81_nt : Tryz.f81.ntmps = 21 := by kernel_rfl
@[go_sem] theorem f82_en : entersB Tryz.prog 82 = true := by kernel_rfl
@[go_sem] theorem f82_rs : Tryz.f82.results.toList = [] := by kernel_rfl
@[go_sem] theorem f82_nt : Tryz.f82.ntmps = 134 := by kernel_rfl
@[go_sem] theorem f83_en : entersB Tryz.prog 83 = true := by kernel_rfl
@[go_sem] theorem f83_rs : Tryz.f83.results.toList = [.tmp 2] := by kernel_rfl
@[go_sem] theorem f83_nt : Tryz.f83.ntmps = 8 := by kernel_rfl
@[go_sem] theorem f84_en : entersB Tryz.prog 84 = true := by kernel_rfl
@[go_sem] theorem f84_rs : Tryz.f84.results.toList = [] := by kernel_rfl
@[go_sem] theorem f84_nt : Tryz.f84.ntmps = 148 := by kernel_rfl
@[go_sem] theorem f86_en : entersB Tryz.prog 86 = true := by kernel_rfl
@[go_sem] theorem f86_rs : Tryz.f86.results.toList = [.tmp 2] := by kernel_rfl
@[go_sem] theorem f86_nt : Tryz.f86.ntmps = 6 := by kernel_rfl
@[go_sem] theorem f87_en : entersB Tryz.prog 87 = true := by kernel_rfl
@[go_sem] theorem f87_rs : Tryz.f87.results.toList = [.tmp 4, .tmp 5, .tmp 6] := by kernel_rfl
@[go_sem] theorem f87_nt : Tryz.f87.ntmps = 76 := by kernel_rfl
@[go_sem] theorem f89_en : entersB Tryz.prog 89 = true := by kernel_rfl
@[go_sem] theorem f89_rs : Tryz.f89.results.toList = [.tmp 4] := by kernel_rfl
@[go_sem] theorem f89_nt : Tryz.f89.ntmps = 8 := by kernel_rfl
@[go_sem] theorem f90_en : entersB Tryz.prog 90 = true := by kernel_rfl
@[go_sem] theorem f90_rs : Tryz.f90.results.toList = [.tmp 2] := by kernel_rfl
@[go_sem] theorem f90_nt : Tryz.f90.ntmps = 5 := by kernel_rfl
@[go_sem] theorem f92_en : entersB Tryz.prog 92 = true := by kernel_rfl
@[go_sem] theorem f92_rs : Tryz.f92.results.toList = [.tmp 2] := by kernel_rfl
@[go_sem] theorem f92_nt : Tryz.f92.ntmps = 33 := by kernel_rfl
@[go_sem] theorem f93_en : entersB Tryz.prog 93 = true := by kernel_rfl
@[go_sem] theorem f93_rs : Tryz.f93.results.toList = [] := by kernel_rfl
@[go_sem] theorem f93_nt : Tryz.f93.ntmps = 49 := by kernel_rfl
@[go_sem] theorem f103_en : entersB Tryz.prog 103 = true := by kernel_rfl
@[go_sem] theorem f103_rs : Tryz.f103.results.toList = [.tmp 2] := by kernel_rfl
@[go_sem] theorem f103_nt : Tryz.f103.ntmps = 25 := by kernel_rfl
@[go_sem] theorem f104_en : entersB Tryz.prog 104 = true := by kernel_rfl
@[go_sem] theorem f104_rs : Tryz.f104.results.toList = [] := by kernel_rfl
@[go_sem] theorem f104_nt : Tryz.f104.ntmps = 53 := by kernel_rfl
@[go_sem] theorem f112_en : entersB Tryz.prog 112 = true := by kernel_rfl
@[go_sem] theorem f112_rs : Tryz.f112.results.toList = [.tmp 4] := by kernel_rfl
@[go_sem] theorem f112_nt : Tryz.f112.ntmps = 8 := by kernel_rfl
@[go_sem] theorem f113_en : entersB Tryz.prog 113 = true := by kernel_rfl
@[go_sem] theorem f113_rs : Tryz.f113.results.toList = [.tmp 4, .tmp 5, .tmp 6] := by kernel_rfl
@[go_sem] theorem f113_nt : Tryz.f113.ntmps = 59 := by kernel_rfl
@[go_sem] theorem f123_en : entersB Tryz.prog 123 = false := by kernel_rfl
end Go.Proofs.YtnodfnjmhcjnfaaGreat
